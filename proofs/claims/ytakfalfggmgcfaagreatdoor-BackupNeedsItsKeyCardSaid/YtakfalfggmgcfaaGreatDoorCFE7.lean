/- Rules for walks over facts, pure functions and plain laws; no condition. -/
import Derived.Test.YtakfalfggmgcfaaGreatDoorCK3
set_option linter.unusedSimpArgs false
set_option linter.unusedVariables false
set_option maxRecDepth 1000000
namespace Go.Cu
def KD : List UInt8 := repL [100] 32
def KX : List UInt8 := repL [120] 32
def exK : Key := ⟨3, 1, repL [118] 32, 8, 0, 9, 2, 0, true⟩
def exBk : Backup := ⟨#v[1, 0, 0, 0, 0, 0, 0, 0, 0, 0, 0, 0, 0, 0, 0, 0], 2, 3, 4, 5, #v[6, 0, 0, 0, 0, 0, 0, 0, 0, 0, 0, 0, 0, 0, 0, 0], [109], [exK]⟩
def hdV : List UInt8 := [1, 0, 0, 0, 0, 0, 0, 0, 0, 0, 0, 0, 0, 0, 0, 0, 129, 4, 129, 2, 129, 3, 129, 4, 129, 5, 6, 0, 0, 0, 0, 0, 0, 0, 0, 0, 0, 0, 0, 0, 0, 0, 129, 1, 109]
def ctV : List UInt8 := [129, 1, 129, 54, 129, 2, 129, 16, 129, 8, 129, 3, 129, 1, 129, 8, 128, 129, 9, 129, 2, 128, 129, 1, 129, 32, 118, 118, 118, 118, 118, 118, 118, 118, 118, 118, 118, 118, 118, 118, 118, 118, 118, 118, 118, 118, 118, 118, 118, 118, 118, 118, 118, 118, 118, 118, 118, 118]
def dDV : List UInt8 := [230, 98, 169, 213, 72, 168, 165, 167, 111, 20, 68, 139, 62, 199, 44, 170, 151, 150, 200, 179, 186, 142, 199, 7, 202, 97, 110, 159, 70, 181, 119, 239]
def dXV : List UInt8 := [162, 121, 190, 203, 98, 46, 3, 91, 99, 170, 111, 199, 237, 37, 61, 200, 92, 59, 138, 34, 116, 156, 127, 181, 63, 220, 149, 91, 46, 237, 51, 146]
def eDV : List UInt8 := [60, 101, 147, 231, 220, 45, 79, 12, 22, 99, 252, 78, 209, 26, 218, 15, 81, 59, 8, 212, 123, 196, 247, 240, 25, 187, 108, 213, 1, 190, 27, 84]
def mDV : List UInt8 := [12, 217, 205, 185, 191, 255, 218, 22, 141, 194, 187, 63, 219, 83, 62, 21, 143, 84, 17, 225, 231, 131, 80, 101, 218, 212, 124, 112, 174, 218, 15, 249]
def mXV : List UInt8 := [51, 240, 83, 143, 204, 107, 38, 237, 178, 208, 90, 216, 72, 84, 86, 207, 142, 83, 117, 246, 7, 101, 188, 13, 135, 93, 65, 47, 122, 214, 29, 186]
def nDV : List UInt8 := [67, 148, 179, 37, 73, 103, 194, 240, 121, 228, 237, 31]
def cDV : List UInt8 := [32, 38, 199, 180, 50, 200, 215, 77, 182, 176, 155, 27, 162, 3, 60, 230, 207, 186, 172, 148, 94, 196, 40, 153, 196, 52, 70, 39, 114, 141, 247, 121, 153, 168, 1, 208, 201, 0, 22, 148, 247, 141, 223, 245, 89, 123, 13, 73, 134, 2, 175, 143, 190, 56, 228, 233, 46, 249]
def bDV : List UInt8 := [161, 39, 70, 130, 179, 202, 86, 93, 55, 184, 26, 24, 35, 2, 189, 238, 79, 59, 165, 21, 92, 68, 169, 152, 69, 20, 48, 81, 4, 251, 129, 15, 239, 222, 119, 166, 191, 118, 96, 226, 129, 251, 169, 131, 47, 13, 123, 63, 240, 116, 217, 249, 200, 78, 146, 159, 88, 143, 239, 188, 161, 233, 194, 1]
theorem hd_val : headS exBk = hdV := by decide +kernel
theorem ct_val : intsB (contI [exK]) = ctV := by decide +kernel
theorem dD_val : derS KD = dDV := by decide +kernel
theorem dX_val : derS KX = dXV := by decide +kernel
theorem eD_val : encK dDV = eDV := by decide +kernel
theorem mD_val : macK dDV = mDV := by decide +kernel
theorem mX_val : macK dXV = mXV := by decide +kernel
theorem nD_val : nonceS dDV hdV ctV = nDV := by
 unfold nonceS; rw [mD_val]; decide +kernel
theorem bD_val : blkS eDV 1 nDV = bDV := by decide +kernel
theorem cD_val : xorS eDV nDV ctV = cDV := by
 unfold xorS
 have e : (List.range' 0 ctV.length).map (xorB eDV nDV ctV) = (List.range' 0 ctV.length).map (fun i : Nat => bits .xor .u8 (rd (bytesI ctV) (i : Int)) (sbyte bDV ((i % 64 : Nat) : Int))) := by
  apply List.map_congr_left
  intro i hi
  have hl : ctV.length = 58 := rfl
  have hi : i < 58 := by rw [hl] at hi; simp at hi; exact hi
  unfold xorB
  have h1 : ((1 + i / 64 : Nat) : Int) = 1 := by omega
  rw [h1, bD_val]
 rw [e]
 decide +kernel
theorem tD_val : tagS dDV nDV hdV cDV = [63, 116, 110, 131, 147, 141, 161, 34, 39, 108, 241, 161, 19, 176, 230, 120] := by
 unfold tagS; rw [mD_val]; decide +kernel
theorem tX_val : tagS dXV nDV hdV cDV = [183, 31, 24, 178, 175, 148, 160, 146, 194, 87, 67, 88, 192, 254, 58, 115] := by
 unfold tagS; rw [mX_val]; decide +kernel
end Go.Cu
