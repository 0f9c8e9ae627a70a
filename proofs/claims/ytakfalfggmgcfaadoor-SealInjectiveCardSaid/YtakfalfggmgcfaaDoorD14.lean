/- Plain laws on the pure functions; no program is named. -/
import Derived.Test.YtakfalfggmgcfaaDoorD13
set_option linter.unusedSimpArgs false
set_option linter.unusedVariables false
set_option maxRecDepth 1000000
/-! Plain laws: the example's values. -/
namespace Go.Cu
def K0 : List UInt8 := repL [107] 32
def encV : List UInt8 := [238, 226, 18, 95, 111, 182, 41, 239, 103, 209, 2, 100, 239, 7, 244, 40, 137, 36, 79, 150, 150, 201, 99, 117, 92, 0, 40, 138, 227, 116, 234, 86]
def macV : List UInt8 := [6, 140, 13, 137, 188, 84, 243, 157, 254, 34, 11, 202, 224, 245, 222, 181, 148, 133, 252, 76, 241, 137, 65, 48, 114, 184, 187, 225, 57, 216, 208, 1]
def nonceV : List UInt8 := [43, 242, 99, 221, 65, 83, 238, 17, 202, 228, 218, 83]
def cV : List UInt8 := [241, 10, 44, 90]
theorem enc_val : encK K0 = encV := by decide +kernel
theorem mac_val : macK K0 = macV := by decide +kernel
theorem nonce_val : nonceS K0 [97] [116, 101, 120, 116] = nonceV := by
  unfold nonceS; rw [mac_val]; decide +kernel
theorem c_val : xorS encV nonceV [116, 101, 120, 116] = cV := by decide +kernel
theorem taga_val : tagS K0 nonceV [97] cV = [249, 73, 245, 110, 131, 195, 56, 148, 108, 76, 168, 51, 44, 38, 241, 57] := by
  unfold tagS; rw [mac_val]; decide +kernel
theorem tagb_val : tagS K0 nonceV [98] cV = [183, 88, 136, 68, 24, 248, 219, 94, 114, 218, 205, 93, 29, 195, 55, 198] := by
  unfold tagS; rw [mac_val]; decide +kernel
end Go.Cu
