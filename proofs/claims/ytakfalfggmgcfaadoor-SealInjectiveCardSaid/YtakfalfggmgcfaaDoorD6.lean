/- Plain laws on the pure functions; no program is named. -/
import Derived.Test.YtakfalfggmgcfaaDoorD5
set_option linter.unusedVariables false
set_option linter.unusedSimpArgs false
/-! Plain laws: the specified hash is the hash. -/
namespace Go.Cu
theorem bits_or_comm (k : IntKind) (x y : Int) : bits .or k x y = bits .or k y x := by
  unfold bits; simp only [BitVec.or_comm]
theorem bits_xor_comm (k : IntKind) (x y : Int) : bits .xor k x y = bits .xor k y x := by
  unfold bits; simp only [BitVec.xor_comm]
theorem bits_or_nat {x y : Nat} (hx : x < 4294967296) (hy : y < 4294967296) : bits .or .u32 (x : Int) (y : Int) = ((x ||| y : Nat) : Int) := by
  have h : (x ||| y) < 4294967296 := Nat.or_lt_two_pow (n := 32) hx hy
  unfold bits
  have e1 : (BitVec.ofInt IntKind.u32.bits (x : Int)).toNat = x := by
    show ((x : Int) % (2 ^ 32 : Nat)).toNat = x
    omega
  have e2 : (BitVec.ofInt IntKind.u32.bits (y : Int)).toNat = y := by
    show ((y : Int) % (2 ^ 32 : Nat)).toNat = y
    omega
  simp only [BitVec.toNat_or, e1, e2]
  exact wrap32_id (by omega) (by omega)
theorem or_add {a b : Nat} (i : Nat) (hb : b < 2 ^ i) : (a * 2 ^ i ||| b) = a * 2 ^ i + b := by
  have := Nat.shiftLeft_add_eq_or_of_lt hb a
  rw [Nat.shiftLeft_eq] at this
  exact this.symm
theorem shl32 {x : Nat} {j : Nat} (hj : j ≤ 32) (h : x * 2 ^ j < 4294967296) : shlI .u32 (x : Int) (j : Int) = ((x * 2 ^ j : Nat) : Int) := by
  unfold shlI
  have : min (j : Int).toNat IntKind.u32.bits = j := by
    show min (j : Int).toNat 32 = j
    omega
  rw [this]
  have e : ((x : Int) * 2 ^ j) = ((x * 2 ^ j : Nat) : Int) := by push_cast; rfl
  rw [e]
  exact wrap32_id (by omega) (by omega)
theorem be1_nat {a b : Nat} (ha : a < 16777216) (hb : b < 256) : be1 (a : Int) (b : Int) = ((a * 256 + b : Nat) : Int) := by
  unfold be1
  rw [show (8 : Int) = ((8 : Nat) : Int) from rfl, shl32 (by decide) (by omega), wrap32_id (by omega) (by omega), bits_or_nat (by omega) (by omega), or_add 8 (by omega)]
theorem be4_ref {p : List Int} {i : Nat} (hp : IsB p) (h : 4 * i + 4 ≤ p.length) :
    bits .or .u32 (bits .or .u32 (bits .or .u32 (shlI .u32 (IntKind.u32.wrap (rd p (4 * (i : Int)))) 24) (shlI .u32 (IntKind.u32.wrap (rd p (4 * (i : Int) + 1))) 16)) (shlI .u32 (IntKind.u32.wrap (rd p (4 * (i : Int) + 2))) 8)) (IntKind.u32.wrap (rd p (4 * (i : Int) + 3))) = be4 p i := by
  have z : ∀ m : Nat, m < p.length → ∃ b : Nat, b < 256 ∧ rd p (m : Int) = (b : Int) := by
    intro m hm
    have e : rd p (m : Int) = p[m] := by simp [rd, List.getD, hm]
    have := hp p[m] (List.getElem_mem hm)
    exact ⟨(p[m]).toNat, by omega, by rw [e]; omega⟩
  obtain ⟨b0, l0, e0⟩ := z (4 * i) (by omega)
  obtain ⟨b1, l1, e1⟩ := z (4 * i + 1) (by omega)
  obtain ⟨b2, l2, e2⟩ := z (4 * i + 2) (by omega)
  obtain ⟨b3, l3, e3⟩ := z (4 * i + 3) (by omega)
  unfold be4
  rw [e0, e1, e2, e3]
  have f0 : rd p (4 * (i : Int)) = b0 := by rw [← e0]; congr 1
  have f1 : rd p (4 * (i : Int) + 1) = b1 := by rw [← e1]; congr 1
  have f2 : rd p (4 * (i : Int) + 2) = b2 := by rw [← e2]; congr 1
  have f3 : rd p (4 * (i : Int) + 3) = b3 := by rw [← e3]; congr 1
  rw [f0, f1, f2, f3]
  rw [show (0 : Int) = ((0 : Nat) : Int) from rfl, be1_nat (by omega) l0, be1_nat (by omega) l1, be1_nat (by omega) l2, be1_nat (by omega) l3]
  rw [wrap32_id (n := (b0 : Int)) (by omega) (by omega), wrap32_id (n := (b1 : Int)) (by omega) (by omega), wrap32_id (n := (b2 : Int)) (by omega) (by omega), wrap32_id (n := (b3 : Int)) (by omega) (by omega)]
  rw [show (24 : Int) = ((24 : Nat) : Int) from rfl, show (16 : Int) = ((16 : Nat) : Int) from rfl, show (8 : Int) = ((8 : Nat) : Int) from rfl, shl32 (by decide) (by omega), shl32 (by decide) (by omega), shl32 (by decide) (by omega)]
  rw [bits_or_nat (by omega) (by omega), or_add 24 (by omega), show b0 * 2 ^ 24 + b1 * 2 ^ 16 = (b0 * 256 + b1) * 2 ^ 16 by omega, bits_or_nat (by omega) (by omega), or_add 16 (by omega), show (b0 * 256 + b1) * 2 ^ 16 + b2 * 2 ^ 8 = ((b0 * 256 + b1) * 256 + b2) * 2 ^ 8 by omega, bits_or_nat (by omega) (by omega), or_add 8 (by omega)]
  omega
theorem rotr_ok {x : Int} {k : Int} (h0 : 0 ≤ k) (h1 : k ≤ 32) : ref02_rotr x k = some (rr x k) := by
  unfold ref02_rotr
  rw [grd_b (by omega), wrap_id (by omega) (by omega), grd_b (by omega), bits_or_comm]; rfl
theorem words_ok (p : List Int) (hp : p.length = 64) (hb : IsB p) : ref02_words p = some (schedS p) := by
  have h2 : ∀ w : Vector Int 64, ref02_words.j3 w = some (upF (stW p) 16 48 w) := by
    intro w
    unfold ref02_words.j3
    refine (loop_up (step := ref02_words.l2) (fun w i => (w, i)) (stW p) (fun w => w) 64 (fun k _ => 16 ≤ k) ?_ ?_ 48 16 w rfl (Nat.le_refl _)).1
    · intro i u hi h16
      refine ⟨?_, by omega⟩
      unfold ref02_words.l2
      simp only [wrap_id (n := (i : Int) - 15) (by omega) (by omega), wrap_id (n := (i : Int) - 2) (by omega) (by omega), wrap_id (n := (i : Int) - 16) (by omega) (by omega), wrap_id (n := (i : Int) - 7) (by omega) (by omega), wrap_id (n := (i : Int) + 1) (by omega) (by omega)]
      rw [ite_t (by omega), grd_b (by omega), rotr_ok (by decide) (by decide), bind_s, grd_b (by omega), rotr_ok (by decide) (by decide), bind_s, grd_b (by omega), grd_b (by omega), rotr_ok (by decide) (by decide), bind_s, grd_b (by omega), rotr_ok (by decide) (by decide), bind_s, grd_b (by omega), grd_b (by omega), grd_b (by omega), grd_b (by omega), bind_s]
      unfold stW; rw [if_neg (by omega)]; rfl
    · intro u _
      unfold ref02_words.l2
      simp only []
      rw [ite_f (by omega)]; rfl
  unfold ref02_words schedS
  have ea : upF (stW p) 0 64 (Vector.replicate 64 0) = upF (stW p) 16 48 (upF (stW p) 0 16 (Vector.replicate 64 0)) := upF_add (stW p) 16 48 0 _
  rw [ea]
  refine (loop_up (step := ref02_words.l4 p) (fun w i => (w, i)) (stW p) (fun w => upF (stW p) 16 48 w) 16 (fun _ _ => True) ?_ ?_ 16 0 (Vector.replicate 64 0) rfl trivial).1
  · intro i u hi _
    refine ⟨?_, trivial⟩
    unfold ref02_words.l4
    simp only [wrap_id (n := 4 * (i : Int)) (by omega) (by omega), wrap_id (n := 4 * (i : Int) + 1) (by omega) (by omega), wrap_id (n := 4 * (i : Int) + 2) (by omega) (by omega), wrap_id (n := 4 * (i : Int) + 3) (by omega) (by omega), wrap_id (n := (i : Int) + 1) (by omega) (by omega)]
    rw [ite_t (by omega), grd_b (by omega), grd_b (by omega), grd_b (by omega), grd_b (by omega), grd_b (by omega), bind_s, be4_ref hb (by omega)]
    unfold stW; rw [if_pos hi]
  · intro u _
    unfold ref02_words.l4
    simp only []
    rw [ite_f (by omega), h2]; rfl
end Go.Cu
