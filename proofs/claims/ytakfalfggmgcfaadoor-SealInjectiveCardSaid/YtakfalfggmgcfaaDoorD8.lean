/- Plain laws on the pure functions; no program is named. -/
import Derived.Test.YtakfalfggmgcfaaDoorD7
set_option linter.unusedVariables false
set_option linter.unusedSimpArgs false
/-! Plain laws: the specified code of a text. -/
namespace Go.Cu
theorem rng_take (l : List Int) (n : Nat) (h : l.length = n) : (List.range' 0 n).map (fun (j : Nat) => rd l (j : Int)) = l := by
  apply List.ext_getElem
  · simp [h]
  · intro i h1 h2
    simp [rd, List.getD, h2]
theorem Bytes32_ok (v : Vector Int 32) : ref02_Bytes32 v = some (intsB v.toList) := by
  unfold ref02_Bytes32
  refine (loop_up (step := ref02_Bytes32.l2 v) (fun o i => (o, i)) (fun i s => s ++ [rd v.toList (i : Int)]) (fun o => intsB o) 32 (fun i s => s.length = i) ?_ ?_ 32 0 [] rfl rfl).1.trans ?_
  · intro i s hi hsl
    refine ⟨?_, by simp; omega⟩
    unfold ref02_Bytes32.l2
    simp only [wrap_id (n := (i : Int) + 1) (by omega) (by omega)]
    rw [ite_t (by omega), grd_b (by omega), grd_b (by simp; omega)]
  · intro s _
    unfold ref02_Bytes32.l2
    simp only []
    rw [ite_f (by omega)]; rfl
  · rw [upF_app (fun j => rd v.toList (j : Int)), List.nil_append, rng_take _ _ (by simp)]
theorem padKey_ok (key : List UInt8) (w : Int) (h1 : key.length < 68719470000) : ref02_padKey key w = some (padK (keyS key) w) := by
  have hj : ∀ k : List UInt8, k.length ≤ 64 → ref02_padKey.j4 k w = some (padK k w) := by
    intro k hk
    have hbl : (bytesI k).length = k.length := bytesI_len k
    unfold ref02_padKey.j4
    refine (loop_up (step := ref02_padKey.l3 k w) (fun o i => (o, i)) (fun i s => s ++ [bits .xor .u8 (rd (bytesI k) (i : Int)) w]) (fun o => o) 64 (fun i s => s.length = i) ?_ ?_ 64 0 [] rfl rfl).1.trans ?_
    · intro i s hi hsl
      refine ⟨?_, by simp; omega⟩
      unfold ref02_padKey.l3 ref02_padKey.j2
      simp only [wrap_id (n := (i : Int) + 1) (by omega) (by omega)]
      rw [ite_t (by omega)]
      by_cases h : i < k.length
      · have : sbyte k (i : Int) = rd (bytesI k) (i : Int) := by
          simp [sbyte, rd, List.getD, bytesI, h]
        rw [ite_t (by omega), grd_b (by omega), grd_b (by simp; omega), this]
      · have : (0 : Int) = rd (bytesI k) (i : Int) := by
          simp only [rd, List.getD, Int.toNat_natCast]
          rw [List.getElem?_eq_none (by omega)]; rfl
        rw [ite_f (by omega), grd_b (by simp; omega), ← this]
    · intro s _
      unfold ref02_padKey.l3
      simp only []
      rw [ite_f (by omega)]; rfl
    · rw [upF_app (fun j => bits .xor .u8 (rd (bytesI k) (j : Int)) w)]; rfl
  unfold ref02_padKey
  by_cases hk : 64 < key.length
  · rw [ite_t (by omega), ref02_Sum_ok _ (bytesI_isB _) (by rw [bytesI_len]; exact h1), bind_s, Bytes32_ok, bind_s, hj _ (by rw [intsB_len]; simp)]
    unfold keyS; rw [if_pos hk]
  · rw [ite_f (by omega), hj _ (by omega)]
    unfold keyS; rw [if_neg hk]
theorem ref02_Mac_ok (key text : List UInt8) (h1 : key.length < 68719470000) (h2 : text.length < 68719460000) : ref02_Mac key text = some (macS key text) := by
  unfold ref02_Mac
  rw [padKey_ok key 54 h1, bind_s, grd_b (by rw [padK_len, bytesI_len]; omega), padKey_ok key 92 h1, bind_s,
    ref02_Sum_ok _ ((padK_isB _ _).app (bytesI_isB _)) (by rw [List.length_append, padK_len, bytesI_len]; omega), bind_s, Bytes32_ok, bind_s, bytesI_intsB (shaS_isB _), grd_b (by rw [padK_len]; simp),
    ref02_Sum_ok _ ((padK_isB _ _).app (shaS_isB _)) (by rw [List.length_append, padK_len]; simp), bind_s, Bytes32_ok, bind_s]
  rfl
end Go.Cu
