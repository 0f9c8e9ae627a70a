/- Plain laws on the pure functions; no program is named. -/
import Derived.Test.YtakfalfggmgcfaaDoorD4
set_option linter.unusedVariables false
set_option linter.unusedSimpArgs false
/-! Plain laws: the code of a text. -/
namespace Go.Cu
theorem bits8_rng (op : BinOp) (x y : Int) : 0 ≤ bits op .u8 x y ∧ bits op .u8 x y < 256 := by
  unfold bits
  exact wrap8_rng _
def padK (key : List UInt8) (w : Int) : List Int := (List.range' 0 64).map fun (i : Nat) => bits .xor .u8 (rd (bytesI key) (i : Int)) w
theorem padK_len (key : List UInt8) (w : Int) : (padK key w).length = 64 := by simp [padK]
theorem padK_isB (key : List UInt8) (w : Int) : IsB (padK key w) := by
  intro x hx
  obtain ⟨i, _, rfl⟩ := List.mem_map.1 hx
  exact bits8_rng _ _ _
theorem Mac_1_ok (key : List UInt8) (w : Int) (hk : key.length ≤ 64) : hash_Mac_1 w key = some (intsB (padK key w)) := by
  unfold hash_Mac_1
  have e0 : (0 : Int).toNat = 0 := rfl
  have e64 : (64 : Int).toNat = 64 := rfl
  have hbl : (bytesI key).length = key.length := bytesI_len key
  rw [e0, e64, List.take_of_length_le (by omega)]
  obtain ⟨v0, hv0⟩ : ∃ v0, v0 = vcp (Vector.replicate 64 (0 : Int)) 0 (bytesI key) := ⟨_, rfl⟩
  rw [← hv0]
  have hl : v0.toList = bytesI key ++ List.replicate (64 - key.length) 0 := by
    rw [hv0, vcp_list _ _ _ (by omega), List.take_zero, List.nil_append, Nat.zero_add, hbl, Vector.toList_replicate, List.drop_replicate]
  have hll : v0.toList.length = 64 := by simp
  obtain ⟨h1, h2⟩ := loop_up (step := hash_Mac_1.l2 w) (fun o i => (o, i)) (fun i s => vs s i (bits .xor .u8 (rd s.toList i) w)) (fun s : Vector Int 64 => intsB ((s.toList.take 64).drop 0)) 64
    (fun i s => s.toList = (List.range' 0 i).map (fun (j : Nat) => bits .xor .u8 (rd v0.toList (j : Int)) w) ++ v0.toList.drop i) (by
      intro i s hi hs
      refine ⟨?_, ?_⟩
      · unfold hash_Mac_1.l2
        simp only [wrap_id (n := (i : Int) + 1) (by omega) (by omega)]
        rw [ite_t (by omega), grd_b (by omega), grd_b (by omega)]
      · have hd : v0.toList.drop i = v0.toList[i] :: v0.toList.drop (i + 1) := List.drop_eq_getElem_cons (by omega)
        have hal : ((List.range' 0 i).map (fun (j : Nat) => bits .xor .u8 (rd v0.toList (j : Int)) w)).length = i := by simp
        obtain ⟨A, hA⟩ : ∃ A, A = (List.range' 0 i).map (fun (j : Nat) => bits .xor .u8 (rd v0.toList (j : Int)) w) := ⟨_, rfl⟩
        rw [← hA] at hal hs
        have hr : rd s.toList (i : Int) = rd v0.toList (i : Int) := by
          rw [hs]
          simp only [rd, List.getD, Int.toNat_natCast]
          rw [List.getElem?_append_right (by omega), hal, Nat.sub_self, List.getElem?_drop, Nat.add_zero]
        have hx : (List.range' 0 (i + 1)).map (fun (j : Nat) => bits .xor .u8 (rd v0.toList (j : Int)) w) = A ++ [bits .xor .u8 (rd v0.toList (i : Int)) w] := by
          rw [List.range'_concat, List.map_append, ← hA]; simp
        rw [vs_toList, hr, hx, hs, Int.toNat_natCast, List.set_append_right _ _ (by omega), hal, Nat.sub_self, hd, List.set_cons_zero, List.append_assoc]; rfl) (by
      intro s hs
      unfold hash_Mac_1.l2
      simp only []
      rw [ite_f (by omega)]; rfl) 64 0 v0 rfl (by simp)
  have hpad : (List.range' 0 64).map (fun (j : Nat) => bits .xor .u8 (rd v0.toList (j : Int)) w) = padK key w := by
    unfold padK
    apply List.map_congr_left
    intro j hj
    have : rd v0.toList (j : Int) = rd (bytesI key) (j : Int) := by
      rw [hl]
      simp only [rd, List.getD, Int.toNat_natCast]
      by_cases h : j < key.length
      · rw [List.getElem?_append_left (by omega)]
      · rw [List.getElem?_append_right (by omega), List.getElem?_eq_none (l := bytesI key) (by omega), List.getElem?_replicate]
        split <;> rfl
    rw [this]
  refine h1.trans ?_
  rw [h2, hpad, List.drop_zero, List.drop_of_length_le (l := v0.toList) (by omega), List.append_nil, List.take_of_length_le (by rw [padK_len]; decide)]
def keyS (key : List UInt8) : List UInt8 := if 64 < key.length then intsB (shaS (bytesI key)).toList else key
def macS (key text : List UInt8) : List UInt8 :=
  intsB (shaS (padK (keyS key) 92 ++ (shaS (padK (keyS key) 54 ++ bytesI text)).toList)).toList
theorem shaS_isB (m : List Int) : IsB (shaS m).toList := digS_isB _
theorem keyS_len (key : List UInt8) : (keyS key).length ≤ 64 := by
  unfold keyS
  split
  · rw [intsB_len]; simp
  · omega
theorem take32 (v : Vector Int 32) : ((v.toList.take (32 : Int).toNat).drop (0 : Int).toNat) = v.toList := by
  show (v.toList.take 32).drop 0 = _
  rw [List.drop_zero, List.take_of_length_le (by simp)]
theorem Mac_ok (key text : List UInt8) (h1 : key.length < 1152921504606846976) (h2 : text.length < 1152921504606846000) : hash_Mac key text = some (macS key text) := by
  have hj : ∀ k : List UInt8, k.length ≤ 64 → hash_Mac.j1 k text = some (intsB (shaS (padK k 92 ++ (shaS (padK k 54 ++ bytesI text)).toList)).toList) := by
    intro k hk
    unfold hash_Mac.j1
    obtain ⟨st, e1, e2⟩ := begin_ok
    rw [e1, bind_s, Mac_1_ok k 54 hk, bind_s]
    obtain ⟨s1, f1, f2⟩ := Add_ok e2 (intsB (padK k 54)) (by rw [intsB_len, padK_len]; decide)
    rw [bytesI_intsB (padK_isB _ _), List.nil_append] at f2
    obtain ⟨s2, g1, g2⟩ := Add_ok f2 text (by rw [padK_len]; omega)
    rw [f1, bind_s, g1, bind_s, Sum_ok g2 (by rw [List.length_append, padK_len, bytesI_len]; omega), bind_s, bind_s, Mac_1_ok k 92 hk, bind_s]
    obtain ⟨s3, k1, k2⟩ := Add_ok e2 (intsB (padK k 92)) (by rw [intsB_len, padK_len]; decide)
    rw [bytesI_intsB (padK_isB _ _), List.nil_append] at k2
    obtain ⟨s4, l1, l2⟩ := Add_ok k2 (intsB (shaS (padK k 54 ++ bytesI text)).toList) (by rw [padK_len, intsB_len]; simp)
    rw [bytesI_intsB (shaS_isB _)] at l2
    rw [k1, bind_s, take32, l1, bind_s, Sum_ok l2 (by rw [List.length_append, padK_len]; simp), bind_s, take32]
  unfold hash_Mac
  by_cases hk : 64 < key.length
  · rw [ite_t (by omega), hash_Sum_ok _ (bytesI_isB _) (by rw [bytesI_len]; exact h1), bind_s, take32, hj _ (by rw [intsB_len]; simp)]
    unfold macS keyS; rw [if_pos hk]
  · rw [ite_f (by omega), hj _ (by omega)]
    unfold macS keyS; rw [if_neg hk]
theorem macS_len (key text : List UInt8) : (macS key text).length = 32 := by
  unfold macS; rw [intsB_len]; simp
end Go.Cu
