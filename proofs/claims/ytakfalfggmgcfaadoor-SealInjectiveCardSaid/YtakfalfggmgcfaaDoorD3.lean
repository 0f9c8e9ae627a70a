/- Plain laws on the pure functions; no program is named. -/
import Derived.Test.YtakfalfggmgcfaaDoorD2
set_option linter.unusedVariables false
set_option linter.unusedSimpArgs false
/-! Plain laws: a message, piece by piece. -/
namespace Go.Cu
def h0S : Vector Int 8 := #v[1779033703, 3144134277, 1013904242, 2773480762, 1359893119, 2600822924, 528734635, 1541459225]
def chainS : Nat → Vector Int 8 → List Int → Vector Int 8
  | 0, s, _ => s
  | n + 1, s, m => chainS n (compS s (m.take 64)) (m.drop 64)
theorem chainS_snoc : ∀ (n : Nat) (s : Vector Int 8) (m : List Int), chainS (n + 1) s m = compS (chainS n s m) ((m.drop (64 * n)).take 64)
  | 0, s, m => by simp [chainS]
  | n + 1, s, m => by
    rw [chainS, chainS_snoc n, chainS, List.drop_drop, show 64 + 64 * n = 64 * (n + 1) by omega]
theorem chainS_app : ∀ (n : Nat) (s : Vector Int 8) (m t : List Int), 64 * n ≤ m.length → chainS n s (m ++ t) = chainS n s m
  | 0, s, m, t, h => rfl
  | n + 1, s, m, t, h => by
    rw [chainS, chainS, List.take_append_of_le_length (by omega), List.drop_append_of_le_length (by omega), chainS_app n _ _ _ (by simp; omega)]
structure StOk (st : hash_Stream) (m : List Int) : Prop where
  n : st.n = m.length
  s : st.state = chainS (m.length / 64) h0S m
  b : st.block.toList.take (m.length % 64) = m.drop (64 * (m.length / 64))
theorem lv_list {α : Type} [Inhabited α] (l : List α) (n : Nat) (h : l.length = n) : (lv l 0 n).toList = l := by
  subst h
  apply List.ext_getElem
  · simp [lv]
  · intro i h1 h2
    simp [lv, List.getD, h2]
theorem vcp_list {n : Nat} (v : Vector Int n) (o : Nat) (c : List Int) (h : o + c.length ≤ n) : (vcp v o c).toList = v.toList.take o ++ (c ++ v.toList.drop (o + c.length)) := by
  unfold vcp
  rw [lv_list]
  simp; omega
theorem begin_ok : ∃ st, hash_Begin = some st ∧ StOk st [] := ⟨_, rfl, ⟨rfl, rfl, rfl⟩⟩
theorem bytesI_app (a b : List UInt8) : bytesI (a ++ b) = bytesI a ++ bytesI b := by simp [bytesI]
theorem bytesI_take (a : List UInt8) (k : Nat) : bytesI (a.take k) = (bytesI a).take k := by simp [bytesI, List.map_take]
theorem add_ok : ∀ (N : Nat) (t : List UInt8) (st : hash_Stream) (m : List Int), t.length ≤ N → StOk st m → m.length + t.length < 4611686018427387904 → ∃ st', loopF hash_Stream_Add.l2 (st, t) = some st' ∧ StOk st' (m ++ bytesI t) := by
  intro N
  induction N with
  | zero =>
    intro t st m ht hs hb
    obtain rfl : t = [] := List.length_eq_zero_iff.1 (by omega)
    refine ⟨st, ?_, by simpa [bytesI] using hs⟩
    rw [loopF_done]; rfl
  | succ N ih =>
    intro t st m ht hs hb
    by_cases hte : t = []
    · subst hte
      refine ⟨st, ?_, by simpa [bytesI] using hs⟩
      rw [loopF_done]; rfl
    have htl : 0 < t.length := List.length_pos_iff.2 hte
    have hmod : m.length % 64 < 64 := Nat.mod_lt _ (by decide)
    have hdiv := Nat.div_add_mod m.length 64
    obtain ⟨a, ha⟩ : ∃ a, a = m.length % 64 := ⟨_, rfl⟩
    obtain ⟨q, hq⟩ : ∃ q, q = m.length / 64 := ⟨_, rfl⟩
    rw [← ha, ← hq] at hdiv
    rw [← ha] at hmod
    have hat : IntKind.i64.wrap (Int.tmod st.n 64) = (a : Int) := by
      rw [hs.n, show Int.tmod (m.length : Int) 64 = (a : Int) by rw [ha]; exact Int.ofNat_tmod _ _ |>.symm ▸ rfl]
      exact wrap_id (by omega) (by omega)
    obtain ⟨k, hk⟩ : ∃ k, k = min (64 - a) t.length := ⟨_, rfl⟩
    have hc : (((bytesI t).take ((64 : Int).toNat - (a : Int).toNat)).length : Int) = (k : Int) := by
      rw [List.length_take, bytesI_len, hk]; simp
    have hcl : ((bytesI t).take ((64 : Int).toNat - (a : Int).toNat)).length = k := by exact_mod_cast hc
    have hct : (bytesI t).take ((64 : Int).toNat - (a : Int).toNat) = bytesI (t.take k) := by
      rw [bytesI_take, hk]
      rw [show (64 : Int).toNat - (a : Int).toNat = 64 - a by simp]
      by_cases h : 64 - a ≤ t.length
      · rw [Nat.min_eq_left h]
      · rw [Nat.min_eq_right (by omega), List.take_of_length_le (by rw [bytesI_len]; omega), List.take_of_length_le (by rw [bytesI_len]; omega)]
    have hkp : 0 < k := by omega
    have hk1 : k ≤ t.length := by omega
    have hk2 : a + k ≤ 64 := by omega
    have hrest : ((t.take (t.length : Int).toNat).drop ((k : Int)).toNat) = t.drop k := by simp
    have hm' : (m ++ bytesI (t.take k)).length = m.length + k := by simp [bytesI_len]; omega
    have hnn : IntKind.u64.wrap (st.n + IntKind.u64.wrap (k : Int)) = ((m.length + k : Nat) : Int) := by
      rw [wrap64_id (n := (k : Int)) (by omega) (by omega), hs.n, wrap64_id (by omega) (by omega)]; simp
    have hbl : (vcp st.block a (bytesI (t.take k))).toList = m.drop (64 * q) ++ (bytesI (t.take k) ++ st.block.toList.drop (a + k)) := by
      have hlen : (bytesI (t.take k)).length = k := by rw [bytesI_len]; simp; omega
      rw [vcp_list _ _ _ (by omega), hlen, hq, ← hs.b, ha]
    have hql : (m.drop (64 * q)).length = a := by simp; omega
    have htk : (bytesI (t.take k)).length = k := by rw [bytesI_len]; simp; omega
    have happ : m ++ bytesI t = (m ++ bytesI (t.take k)) ++ bytesI (t.drop k) := by
      rw [List.append_assoc, ← bytesI_app, List.take_append_drop]
    have hdm : (m ++ bytesI (t.take k)).drop (64 * q) = m.drop (64 * q) ++ bytesI (t.take k) := List.drop_append_of_le_length (by omega)
    by_cases hfull : a + k = 64
    · have h64 : ((vcp st.block a (bytesI (t.take k))).toList.take 64) = m.drop (64 * q) ++ bytesI (t.take k) := by
        rw [hbl, ← List.append_assoc, List.take_append_of_le_length (by simp [hql, htk]; omega), List.take_of_length_le (by simp [hql, htk]; omega)]
      have h64l : (m.drop (64 * q) ++ bytesI (t.take k)).length = 64 := by rw [List.length_append, hql, htk]; exact hfull
      have hn' : (m ++ bytesI (t.take k)).length = 64 * (q + 1) := by rw [hm']; omega
      obtain ⟨st', h1, h2⟩ := ih (t.drop k) ⟨compS st.state (m.drop (64 * q) ++ bytesI (t.take k)), vcp st.block a (bytesI (t.take k)), ((m.length + k : Nat) : Int)⟩ (m ++ bytesI (t.take k)) (by simp; omega) (by
        refine ⟨by rw [hm'], ?_, ?_⟩
        · show compS st.state _ = _
          rw [hn', show 64 * (q + 1) / 64 = q + 1 by omega, chainS_snoc, chainS_app _ _ _ _ (by omega), hdm, List.take_of_length_le (l := m.drop (64 * q) ++ bytesI (t.take k)) (by rw [h64l]; exact Nat.le_refl _), hs.s, hq]
        · rw [hn', show 64 * (q + 1) % 64 = 0 by omega, show 64 * (q + 1) / 64 = q + 1 by omega]
          rw [List.take_zero, List.drop_of_length_le (by omega)]) (by rw [hm']; simp; omega)
      refine ⟨st', ?_, by rw [happ]; exact h2⟩
      rw [loopF_next (s' := (⟨compS st.state (m.drop (64 * q) ++ bytesI (t.take k)), vcp st.block a (bytesI (t.take k)), ((m.length + k : Nat) : Int)⟩, t.drop k))]
      · exact h1
      · unfold hash_Stream_Add.l2
        simp only [hat, hc, hrest]
        rw [if_pos (by simpa using hte), grd_b (by omega), grd_b (by omega), wrap_id (by omega) (by omega), if_pos (by simp; omega), hct, hnn]
        have e64 : (64 : Int).toNat = 64 := rfl
        have e0 : (0 : Int).toNat = 0 := rfl
        rw [e64, e0, List.drop_zero, show (a : Int).toNat = a by simp, h64, compress_eq _ _ h64l]
        rfl
    · have hn' : (m ++ bytesI (t.take k)).length = 64 * q + (a + k) := by rw [hm']; omega
      obtain ⟨st', h1, h2⟩ := ih (t.drop k) ⟨st.state, vcp st.block a (bytesI (t.take k)), ((m.length + k : Nat) : Int)⟩ (m ++ bytesI (t.take k)) (by simp; omega) (by
        refine ⟨by rw [hm'], ?_, ?_⟩
        · show st.state = _
          rw [hn', show (64 * q + (a + k)) / 64 = q by omega, chainS_app _ _ _ _ (by omega), hs.s, hq]
        · rw [hn', show (64 * q + (a + k)) % 64 = a + k by omega, show (64 * q + (a + k)) / 64 = q by omega, hdm, hbl, ← List.append_assoc, List.take_append_of_le_length (by simp [hql, htk]), List.take_of_length_le (by simp [hql, htk])]) (by rw [hm']; simp; omega)
      refine ⟨st', ?_, by rw [happ]; exact h2⟩
      rw [loopF_next (s' := (⟨st.state, vcp st.block a (bytesI (t.take k)), ((m.length + k : Nat) : Int)⟩, t.drop k))]
      · exact h1
      · unfold hash_Stream_Add.l2
        simp only [hat, hc, hrest]
        rw [if_pos (by simpa using hte), grd_b (by omega), grd_b (by omega), wrap_id (by omega) (by omega), if_neg (by simp; omega), hct, hnn]
        rfl
theorem Add_ok {st : hash_Stream} {m : List Int} (hs : StOk st m) (t : List UInt8) (hb : m.length + t.length < 4611686018427387904) : ∃ st', hash_Stream_Add st t = some st' ∧ StOk st' (m ++ bytesI t) := add_ok t.length t st m (Nat.le_refl _) hs hb
end Go.Cu
