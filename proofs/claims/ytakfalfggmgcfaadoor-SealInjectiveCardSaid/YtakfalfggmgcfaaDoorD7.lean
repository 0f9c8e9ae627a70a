/- Plain laws on the pure functions; no program is named. -/
import Derived.Test.YtakfalfggmgcfaaDoorD6
set_option linter.unusedVariables false
set_option linter.unusedSimpArgs false
/-! Plain laws: the specified hash and its code. -/
namespace Go.Cu
def pack (a : Vector Int 4 × Vector Int 4) : Vector Int 8 := #v[rd a.1.toList 0, rd a.1.toList 1, rd a.1.toList 2, rd a.1.toList 3, rd a.2.toList 0, rd a.2.toList 1, rd a.2.toList 2, rd a.2.toList 3]
def xR (s : Vector Int 8) (k w : Int) : Int :=
  IntKind.u32.wrap (IntKind.u32.wrap (IntKind.u32.wrap (IntKind.u32.wrap (rd s.toList 7 + bits .xor .u32 (bits .xor .u32 (rr (rd s.toList 4) 6) (rr (rd s.toList 4) 11)) (rr (rd s.toList 4) 25)) + bits .xor .u32 (bits .and .u32 (rd s.toList 4) (rd s.toList 5)) (bits .and .u32 (bits .xor .u32 (rd s.toList 4) 4294967295) (rd s.toList 6))) + k) + w)
def yR (s : Vector Int 8) : Int :=
  IntKind.u32.wrap (bits .xor .u32 (bits .xor .u32 (rr (rd s.toList 0) 2) (rr (rd s.toList 0) 13)) (rr (rd s.toList 0) 22) + bits .xor .u32 (bits .xor .u32 (bits .and .u32 (rd s.toList 0) (rd s.toList 1)) (bits .and .u32 (rd s.toList 0) (rd s.toList 2))) (bits .and .u32 (rd s.toList 1) (rd s.toList 2)))
def rndR (w : Vector Int 64) (i : Nat) (s : Vector Int 8) : Vector Int 8 :=
  #v[IntKind.u32.wrap (xR s (rd ref02_constants.toList i) (rd w.toList i) + yR s), rd s.toList 0, rd s.toList 1, rd s.toList 2, IntKind.u32.wrap (rd s.toList 3 + xR s (rd ref02_constants.toList i) (rd w.toList i)), rd s.toList 4, rd s.toList 5, rd s.toList 6]
theorem xR_pack (a : Vector Int 4 × Vector Int 4) (k w : Int) : xR (pack a) k w = xS a.2 k w := by
  unfold xR xS
  have : bits .xor .u32 (rd (pack a).toList 4) 4294967295 = bits .xor .u32 IntKind.u32.max (rd a.2.toList 0) := by
    rw [bits_xor_comm]; rfl
  rw [this]; rfl
theorem rndR_pack (w : Vector Int 64) (i : Nat) (a : Vector Int 4 × Vector Int 4) : rndR w i (pack a) = pack (rndS w i a) := by
  unfold rndR
  rw [xR_pack]; rfl
theorem upF_pack (w : Vector Int 64) : ∀ (m k : Nat) (a : Vector Int 4 × Vector Int 4), upF (rndR w) k m (pack a) = pack (upF (rndS w) k m a)
  | 0, _, _ => rfl
  | m + 1, k, a => by rw [upF, upF, rndR_pack, upF_pack w m]
theorem v8_cases (s : Vector Int 8) : ∃ a b c d e f g h, s = #v[a, b, c, d, e, f, g, h] := by
  refine ⟨s[0], s[1], s[2], s[3], s[4], s[5], s[6], s[7], ?_⟩
  apply Vector.ext
  intro i hi
  match i, hi with
  | 0, _ => rfl
  | 1, _ => rfl
  | 2, _ => rfl
  | 3, _ => rfl
  | 4, _ => rfl
  | 5, _ => rfl
  | 6, _ => rfl
  | 7, _ => rfl
theorem pack_lv (s : Vector Int 8) : pack (lv s.toList 0 4, lv s.toList 4 4) = s := by
  obtain ⟨a, b, c, d, e, f, g, h, rfl⟩ := v8_cases s
  rfl
def finR (r : Vector Int 8) (i : Nat) (s : Vector Int 8) : Vector Int 8 := vs s i (IntKind.u32.wrap (rd s.toList i + rd r.toList i))
theorem upF_ind {σ : Type} {F : Nat → σ → σ} {I : Nat → σ → Prop} (N : Nat) (h : ∀ i s, i < N → I i s → I (i + 1) (F i s)) : ∀ (m k : Nat) (s : σ), k + m ≤ N → I k s → I (k + m) (upF F k m s)
  | 0, k, s, _, hs => hs
  | m + 1, k, s, hk, hs => by
    have := upF_ind N h m (k + 1) (F k s) (by omega) (h k s (by omega) hs)
    rw [show k + (m + 1) = k + 1 + m by omega]; exact this
theorem v8_ext {u v : Vector Int 8} (h : ∀ j : Nat, j < 8 → rd u.toList (j : Int) = rd v.toList (j : Int)) : u = v := by
  apply Vector.ext
  intro i hi
  have := h i hi
  simpa [rd, List.getD, hi] using this
theorem finR_at (r s : Vector Int 8) (j : Nat) (hj : j < 8) : rd (upF (finR r) 0 8 s).toList (j : Int) = IntKind.u32.wrap (rd s.toList (j : Int) + rd r.toList (j : Int)) := by
  have := upF_ind (F := finR r) (I := fun i u => ∀ j : Nat, j < 8 → rd u.toList (j : Int) = if j < i then IntKind.u32.wrap (rd s.toList (j : Int) + rd r.toList (j : Int)) else rd s.toList (j : Int)) 8 (by
    intro i u hi hu j hj
    unfold finR
    by_cases e : j = i
    · subst e
      rw [rd_vs _ _ _ (by omega) (by omega), hu j hj, if_neg (by omega), if_pos (by omega)]
    · rw [rd_vs_ne _ _ _ _ (by omega), hu j hj]
      by_cases h : j < i
      · rw [if_pos h, if_pos (by omega)]
      · rw [if_neg h, if_neg (by omega)]) 8 0 s (Nat.le_refl _) (fun j _ => by rw [if_neg (by omega)])
  have := this j hj
  rw [if_pos (by omega)] at this; exact this
theorem finI_at (v e : Vector Int 4) (s : Vector Int 8) (j : Nat) (hj : j < 8) : rd (upF (finI v e) 0 4 s).toList (j : Int) = IntKind.u32.wrap (rd s.toList (j : Int) + (if j < 4 then rd v.toList (j : Int) else rd e.toList ((j - 4 : Nat) : Int))) := by
  have := upF_ind (F := finI v e) (I := fun i u => ∀ j : Nat, j < 8 → rd u.toList (j : Int) = if j < i ∨ (4 ≤ j ∧ j < i + 4) then IntKind.u32.wrap (rd s.toList (j : Int) + (if j < 4 then rd v.toList (j : Int) else rd e.toList ((j - 4 : Nat) : Int))) else rd s.toList (j : Int)) 4 (by
    intro i u hi hu j hj
    unfold finI
    have ei : ((i : Int) + 4) = ((i + 4 : Nat) : Int) := by omega
    rw [ei]
    by_cases h1 : j = i + 4
    · subst h1
      rw [rd_vs _ _ _ (by omega) (by omega), rd_vs_ne _ _ _ _ (by omega), hu _ hj, if_neg (by omega), if_pos (by omega), if_neg (by omega), Nat.add_sub_cancel]
    · rw [rd_vs_ne _ _ _ _ (by omega)]
      by_cases h2 : j = i
      · subst h2
        rw [rd_vs _ _ _ (by omega) (by omega), hu _ hj, if_neg (by omega), if_pos (by omega), if_pos (by omega)]
      · rw [rd_vs_ne _ _ _ _ (by omega), hu j hj]
        by_cases h : j < i ∨ (4 ≤ j ∧ j < i + 4)
        · have h' : j < i + 1 ∨ (4 ≤ j ∧ j < i + 1 + 4) := by omega
          rw [if_pos h, if_pos h']
        · have h' : ¬ (j < i + 1 ∨ (4 ≤ j ∧ j < i + 1 + 4)) := by omega
          rw [if_neg h, if_neg h']) 4 0 s (Nat.le_refl _) (fun j _ => by rw [if_neg (by omega)])
  have := this j hj
  rw [if_pos (by omega)] at this; exact this
theorem fin_eq (r : Vector Int 4 × Vector Int 4) (s : Vector Int 8) : upF (finR (pack r)) 0 8 s = upF (finI r.1 r.2) 0 4 s := by
  apply v8_ext
  intro j hj
  rw [finR_at _ _ _ hj, finI_at _ _ _ _ hj]
  match j, hj with
  | 0, _ => rfl
  | 1, _ => rfl
  | 2, _ => rfl
  | 3, _ => rfl
  | 4, _ => rfl
  | 5, _ => rfl
  | 6, _ => rfl
  | 7, _ => rfl
theorem block_ok (s : Vector Int 8) (p : List Int) : upF (finR (upF (rndR (schedS p)) 0 64 s)) 0 8 s = compS s p := by
  have : upF (rndR (schedS p)) 0 64 s = pack (upF (rndS (schedS p)) 0 64 (lv s.toList 0 4, lv s.toList 4 4)) := by
    rw [← upF_pack, pack_lv]
  rw [this, fin_eq]; rfl
theorem padded_ok (m : List Int) (hb : m.length < 68719470000) : ref02_padded m = some (allS m) := by
  have hz : (119 - m.length % 64) % 64 < 64 := Nat.mod_lt _ (by decide)
  have h3 : ∀ x : List Int, x.length < 68719476700 → ref02_padded.j3 m x = some (x ++ (List.range' 0 8).map (byteL m.length)) := by
    intro x hx
    unfold ref02_padded.j3
    rw [← upF_app]
    refine loop_up (step := ref02_padded.l2 m) (fun o i => (o, i)) (fun i s => s ++ [byteL m.length i]) (fun o => o) 8 (fun i s => s.length = x.length + i) ?_ ?_ 8 0 x rfl (by simp) |>.1
    · intro i s hi hsl
      refine ⟨?_, by simp; omega⟩
      unfold ref02_padded.l2
      simp only [wrap_id (n := 8 * (i : Int)) (by omega) (by omega), wrap_id (n := 56 - 8 * (i : Int)) (by omega) (by omega), wrap_id (n := (i : Int) + 1) (by omega) (by omega), wrap64_id (n := (m.length : Int)) (by omega) (by omega)]
      rw [ite_t (by omega), grd_b (by omega), grd_b (by simp; omega)]
      rfl
    · intro s _
      unfold ref02_padded.l2
      simp only []
      rw [ite_f (by omega)]; rfl
  unfold ref02_padded
  rw [grd_b (by simp; omega), grd_b (by simp; omega)]
  rw [zero_loop (step := ref02_padded.l4 m) (G := ref02_padded.j3 m) 0 68719476600 ?_ ((119 - m.length % 64) % 64) _ (by simp; omega) hz (by simp; omega), h3 _ (by simp; omega)]
  · unfold allS padS; simp [List.append_assoc]
  · intro s hsl
    unfold ref02_padded.l4
    rw [tmod64]
    by_cases h : s.length % 64 = 56
    · have h' : (0 + s.length) % 64 = 56 := by omega
      rw [if_pos h', if_neg (by simp; omega)]
    · have h' : ¬ (0 + s.length) % 64 = 56 := by omega
      rw [if_neg h', if_pos (by simp; omega), grd_b (by simp; omega)]
theorem chainS_drop (s : Vector Int 8) (m : List Int) (n q : Nat) : chainS (n + 1) s (m.drop (64 * q)) = chainS n (compS s ((m.drop (64 * q)).take 64)) (m.drop (64 * (q + 1))) := by
  rw [chainS, List.drop_drop]; rfl
theorem allS_len (m : List Int) : (allS m).length = 64 * ((allS m).length / 64) := by
  have : (allS m).length = m.length + (1 + (119 - m.length % 64) % 64 + 8) := by unfold allS; rw [List.length_append, padS_len]
  omega
theorem allS_isB {m : List Int} (h : IsB m) : IsB (allS m) := h.app (padS_isB _)
theorem IsB.sub {l k : List Int} (h : IsB l) (hk : ∀ x ∈ k, x ∈ l) : IsB k := fun x hx => h x (hk x hx)
theorem ref_out (s : Vector Int 8) : ref02_Sum.j3 s = some (digS s) := by
  unfold ref02_Sum.j3
  refine (loop_up (step := ref02_Sum.l2 s) (fun o i => (o, i)) (digI s) (fun o => o) 32 (fun _ _ => True) ?_ ?_ 32 0 (Vector.replicate 32 0) rfl trivial).1
  · intro i o hi _
    refine ⟨?_, trivial⟩
    unfold ref02_Sum.l2
    have : i % 4 < 4 := Nat.mod_lt _ (by decide)
    simp only [tdiv4, tmod4, wrap_id (n := ((i / 4 : Nat) : Int)) (by omega) (by omega), wrap_id (n := 8 * ((i % 4 : Nat) : Int)) (by omega) (by omega), wrap_id (n := 24 - 8 * ((i % 4 : Nat) : Int)) (by omega) (by omega), wrap_id (n := (i : Int) + 1) (by omega) (by omega)]
    rw [ite_t (by omega), grd_b (by omega), grd_b (by omega), grd_b (by omega), bind_s]
    rfl
  · intro o _
    unfold ref02_Sum.l2
    simp only []
    rw [ite_f (by omega)]; rfl
theorem ref_block (t : List Int) (s : Vector Int 8) (q : Nat) (hq : 64 * (q + 1) ≤ t.length) (hl : t.length < 68719476736) (hb : IsB t) :
    ref02_Sum.l8 t (s, ((64 * q : Nat) : Int)) = some (.inl (compS s ((t.drop (64 * q)).take 64), ((64 * (q + 1) : Nat) : Int))) := by
  have hsl : ((t.take (((64 * q : Nat) : Int) + 64).toNat).drop (((64 * q : Nat) : Int)).toNat) = (t.drop (64 * q)).take 64 := by
    rw [show (((64 * q : Nat) : Int) + 64).toNat = 64 * q + 64 by omega, show (((64 * q : Nat) : Int)).toNat = 64 * q by omega, List.drop_take]; congr 1; omega
  have hpl : ((t.drop (64 * q)).take 64).length = 64 := by simp; omega
  unfold ref02_Sum.l8
  simp only [wrap_id (n := ((64 * q : Nat) : Int) + 64) (by omega) (by omega), hsl]
  rw [ite_t (by omega), grd_b (by omega), words_ok _ hpl (hb.sub fun x hx => List.mem_of_mem_drop (List.mem_of_mem_take hx)), bind_s]
  obtain ⟨p, hp⟩ : ∃ p, p = (t.drop (64 * q)).take 64 := ⟨_, rfl⟩
  rw [← hp]
  have hfin : ∀ r : Vector Int 8, ref02_Sum.j6 r (s, ((64 * q : Nat) : Int)) = some (.inl (upF (finR r) 0 8 s, ((64 * (q + 1) : Nat) : Int))) := by
    intro r
    unfold ref02_Sum.j6
    refine (loop_up (step := ref02_Sum.l5 r (s, ((64 * q : Nat) : Int))) (fun o i => (o, i)) (finR r) (fun o => .inl (o, ((64 * (q + 1) : Nat) : Int))) 8 (fun _ _ => True) ?_ ?_ 8 0 s rfl trivial).1
    · intro i o hi _
      refine ⟨?_, trivial⟩
      unfold ref02_Sum.l5
      simp only [wrap_id (n := (i : Int) + 1) (by omega) (by omega)]
      rw [ite_t (by omega), grd_b (by omega), grd_b (by omega), grd_b (by omega)]
      rfl
    · intro o _
      unfold ref02_Sum.l5 ref02_Sum.j4
      simp only [wrap_id (n := ((64 * q : Nat) : Int) + 64) (by omega) (by omega)]
      rw [ite_f (by omega)]
      show some (Sum.inr (Sum.inl (o, ((64 * q : Nat) : Int) + 64))) = _
      congr 4
  rw [← block_ok]
  refine (loop_up (step := ref02_Sum.l7 (schedS p) (s, ((64 * q : Nat) : Int))) (fun o i => (o, i)) (rndR (schedS p)) (fun r => .inl (upF (finR r) 0 8 s, ((64 * (q + 1) : Nat) : Int))) 64 (fun _ _ => True) ?_ ?_ 64 0 s rfl trivial).1
  · intro i o hi _
    refine ⟨?_, trivial⟩
    unfold ref02_Sum.l7
    simp only [wrap_id (n := (i : Int) + 1) (by omega) (by omega)]
    rw [ite_t (by omega), rotr_ok (by decide) (by decide), bind_s, rotr_ok (by decide) (by decide), bind_s, rotr_ok (by decide) (by decide), bind_s, grd_b (by omega), grd_b (by omega), rotr_ok (by decide) (by decide), bind_s, rotr_ok (by decide) (by decide), bind_s, rotr_ok (by decide) (by decide), bind_s]
    rfl
  · intro o _
    unfold ref02_Sum.l7
    simp only []
    rw [ite_f (by omega), hfin]; rfl
theorem ref_chain (t : List Int) (hl : t.length < 68719476736) (hb : IsB t) : ∀ (n q : Nat) (s : Vector Int 8), t.length = 64 * (q + n) → loopF (ref02_Sum.l8 t) (s, ((64 * q : Nat) : Int)) = some (digS (chainS n s (t.drop (64 * q))))
  | 0, q, s, h => by
    rw [loopF_done]
    unfold ref02_Sum.l8
    simp only []
    rw [ite_f (by omega), ref_out]; rfl
  | n + 1, q, s, h => by
    rw [loopF_next (ref_block t s q (by omega) hl hb), ref_chain t hl hb n (q + 1) _ (by omega), chainS_drop]
theorem ref02_Sum_ok (m : List Int) (hm : IsB m) (hb : m.length < 68719470000) : ref02_Sum m = some (shaS m) := by
  unfold ref02_Sum
  rw [padded_ok m hb, bind_s]
  have hl : (allS m).length < 68719476736 := by unfold allS; rw [List.length_append, padS_len]; omega
  exact ref_chain (allS m) hl (allS_isB hm) ((allS m).length / 64) 0 h0S (by rw [Nat.zero_add]; exact allS_len m)
end Go.Cu
