/- Plain laws on the pure functions; no program is named. -/
import Derived.Test.YtakfalfggmgcfaaL6
set_option linter.unusedVariables false
set_option linter.unusedSimpArgs false
/-! Plain laws: the four laws on restoring. -/
namespace Go.Cu
theorem law37_few_eq (t : Table) (b : Backup) : law37_few t b = some (decide (t.Keys.length ≤ 40) && (decide (b.Keys.length ≤ 40) && decide (b.Module.length ≤ 100))) := by
  unfold law37_few
  have e : ∀ (n m : Nat), decide ((n : Int) ≤ (m : Int)) = decide (n ≤ m) := fun n m => by simp
  by_cases h1 : t.Keys.length ≤ 40
  · by_cases h2 : b.Keys.length ≤ 40
    · simp [h1, h2, show (t.Keys.length : Int) ≤ 40 by omega, show (b.Keys.length : Int) ≤ 40 by omega]
      omega
    · simp [h1, h2, show (t.Keys.length : Int) ≤ 40 by omega, show ¬ (b.Keys.length : Int) ≤ 40 by omega]
  · simp [h1, show ¬ (t.Keys.length : Int) ≤ 40 by omega]
theorem few_and {t : Table} {b : Backup} {v : Option Bool} {r : Bool} (hv : ∀ _ : t.Keys.length ≤ 40 ∧ b.Keys.length ≤ 40 ∧ b.Module.length ≤ 100, v = some r) {α : Type} (f : Bool → Option α) :
    ((law37_few t b).bind fun x => if (!x) = true then some true else v.bind fun y => some (!y)).bind f = f (!(decide (t.Keys.length ≤ 40) && (decide (b.Keys.length ≤ 40) && decide (b.Module.length ≤ 100)) && r)) := by
  rw [law37_few_eq]
  simp only [Option.bind_some]
  cases h : (decide (t.Keys.length ≤ 40) && (decide (b.Keys.length ≤ 40) && decide (b.Module.length ≤ 100))) with
  | false => rfl
  | true =>
    simp only [Bool.and_eq_true, decide_eq_true_eq] at h
    rw [hv ⟨h.1, h.2.1, h.2.2⟩]
    rfl
structure inT (t : Table) : Prop where
  nxt : wfI t.Next
  use : ∀ k ∈ t.Keys, wfI k.Uses
def inB' (b : Backup) : Prop := ∀ k ∈ b.Keys, wfI k.Uses
theorem fw {t : Table} {b : Backup} {r : Bool} (h : (!(decide (t.Keys.length ≤ 40) && (decide (b.Keys.length ≤ 40) && decide (b.Module.length ≤ 100)) && r)) = false) (ht : inT t) (hb : inB' b) :
    t.Keys.length ≤ 40 ∧ b.Keys.length ≤ 40 ∧ wfT t ∧ wfB b ∧ r = true := by
  simp only [Bool.not_eq_false', Bool.and_eq_true, decide_eq_true_eq] at h
  obtain ⟨⟨h1, h2, h3⟩, h4⟩ := h
  exact ⟨h1, h2, ⟨by omega, ht.nxt, ht.use⟩, ⟨by omega, by omega, hb⟩, h4⟩
theorem newOk_len {now : Int} {bk : List Key} : ∀ (new : List Key) (t : Table), NewOk now bk t new → t.Keys.length ≤ 4096 → t.Keys.length + new.length ≤ 4096
  | [], t, _, h => by simpa using h
  | x :: r, t, h, _ => by
    obtain ⟨_, _, _, _, _, _, a7, _, a9⟩ := h
    have := newOk_len r _ a9 (by simp; omega)
    simp at this ⊢
    omega
theorem newOk_next {now : Int} {bk : List Key} : ∀ (new : List Key) (t : Table), NewOk now bk t new → t.Next ≤ 2147483647 → t.Next + new.length ≤ 2147483647
  | [], t, _, h => by simpa using h
  | x :: r, t, h, _ => by
    obtain ⟨_, _, _, _, _, _, _, a8, a9⟩ := h
    have := newOk_next r _ a9 (by dsimp only; omega)
    simp at this ⊢
    omega
theorem law_RestoreMatchesSpec (t : Table) (b : Backup) (k : Key) (now : Int) (at_ : restore_Place) (ht : inT t) (hb : inB' b) : law37_RestoreMatchesSpec t b k now at_ = some true := by
  unfold law37_RestoreMatchesSpec
  rw [few_and (v := ref27_ValidTable t) (r := vT t) (fun h => ref27_ValidTable_eq ⟨by omega, ht.nxt, ht.use⟩)]
  cases hc : (!(decide (t.Keys.length ≤ 40) && (decide (b.Keys.length ≤ 40) && decide (b.Module.length ≤ 100)) && vT t)) with
  | true => rw [if_pos rfl, sanity37]; rfl
  | false =>
    obtain ⟨h1, h2, wt, wb, hv⟩ := fw hc ht hb
    rw [if_neg (by simp)]
    rw [restore_Plan_eq wb (by omega) wt.nxt (by omega), ref37_Plan_eq wb (by omega) wt.nxt (by omega), restore_Twin_eq wt.len, ref37_Twin_eq wt.len, restore_Holds_eq wt.len wb.len, ref37_Holds_eq wt.len wb.len, restore_Admit_eq wb, ref37_Admit_eq wb, sanity37]
    simp only [Option.bind_some, toP]
    have hl : (planR t b now).1.Keys.length ≤ 4096 ∧ (planR t b now).2.1.length ≤ 4096 := by
      by_cases h : (planR t b now).2.2 = 0
      · obtain ⟨_, _, _, new, a, e, _⟩ := planR_ok h
        have := newOk_len new t a (by omega)
        rw [e]
        simp; omega
      · obtain ⟨e1, e2⟩ := planR_bad h
        rw [e1, e2]; simp
    rw [ref27_Same_eq (by omega), ref01_SameInts_refl (by omega)]
    simp
theorem restore_Plan_eq' {t : Table} {b : Backup} {now : Int} (wb : wfB b) (hb : b.Keys.length ≤ 40) (hn : wfI t.Next) (hl : t.Keys.length ≤ 4096) : restore_Plan t b now = some (planR t b now) := restore_Plan_eq wb (by omega) hn (by omega)
theorem law_RestoreHolds (t : Table) (b : Backup) (now later : Int) (ht : inT t) (hb : inB' b) : law37_RestoreHolds t b now later = some true := by
  unfold law37_RestoreHolds
  rw [few_and (v := ref27_ValidTable t) (r := vT t) (fun h => ref27_ValidTable_eq ⟨by omega, ht.nxt, ht.use⟩)]
  cases hc : (!(decide (t.Keys.length ≤ 40) && (decide (b.Keys.length ≤ 40) && decide (b.Module.length ≤ 100)) && vT t)) with
  | true => rw [if_pos rfl, sanity37]; rfl
  | false =>
    obtain ⟨h1, h2, wt, wb, hv⟩ := fw hc ht hb
    rw [if_neg (by simp), restore_Plan_eq' wb h2 wt.nxt (by omega), sanity37]
    simp only [Option.bind_some]
    by_cases h : (planR t b now).2.2 = 0
    · rw [if_neg (by simp [h])]
      obtain ⟨hvb, hn0, hn1, new, a, e, hh⟩ := planR_ok h
      have hlen := newOk_len new t a (by omega)
      have hvt : vT ⟨t.Next + new.length, t.Keys ++ new⟩ = true := vT_new new t hv a
      have hnx : wfI t.Next ∧ t.Next ≤ 2147483647 ∧ 1 ≤ t.Next := by
        simp only [vT, inB, Bool.and_eq_true, decide_eq_true_eq] at hv
        exact ⟨wt.nxt, hv.2.1.2, hv.2.1.1⟩
      have hnn := newOk_next new t a hnx.2.1
      have hl1 : (t.Keys ++ new).length ≤ 4096 := by simp; omega
      have hw1 : wfI (t.Next + new.length) := ⟨by omega, by omega⟩
      have wt1 : wfT ⟨t.Next + new.length, t.Keys ++ new⟩ := ⟨by dsimp only; omega, hw1, by
        intro k hk
        rcases List.mem_append.1 hk with h | h
        · exact wt.use k h
        · exact newOk_use hb new t a k h⟩
      rw [e]
      dsimp only
      generalize hu : (⟨t.Next + new.length, t.Keys ++ new⟩ : Table) = u at *
      have hul : u.Keys.length ≤ 4096 := by rw [← hu]; exact hl1
      have hun : wfI u.Next := by rw [← hu]; exact hw1
      rw [ref27_ValidTable_eq wt1, hvt, restore_Holds_eq wt1.len wb.len, hh, restore_Holds_eq wt1.len wb.len, restore_Plan_eq' wb h2 hun hul, restore_Plan_eq' wb h2 hun hul, planR_held hvb hn0 hn1 hh]
      simp only [Option.bind_some, Bool.not_true, Bool.false_eq_true, if_false]
      rw [ref27_Same_eq wt1.len]
      by_cases hlt : now ≤ later
      · rw [if_pos (by simpa using hlt), holdsM_later hlt hh]
        by_cases hmx : 1099511627776 < later
        · simp [hmx, show ¬ later < now by omega]
        · rw [planR_held hvb (by omega) (by omega) (holdsM_later hlt hh)]
          simp [hmx, show ¬ later < now by omega, ref27_Same_eq wt1.len]
      · rw [if_neg (by simpa using hlt)]
        simp [show later < now by omega]
    · rw [if_pos (by simpa using h)]
      obtain ⟨e1, e2⟩ := planR_bad h
      rw [e1, e2]
      rfl
theorem law_RestoreAdmits (at_ : restore_Place) (b : Backup) (hb : inB' b) : law37_RestoreAdmits at_ b = some true := by
  unfold law37_RestoreAdmits
  rw [few_and (v := ref36_Valid b) (r := vBk b) (fun h => ref36_Valid_eq ⟨by omega, by omega, hb⟩)]
  cases hc : (!(decide ((⟨(0 : Int), ([] : (List Key))⟩ : Table).Keys.length ≤ 40) && (decide (b.Keys.length ≤ 40) && decide (b.Module.length ≤ 100)) && vBk b)) with
  | true => rw [if_pos rfl, sanity37]; rfl
  | false =>
    obtain ⟨h1, h2, wt, wb, hv⟩ := fw hc ⟨wf0, by intro k hk; cases hk⟩ hb
    have hnum : 0 ≤ b.Number ∧ b.Number ≤ 2147483647 := by
      simp only [vBk, vHd, inB, Bool.and_eq_true, decide_eq_true_eq] at hv
      exact hv.1.2.1
    rw [if_neg (by simp), restore_Admit_eq wb, restore_Admit_eq wb, sanity37, wrap_id (by omega) (by omega)]
    simp only [Option.bind_some, admM, hv, Bool.not_true, Bool.false_eq_true, if_false]
    by_cases hd : b.Domain = at_.Domain
    · by_cases hp : b.Policy = at_.Policy
      · by_cases hf : at_.Firmware < b.Firmware
        · simp [hd, hp, hf]
        · by_cases hn : b.Number < at_.Number
          · simp [hd, hp, hf, hn]
          · simp [hd, hp, hf, hn]
            omega
      · simp [hd, hp]
    · simp [hd]
end Go.Cu
