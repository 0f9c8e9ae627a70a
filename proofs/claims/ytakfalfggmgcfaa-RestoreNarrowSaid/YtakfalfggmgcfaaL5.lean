/- Plain laws on the pure functions; no program is named. -/
import Derived.Test.YtakfalfggmgcfaaL4
set_option linter.unusedVariables false
set_option linter.unusedSimpArgs false
/-! Plain laws: Same, Holds, Admit; the examples. -/
namespace Go.Cu
theorem ref27_Same_eq {t u : Table} (hl : t.Keys.length ≤ 1099511627776) : ref27_Same t u = some (decide (t = u)) := by
  unfold ref27_Same
  by_cases h1 : t.Next = u.Next
  · by_cases h2 : t.Keys.length = u.Keys.length
    · have h2' : ((t.Keys.length : Int) != (u.Keys.length : Int)) = false := by simp [h2]
      rw [if_neg (by simp [h1]), h2']
      simp only [Option.bind_some, Bool.false_eq_true, if_false]
      have := loop_list (l := t.Keys) (step := ref27_Same.l2 t u) (fun s => s) (fun s r => decide (r = u.Keys.drop s.toNat)) (fun _ => True) ?_ ?_ 0 0 trivial rfl (Nat.zero_le _)
      · rw [this]
        have : (t = u) ↔ t.Keys = u.Keys := ⟨fun e => by rw [e], fun e => by cases t; cases u; cases h1; cases e; rfl⟩
        simp [this]
      · intro s x r k _ hk hd hx hlt
        have hk : s = (k : Int) := hk
        subst hk
        unfold ref27_Same.l2
        rw [if_pos (by simpa using hlt), grd_t ⟨by omega, by omega⟩, grd_t ⟨by omega, by omega⟩, hx]
        have hlt' : k < u.Keys.length := by omega
        have hd' : u.Keys.drop k = u.Keys[k] :: u.Keys.drop (k + 1) := List.drop_eq_getElem_cons hlt'
        rw [rd_cons hd', Int.toNat_natCast, hd']
        generalize u.Keys[k] = y
        generalize hr' : List.drop (k + 1) u.Keys = r'
        by_cases h : x = y
        · rw [if_neg (by simp [h]), wrap_id (by omega) (by omega)]
          exact .inl ⟨_, rfl, rfl, trivial, by rw [show ((k : Int) + 1).toNat = k + 1 by omega, hr', h]; simp⟩
        · rw [if_pos (by simpa using h)]
          exact .inr (by simp [h])
      · intro s _ hs
        have hs : s = (t.Keys.length : Int) := hs
        subst hs
        unfold ref27_Same.l2 ref27_Same.j1
        rw [if_neg (by simp)]
        simp [h2]
    · have h2' : ((t.Keys.length : Int) != (u.Keys.length : Int)) = true := by simp; omega
      rw [if_neg (by simp [h1]), h2']
      simp only [Option.bind_some, if_true]
      have : ¬ t = u := fun e => h2 (by rw [e])
      simp [this]
  · rw [if_pos (by simpa using h1)]
    have : ¬ t = u := fun e => h1 (by rw [e])
    simp [this]
theorem ref01_SameInts_refl {l : List Int} (hl : l.length ≤ 1099511627776) : ref01_SameInts l l = some true := by
  unfold ref01_SameInts
  rw [if_neg (by simp)]
  have := loop_list (l := l) (step := ref01_SameInts.l2 l l) (fun s => s) (fun s r => true) (fun _ => True) ?_ ?_ 0 0 trivial rfl (Nat.zero_le _)
  · simpa using this
  · intro s x r k _ hk hd hx hlt
    have hk : s = (k : Int) := hk
    subst hk
    unfold ref01_SameInts.l2
    rw [if_pos (by simpa using hlt), grd_t ⟨by omega, by omega⟩, grd_t ⟨by omega, by omega⟩, if_neg (by simp), wrap_id (by omega) (by omega)]
    exact .inl ⟨_, rfl, rfl, trivial, rfl⟩
  · intro s _ hs
    have hs : s = (l.length : Int) := hs
    subst hs
    unfold ref01_SameInts.l2 ref01_SameInts.j1
    rw [if_neg (by simp)]
    rfl
def holdsM (t : Table) (now : Int) (l : List Key) : Bool := l.all fun k => decide (k.End ≤ now) || (twinM k t.Keys).2
theorem restore_Holds_eq {t : Table} {b : Backup} {now : Int} (ht : t.Keys.length ≤ 1099511627776) (hb : b.Keys.length ≤ 1099511627776) : restore_Holds t b now = some (holdsM t now b.Keys) := by
  unfold restore_Holds
  rw [containsKey_eq (q := fun k => !(decide (k.End ≤ now) || (twinM k t.Keys).2)) hb]
  · simp only [Option.bind_some, holdsM]
    rw [List.all_eq_not_any_not]
  · intro k _
    unfold restore_Holds_1
    rw [restore_Twin_eq ht]
    simp only [Option.bind_some]
    by_cases h : now < k.End
    · simp [h, show ¬ k.End ≤ now by omega]
    · simp [h, show k.End ≤ now by omega]
theorem ref37_Holds_eq {t : Table} {b : Backup} {now : Int} (ht : t.Keys.length ≤ 1099511627776) (hb : b.Keys.length ≤ 1099511627776) : ref37_Holds t b now = some (holdsM t now b.Keys) := by
  unfold ref37_Holds
  have := loop_list (l := b.Keys) (step := ref37_Holds.l2 b t now) (fun s => s) (fun s r => holdsM t now r) (fun _ => True) ?_ ?_ 0 0 trivial rfl (Nat.zero_le _)
  · simpa using this
  · intro s x r k _ hk hd hx hlt
    have hk : s = (k : Int) := hk
    subst hk
    unfold ref37_Holds.l2
    rw [if_pos (by simpa using hlt), grd_t ⟨by omega, by omega⟩, hx, ref37_Twin_eq ht]
    simp only [Option.bind_some]
    rw [grd_t ⟨by omega, by omega⟩, wrap_id (by omega) (by omega)]
    have e : holdsM t now (x :: r) = ((decide (x.End ≤ now) || (twinM x t.Keys).2) && holdsM t now r) := rfl
    rw [e]
    by_cases h : now < x.End
    · rw [if_pos (by simpa using h)]
      simp only [Option.bind_some, show ¬ x.End ≤ now by omega, decide_false, Bool.false_or]
      cases (twinM x t.Keys).2 with
      | true => exact .inl ⟨_, rfl, rfl, trivial, rfl⟩
      | false => exact .inr rfl
    · rw [if_neg (by simpa using h)]
      simp only [Option.bind_some, show x.End ≤ now by omega, decide_true, Bool.true_or, Bool.true_and]
      exact .inl ⟨_, rfl, rfl, trivial, trivial⟩
  · intro s _ hs
    have hs : s = (b.Keys.length : Int) := hs
    subst hs
    unfold ref37_Holds.l2 ref37_Holds.j1
    rw [if_neg (by simp)]
    rfl
def admM (D P : Vector Int 16) (fw n : Int) (b : Backup) : Int :=
  if !vBk b then 1 else if !(decide (b.Domain = D) && decide (b.Policy = P)) then 10 else if decide (fw < b.Firmware) || decide (b.Number < n) then 20 else 0
theorem restore_Admit_eq {p : restore_Place} {b : Backup} (hb : wfB b) : restore_Admit p b = some (admM p.Domain p.Policy p.Firmware p.Number b) := by
  unfold restore_Admit admM
  rw [backup_Valid_eq hb]
  simp only [Option.bind_some]
  cases vBk b with
  | false => rfl
  | true =>
    simp only [Bool.not_true, Bool.false_eq_true, if_false]
    have e : (decide (p = ({ ({ ({ ({ (default : restore_Place) with Domain := b.Domain } : restore_Place) with Policy := b.Policy } : restore_Place) with Firmware := p.Firmware } : restore_Place) with Number := p.Number } : restore_Place))) = (decide (b.Domain = p.Domain) && decide (b.Policy = p.Policy)) := by
      rw [Bool.eq_iff_iff]
      cases p
      simp
      constructor
      · rintro ⟨h1, h2⟩; exact ⟨h1.symm, h2.symm⟩
      · rintro ⟨h1, h2⟩; exact ⟨h1.symm, h2.symm⟩
    rw [e]
    cases decide (b.Domain = p.Domain) <;> cases decide (b.Policy = p.Policy) <;> try rfl
    cases decide (p.Firmware < b.Firmware) <;> cases decide (b.Number < p.Number) <;> rfl
theorem ref37_Admit_eq {p : ref37_Place} {b : Backup} (hb : wfB b) : ref37_Admit p b = some (admM p.Domain p.Policy p.Firmware p.Number b) := by
  unfold ref37_Admit admM
  rw [ref36_Valid_eq hb]
  simp only [Option.bind_some]
  cases vBk b with
  | false => rfl
  | true =>
    simp only [Bool.not_true, Bool.false_eq_true, if_false]
    cases decide (b.Domain = p.Domain) <;> cases decide (b.Policy = p.Policy) <;> try rfl
    cases decide (p.Firmware < b.Firmware) <;> cases decide (b.Number < p.Number) <;> rfl
/-! The examples. -/
def exV : List UInt8 := repL [118] 32
def exB : Backup := ⟨Vector.replicate 16 0, 0, 2, 0, 0, Vector.replicate 16 0, [109], [⟨1, 0, exV, 0, 1, 9, 1, 0, false⟩, ⟨4, 0, exV, 0, 1, 9, 2, 1, false⟩, ⟨6, 0, exV, 0, 1, 5, 1, 0, false⟩]⟩
def exT : Table := ⟨2, [⟨1, 0, exV, 0, 1, 9, 1, 0, false⟩]⟩
def exU : Table := ⟨3, [⟨1, 0, exV, 0, 1, 9, 1, 0, false⟩, ⟨2, 0, exV, 0, 1, 9, 2, 1, false⟩]⟩
theorem wf0 : wfI 0 := ⟨by omega, by omega⟩
theorem exB_wf : wfB exB := ⟨by decide, by decide, by
  intro k hk
  simp only [exB, List.mem_cons, List.not_mem_nil, or_false] at hk
  rcases hk with rfl | rfl | rfl <;> exact wf0⟩
theorem exT_plan : planR exT exB 5 = (exU, [2], 0) := by decide
theorem exU_plan : planR exU exB 5 = (exU, [], 0) := by decide
theorem sanity37 : law37_sanity = some true := by
  unfold law37_sanity
  have hrep : strings_Repeat ([118] : List UInt8) (32 : Int) = some exV := by
    unfold strings_Repeat
    rw [grd_t ⟨by omega, by omega, by decide⟩]
    rfl
  rw [hrep]
  simp only [Option.bind_some]
  rw [show ({ ({ ({ ({ ({ ({ ({ ({ (default : Backup) with Domain := (Vector.replicate 16 (0 : Int)) } : Backup) with Epoch := (0 : Int) } : Backup) with Firmware := (0 : Int) } : Backup) with Time := (0 : Int) } : Backup) with Policy := (Vector.replicate 16 (0 : Int)) } : Backup) with Number := (2 : Int) } : Backup) with Module := ([109] : List UInt8) } : Backup) with Keys := ([(⟨(1 : Int), (0 : Int), exV, (0 : Int), (1 : Int), (9 : Int), (1 : Int), (0 : Int), false⟩ : Key), (⟨(4 : Int), (0 : Int), exV, (0 : Int), (1 : Int), (9 : Int), (2 : Int), (1 : Int), false⟩ : Key), (⟨(6 : Int), (0 : Int), exV, (0 : Int), (1 : Int), (5 : Int), (1 : Int), (0 : Int), false⟩ : Key)] : List Key) } : Backup) = exB from rfl,
    show (⟨(2 : Int), ([(⟨(1 : Int), (0 : Int), exV, (0 : Int), (1 : Int), (9 : Int), (1 : Int), (0 : Int), false⟩ : Key)] : List Key)⟩ : Table) = exT from rfl]
  have w2 : wfI exT.Next := ⟨by decide, by decide⟩
  have w3 : wfI exU.Next := ⟨by decide, by decide⟩
  rw [restore_Plan_eq exB_wf (by decide) w2 (by decide), exT_plan]
  simp only [Option.bind_some]
  rw [restore_Plan_eq exB_wf (by decide) w3 (by decide), exU_plan]
  rw [restore_Twin_eq (t := exU) (by decide), restore_Twin_eq (t := exT) (by decide)]
  simp only [restore_Admit_eq exB_wf, restore_Holds_eq (t := exU) (b := exB) (by decide) (by decide), restore_Holds_eq (t := exT) (b := exB) (by decide) (by decide), ref27_Same_eq (t := exU) (by decide), Option.bind_some]
  rw [restore_Admit_eq (b := { ({ ({ ({ ({ ({ ({ ({ (default : Backup) with Domain := (Vector.replicate 16 (0 : Int)) } : Backup) with Epoch := (0 : Int) } : Backup) with Number := (0 : Int) } : Backup) with Firmware := (0 : Int) } : Backup) with Time := (0 : Int) } : Backup) with Policy := (Vector.replicate 16 (0 : Int)) } : Backup) with Module := ([] : List UInt8) } : Backup) with Keys := ([] : (List Key)) }) ⟨by decide, by decide, by intro k hk; cases hk⟩]
  rfl
end Go.Cu
