/- Plain laws on the pure functions; no program is named. -/
import Derived.Test.YtakfalfggmgcfaaL2
set_option linter.unusedVariables false
set_option linter.unusedSimpArgs false
/-! Plain laws: which tables and backups are valid. -/
namespace Go.Cu
theorem mem_drop {α : Type} {l r : List α} {x : α} {k : Nat} (h : l.drop k = x :: r) : x ∈ l := by
  have : x ∈ l.drop k := by rw [h]; simp
  exact List.mem_of_mem_drop this
theorem ixM_any {α : Type} (q : α → Bool) : ∀ (l : List α) (k : Int), 0 ≤ k → decide (0 ≤ ixM q k l) = l.any q
  | [], k, _ => by simp [ixM]
  | x :: r, k, h => by
    unfold ixM
    cases hq : q x with
    | true => simp [hq, h]
    | false => simp only [Bool.false_eq_true, if_false, List.any_cons, hq, Bool.false_or]; exact ixM_any q r (k + 1) (by omega)
theorem indexInt_eq {l : List Int} {p : Int → Option Bool} {q : Int → Bool} (hl : l.length ≤ 1099511627776) (hp : ∀ x ∈ l, p x = some (q x)) : slices_IndexFunc_int l p = some (ixM q 0 l) := by
  unfold slices_IndexFunc_int
  have := loop_list (l := l) (step := slices_IndexFunc_int.l2 l p) (fun s => s) (fun s r => ixM q s r) (fun _ => True) ?_ ?_ 0 0 trivial rfl (Nat.zero_le _)
  · simpa using this
  · intro s x r k _ hk hd hx hlt
    have hk : s = (k : Int) := hk
    subst hk
    unfold slices_IndexFunc_int.l2
    rw [if_pos (by simpa using hlt), grd_t ⟨by omega, by omega⟩, hx, hp x (mem_drop hd)]
    simp only [Option.bind_some, ixM]
    cases q x with
    | true => exact .inr rfl
    | false =>
      refine .inl ⟨k + 1, ?_, rfl, trivial, rfl⟩
      rw [wrap_id (by omega) (by omega)]; rfl
  · intro s _ hs
    have hs : s = (l.length : Int) := hs
    subst hs
    unfold slices_IndexFunc_int.l2
    rw [if_neg (by simp)]
    rfl
theorem containsInt_eq {l : List Int} {p : Int → Option Bool} {q : Int → Bool} (hl : l.length ≤ 1099511627776) (hp : ∀ x ∈ l, p x = some (q x)) : slices_ContainsFunc_int l p = some (l.any q) := by
  unfold slices_ContainsFunc_int
  rw [indexInt_eq hl hp]
  simp only [Option.bind_some, ixM_any q l 0 (Int.le_refl _)]
theorem containsKey_eq {l : List Key} {p : Key → Option Bool} {q : Key → Bool} (hl : l.length ≤ 1099511627776) (hp : ∀ x ∈ l, p x = some (q x)) : slices_ContainsFunc_Key l p = some (l.any q) := by
  unfold slices_ContainsFunc_Key
  rw [indexKey_eq hl hp]
  simp only [Option.bind_some, ixM_any q l 0 (Int.le_refl _)]
theorem backup_within_1_eq (x m : Int) : backup_within_1 x m = some (!inB x 0 m) := by
  unfold backup_within_1 inB
  by_cases h : x < 0
  · simp [h, show ¬ (0 ≤ x) by omega]
  · simp only [h, decide_false, show (0 ≤ x) by omega, decide_true, Bool.true_and, Bool.false_eq_true, if_false, Option.bind_some]
    congr 1
    rw [Bool.eq_iff_iff]
    simp
theorem backup_within_eq {m : Int} {l : List Int} (hl : l.length ≤ 1099511627776) : backup_within m l = some (l.all fun x => inB x 0 m) := by
  unfold backup_within
  rw [containsInt_eq (q := fun x => !inB x 0 m) hl (fun x _ => backup_within_1_eq x m)]
  simp only [Option.bind_some]
  rw [List.all_eq_not_any_not]
/-- The keys' part of a valid backup. -/
def vIds : Int → List Key → Bool
  | _, [] => true
  | last, k :: r => vK k && (decide (last < k.Id) && (decide (k.Id ≤ 2147483647) && vIds k.Id r))
/-- The header's part of a valid backup. -/
def vHd (b : Backup) : Bool :=
  inB b.Epoch 0 2147483647 && (inB b.Number 0 2147483647 && (inB b.Firmware 0 2147483647 && (inB b.Time 0 1099511627776 && (inB b.Module.length 1 12 && decide ((b.Keys.length : Int) ≤ 4096)))))
def vBk (b : Backup) : Bool := vHd b && vIds 0 b.Keys
structure wfB (b : Backup) : Prop where
  len : b.Keys.length ≤ 1099511627776
  mod : b.Module.length ≤ 1099511627776
  use : ∀ k ∈ b.Keys, wfI k.Uses
theorem bad_key (k : Key) (last : Int) {α : Type} (f : Bool → Option α) :
    (if (!vK k) = true then some true else if decide (k.Id ≤ last) = true then some true else some (decide ((2147483647 : Int) < k.Id))).bind f =
      f (!(vK k && (decide (last < k.Id) && decide (k.Id ≤ 2147483647)))) := by
  cases vK k with
  | false => rfl
  | true =>
    by_cases h : k.Id ≤ last
    · simp [h, show ¬ last < k.Id by omega]
    · by_cases h2 : (2147483647 : Int) < k.Id
      · simp [h, h2, show last < k.Id by omega, show ¬ k.Id ≤ 2147483647 by omega]
      · simp [h, h2, show last < k.Id by omega, show k.Id ≤ 2147483647 by omega]
theorem backup_Valid_j1 {b : Backup} (h : wfB b) : backup_Valid.j1 b = some (vHd b) := by
  have hm := h.mod
  unfold backup_Valid.j1
  rw [backup_within_eq (by simp), backup_within_eq (by simp), backup_within_eq (by simp), wrap_id (by omega) (by omega)]
  have e : inB ((b.Module.length : Int) - 1) 0 11 = inB b.Module.length 1 12 := by
    unfold inB
    rw [Bool.eq_iff_iff]
    simp
    omega
  simp only [List.all_cons, List.all_nil, Bool.and_true, Option.bind_some, e, vHd]
  cases inB b.Epoch 0 2147483647 <;> cases inB b.Number 0 2147483647 <;> cases inB b.Firmware 0 2147483647 <;> cases inB b.Time 0 1099511627776 <;> cases inB b.Module.length 1 12 <;> rfl
theorem backup_Valid_eq {b : Backup} (h : wfB b) : backup_Valid b = some (vBk b) := by
  unfold backup_Valid vBk
  have hl := h.len
  have := loop_list (l := b.Keys) (step := backup_Valid.l2 b) (fun s => s.2) (fun s r => vHd b && vIds s.1 r) (fun _ => True) ?_ ?_ (0, 0) 0 trivial rfl (Nat.zero_le _)
  · simpa using this
  · rintro ⟨last, s⟩ x r k _ hk hd hx hlt
    have hk : s = (k : Int) := hk
    subst hk
    unfold backup_Valid.l2
    dsimp only
    rw [if_pos (by simpa using hlt), grd_t ⟨by omega, by omega⟩, hx, keys_Valid_eq]
    simp only [Option.bind_some]
    rw [bad_key]
    simp only [vIds]
    cases hv : (vK x && (decide (last < x.Id) && decide (x.Id ≤ 2147483647))) with
    | true =>
      refine .inl ⟨(x.Id, k + 1), ?_, rfl, trivial, ?_⟩
      · rw [if_neg (by simp), wrap_id (by omega) (by omega)]
      · simp only [← Bool.and_assoc] at hv ⊢
        rw [Bool.and_assoc (vHd b), Bool.and_assoc (vHd b), hv]
        simp
    | false =>
      refine .inr ?_
      rw [if_pos (by simp)]
      simp only [← Bool.and_assoc] at hv ⊢
      rw [Bool.and_assoc (vHd b), Bool.and_assoc (vHd b), hv]
      simp
  · rintro ⟨last, s⟩ _ hs
    have hs : s = (b.Keys.length : Int) := hs
    subst hs
    unfold backup_Valid.l2
    dsimp only
    rw [if_neg (by simp), backup_Valid_j1 h]
    simp [vIds]
theorem ref36_within_eq (n m : Int) : ref36_within n m = some (inB n 0 m) := by
  unfold ref36_within inB
  by_cases h : 0 ≤ n <;> simp [h]
theorem ref36_Valid_eq {b : Backup} (h : wfB b) : ref36_Valid b = some (vBk b) := by
  unfold ref36_Valid vBk
  have hl := h.len
  have hloop : loopF (ref36_Valid.l2 b) ((0 : Int), (0 : Int)) = some (vIds 0 b.Keys) := by
    have := loop_list (l := b.Keys) (step := ref36_Valid.l2 b) (fun s => s.2) (fun s r => vIds s.1 r) (fun _ => True) ?_ ?_ (0, 0) 0 trivial rfl (Nat.zero_le _)
    · simpa using this
    · rintro ⟨last, s⟩ x r k _ hk hd hx hlt
      have hk : s = (k : Int) := hk
      subst hk
      unfold ref36_Valid.l2
      dsimp only
      have g : ∀ {β : Type} (f : Unit → Option β), (grd (0 ≤ (k : Int) ∧ (k : Int) < (b.Keys.length : Int))).bind f = f () := fun f => grd_t ⟨by omega, by omega⟩ f
      rw [if_pos (by simpa using hlt)]
      simp only [g, hx, ref27_Valid_eq (h.use x (mem_drop hd)), Option.bind_some]
      rw [bad_key]
      simp only [vIds]
      cases hv : (vK x && (decide (last < x.Id) && decide (x.Id ≤ 2147483647))) with
      | true =>
        refine .inl ⟨(x.Id, k + 1), ?_, rfl, trivial, ?_⟩
        · rw [if_neg (by simp), wrap_id (by omega) (by omega)]
        · simp only [← Bool.and_assoc] at hv ⊢
          rw [hv]
          simp
      | false =>
        refine .inr ?_
        rw [if_pos (by simp)]
        simp only [← Bool.and_assoc] at hv ⊢
        rw [hv]
        simp
    · rintro ⟨last, s⟩ _ hs
      have hs : s = (b.Keys.length : Int) := hs
      subst hs
      unfold ref36_Valid.l2
      dsimp only
      rw [if_neg (by simp)]
      simp [vIds, ref36_Valid.j1]
  rw [hloop]
  simp only [ref36_within_eq, Option.bind_some, vHd]
  cases inB b.Epoch 0 2147483647 <;> cases inB b.Number 0 2147483647 <;> cases inB b.Firmware 0 2147483647 <;> cases inB b.Time 0 1099511627776 <;> try rfl
  unfold inB
  by_cases h1 : (b.Module.length : Int) < 1
  · simp [h1, show ¬ (1 : Int) ≤ b.Module.length by omega]
  · by_cases h2 : (12 : Int) < b.Module.length
    · simp [h1, h2, show (1 : Int) ≤ b.Module.length by omega, show ¬ (b.Module.length : Int) ≤ 12 by omega]
    · by_cases h3 : (4096 : Int) < b.Keys.length
      · simp [h1, h2, h3, show (1 : Int) ≤ b.Module.length by omega, show (b.Module.length : Int) ≤ 12 by omega, show ¬ (b.Keys.length : Int) ≤ 4096 by omega]
      · simp [h1, h2, h3, show (1 : Int) ≤ b.Module.length by omega, show (b.Module.length : Int) ≤ 12 by omega, show (b.Keys.length : Int) ≤ 4096 by omega]
/-- The keys' part of a valid table. -/
def vTk (n : Int) : Int → List Key → Bool
  | _, [] => true
  | last, k :: r => vK k && (decide (last < k.Id) && (decide (k.Id < n) && (decide (k.Parent < n) && vTk n k.Id r)))
def vT (t : Table) : Bool := decide ((t.Keys.length : Int) ≤ 4096) && (inB t.Next 1 2147483647 && vTk t.Next 0 t.Keys)
structure wfT (t : Table) : Prop where
  len : t.Keys.length ≤ 1099511627776
  nxt : wfI t.Next
  use : ∀ k ∈ t.Keys, wfI k.Uses
theorem ref27_ValidTable_eq {t : Table} (h : wfT t) : ref27_ValidTable t = some (vT t) := by
  unfold ref27_ValidTable vT
  have hl := h.len
  have hloop : loopF (ref27_ValidTable.l2 t) ((0 : Int), (0 : Int)) = some (vTk t.Next 0 t.Keys) := by
    have := loop_list (l := t.Keys) (step := ref27_ValidTable.l2 t) (fun s => s.2) (fun s r => vTk t.Next s.1 r) (fun _ => True) ?_ ?_ (0, 0) 0 trivial rfl (Nat.zero_le _)
    · simpa using this
    · rintro ⟨last, s⟩ x r k _ hk hd hx hlt
      have hk : s = (k : Int) := hk
      subst hk
      unfold ref27_ValidTable.l2
      dsimp only
      have g : ∀ {β : Type} (f : Unit → Option β), (grd (0 ≤ (k : Int) ∧ (k : Int) < (t.Keys.length : Int))).bind f = f () := fun f => grd_t ⟨by omega, by omega⟩ f
      rw [if_pos (by simpa using hlt)]
      simp only [g, hx, ref27_Valid_eq (h.use x (mem_drop hd)), Option.bind_some]
      have e : ∀ {α : Type} (f : Bool → Option α), (if (!vK x) = true then some true else if decide (x.Id ≤ last) = true then some true else if decide (t.Next ≤ x.Id) = true then some true else some (decide (t.Next ≤ x.Parent))).bind f =
          f (!(vK x && (decide (last < x.Id) && (decide (x.Id < t.Next) && decide (x.Parent < t.Next))))) := by
        intro α f
        cases vK x with
        | false => rfl
        | true =>
          by_cases h1 : x.Id ≤ last
          · simp [h1, show ¬ last < x.Id by omega]
          · by_cases h2 : t.Next ≤ x.Id
            · simp [h1, h2, show last < x.Id by omega, show ¬ x.Id < t.Next by omega]
            · by_cases h3 : t.Next ≤ x.Parent
              · simp [h1, h2, h3, show last < x.Id by omega, show x.Id < t.Next by omega, show ¬ x.Parent < t.Next by omega]
              · simp [h1, h2, h3, show last < x.Id by omega, show x.Id < t.Next by omega, show x.Parent < t.Next by omega]
      rw [e]
      simp only [vTk]
      cases hv : (vK x && (decide (last < x.Id) && (decide (x.Id < t.Next) && decide (x.Parent < t.Next)))) with
      | true =>
        refine .inl ⟨(x.Id, k + 1), ?_, rfl, trivial, ?_⟩
        · rw [if_neg (by simp), wrap_id (by omega) (by omega)]
        · simp only [← Bool.and_assoc] at hv ⊢
          rw [hv]
          simp
      | false =>
        refine .inr ?_
        rw [if_pos (by simp)]
        simp only [← Bool.and_assoc] at hv ⊢
        rw [hv]
        simp
    · rintro ⟨last, s⟩ _ hs
      have hs : s = (t.Keys.length : Int) := hs
      subst hs
      unfold ref27_ValidTable.l2
      dsimp only
      rw [if_neg (by simp)]
      simp [vTk, ref27_ValidTable.j1]
  rw [hloop]
  simp only [ref27_within_eq, Option.bind_some]
  by_cases h1 : (4096 : Int) < t.Keys.length
  · simp [h1, show ¬ (t.Keys.length : Int) ≤ 4096 by omega]
  · simp only [h1, decide_false, Bool.false_eq_true, if_false, Option.bind_some, show (t.Keys.length : Int) ≤ 4096 by omega, decide_true, Bool.true_and]
    cases inB t.Next 1 2147483647 <;> rfl
end Go.Cu
