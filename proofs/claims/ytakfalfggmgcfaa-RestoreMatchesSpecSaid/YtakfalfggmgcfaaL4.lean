/- Plain laws on the pure functions; no program is named. -/
import Derived.Test.YtakfalfggmgcfaaL3
set_option linter.unusedVariables false
set_option linter.unusedSimpArgs false
/-! Plain laws: what Plan of a backup is. -/
namespace Go.Cu
def addM (t : Table) (k : Key) : Table × Int × Int :=
  if !vK k || decide (t.Next ≤ k.Parent) then (⟨0, []⟩, 0, 1)
  else if decide ((4096 : Int) ≤ t.Keys.length) || decide (2147483647 ≤ t.Next) then (⟨0, []⟩, 0, 2)
  else (⟨t.Next + 1, t.Keys ++ [{ k with Id := t.Next }]⟩, t.Next, 0)
theorem keys_Add_eq {t : Table} {k : Key} (hn : wfI t.Next) : keys_Add t k = some (addM t k) := by
  unfold keys_Add addM
  rw [keys_Valid_eq]
  simp only [Option.bind_some, slices_Clip_Key]
  cases hv : vK k with
  | false => rfl
  | true =>
    by_cases h1 : t.Next ≤ k.Parent
    · simp [h1]
    · by_cases h2 : (4096 : Int) ≤ t.Keys.length
      · simp [h1, h2]
      · by_cases h3 : 2147483647 ≤ t.Next
        · simp [h1, h2, h3]
        · simp only [Bool.not_true, Bool.false_eq_true, if_false, h1, decide_false, Option.bind_some, h2, h3, Bool.or_false, Bool.or_self]
          rw [grd_t ⟨by simp, by simp; omega⟩, wrap_id (by have := hn.1; omega) (by omega)]
theorem ref27_Add_eq {t : Table} {k : Key} (hn : wfI t.Next) (hu : wfI k.Uses) : ref27_Add t k = some ⟨(addM t k).1, (addM t k).2.1, (addM t k).2.2⟩ := by
  unfold ref27_Add addM
  rw [ref27_Valid_eq hu]
  simp only [Option.bind_some]
  cases hv : vK k with
  | false => rfl
  | true =>
    by_cases h1 : t.Next ≤ k.Parent
    · simp [h1]
    · by_cases h2 : (4096 : Int) ≤ t.Keys.length
      · simp [h1, h2]
      · by_cases h3 : 2147483647 ≤ t.Next
        · simp [h1, h2, h3]
        · simp only [Bool.not_true, Bool.false_eq_true, if_false, h1, decide_false, Option.bind_some, h2, h3, Bool.or_false, Bool.or_self]
          rw [grd_t (by simp; omega), grd_t (by simp; omega), wrap_id (by have := hn.1; omega) (by omega)]
          simp
def upd (f : Int → Int) (k v : Int) : Int → Int := fun x => if x = k then v else f x
def planM (now : Int) : Table → (Int → Int) → List Int → List Key → Table × List Int × Int
  | t, f, ids, [] => (t, ids, 0)
  | t, f, ids, k :: r =>
    if k.End ≤ now then planM now t f ids r
    else if (twinM k t.Keys).2 then planM now t (upd f k.Id (twinM k t.Keys).1) ids r
    else if (addM t { k with Parent := f k.Parent }).2.2 ≠ 0 then (⟨0, []⟩, [], (addM t { k with Parent := f k.Parent }).2.2)
    else planM now (addM t { k with Parent := f k.Parent }).1 (upd f k.Id (addM t { k with Parent := f k.Parent }).2.1) (ids ++ [(addM t { k with Parent := f k.Parent }).2.1]) r
theorem mget_mput (m : List (Int × Int)) (k v x : Int) : mget (mput m k v) x = upd (mget m) k v x := by
  unfold mput upd
  induction m with
  | nil =>
    by_cases h : x = k
    · subst h; simp [mget]
    · simp [mget, h]
  | cons p m ih =>
    rw [List.findIdx?_cons]
    by_cases hp : k = p.1
    · subst hp
      by_cases h : x = p.1
      · simp [mget, h]
      · simp [mget, h]
    · have hp' : (k == p.1) = false := by simpa using hp
      simp only [hp', Bool.false_eq_true, if_false]
      cases hf : List.findIdx? (fun p => k == p.1) m with
      | none =>
        rw [hf] at ih
        simp only [Option.map_none] at ih ⊢
        by_cases hx : x = p.1
        · have : ¬ x = k := fun e => hp (e ▸ hx)
          simp [mget, hx, this]
          intro e; exact absurd e.symm hp
        · have hx' : (x == p.1) = false := by simpa using hx
          simp only [mget, List.cons_append, List.find?_cons, hx'] at ih ⊢
          exact ih
      | some i =>
        rw [hf] at ih
        simp only [Option.map_some] at ih ⊢
        by_cases hx : x = p.1
        · have : ¬ x = k := fun e => hp (e ▸ hx)
          simp [mget, hx]
          intro e; exact absurd e.symm hp
        · have hx' : (x == p.1) = false := by simpa using hx
          simp only [mget, List.set_cons_succ, List.find?_cons, hx'] at ih ⊢
          exact ih
theorem addM_next {t : Table} {k : Key} (hn : wfI t.Next) : wfI (addM t k).1.Next := by
  unfold addM
  split
  · exact ⟨by show (-9223372036854775808 : Int) ≤ 0; omega, by show (0 : Int) ≤ _; omega⟩
  · split
    · exact ⟨by show (-9223372036854775808 : Int) ≤ 0; omega, by show (0 : Int) ≤ _; omega⟩
    · rename_i h
      simp only [Bool.or_eq_true, decide_eq_true_eq, not_or] at h
      exact ⟨by show _ ≤ t.Next + 1; have := hn.1; omega, by show t.Next + 1 ≤ _; omega⟩
theorem addM_len {t : Table} {k : Key} (hl : t.Keys.length ≤ 1099511627776) : (addM t k).1.Keys.length ≤ 1099511627776 := by
  unfold addM
  split
  · simp
  · split
    · simp
    · rename_i h
      simp only [Bool.or_eq_true, decide_eq_true_eq, not_or] at h
      simp; omega
theorem restore_Plan_loop {b : Backup} {now : Int} (h : b.Keys.length ≤ 1099511627) :
    ∀ (t : Table) (m : List (Int × Int)) (ids : List Int), wfI t.Next → t.Keys.length ≤ 1099511627776 → ids = [] →
      loopF (restore_Plan.l3 b now) (t, m, ids, 0) = some (planM now t (mget m) ids b.Keys) := by
  intro t m ids hn hl hi
  have := loop_list (l := b.Keys) (step := restore_Plan.l3 b now) (fun s => s.2.2.2) (fun s r => planM now s.1 (mget s.2.1) s.2.2.1 r)
    (fun s => wfI s.1.Next ∧ s.1.Keys.length ≤ 1099511627776 ∧ (s.2.2.1.length : Int) ≤ s.2.2.2) ?_ ?_ (t, m, ids, 0) 0 ⟨hn, hl, by subst hi; simp⟩ rfl (Nat.zero_le _)
  · simpa using this
  · rintro ⟨t, m, ids, s⟩ x r k ⟨hn, hl, hi⟩ hk hd hx hlt
    dsimp only at hn hl hi hk ⊢
    subst hk
    unfold restore_Plan.l3 restore_Plan.j2
    dsimp only
    rw [if_pos (by simpa using hlt), grd_t ⟨by omega, by omega⟩, hx]
    have hw : IntKind.i64.wrap ((k : Int) + 1) = k + 1 := wrap_id (by omega) (by omega)
    rw [hw, planM]
    by_cases h1 : x.End ≤ now
    · rw [if_pos (by simpa using h1), if_pos h1]
      exact .inl ⟨_, rfl, rfl, ⟨hn, hl, by dsimp only; omega⟩, rfl⟩
    · rw [if_neg (by simpa using h1), if_neg h1, restore_Twin_eq hl]
      simp only [Option.bind_some]
      cases h2 : (twinM x t.Keys).2 with
      | true =>
        rw [if_pos rfl, if_pos rfl]
        refine .inl ⟨_, rfl, rfl, ⟨hn, hl, by dsimp only; omega⟩, ?_⟩
        dsimp only
        rw [show mget (mput m x.Id (twinM x t.Keys).1) = upd (mget m) x.Id (twinM x t.Keys).1 from funext fun y => mget_mput _ _ _ _]
      | false =>
        rw [if_neg (by simp), if_neg (by simp), keys_Add_eq hn]
        simp only [Option.bind_some]
        by_cases h3 : (addM t { x with Parent := mget m x.Parent }).2.2 = 0
        · rw [if_neg (by simp [h3]), if_neg (by simp [h3]), grd_t (by simp; omega)]
          refine .inl ⟨_, rfl, rfl, ⟨addM_next hn, addM_len hl, by simp; omega⟩, ?_⟩
          dsimp only
          rw [show mget (mput m x.Id (addM t { x with Parent := mget m x.Parent }).2.1) = upd (mget m) x.Id (addM t { x with Parent := mget m x.Parent }).2.1 from funext fun y => mget_mput _ _ _ _]
        · rw [if_pos (by simpa using h3), if_pos h3]
          exact .inr rfl
  · rintro ⟨t, m, ids, s⟩ _ hs
    dsimp only at hs ⊢
    subst hs
    unfold restore_Plan.l3 restore_Plan.j1
    dsimp only
    rw [if_neg (by simp)]
    rfl
def planR (t : Table) (b : Backup) (now : Int) : Table × List Int × Int :=
  if !vBk b || (decide (now < 0) || decide (1099511627776 < now)) then (⟨0, []⟩, [], 1) else planM now t (fun _ => 0) [] b.Keys
theorem restore_Plan_eq {t : Table} {b : Backup} {now : Int} (hb : wfB b) (hbl : b.Keys.length ≤ 1099511627) (hn : wfI t.Next) (hl : t.Keys.length ≤ 1099511627) : restore_Plan t b now = some (planR t b now) := by
  unfold restore_Plan planR
  rw [backup_Valid_eq hb]
  simp only [Option.bind_some]
  have e : ∀ {α : Type} (f : Bool → Option α), (if (!vBk b) = true then some true else if decide (now < 0) = true then some true else some (decide (1099511627776 < now))).bind f = f (!vBk b || (decide (now < 0) || decide (1099511627776 < now))) := by
    intro α f
    cases vBk b <;> cases decide (now < 0) <;> rfl
  rw [e]
  cases hc : (!vBk b || (decide (now < 0) || decide (1099511627776 < now))) with
  | true => rfl
  | false =>
    rw [if_neg (by simp), if_neg (by simp), slices_Clone_Key, grd_t (by simp; omega)]
    simp only [Option.bind_some, List.nil_append]
    exact restore_Plan_loop hbl t [] [] hn (by omega) rfl
def lookP (d : Int) : List ref37_pair → Int → Int
  | [], _ => d
  | p :: ps, x => lookP (if p.of_ = x then p.to_ else d) ps x
theorem lookP_app (x : Int) (p : ref37_pair) : ∀ (ps : List ref37_pair) (d : Int), lookP d (ps ++ [p]) x = if p.of_ = x then p.to_ else lookP d ps x
  | [], d => rfl
  | q :: ps, d => by simp only [List.cons_append, lookP]; exact lookP_app x p ps _
theorem lookP_upd (ps : List ref37_pair) (k v : Int) : lookP 0 (ps ++ [⟨k, v⟩]) = upd (lookP 0 ps) k v := by
  funext x
  rw [lookP_app]
  unfold upd
  by_cases h : x = k
  · simp [h]
  · rw [if_neg h, if_neg (fun e => h e.symm)]
theorem ref37_Plan_in {b : Backup} {s : ref37_Planned × List ref37_pair × Int} {k : Key} (hk : rd b.Keys s.2.2 = k) (hl : s.2.1.length ≤ 1099511627776)
    {res : Int → (ref37_Planned × List ref37_pair × Int) ⊕ ref37_Planned} (hj : ∀ x, ref37_Plan.j3 s b x = some (res x)) :
    loopF (ref37_Plan.l5 s b) ((0 : Int), (0 : Int)) = some (res (lookP 0 s.2.1 k.Parent)) := by
  have := loop_list (l := s.2.1) (step := ref37_Plan.l5 s b) (fun s => s.2) (fun u r => res (lookP u.1 r k.Parent)) (fun _ => True) ?_ ?_ (0, 0) 0 trivial rfl (Nat.zero_le _)
  · simpa using this
  · rintro ⟨x, i⟩ p r j _ hi hd hx hlt
    have hi : i = (j : Int) := hi
    subst hi
    unfold ref37_Plan.l5 ref37_Plan.j4
    dsimp only
    have g : ∀ {β : Type} (f : Unit → Option β), (grd (0 ≤ (j : Int) ∧ (j : Int) < (s.2.1.length : Int))).bind f = f () := fun f => grd_t ⟨by omega, by omega⟩ f
    rw [if_pos (by simpa using hlt)]
    simp only [g, hx, hk, wrap_id (n := (j : Int) + 1) (by omega) (by omega), lookP]
    by_cases h : p.of_ = k.Parent
    · rw [if_pos (by simpa using h), if_pos h]
      exact .inl ⟨_, rfl, rfl, trivial, rfl⟩
    · rw [if_neg (by simpa using h), if_neg h]
      exact .inl ⟨_, rfl, rfl, trivial, rfl⟩
  · rintro ⟨x, i⟩ _ hi
    have hi : i = (s.2.1.length : Int) := hi
    subst hi
    unfold ref37_Plan.l5
    dsimp only
    rw [if_neg (by simp), hj]
    rfl
def toP (r : Table × List Int × Int) : ref37_Planned := ⟨r.1, r.2.1, r.2.2⟩
theorem ref37_Plan_loop {b : Backup} {now : Int} (h : b.Keys.length ≤ 1099511627) (hu : ∀ k ∈ b.Keys, wfI k.Uses) {t : Table} (hn : wfI t.Next) (hl : t.Keys.length ≤ 1099511627776) :
      loopF (ref37_Plan.l6 b now) ((⟨t, [], 0⟩ : ref37_Planned), ([] : List ref37_pair), (0 : Int)) = some (toP (planM now t (fun _ => 0) [] b.Keys)) := by
  have := loop_list (l := b.Keys) (step := ref37_Plan.l6 b now) (fun s => s.2.2) (fun s r => toP (planM now s.1.T (lookP 0 s.2.1) s.1.Ids r))
    (fun s => wfI s.1.T.Next ∧ s.1.T.Keys.length ≤ 1099511627776 ∧ (s.1.Ids.length : Int) ≤ s.2.2 ∧ (s.2.1.length : Int) ≤ s.2.2 ∧ s.1.E_ = 0) ?_ ?_ ((⟨t, [], 0⟩ : ref37_Planned), ([] : List ref37_pair), (0 : Int)) 0 ⟨hn, hl, by simp, by simp, rfl⟩ rfl (Nat.zero_le _)
  · simpa [lookP] using this
  · rintro ⟨⟨t, ids, e⟩, m, s⟩ x r k ⟨hn, hl, hi, hm, he⟩ hk hd hx hlt
    dsimp only at hn hl hi hm he hk ⊢
    subst hk
    subst he
    unfold ref37_Plan.l6 ref37_Plan.j2
    dsimp only
    have g : ∀ {β : Type} (f : Unit → Option β), (grd (0 ≤ (k : Int) ∧ (k : Int) < (b.Keys.length : Int))).bind f = f () := fun f => grd_t ⟨by omega, by omega⟩ f
    have hw : IntKind.i64.wrap ((k : Int) + 1) = k + 1 := wrap_id (by omega) (by omega)
    rw [if_pos (by simpa using hlt)]
    simp only [g, hx, hw]
    rw [planM]
    by_cases h1 : x.End ≤ now
    · rw [if_pos (by simpa using h1), if_pos h1]
      exact .inl ⟨_, rfl, rfl, ⟨hn, hl, by dsimp only; omega, by dsimp only; omega, rfl⟩, rfl⟩
    · rw [if_neg (by simpa using h1), if_neg h1, ref37_Twin_eq hl]
      simp only [Option.bind_some]
      cases h2 : (twinM x t.Keys).2 with
      | true =>
        rw [if_pos rfl, if_pos rfl, grd_t (by simp; omega)]
        refine .inl ⟨_, rfl, rfl, ⟨hn, hl, by dsimp only; omega, by simp; omega, rfl⟩, ?_⟩
        dsimp only
        rw [lookP_upd]
      | false =>
        rw [if_neg (by simp), if_neg (by simp)]
        have hj : ∀ y, ref37_Plan.j3 ((⟨t, ids, 0⟩ : ref37_Planned), m, (k : Int)) b y = some (if (addM t { x with Parent := y }).2.2 = 0 then .inl ((⟨(addM t { x with Parent := y }).1, ids ++ [(addM t { x with Parent := y }).2.1], 0⟩ : ref37_Planned), m ++ [⟨x.Id, t.Next⟩], (k : Int) + 1) else .inr ⟨⟨0, []⟩, [], (addM t { x with Parent := y }).2.2⟩) := by
          intro y
          unfold ref37_Plan.j3 ref37_Plan.j2
          dsimp only
          rw [hx, grd_t (by simp; omega), ref27_Add_eq (k := { x with Parent := y }) hn (hu x (mem_drop hd))]
          simp only [Option.bind_some]
          by_cases h3 : (addM t { x with Parent := y }).2.2 = 0
          · rw [if_neg (by simp [h3]), if_pos h3, grd_t (by simp; omega), hw]
          · rw [if_pos (by simpa using h3), if_neg h3]
        rw [ref37_Plan_in (s := ((⟨t, ids, 0⟩ : ref37_Planned), m, (k : Int))) (k := x) hx (by dsimp only; omega) hj]
        dsimp only
        by_cases h3 : (addM t { x with Parent := lookP 0 m x.Parent }).2.2 = 0
        · rw [if_pos h3, if_neg (by simp [h3])]
          refine .inl ⟨_, rfl, rfl, ⟨addM_next hn, addM_len hl, by simp; omega, by simp; omega, rfl⟩, ?_⟩
          dsimp only
          have e : (addM t { x with Parent := lookP 0 m x.Parent }).2.1 = t.Next := by
            revert h3
            unfold addM
            split
            · intro h; cases h
            · split
              · intro h; cases h
              · intro _; rfl
          rw [lookP_upd, e]
        · rw [if_neg h3, if_pos h3]
          exact .inr rfl
  · rintro ⟨⟨t, ids, e⟩, m, s⟩ ⟨_, _, _, _, he⟩ hs
    dsimp only at hs he ⊢
    subst hs
    subst he
    unfold ref37_Plan.l6 ref37_Plan.j1
    dsimp only
    rw [if_neg (by simp)]
    rfl
theorem ref37_Plan_eq {t : Table} {b : Backup} {now : Int} (hb : wfB b) (hbl : b.Keys.length ≤ 1099511627) (hn : wfI t.Next) (hl : t.Keys.length ≤ 1099511627) : ref37_Plan t b now = some (toP (planR t b now)) := by
  unfold ref37_Plan planR
  rw [ref36_Valid_eq hb]
  simp only [Option.bind_some]
  have e : ∀ {α : Type} (f : Bool → Option α), (if (!vBk b) = true then some true else if decide (now < 0) = true then some true else some (decide (1099511627776 < now))).bind f = f (!vBk b || (decide (now < 0) || decide (1099511627776 < now))) := by
    intro α f
    cases vBk b <;> cases decide (now < 0) <;> rfl
  rw [e]
  cases hc : (!vBk b || (decide (now < 0) || decide (1099511627776 < now))) with
  | true => rfl
  | false =>
    rw [if_neg (by simp), if_neg (by simp), grd_t (by simp; omega)]
    simp only [List.nil_append]
    exact ref37_Plan_loop hbl hb.use hn (by show t.Keys.length ≤ _; omega)
end Go.Cu
