/- Plain laws on the pure functions; no program is named. -/
import Derived.Test.YtakfalfggmgcfaaL5
set_option linter.unusedVariables false
set_option linter.unusedSimpArgs false
/-! Plain laws: what a plan does to a valid table. -/
namespace Go.Cu
theorem twinM_app (k : Key) (m : List Key) : ∀ l, (twinM k l).2 = true → twinM k (l ++ m) = twinM k l
  | [], h => by cases h
  | x :: r, h => by
    simp only [List.cons_append, twinM] at h ⊢
    split
    · rfl
    · rename_i hx
      rw [if_neg hx] at h
      exact twinM_app k m r h
theorem twinM_mem (k : Key) : ∀ l, (twinM k l).2 = true → ∃ y ∈ l, y.Id = (twinM k l).1
  | [], h => by cases h
  | x :: r, h => by
    simp only [twinM] at h ⊢
    split
    · exact ⟨x, by simp, rfl⟩
    · rename_i hx
      rw [if_neg hx] at h
      obtain ⟨y, hy, e⟩ := twinM_mem k r h
      exact ⟨y, by simp [hy], e⟩
theorem twinM_last (k x : Key) (hx : likeB k x = true) : ∀ l, (twinM k (l ++ [x])).2 = true
  | [] => by simp [twinM, hx]
  | y :: r => by
    simp only [List.cons_append, twinM]
    split
    · rfl
    · exact twinM_last k x hx r
/-- What Plan adds behind a table. -/
def NewOk (now : Int) (bk : List Key) : Table → List Key → Prop
  | _, [] => True
  | t, x :: r => x.Id = t.Next ∧ (∃ y ∈ bk, x = { y with Id := x.Id, Parent := x.Parent }) ∧ (x.Parent = 0 ∨ ∃ y ∈ t.Keys, y.Id = x.Parent) ∧ now < x.End ∧ vK x = true ∧ x.Parent < t.Next ∧ t.Keys.length < 4096 ∧ t.Next < 2147483647 ∧ NewOk now bk ⟨t.Next + 1, t.Keys ++ [x]⟩ r
theorem addM_ok {t : Table} {k : Key} (h : (addM t k).2.2 = 0) : addM t k = (⟨t.Next + 1, t.Keys ++ [{ k with Id := t.Next }]⟩, t.Next, 0) ∧ vK k = true ∧ k.Parent < t.Next ∧ t.Keys.length < 4096 ∧ t.Next < 2147483647 := by
  unfold addM at h ⊢
  split at h
  · cases h
  · rename_i h1
    split at h
    · cases h
    · rename_i h2
      rw [if_neg h1, if_neg h2]
      simp only [Bool.or_eq_true, Bool.not_eq_true', decide_eq_true_eq, not_or] at h1 h2
      exact ⟨rfl, by simpa using h1.1, by omega, by omega, by omega⟩
theorem planM_ok (now : Int) (bk : List Key) : ∀ (l : List Key) (t : Table) (f : Int → Int) (ids : List Int), (∀ y ∈ l, y ∈ bk) → (∀ x, f x = 0 ∨ ∃ y ∈ t.Keys, y.Id = f x) → (planM now t f ids l).2.2 = 0 →
    ∃ new, NewOk now bk t new ∧ planM now t f ids l = (⟨t.Next + new.length, t.Keys ++ new⟩, ids ++ new.map Key.Id, 0) ∧ ∀ k ∈ l, k.End ≤ now ∨ (twinM k (t.Keys ++ new)).2 = true
  | [], t, f, ids, _, _, _ => ⟨[], trivial, by simp [planM], by simp⟩
  | k :: r, t, f, ids, hm, hf, h => by
    have hm' : ∀ y ∈ r, y ∈ bk := fun y hy => hm y (by simp [hy])
    rw [planM] at h ⊢
    split
    · rename_i h1
      rw [if_pos h1] at h
      obtain ⟨new, a, b, c⟩ := planM_ok now bk r t f ids hm' hf h
      refine ⟨new, a, b, ?_⟩
      intro y hy
      rcases List.mem_cons.1 hy with rfl | hy
      · exact .inl h1
      · exact c y hy
    · rename_i h1
      rw [if_neg h1] at h
      split
      · rename_i h2
        rw [if_pos h2] at h
        have hf' : ∀ x, upd f k.Id (twinM k t.Keys).1 x = 0 ∨ ∃ y ∈ t.Keys, y.Id = upd f k.Id (twinM k t.Keys).1 x := by
          intro x
          unfold upd
          split
          · exact .inr (twinM_mem k _ h2)
          · exact hf x
        obtain ⟨new, a, b, c⟩ := planM_ok now bk r t _ ids hm' hf' h
        refine ⟨new, a, b, ?_⟩
        intro y hy
        rcases List.mem_cons.1 hy with rfl | hy
        · exact .inr (by rw [twinM_app _ _ _ h2]; exact h2)
        · exact c y hy
      · rename_i h2
        rw [if_neg h2] at h
        split
        · rename_i h3
          rw [if_pos h3] at h
          exact absurd h h3
        · rename_i h3
          rw [if_neg h3] at h
          obtain ⟨e, g1, g2, g3, g4⟩ := addM_ok (by simpa using h3)
          rw [e] at h ⊢
          dsimp only at h ⊢
          have hf' : ∀ x, upd f k.Id t.Next x = 0 ∨ ∃ y ∈ t.Keys ++ [{ ({ k with Parent := f k.Parent } : Key) with Id := t.Next }], y.Id = upd f k.Id t.Next x := by
            intro x
            unfold upd
            split
            · exact .inr ⟨_, by simp; right; rfl, rfl⟩
            · rcases hf x with h | ⟨y, hy, e⟩
              · exact .inl h
              · exact .inr ⟨y, by simp [hy], e⟩
          obtain ⟨new, a, b, c⟩ := planM_ok now bk r ⟨t.Next + 1, t.Keys ++ [{ ({ k with Parent := f k.Parent } : Key) with Id := t.Next }]⟩ (upd f k.Id t.Next) (ids ++ [t.Next]) hm' hf' h
          refine ⟨{ ({ k with Parent := f k.Parent } : Key) with Id := t.Next } :: new, ⟨rfl, ⟨k, hm k (by simp), rfl⟩, hf k.Parent, by dsimp only; omega, by exact g1, g2, by omega, g4, a⟩, ?_, ?_⟩
          · rw [b]
            simp
            omega
          · intro y hy
            rcases List.mem_cons.1 hy with rfl | hy
            · right
              have : (twinM y (t.Keys ++ [{ ({ y with Parent := f y.Parent } : Key) with Id := t.Next }])).2 = true := twinM_last _ _ (by simp [likeB]) _
              rw [← List.append_cons, ] at *
              have e2 : t.Keys ++ ({ ({ y with Parent := f y.Parent } : Key) with Id := t.Next } :: new) = (t.Keys ++ [{ ({ y with Parent := f y.Parent } : Key) with Id := t.Next }]) ++ new := by simp
              rw [e2, twinM_app _ _ _ this]
              exact this
            · have := c y hy
              simpa using this
theorem vTk_snoc {n m : Int} {x : Key} (hmn : m ≤ n) (h1 : vK x = true) (h2 : x.Id = m) (h3 : m < n) (h4 : x.Parent < n) : ∀ (l : List Key) (last : Int), last < m → vTk m last l = true → vTk n last (l ++ [x]) = true
  | [], last, h, _ => by simp [vTk, h1, h2, h3, h4, h]
  | k :: r, last, h, hv => by
    simp only [List.cons_append, vTk, Bool.and_eq_true, decide_eq_true_eq] at hv ⊢
    obtain ⟨a, b, c, d, e⟩ := hv
    exact ⟨a, b, by omega, by omega, vTk_snoc hmn h1 h2 h3 h4 r k.Id c e⟩
theorem vT_new {now : Int} {bk : List Key} : ∀ (new : List Key) (t : Table), vT t = true → NewOk now bk t new → vT ⟨t.Next + new.length, t.Keys ++ new⟩ = true
  | [], t, h, _ => by simpa using h
  | x :: r, t, h, hn => by
    obtain ⟨a1, _, _, _, a5, a6, a7, a8, a9⟩ := hn
    have ht : vT ⟨t.Next + 1, t.Keys ++ [x]⟩ = true := by
      simp only [vT, inB, Bool.and_eq_true, decide_eq_true_eq] at h ⊢
      obtain ⟨b1, ⟨b2, b3⟩, b4⟩ := h
      refine ⟨by simp; omega, ⟨by omega, by omega⟩, ?_⟩
      exact vTk_snoc (m := t.Next) (by omega) a5 a1 (by omega) (by omega) t.Keys 0 (by omega) b4
    have := vT_new r _ ht a9
    have e : (⟨t.Next + ((x :: r).length : Int), t.Keys ++ x :: r⟩ : Table) = ⟨t.Next + 1 + (r.length : Int), t.Keys ++ [x] ++ r⟩ := by
      simp
      omega
    rw [e]
    exact this
/-- A plan of what is already held adds nothing. -/
theorem planM_held (now : Int) (t : Table) : ∀ (l : List Key) (f : Int → Int) (ids : List Int), holdsM t now l = true → planM now t f ids l = (t, ids, 0)
  | [], f, ids, _ => rfl
  | k :: r, f, ids, h => by
    simp only [holdsM, List.all_cons, Bool.and_eq_true, Bool.or_eq_true, decide_eq_true_eq] at h
    obtain ⟨h1, h2⟩ := h
    rw [planM]
    split
    · exact planM_held now t r f ids h2
    · rename_i h3
      rw [if_pos (h1.resolve_left h3)]
      exact planM_held now t r _ ids h2
theorem holdsM_later {t : Table} {now later : Int} (h : now ≤ later) {l : List Key} (hh : holdsM t now l = true) : holdsM t later l = true := by
  simp only [holdsM, List.all_eq_true, Bool.or_eq_true, decide_eq_true_eq] at hh ⊢
  intro k hk
  rcases hh k hk with h1 | h1
  · exact .inl (by omega)
  · exact .inr h1
theorem newOk_use {now : Int} {bk : List Key} (hb : ∀ k ∈ bk, wfI k.Uses) : ∀ (new : List Key) (t : Table), NewOk now bk t new → ∀ k ∈ new, wfI k.Uses
  | [], _, _, k, hk => by cases hk
  | x :: r, t, h, k, hk => by
    obtain ⟨_, ⟨y, hy, e⟩, _, _, _, _, _, _, h9⟩ := h
    rcases List.mem_cons.1 hk with rfl | hk
    · have := hb y hy
      rw [e]
      exact this
    · exact newOk_use hb r _ h9 k hk
/-- A plan that fails hands back nothing. -/
theorem planM_bad (now : Int) : ∀ (l : List Key) (t : Table) (f : Int → Int) (ids : List Int), (planM now t f ids l).2.2 ≠ 0 → (planM now t f ids l).1 = ⟨0, []⟩ ∧ (planM now t f ids l).2.1 = []
  | [], t, f, ids, h => absurd rfl h
  | k :: r, t, f, ids, h => by
    rw [planM] at h ⊢
    split
    · rename_i h1
      rw [if_pos h1] at h
      exact planM_bad now r _ _ _ h
    · rename_i h1
      rw [if_neg h1] at h
      split
      · rename_i h2
        rw [if_pos h2] at h
        exact planM_bad now r _ _ _ h
      · rename_i h2
        rw [if_neg h2] at h
        split
        · exact ⟨rfl, rfl⟩
        · rename_i h3
          rw [if_neg h3] at h
          exact planM_bad now r _ _ _ h
theorem planR_bad {t : Table} {b : Backup} {now : Int} (h : (planR t b now).2.2 ≠ 0) : (planR t b now).1 = ⟨0, []⟩ ∧ (planR t b now).2.1 = [] := by
  unfold planR at h ⊢
  split
  · exact ⟨rfl, rfl⟩
  · rename_i h1
    rw [if_neg h1] at h
    exact planM_bad _ _ _ _ _ h
theorem planR_ok {t : Table} {b : Backup} {now : Int} (h : (planR t b now).2.2 = 0) : vBk b = true ∧ 0 ≤ now ∧ now ≤ 1099511627776 ∧
    ∃ new, NewOk now b.Keys t new ∧ planR t b now = (⟨t.Next + new.length, t.Keys ++ new⟩, new.map Key.Id, 0) ∧ holdsM ⟨t.Next + new.length, t.Keys ++ new⟩ now b.Keys = true := by
  unfold planR at h ⊢
  split at h
  · cases h
  · rename_i h1
    rw [if_neg h1]
    simp only [Bool.or_eq_true, Bool.not_eq_true', decide_eq_true_eq, not_or] at h1
    refine ⟨by simpa using h1.1, by omega, by omega, ?_⟩
    obtain ⟨new, a, b', c⟩ := planM_ok now b.Keys b.Keys t (fun _ => 0) [] (fun y hy => hy) (fun _ => .inl rfl) h
    refine ⟨new, a, by simpa using b', ?_⟩
    simp only [holdsM, List.all_eq_true, Bool.or_eq_true, decide_eq_true_eq]
    exact c
theorem planR_held {t : Table} {b : Backup} {now : Int} (hb : vBk b = true) (h0 : 0 ≤ now) (h1 : now ≤ 1099511627776) (h : holdsM t now b.Keys = true) : planR t b now = (t, [], 0) := by
  unfold planR
  rw [if_neg (by simp [hb]; omega)]
  exact planM_held now t _ _ _ h
end Go.Cu
