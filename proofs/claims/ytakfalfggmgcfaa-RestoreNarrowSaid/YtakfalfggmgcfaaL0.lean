/- Plain laws on the pure functions; no program is named. -/
import Derived.Test.Ytakfalfggmgcfaa1P
set_option linter.unusedVariables false
set_option linter.unusedSimpArgs false
/-! Plain laws: loops over lists. -/
namespace Go.Cu
theorem wrap_id {n : Int} (h0 : -9223372036854775808 ≤ n) (h1 : n ≤ 9223372036854775807) : IntKind.i64.wrap n = n := by
  simp [IntKind.wrap, IntKind.signed, IntKind.bits]
  omega
theorem rd_cons {α : Type} [Inhabited α] {l r : List α} {x : α} {k : Nat} (h : l.drop k = x :: r) : rd l (k : Int) = x := by
  have : l[k]? = some x := by
    have := congrArg (fun m => m[0]?) h
    simpa using this
  simp [rd, List.getD, this]
theorem drop_lt {α : Type} {l r : List α} {x : α} {k : Nat} (h : l.drop k = x :: r) : k < l.length := by
  rcases Nat.lt_or_ge k l.length with h' | h'
  · exact h'
  · rw [List.drop_of_length_le h'] at h; cases h
theorem drop_next {α : Type} {l r : List α} {x : α} {k : Nat} (h : l.drop k = x :: r) : l.drop (k + 1) = r := by
  rw [← List.drop_drop, h]; rfl
/-- A loop over a list's indices comes to what a recursion over the list says. -/
theorem loop_list {α σ ρ : Type} [Inhabited α] {l : List α} {step : σ → Option (σ ⊕ ρ)} (ix : σ → Int) (G : σ → List α → ρ) (Inv : σ → Prop)
    (h : ∀ s x r (k : Nat), Inv s → ix s = k → l.drop k = x :: r → rd l k = x → k < l.length →
      (∃ s', step s = some (.inl s') ∧ ix s' = k + 1 ∧ Inv s' ∧ G s' r = G s (x :: r)) ∨ step s = some (.inr (G s (x :: r))))
    (he : ∀ s, Inv s → ix s = l.length → step s = some (.inr (G s []))) : ∀ (s : σ) (k : Nat), Inv s → ix s = k → k ≤ l.length → loopF step s = some (G s (l.drop k)) := by
  intro s k hi hk hl
  obtain ⟨n, hn⟩ : ∃ n, n = l.length - k := ⟨_, rfl⟩
  induction n generalizing s k with
  | zero =>
    have : k = l.length := by omega
    subst this
    rw [List.drop_length]
    exact loopF_done (he s hi (by omega))
  | succ n ih =>
    have hlt : k < l.length := by omega
    have hd : l.drop k = l[k] :: l.drop (k + 1) := List.drop_eq_getElem_cons hlt
    rcases h s _ _ k hi hk hd (rd_cons hd) hlt with ⟨s', h1, h2, h3, h4⟩ | h1
    · rw [loopF_next h1, ih s' (k + 1) h3 (by omega) (by omega) (by omega), hd, h4]
    · rw [loopF_done h1, hd]
end Go.Cu
