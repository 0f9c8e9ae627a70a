/- Rules for walks over facts, for any program; no condition. -/
import Derived.Test.YtakfalfggmgcfaaDoorCu9
set_option linter.unusedSimpArgs false
set_option linter.unusedVariables false
/-! Small facts that the printed walks lean on. -/
namespace Go.Cu
theorem RS.none {α : Type} {F : Fl α} {M : Heap} : RS F M (.slice .none 0 0) [] := .inl ⟨rfl, rfl⟩
theorem RS.one {α : Type} {F : Fl α} {M : Heap} {v : Value} {l : List α} (h : RS F M v l) : v.oneCell' = true := by
  rcases h with ⟨rfl, _⟩ | ⟨_, _, _, _, _, _, rfl, _⟩ <;> rfl
theorem one1 {v : Value} (h : v.oneCell' = true) : ∀ u ∈ [v], u.oneCell' = true := by
  intro u hu; simp at hu; subst hu; exact h
theorem one_nil : ∀ u ∈ ([] : List Value), u.oneCell' = true := by intro u hu; cases hu
theorem one_cons {v : Value} {l : List Value} (h : v.oneCell' = true) (h' : ∀ u ∈ l, u.oneCell' = true) : ∀ u ∈ v :: l, u.oneCell' = true := by
  intro u hu; rcases List.mem_cons.1 hu with hu | hu
  · subst hu; exact h
  · exact h' u hu
theorem one_app {l m : List Value} (h : ∀ u ∈ l, u.oneCell' = true) (h' : ∀ u ∈ m, u.oneCell' = true) : ∀ u ∈ l ++ m, u.oneCell' = true := by
  intro u hu; rcases List.mem_append.1 hu with hu | hu
  · exact h u hu
  · exact h' u hu
theorem splice_all (A vs : List Value) (h : vs.length = A.length) : splice A 0 vs = vs := by simp [splice, h]
theorem FnS.of {α β : Type} {P : Program} {M : Heap} {f : FuncId} {caps : Array Value} {enc : α → Value} {dec : β → Value} {p : α → Option β} (hcf : CF P f)
    (h : ∀ M' w x r, HLe M M' → Sub M' w → p x = some r → Calls P f (#[enc x] ++ caps) w (Post M' w fun _ v => v = dec r)) : FnS P M (.func (.func f) #[] caps) enc dec p :=
  fun M' w x r hle hs hp => ⟨f, #[], caps, rfl, hcf, h M' w x r hle hs hp⟩
end Go.Cu
