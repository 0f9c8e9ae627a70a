/- Rules for walks over facts, for any program; no condition. -/
import Derived.Test.YtakfalfggmgcfaaDoorCu22
set_option linter.unusedVariables false
set_option linter.unusedSimpArgs false
/-! Slices of slices. -/
namespace Go.Cu
open Go
def FVl : Fl Value := ⟨fun v => [v], 1, fun _ => rfl⟩
/-- A slice whose elements are slices. -/
def RSS {α : Type} (F : Fl α) (M : Heap) (v : Value) (L : List (List α)) : Prop :=
  ∃ vs : List Value, RS FVl M v vs ∧ vs.length = L.length ∧ ∀ (i : Nat) (u : Value) (l : List α), vs[i]? = some u → L[i]? = some l → RS F M u l
theorem RSS.mono {α : Type} {F : Fl α} {M M' : Heap} {v : Value} {L : List (List α)} (h : RSS F M v L) (hM : HLe M M') : RSS F M' v L := by
  obtain ⟨vs, h1, h2, h3⟩ := h
  exact ⟨vs, h1.mono hM, h2, fun i u l hu hl => (h3 i u l hu hl).mono hM⟩
theorem RSS.none {α : Type} {F : Fl α} {M : Heap} : RSS F M (.slice none 0 0) ([] : List (List α)) := ⟨[], .inl ⟨rfl, rfl⟩, rfl, fun i u l hu => by simp at hu⟩
theorem RSS.cells1 {α : Type} {F : Fl α} {M : Heap} {v : Value} {L : List (List α)} (h : RSS F M v L) : v.cells = [v].toArray := by
  obtain ⟨vs, h1, _⟩ := h; exact h1.cells1
/-- The elements, one after the other. -/
inductive RSL {α : Type} (F : Fl α) (M : Heap) : List Value → List (List α) → Prop
  | nil : RSL F M [] []
  | cons {u : Value} {l : List α} {vs : List Value} {L : List (List α)} (h : RS F M u l) (t : RSL F M vs L) : RSL F M (u :: vs) (l :: L)
theorem RSL.len {α : Type} {F : Fl α} {M : Heap} {vs : List Value} {L : List (List α)} (h : RSL F M vs L) : vs.length = L.length := by
  induction h with
  | nil => rfl
  | cons _ _ ih => simp [ih]
theorem RSL.get {α : Type} {F : Fl α} {M : Heap} {vs : List Value} {L : List (List α)} (h : RSL F M vs L) : ∀ (i : Nat) (u : Value) (l : List α), vs[i]? = some u → L[i]? = some l → RS F M u l := by
  induction h with
  | nil => intro i u l hu; simp at hu
  | cons h _ ih =>
    intro i u l hu hl
    cases i with
    | zero => simp at hu hl; subst hu hl; exact h
    | succ i => exact ih i u l (by simpa using hu) (by simpa using hl)
theorem RSS.of {α : Type} {F : Fl α} {M : Heap} {v : Value} {vs : List Value} {L : List (List α)} (h : RS FVl M v vs) (hl : RSL F M vs L) : RSS F M v L := ⟨vs, h, hl.len, hl.get⟩
theorem RSL.cells {α : Type} {F : Fl α} {M : Heap} {vs : List Value} {L : List (List α)} (h : RSL F M vs L) : vs.map (fun v => v.cells.toList) = vs.map FVl.f := by
  induction h with
  | nil => rfl
  | cons h _ ih => simp only [List.map_cons, ih, h.cells1]; rfl
section
variable {α : Type} {P : Program} {w : World} {M : Heap} {F : Fl α} {v : Value} {L : List (List α)} {ρ : Operand → Value} {dst : Option Tmp} {ty : TypeId} {pos : String} {af : Array Edge} {gd : Option (Nat × Bool)}
theorem r_iSS {x y : Operand} {t e : TypeId} {k : IntKind} {i : Int} (ht : P.underlying t = some (.slice e)) (hs : TSize P e 1) (h : RSS F M v L) (hx : ρ x = v) (hy : ρ y = .int k i)
    (h0 : 0 ≤ i) (h1 : i < L.length) : (execOp ρ ⟨dst, .indexAddr t x y, ty, pos, af, gd⟩).run P w = .ok (.value (eP v i 1 0)) w := by
  obtain ⟨vs, h2, h3, _⟩ := h
  exact r_iR (F := FVl) ht hs h2 hx hy h0 (by rw [h3]; exact h1)
theorem r_lenSS {x : Operand} {t e : TypeId} (ht : P.underlying t = some (.slice e)) (h : RSS F M v L) (hx : ρ x = v) :
    (execOp ρ ⟨dst, .call ⟨.builtin .len, [x].toArray, [t].toArray⟩, ty, pos, af, gd⟩).run P w = .ok (.value (.int .i64 L.length)) w := by
  obtain ⟨vs, h2, h3, _⟩ := h
  rw [← h3]
  exact r_lenR (F := FVl) ht h2 hx
theorem r_loadSS {x : Operand} {t : TypeId} {i : Int} (ht : TAgg P t false) (h : RSS F M v L) (hs : Sub M w) (h0 : 0 ≤ i) (h1 : i < L.length) (hx : ρ x = eP v i 1 0) :
    ∃ u, (execOp ρ ⟨dst, .load t x, ty, pos, af, gd⟩).run P w = .ok (.value u) w ∧ RS F M u (rd L i) := by
  obtain ⟨vs, h2, h3, h4⟩ := h
  have h1' : i < vs.length := by rw [h3]; exact h1
  haveI : Inhabited Value := ⟨.int .i64 0⟩
  refine ⟨rd vs i, r_loadE1 (F := FVl) ht h2 hs h0 h1' hx rfl, h4 i.toNat _ _ (rd_get h0 h1') (rd_get h0 h1)⟩
end
end Go.Cu
