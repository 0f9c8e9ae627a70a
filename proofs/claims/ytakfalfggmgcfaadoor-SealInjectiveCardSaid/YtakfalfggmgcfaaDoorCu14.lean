/- Rules for walks over facts, for any program; no condition. -/
import Derived.Test.YtakfalfggmgcfaaDoorCu13
set_option linter.unusedSimpArgs false
set_option linter.unusedVariables false
/-! Struct literals that hold arrays. -/
namespace Go.Cu
theorem foldl_set (vs : List Value) : ∀ (A : List Value) (o k : Nat), o + k + vs.length ≤ A.length →
    (vs.zipIdx k).foldl (fun (cs : Array Value) (p : Value × Nat) => cs.setIfInBounds (o + p.2) p.1) A.toArray = (splice A (o + k) vs).toArray := by
  induction vs with
  | nil => intro A o k _; simp [splice]
  | cons v vs ih =>
    intro A o k h
    simp only [List.length_cons] at h
    have h1 : A.toArray.setIfInBounds (o + k) v = (A.set (o + k) v).toArray := by simp
    simp only [List.zipIdx_cons, List.foldl_cons, h1]
    rw [ih _ _ _ (by simp; omega), splice_cons _ _ _ _ (by omega)]
    rfl
inductive Fills (pl : List (Nat × Nat)) : List Value → List (Nat × Value) → List Value → Prop
  | nil {A : List Value} : Fills pl A [] A
  | cons {A B C vs : List Value} {i o n : Nat} {v : Value} {r : List (Nat × Value)} (h1 : pl[i]? = some (o, n)) (h2 : v.cells = vs.toArray) (h3 : vs.length = n) (h4 : o + n ≤ A.length)
      (h5 : splice A o vs = B) (h : Fills pl B r C) : Fills pl A ((i, v) :: r) C
theorem Fills.fill {pl : List (Nat × Nat)} {A C : List Value} {r : List (Nat × Value)} (h : Fills pl A r C) : Instr.fill (pl.toArray[·]?) A.toArray r = some C.toArray := by
  induction h with
  | nil => rfl
  | @cons A B C vs i o n v r h1 h2 h3 h4 h5 h ih =>
    unfold Instr.fill
    have e : pl.toArray[i]? = some (o, n) := by simpa using h1
    simp only [e, h2]
    rw [if_neg (by simp; omega)]
    have := foldl_set vs A o 0 (by omega)
    simp only [Nat.add_zero] at this
    rw [h5] at this
    have e2 : (vs.toArray.zipIdx.foldl (fun cs x => match x with | (c, j) => cs.setIfInBounds (o + j) c) A.toArray) = B.toArray := by
      rw [← this, ← Array.foldl_toList]
      simp
    rw [e2]; exact ih
theorem built_of {P : Program} {t : TypeId} {z : Value} {fs : Array Field} {pl : List (Nat × Nat)} {A0 C : List Value} {r : List (Nat × Value)} (hz : TZero P t z) (hu : P.underlying t = some (.struct fs))
    (hp : fs.toList.mapM (fun f => (P.info? f.type).map fun i => (f.offset, i.size)) = some pl) (h0 : z.cells = A0.toArray) (h : Fills pl A0 r C) : P.built t r = some C.toArray := by
  unfold TZero at hz
  cases hi : P.info? t with
  | none => rw [hi] at hz; cases hz
  | some it =>
    rw [hi] at hz
    simp only [Option.map_some, Option.some.injEq] at hz
    simp only [Program.built, hi, hu, hz, hp, h0]
    exact h.fill
end Go.Cu
