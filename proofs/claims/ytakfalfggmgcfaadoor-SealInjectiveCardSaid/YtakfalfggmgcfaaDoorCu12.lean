/- Rules for walks over facts, for any program; no condition. -/
import Derived.Test.YtakfalfggmgcfaaDoorCu11
import Derived.ChangeKeysEq
set_option linter.unusedSimpArgs false
set_option linter.unusedVariables false
/-! Equality of structs and arrays. -/
namespace Go.Cu
section
variable {P : Program} {w : World} {t : TypeId} {A : List Value} {o n : Nat}
def Eqi {α : Type} [DecidableEq α] (P : Program) (k : Nat) (t : TypeId) (C : α → List Value) : Prop :=
  ∀ (d : Nat) (i j : α) (w : World), (Op.equalIn (d + k) t (.agg (C i).toArray) (.agg (C j).toArray)).run P w = .ok (decide (i = j)) w

theorem Eqi.st {α : Type} [DecidableEq α] {C : α → List Value} {k : Nat} {fs : Array Field} (hu : P.underlying t = some (.struct fs)) (hp : P.stoodInHeld t = false)
    (h : ∀ (d : Nat) (i j : α) (w : World), (Op.eqFields (d + k) (C i).toArray (C j).toArray fs.toList).run P w = .ok (decide (i = j)) w) : Eqi P (k + 1) t C := by
  intro d i j w
  have hf : P.fieldsOf t = fs := by simp [Program.fieldsOf, hu]
  have := run_equalIn_struct (P := P) w (d + k) t (C i).toArray (C j).toArray (by rw [hf]; exact hu) hp
  rw [hf] at this
  exact this.trans (h d i j w)
theorem EQ.mk {α : Type} [DecidableEq α] {C : α → List Value} {k : Nat} (hm : P.eqGuardType P.depth t = false) (h : Eqi P k t C) (hk : k ≤ 10000) : EQ P t (fun x => .agg (C x).toArray) := by
  intro ρ dst x y t' ty pos af gd i j w hx hy
  obtain ⟨m, hm'⟩ := Nat.le.dest hk
  have e := h m i j w
  rw [show m + k = 10000 by omega] at e
  constructor
  · simp only [execOp, hx, hy, Sem.run_bind, run_eqGuard_agg w .eql t x y _ _ hm, Result.andThen_ok, run_eql_struct, e]
    simp
  · simp only [execOp, hx, hy, Sem.run_bind, run_eqGuard_agg w .neq t x y _ _ hm, Result.andThen_ok, run_neq_struct, e]
    simp
end
end Go.Cu
