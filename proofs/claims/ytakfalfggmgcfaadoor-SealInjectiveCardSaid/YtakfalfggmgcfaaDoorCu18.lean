/- Rules for walks over facts, for any program; no condition. -/
import Derived.Test.YtakfalfggmgcfaaDoorCu17
import Derived.Deep.Slices
import Derived.OpenShut
import Derived.WideShapes
import Derived.ChangeArms
import Derived.SizedLaws
import Derived.Carry
import Derived.Below
set_option linter.unusedVariables false
set_option linter.unusedSimpArgs false
/-! How the arguments of a statement read. -/
namespace Go.Cu
open Go.RowKit Go.ChangeShapes Go.WideShapes Go.Deep
def hp (w : World) : Heap := fun b => w.heap[b]?
theorem hp_sub (w : World) : Sub (hp w) w := fun _ _ h => h
theorem Ext.below {M M' : Heap} {w w' : World} (h : Ext none' M w M' w') : Below w.heap.size w w' := ⟨h.os, h.tape, h.output, h.size, fun k hk => h.block k hk (fun x => x)⟩
/-- Whatever reads at type t is of the form R. -/
def Opn (P : Program) (w : World) (t : TypeId) (R : List Value → Prop) : Prop :=
  ∀ (H : Type) (enc : TypeId × Value → H) (fuel : Nat) (cs : List Value) (x : DataW H × List MemPlace), DataW.trod enc P w 0 (fun _ => true) true fuel t cs = some x → R cs
section
variable {P : Program} {w : World}
theorem Opn.mono {t : TypeId} {R S : List Value → Prop} (h : Opn P w t R) (hs : ∀ cs, R cs → S cs) : Opn P w t S := fun H enc fuel cs x hx => hs cs (h H enc fuel cs x hx)
theorem Opn.of {t : TypeId} {R : List Value → Prop} (h : Opn P w t R) {H : Type} {enc : TypeId × Value → H} {v : Value} {d : DataW H} {ps : List MemPlace} (hv : DataW.Trod enc P w 0 (fun _ => true) true t v d ps) : R v.cells.toList := by
  obtain ⟨fuel, hf⟩ := hv
  exact h H enc fuel _ _ hf
/-- A whole number of a kind. -/
def wfK (k : IntKind) (n : Int) : Prop := (Lit.int k n).wf = true
end
/-- The end of a row's proof: what the walk tells is what the row asks. -/
theorem calls_row {P : Program} {f : FuncId} {args : List Value} {W : World} {b : Bool} (h : Calls P f args.toArray W (Post (hp W) W fun _ v => v = .bool b)) :
    Calls P f args.toArray W fun e W' => e = .returned (.bool b) ∧ Below W.heap.size W W' := by
  refine h.mono ?_
  rintro e w' ⟨v, M', rfl, hx, rfl⟩
  exact ⟨rfl, hx.below⟩
end Go.Cu
