/- Rules for walks over facts, for any program; no condition. -/
import Derived.Test.YtakfalfggmgcfaaDoorCu16
import Derived.Below
import Derived.Lib.Repeat
set_option linter.unusedSimpArgs false
set_option linter.unusedVariables false
/-! Contracts of the library in this form. -/
namespace Go.Cu
def repL (s : List UInt8) : Nat → List UInt8
  | 0 => []
  | n + 1 => s ++ repL s n
theorem repL_eq (s : List UInt8) : ∀ n, Lib.repeatL s n = repL s n
  | 0 => rfl
  | n + 1 => by rw [repL, Lib.repeatL, repL_eq s n]
theorem ext_below {M : Heap} {w w' : World} (hM : Sub M w) (h : Go.RowKit.Below w.heap.size w w') : Ext none' M w M w' :=
  ⟨h.os, h.tape, h.output, h.size, fun k hk _ => h.block k hk, fun _ _ => rfl, fun b o hb => by rw [h.block b (lt_of_get (hM b o hb))]; exact hM b o hb⟩
theorem w_L {c : Cx} {Q : Exit → Act → World → Prop} {ops : Array Oper} {rest : List Oper} {l : List (Nat × Value)} {M : Heap} {L : List Item} (L' : List Item) (e : L = L') (h : c.W ops rest Q l M L') : c.W ops rest Q l M L := e ▸ h
end Go.Cu
