/- Rules for walks over facts, for any program; no condition. -/
import Derived.Test.YtakfalfggmgcfaaDoorCu15
set_option linter.unusedSimpArgs false
set_option linter.unusedVariables false
/-! Maps from int to int, kept as lists of pairs. -/
namespace Go.Cu
def mapE (m : List (Int × Int)) : List MapEntry := m.zipIdx.map fun p => { key := .int .i64 p.1.1, val := .int .i64 p.1.2, born := p.2 }
abbrev mapO (m : List (Int × Int)) : Obj := .map (mapE m).toArray m.length
def mget (m : List (Int × Int)) (k : Int) : Int := ((m.find? fun p => k == p.1).map (·.2)).getD 0
def mput (m : List (Int × Int)) (k v : Int) : List (Int × Int) :=
  match m.findIdx? fun p => k == p.1 with
  | some i => m.set i (k, v)
  | none => m ++ [(k, v)]

section rules
variable {c : Cx} {ops : Array Oper} {rest : List Oper} {d : Nat} {ty : TypeId} {pos : String} {af : Array Edge} {gd : Option (Nat × Bool)} {Q : Exit → Act → World → Prop} {l : List (Nat × Value)} {M : Heap} {L : List Item}
end rules
end Go.Cu
