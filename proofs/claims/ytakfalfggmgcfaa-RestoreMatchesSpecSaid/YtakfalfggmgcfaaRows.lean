/-
  No cell of these rows narrows 'for every input' (looked for: loops, veiled, ifaces, maps, wideKeys, modest, calm, conditions, laid).
  DERIVED. THE GIVEN ROWS OF THIS SEAT. 4 by the template 'for every input the law returns true; each argument reads behind the call as it read before'; 0 by the template 'total and deterministic' (their statements: YtakfalfggmgcfaaTotals.lean).
  GIVEN WITH THE SEED: the statements are not yours to turn. If you find one false, say at which input.
  Laid BY PROGRAM, IN A SANDBOX (cutbox-rows.mjs): the forced cells as the released guide's own fill.sh prints them over the translation 85be1aea5612338d… (all of the seat's roots in one cut). By AI agents, Wed Nov 11 2026. No macro, syntax, notation, axiom, sorry.
-/
import Derived.Test.YtakfalfggmgcfaaChecked
import GoSem.Claim
import GoSem.ClaimJoined
import GoSem.ClaimMapViews
import Derived.JoinedTies
import Derived.KernelRfl
namespace Go.Proofs.Ytakfalfggmgcfaa
/- THE CELL 'sum', in the pinned program and in every row, IS THE sha256 OF THE DUMP (.gsa) THAT YtakfalfggmgcfaaProg.lean LOADS. Nothing in Lean hashes anything: it is a label: what it is worth is what the hold of that sum in a sandbox is worth. -/
noncomputable def Try.pinned : Pinned := { name := "ytakfalfggmgcfaa", sum := "85be1aea5612338d186b683b38c51b2202fddf02d802c55545af64f91059b758", checked := Try.checked }
namespace Rows
def none {H : Type} : Left H := { results := [], args := [] }

/-- 'custodylaw37.RestoreMatchesSpec': WHATEVER THE INPUT: true; the input reads as it did. -/
def restoreMatchesSpecSpec : ChangeSpec := { name := "restoreMatchesSpec", fn := fun _ => fun
  | [d1, d2, d3, d4, d5] => { results := [.lit (.bool true)], args := [d1, d2, d3, d4, d5] }
  | _ => none }
def restoreMatchesSpecRow : OpenClaim := { program := "ytakfalfggmgcfaa", sum := "85be1aea5612338d186b683b38c51b2202fddf02d802c55545af64f91059b758", func := "custody/custodylaw37.RestoreMatchesSpec", spec := "restoreMatchesSpec", inPlace := ["internal/abi.NoEscape", "internal/bytealg.MakeNoZero"], unfollowed := true, recurses := true, apart := false }
def RestoreMatchesSpecSaid : Prop := restoreMatchesSpecRow.holds Try.pinned (OpenSpec.ofChange restoreMatchesSpecSpec)

/-- ITS FALSE NEIGHBOUR: 'it returns false'. Refute it at one input. -/
def restoreMatchesSpecWrong : ChangeSpec := { name := "restoreMatchesSpec", fn := fun _ => fun
  | [d1, d2, d3, d4, d5] => { results := [.lit (.bool false)], args := [d1, d2, d3, d4, d5] }
  | _ => none }
def RestoreMatchesSpecWrongFalsely : Prop := restoreMatchesSpecRow.holds Try.pinned (OpenSpec.ofChange restoreMatchesSpecWrong)

/-- 'custodylaw37.RestoreHolds': WHATEVER THE INPUT: true; the input reads as it did. -/
def restoreHoldsSpec : ChangeSpec := { name := "restoreHolds", fn := fun _ => fun
  | [d1, d2, d3, d4] => { results := [.lit (.bool true)], args := [d1, d2, d3, d4] }
  | _ => none }
def restoreHoldsRow : OpenClaim := { program := "ytakfalfggmgcfaa", sum := "85be1aea5612338d186b683b38c51b2202fddf02d802c55545af64f91059b758", func := "custody/custodylaw37.RestoreHolds", spec := "restoreHolds", inPlace := ["internal/abi.NoEscape", "internal/bytealg.MakeNoZero"], unfollowed := true, recurses := true, apart := false }
def RestoreHoldsSaid : Prop := restoreHoldsRow.holds Try.pinned (OpenSpec.ofChange restoreHoldsSpec)

/-- ITS FALSE NEIGHBOUR: 'it returns false'. Refute it at one input. -/
def restoreHoldsWrong : ChangeSpec := { name := "restoreHolds", fn := fun _ => fun
  | [d1, d2, d3, d4] => { results := [.lit (.bool false)], args := [d1, d2, d3, d4] }
  | _ => none }
def RestoreHoldsWrongFalsely : Prop := restoreHoldsRow.holds Try.pinned (OpenSpec.ofChange restoreHoldsWrong)

/-- 'custodylaw37.RestoreNarrow': WHATEVER THE INPUT: true; the input reads as it did. -/
def restoreNarrowSpec : ChangeSpec := { name := "restoreNarrow", fn := fun _ => fun
  | [d1, d2, d3] => { results := [.lit (.bool true)], args := [d1, d2, d3] }
  | _ => none }
def restoreNarrowRow : OpenClaim := { program := "ytakfalfggmgcfaa", sum := "85be1aea5612338d186b683b38c51b2202fddf02d802c55545af64f91059b758", func := "custody/custodylaw37.RestoreNarrow", spec := "restoreNarrow", inPlace := ["internal/abi.NoEscape", "internal/bytealg.MakeNoZero"], unfollowed := true, recurses := true, apart := false }
def RestoreNarrowSaid : Prop := restoreNarrowRow.holds Try.pinned (OpenSpec.ofChange restoreNarrowSpec)

/-- ITS FALSE NEIGHBOUR: 'it returns false'. Refute it at one input. -/
def restoreNarrowWrong : ChangeSpec := { name := "restoreNarrow", fn := fun _ => fun
  | [d1, d2, d3] => { results := [.lit (.bool false)], args := [d1, d2, d3] }
  | _ => none }
def RestoreNarrowWrongFalsely : Prop := restoreNarrowRow.holds Try.pinned (OpenSpec.ofChange restoreNarrowWrong)

/-- 'custodylaw37.RestoreAdmits': WHATEVER THE INPUT: true; the input reads as it did. -/
def restoreAdmitsSpec : ChangeSpec := { name := "restoreAdmits", fn := fun _ => fun
  | [d1, d2] => { results := [.lit (.bool true)], args := [d1, d2] }
  | _ => none }
def restoreAdmitsRow : OpenClaim := { program := "ytakfalfggmgcfaa", sum := "85be1aea5612338d186b683b38c51b2202fddf02d802c55545af64f91059b758", func := "custody/custodylaw37.RestoreAdmits", spec := "restoreAdmits", inPlace := ["internal/abi.NoEscape", "internal/bytealg.MakeNoZero"], unfollowed := true, recurses := true, apart := false }
def RestoreAdmitsSaid : Prop := restoreAdmitsRow.holds Try.pinned (OpenSpec.ofChange restoreAdmitsSpec)

/-- ITS FALSE NEIGHBOUR: 'it returns false'. Refute it at one input. -/
def restoreAdmitsWrong : ChangeSpec := { name := "restoreAdmits", fn := fun _ => fun
  | [d1, d2] => { results := [.lit (.bool false)], args := [d1, d2] }
  | _ => none }
def RestoreAdmitsWrongFalsely : Prop := restoreAdmitsRow.holds Try.pinned (OpenSpec.ofChange restoreAdmitsWrong)

/- THE SECOND FORM. 'bulk': how many values and letters a reading holds, each counted each time it is reached (what is shared counts as often as it is met; a slice's spare places count too). A statement '..UptoSaid' is the law's where the arguments, and the package variables that the reading takes, are together of bulk at most 1048576: NARROWER than '..Said'. Prove '..Said' where nothing that the law and all that it calls make is longer than what came in: it says more and counts as full. Else prove '..UptoSaid'. A law counts once. -/
mutual
def uptoBulk {H : Type} : DataW H → Nat
  | .lit (.string bytes) => bytes.length + 1
  | .lit _ => 1
  | .nil => 1
  | .ptr d => uptoBulk d + 1
  | .slice elems spare => uptoBulkAll elems + uptoBulkAll spare + 1
  | .agg parts => uptoBulkAll parts + 1
  | .iface _ d => uptoBulk d + 1
  | .map entries => uptoBulkEntries entries + 1
  | .held _ => 1
def uptoBulkAll {H : Type} : List (DataW H) → Nat
  | [] => 0
  | d :: r => uptoBulk d + uptoBulkAll r
def uptoBulkEntries {H : Type} : List (Lit × DataW H) → Nat
  | [] => 0
  | x :: r => uptoBulkEntry x + uptoBulkEntries r
def uptoBulkEntry {H : Type} : Lit × DataW H → Nat
  | (.string bytes, d) => bytes.length + uptoBulk d + 1
  | (_, d) => uptoBulk d + 1
 end
def uptoSmall : (H : Type) → List (DataW H) → Bool := fun _ ds => decide (uptoBulkAll ds ≤ 1048576)
def OpenSpec.upto (s : _root_.Go.ChangeSpec) : _root_.Go.OpenSpec := { _root_.Go.OpenSpec.ofChange s with cond := some uptoSmall }

/-- 'custodylaw37.RestoreMatchesSpec', WHERE WHAT IT READS IS OF BULK AT MOST 1048576: true; the input reads as it did. -/
def restoreMatchesSpecUptoRow : OpenClaim := { program := "ytakfalfggmgcfaa", sum := "85be1aea5612338d186b683b38c51b2202fddf02d802c55545af64f91059b758", func := "custody/custodylaw37.RestoreMatchesSpec", spec := "restoreMatchesSpec", inPlace := ["internal/abi.NoEscape", "internal/bytealg.MakeNoZero"], unfollowed := true, recurses := true, apart := false, narrowed := true }
def RestoreMatchesSpecUptoSaid : Prop := restoreMatchesSpecUptoRow.holds Try.pinned (OpenSpec.upto restoreMatchesSpecSpec)

/-- 'custodylaw37.RestoreHolds', WHERE WHAT IT READS IS OF BULK AT MOST 1048576: true; the input reads as it did. -/
def restoreHoldsUptoRow : OpenClaim := { program := "ytakfalfggmgcfaa", sum := "85be1aea5612338d186b683b38c51b2202fddf02d802c55545af64f91059b758", func := "custody/custodylaw37.RestoreHolds", spec := "restoreHolds", inPlace := ["internal/abi.NoEscape", "internal/bytealg.MakeNoZero"], unfollowed := true, recurses := true, apart := false, narrowed := true }
def RestoreHoldsUptoSaid : Prop := restoreHoldsUptoRow.holds Try.pinned (OpenSpec.upto restoreHoldsSpec)

/-- 'custodylaw37.RestoreNarrow', WHERE WHAT IT READS IS OF BULK AT MOST 1048576: true; the input reads as it did. -/
def restoreNarrowUptoRow : OpenClaim := { program := "ytakfalfggmgcfaa", sum := "85be1aea5612338d186b683b38c51b2202fddf02d802c55545af64f91059b758", func := "custody/custodylaw37.RestoreNarrow", spec := "restoreNarrow", inPlace := ["internal/abi.NoEscape", "internal/bytealg.MakeNoZero"], unfollowed := true, recurses := true, apart := false, narrowed := true }
def RestoreNarrowUptoSaid : Prop := restoreNarrowUptoRow.holds Try.pinned (OpenSpec.upto restoreNarrowSpec)

/-- 'custodylaw37.RestoreAdmits', WHERE WHAT IT READS IS OF BULK AT MOST 1048576: true; the input reads as it did. -/
def restoreAdmitsUptoRow : OpenClaim := { program := "ytakfalfggmgcfaa", sum := "85be1aea5612338d186b683b38c51b2202fddf02d802c55545af64f91059b758", func := "custody/custodylaw37.RestoreAdmits", spec := "restoreAdmits", inPlace := ["internal/abi.NoEscape", "internal/bytealg.MakeNoZero"], unfollowed := true, recurses := true, apart := false, narrowed := true }
def RestoreAdmitsUptoSaid : Prop := restoreAdmitsUptoRow.holds Try.pinned (OpenSpec.upto restoreAdmitsSpec)

end Rows
end Go.Proofs.Ytakfalfggmgcfaa
