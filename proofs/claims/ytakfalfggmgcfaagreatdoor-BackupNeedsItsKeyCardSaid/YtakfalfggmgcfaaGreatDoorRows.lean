/-
  NARROWER THAN 'FOR EVERY INPUT', by the rows' own cells (each row's printed sentence says how): BackupMatchesSpec: laid · BackupOpensAsSpecified: laid · BackupNeedsItsKey: laid · DomainFoundingMatchesSpec: laid · DomainBackupMatchesSpec: laid · DomainSplitMatchesSpec: laid · DomainMergeMatchesSpec: laid · DomainAnyThresholdOpens: laid · DomainSplitsAndMerges: laid.
  DERIVED. THE GIVEN ROWS OF THIS SEAT. 9 by the template 'for every input the law returns true; each argument reads behind the call as it read before'; 0 by the template 'total and deterministic' (their statements: YtakfalfggmgcfaaGreatDoorTotals.lean).
  GIVEN WITH THE SEED: the statements are not yours to turn. If you find one false, say at which input.
  Laid BY PROGRAM, IN A SANDBOX (cutbox-rows.mjs): the forced cells as the released guide's own fill.sh prints them over the translation ddca89a6545dbe5b… (all of the seat's roots in one cut). By AI agents, Wed Nov 11 2026. No macro, syntax, notation, axiom, sorry.
-/
import Derived.Test.YtakfalfggmgcfaaGreatDoorChecked
import GoSem.Claim
import GoSem.ClaimJoined
import GoSem.ClaimMapViews
import Derived.JoinedTies
import Derived.KernelRfl
namespace Go.Proofs.YtakfalfggmgcfaaGreatDoor
/- THE CELL 'sum', in the pinned program and in every row, IS THE sha256 OF THE DUMP (.gsa) THAT YtakfalfggmgcfaaGreatDoorProg.lean LOADS. Nothing in Lean hashes anything: it is a label: what it is worth is what the hold of that sum in a sandbox is worth. -/
noncomputable def Tryz.pinned : Pinned := { name := "ytakfalfggmgcfaagreatdoor", sum := "ddca89a6545dbe5beb27f1d17368120fc45eabdfc95a2678699c13b3200b857c", checked := Tryz.checked }
namespace Rows
def none {H : Type} : Left H := { results := [], args := [] }

/- WHAT THE LISTED PACKAGE-LEVEL VARIABLES READ AS WHEN THE CALL BEGINS. Each datum BY PROGRAM (the guide's laid-datum.mjs) off the statement by which the dump's own 'gosem.cut.vars' lays the variable. In a bare row this is a premise. The card (YtakfalfggmgcfaaGreatDoorCards.lean) ties it to the program's text. -/
def laid_custody_custodyref02_constants {H : Type} : DataW H := .agg [.lit (.int .u32 1116352408), .lit (.int .u32 1899447441), .lit (.int .u32 3049323471), .lit (.int .u32 3921009573), .lit (.int .u32 961987163), .lit (.int .u32 1508970993), .lit (.int .u32 2453635748), .lit (.int .u32 2870763221), .lit (.int .u32 3624381080), .lit (.int .u32 310598401), .lit (.int .u32 607225278), .lit (.int .u32 1426881987), .lit (.int .u32 1925078388), .lit (.int .u32 2162078206), .lit (.int .u32 2614888103), .lit (.int .u32 3248222580), .lit (.int .u32 3835390401), .lit (.int .u32 4022224774), .lit (.int .u32 264347078), .lit (.int .u32 604807628), .lit (.int .u32 770255983), .lit (.int .u32 1249150122), .lit (.int .u32 1555081692), .lit (.int .u32 1996064986), .lit (.int .u32 2554220882), .lit (.int .u32 2821834349), .lit (.int .u32 2952996808), .lit (.int .u32 3210313671), .lit (.int .u32 3336571891), .lit (.int .u32 3584528711), .lit (.int .u32 113926993), .lit (.int .u32 338241895), .lit (.int .u32 666307205), .lit (.int .u32 773529912), .lit (.int .u32 1294757372), .lit (.int .u32 1396182291), .lit (.int .u32 1695183700), .lit (.int .u32 1986661051), .lit (.int .u32 2177026350), .lit (.int .u32 2456956037), .lit (.int .u32 2730485921), .lit (.int .u32 2820302411), .lit (.int .u32 3259730800), .lit (.int .u32 3345764771), .lit (.int .u32 3516065817), .lit (.int .u32 3600352804), .lit (.int .u32 4094571909), .lit (.int .u32 275423344), .lit (.int .u32 430227734), .lit (.int .u32 506948616), .lit (.int .u32 659060556), .lit (.int .u32 883997877), .lit (.int .u32 958139571), .lit (.int .u32 1322822218), .lit (.int .u32 1537002063), .lit (.int .u32 1747873779), .lit (.int .u32 1955562222), .lit (.int .u32 2024104815), .lit (.int .u32 2227730452), .lit (.int .u32 2361852424), .lit (.int .u32 2428436474), .lit (.int .u32 2756734187), .lit (.int .u32 3204031479), .lit (.int .u32 3329325298)]
def laid_custody_hash_constants {H : Type} : DataW H := .agg [.lit (.int .u32 1116352408), .lit (.int .u32 1899447441), .lit (.int .u32 3049323471), .lit (.int .u32 3921009573), .lit (.int .u32 961987163), .lit (.int .u32 1508970993), .lit (.int .u32 2453635748), .lit (.int .u32 2870763221), .lit (.int .u32 3624381080), .lit (.int .u32 310598401), .lit (.int .u32 607225278), .lit (.int .u32 1426881987), .lit (.int .u32 1925078388), .lit (.int .u32 2162078206), .lit (.int .u32 2614888103), .lit (.int .u32 3248222580), .lit (.int .u32 3835390401), .lit (.int .u32 4022224774), .lit (.int .u32 264347078), .lit (.int .u32 604807628), .lit (.int .u32 770255983), .lit (.int .u32 1249150122), .lit (.int .u32 1555081692), .lit (.int .u32 1996064986), .lit (.int .u32 2554220882), .lit (.int .u32 2821834349), .lit (.int .u32 2952996808), .lit (.int .u32 3210313671), .lit (.int .u32 3336571891), .lit (.int .u32 3584528711), .lit (.int .u32 113926993), .lit (.int .u32 338241895), .lit (.int .u32 666307205), .lit (.int .u32 773529912), .lit (.int .u32 1294757372), .lit (.int .u32 1396182291), .lit (.int .u32 1695183700), .lit (.int .u32 1986661051), .lit (.int .u32 2177026350), .lit (.int .u32 2456956037), .lit (.int .u32 2730485921), .lit (.int .u32 2820302411), .lit (.int .u32 3259730800), .lit (.int .u32 3345764771), .lit (.int .u32 3516065817), .lit (.int .u32 3600352804), .lit (.int .u32 4094571909), .lit (.int .u32 275423344), .lit (.int .u32 430227734), .lit (.int .u32 506948616), .lit (.int .u32 659060556), .lit (.int .u32 883997877), .lit (.int .u32 958139571), .lit (.int .u32 1322822218), .lit (.int .u32 1537002063), .lit (.int .u32 1747873779), .lit (.int .u32 1955562222), .lit (.int .u32 2024104815), .lit (.int .u32 2227730452), .lit (.int .u32 2361852424), .lit (.int .u32 2428436474), .lit (.int .u32 2756734187), .lit (.int .u32 3204031479), .lit (.int .u32 3329325298)]

/-- 'custodylaw36.BackupMatchesSpec': WHATEVER THE INPUT: true; the input reads as it did. -/
def backupMatchesSpecSpec : ChangeSpec := { name := "backupMatchesSpec", fn := fun _ => fun
  | [d1, d2, d3, d4, d5] => { results := [.lit (.bool true)], args := [d1, d2, d3, d4, d5] }
  | _ => none }
def backupMatchesSpecRow : OpenClaim := { program := "ytakfalfggmgcfaagreatdoor", sum := "ddca89a6545dbe5beb27f1d17368120fc45eabdfc95a2678699c13b3200b857c", func := "custody/custodylaw36.BackupMatchesSpec", spec := "backupMatchesSpec", inPlace := ["internal/abi.NoEscape", "internal/bytealg.MakeNoZero"], unfollowed := true, recurses := true, named := ["custody/hash.constants", "custody/custodyref02.constants"], apart := false, laid := [("custody/custodyref02.constants", laid_custody_custodyref02_constants), ("custody/hash.constants", laid_custody_hash_constants)] }
def BackupMatchesSpecSaid : Prop := backupMatchesSpecRow.holds Tryz.pinned (OpenSpec.ofChange backupMatchesSpecSpec)

/-- ITS FALSE NEIGHBOUR: 'it returns false'. Refute it at one input. -/
def backupMatchesSpecWrong : ChangeSpec := { name := "backupMatchesSpec", fn := fun _ => fun
  | [d1, d2, d3, d4, d5] => { results := [.lit (.bool false)], args := [d1, d2, d3, d4, d5] }
  | _ => none }
def BackupMatchesSpecWrongFalsely : Prop := backupMatchesSpecRow.holds Tryz.pinned (OpenSpec.ofChange backupMatchesSpecWrong)

/-- 'custodylaw36.BackupOpensAsSpecified': WHATEVER THE INPUT: true; the input reads as it did. -/
def backupOpensAsSpecifiedSpec : ChangeSpec := { name := "backupOpensAsSpecified", fn := fun _ => fun
  | [d1, d2] => { results := [.lit (.bool true)], args := [d1, d2] }
  | _ => none }
def backupOpensAsSpecifiedRow : OpenClaim := { program := "ytakfalfggmgcfaagreatdoor", sum := "ddca89a6545dbe5beb27f1d17368120fc45eabdfc95a2678699c13b3200b857c", func := "custody/custodylaw36.BackupOpensAsSpecified", spec := "backupOpensAsSpecified", inPlace := ["internal/abi.NoEscape", "internal/bytealg.MakeNoZero"], unfollowed := true, recurses := true, named := ["custody/hash.constants", "custody/custodyref02.constants"], apart := false, laid := [("custody/custodyref02.constants", laid_custody_custodyref02_constants), ("custody/hash.constants", laid_custody_hash_constants)] }
def BackupOpensAsSpecifiedSaid : Prop := backupOpensAsSpecifiedRow.holds Tryz.pinned (OpenSpec.ofChange backupOpensAsSpecifiedSpec)

/-- ITS FALSE NEIGHBOUR: 'it returns false'. Refute it at one input. -/
def backupOpensAsSpecifiedWrong : ChangeSpec := { name := "backupOpensAsSpecified", fn := fun _ => fun
  | [d1, d2] => { results := [.lit (.bool false)], args := [d1, d2] }
  | _ => none }
def BackupOpensAsSpecifiedWrongFalsely : Prop := backupOpensAsSpecifiedRow.holds Tryz.pinned (OpenSpec.ofChange backupOpensAsSpecifiedWrong)

/-- 'custodylaw36.BackupNeedsItsKey': WHATEVER THE INPUT: true; the input reads as it did. -/
def backupNeedsItsKeySpec : ChangeSpec := { name := "backupNeedsItsKey", fn := fun _ => fun
  | [d1, d2, d3] => { results := [.lit (.bool true)], args := [d1, d2, d3] }
  | _ => none }
def backupNeedsItsKeyRow : OpenClaim := { program := "ytakfalfggmgcfaagreatdoor", sum := "ddca89a6545dbe5beb27f1d17368120fc45eabdfc95a2678699c13b3200b857c", func := "custody/custodylaw36.BackupNeedsItsKey", spec := "backupNeedsItsKey", inPlace := ["internal/abi.NoEscape", "internal/bytealg.MakeNoZero"], unfollowed := true, recurses := true, named := ["custody/hash.constants", "custody/custodyref02.constants"], apart := false, laid := [("custody/custodyref02.constants", laid_custody_custodyref02_constants), ("custody/hash.constants", laid_custody_hash_constants)] }
def BackupNeedsItsKeySaid : Prop := backupNeedsItsKeyRow.holds Tryz.pinned (OpenSpec.ofChange backupNeedsItsKeySpec)

/-- ITS FALSE NEIGHBOUR: 'it returns false'. Refute it at one input. -/
def backupNeedsItsKeyWrong : ChangeSpec := { name := "backupNeedsItsKey", fn := fun _ => fun
  | [d1, d2, d3] => { results := [.lit (.bool false)], args := [d1, d2, d3] }
  | _ => none }
def BackupNeedsItsKeyWrongFalsely : Prop := backupNeedsItsKeyRow.holds Tryz.pinned (OpenSpec.ofChange backupNeedsItsKeyWrong)

/-- 'custodylaw38.DomainFoundingMatchesSpec': WHATEVER THE INPUT: true; the input reads as it did. -/
def domainFoundingMatchesSpecSpec : ChangeSpec := { name := "domainFoundingMatchesSpec", fn := fun _ => fun
  | [d1, d2, d3] => { results := [.lit (.bool true)], args := [d1, d2, d3] }
  | _ => none }
def domainFoundingMatchesSpecRow : OpenClaim := { program := "ytakfalfggmgcfaagreatdoor", sum := "ddca89a6545dbe5beb27f1d17368120fc45eabdfc95a2678699c13b3200b857c", func := "custody/custodylaw38.DomainFoundingMatchesSpec", spec := "domainFoundingMatchesSpec", inPlace := ["internal/abi.NoEscape", "internal/bytealg.MakeNoZero"], unfollowed := true, recurses := true, named := ["custody/hash.constants", "custody/custodyref02.constants"], apart := false, laid := [("custody/custodyref02.constants", laid_custody_custodyref02_constants), ("custody/hash.constants", laid_custody_hash_constants)] }
def DomainFoundingMatchesSpecSaid : Prop := domainFoundingMatchesSpecRow.holds Tryz.pinned (OpenSpec.ofChange domainFoundingMatchesSpecSpec)

/-- ITS FALSE NEIGHBOUR: 'it returns false'. Refute it at one input. -/
def domainFoundingMatchesSpecWrong : ChangeSpec := { name := "domainFoundingMatchesSpec", fn := fun _ => fun
  | [d1, d2, d3] => { results := [.lit (.bool false)], args := [d1, d2, d3] }
  | _ => none }
def DomainFoundingMatchesSpecWrongFalsely : Prop := domainFoundingMatchesSpecRow.holds Tryz.pinned (OpenSpec.ofChange domainFoundingMatchesSpecWrong)

/-- 'custodylaw38.DomainBackupMatchesSpec': WHATEVER THE INPUT: true; the input reads as it did. -/
def domainBackupMatchesSpecSpec : ChangeSpec := { name := "domainBackupMatchesSpec", fn := fun _ => fun
  | [d1, d2, d3, d4, d5] => { results := [.lit (.bool true)], args := [d1, d2, d3, d4, d5] }
  | _ => none }
def domainBackupMatchesSpecRow : OpenClaim := { program := "ytakfalfggmgcfaagreatdoor", sum := "ddca89a6545dbe5beb27f1d17368120fc45eabdfc95a2678699c13b3200b857c", func := "custody/custodylaw38.DomainBackupMatchesSpec", spec := "domainBackupMatchesSpec", inPlace := ["internal/abi.NoEscape", "internal/bytealg.MakeNoZero"], unfollowed := true, recurses := true, named := ["custody/hash.constants", "custody/custodyref02.constants"], apart := false, laid := [("custody/custodyref02.constants", laid_custody_custodyref02_constants), ("custody/hash.constants", laid_custody_hash_constants)] }
def DomainBackupMatchesSpecSaid : Prop := domainBackupMatchesSpecRow.holds Tryz.pinned (OpenSpec.ofChange domainBackupMatchesSpecSpec)

/-- ITS FALSE NEIGHBOUR: 'it returns false'. Refute it at one input. -/
def domainBackupMatchesSpecWrong : ChangeSpec := { name := "domainBackupMatchesSpec", fn := fun _ => fun
  | [d1, d2, d3, d4, d5] => { results := [.lit (.bool false)], args := [d1, d2, d3, d4, d5] }
  | _ => none }
def DomainBackupMatchesSpecWrongFalsely : Prop := domainBackupMatchesSpecRow.holds Tryz.pinned (OpenSpec.ofChange domainBackupMatchesSpecWrong)

/-- 'custodylaw38.DomainSplitMatchesSpec': WHATEVER THE INPUT: true; the input reads as it did. -/
def domainSplitMatchesSpecSpec : ChangeSpec := { name := "domainSplitMatchesSpec", fn := fun _ => fun
  | [d] => { results := [.lit (.bool true)], args := [d] }
  | _ => none }
def domainSplitMatchesSpecRow : OpenClaim := { program := "ytakfalfggmgcfaagreatdoor", sum := "ddca89a6545dbe5beb27f1d17368120fc45eabdfc95a2678699c13b3200b857c", func := "custody/custodylaw38.DomainSplitMatchesSpec", spec := "domainSplitMatchesSpec", inPlace := ["internal/abi.NoEscape", "internal/bytealg.MakeNoZero"], unfollowed := true, recurses := true, named := ["custody/hash.constants", "custody/custodyref02.constants"], apart := false, laid := [("custody/custodyref02.constants", laid_custody_custodyref02_constants), ("custody/hash.constants", laid_custody_hash_constants)] }
def DomainSplitMatchesSpecSaid : Prop := domainSplitMatchesSpecRow.holds Tryz.pinned (OpenSpec.ofChange domainSplitMatchesSpecSpec)

/-- ITS FALSE NEIGHBOUR: 'it returns false'. Refute it at one input. -/
def domainSplitMatchesSpecWrong : ChangeSpec := { name := "domainSplitMatchesSpec", fn := fun _ => fun
  | [d] => { results := [.lit (.bool false)], args := [d] }
  | _ => none }
def DomainSplitMatchesSpecWrongFalsely : Prop := domainSplitMatchesSpecRow.holds Tryz.pinned (OpenSpec.ofChange domainSplitMatchesSpecWrong)

/-- 'custodylaw38.DomainMergeMatchesSpec': WHATEVER THE INPUT: true; the input reads as it did. -/
def domainMergeMatchesSpecSpec : ChangeSpec := { name := "domainMergeMatchesSpec", fn := fun _ => fun
  | [d] => { results := [.lit (.bool true)], args := [d] }
  | _ => none }
def domainMergeMatchesSpecRow : OpenClaim := { program := "ytakfalfggmgcfaagreatdoor", sum := "ddca89a6545dbe5beb27f1d17368120fc45eabdfc95a2678699c13b3200b857c", func := "custody/custodylaw38.DomainMergeMatchesSpec", spec := "domainMergeMatchesSpec", inPlace := ["internal/abi.NoEscape", "internal/bytealg.MakeNoZero"], unfollowed := true, recurses := true, named := ["custody/hash.constants", "custody/custodyref02.constants"], apart := false, laid := [("custody/custodyref02.constants", laid_custody_custodyref02_constants), ("custody/hash.constants", laid_custody_hash_constants)] }
def DomainMergeMatchesSpecSaid : Prop := domainMergeMatchesSpecRow.holds Tryz.pinned (OpenSpec.ofChange domainMergeMatchesSpecSpec)

/-- ITS FALSE NEIGHBOUR: 'it returns false'. Refute it at one input. -/
def domainMergeMatchesSpecWrong : ChangeSpec := { name := "domainMergeMatchesSpec", fn := fun _ => fun
  | [d] => { results := [.lit (.bool false)], args := [d] }
  | _ => none }
def DomainMergeMatchesSpecWrongFalsely : Prop := domainMergeMatchesSpecRow.holds Tryz.pinned (OpenSpec.ofChange domainMergeMatchesSpecWrong)

/-- 'custodylaw38.DomainAnyThresholdOpens': WHATEVER THE INPUT: true; the input reads as it did. -/
def domainAnyThresholdOpensSpec : ChangeSpec := { name := "domainAnyThresholdOpens", fn := fun _ => fun
  | [d1, d2, d3, d4] => { results := [.lit (.bool true)], args := [d1, d2, d3, d4] }
  | _ => none }
def domainAnyThresholdOpensRow : OpenClaim := { program := "ytakfalfggmgcfaagreatdoor", sum := "ddca89a6545dbe5beb27f1d17368120fc45eabdfc95a2678699c13b3200b857c", func := "custody/custodylaw38.DomainAnyThresholdOpens", spec := "domainAnyThresholdOpens", inPlace := ["internal/abi.NoEscape", "internal/bytealg.MakeNoZero"], unfollowed := true, recurses := true, named := ["custody/hash.constants"], apart := false, laid := [("custody/hash.constants", laid_custody_hash_constants)] }
def DomainAnyThresholdOpensSaid : Prop := domainAnyThresholdOpensRow.holds Tryz.pinned (OpenSpec.ofChange domainAnyThresholdOpensSpec)

/-- ITS FALSE NEIGHBOUR: 'it returns false'. Refute it at one input. -/
def domainAnyThresholdOpensWrong : ChangeSpec := { name := "domainAnyThresholdOpens", fn := fun _ => fun
  | [d1, d2, d3, d4] => { results := [.lit (.bool false)], args := [d1, d2, d3, d4] }
  | _ => none }
def DomainAnyThresholdOpensWrongFalsely : Prop := domainAnyThresholdOpensRow.holds Tryz.pinned (OpenSpec.ofChange domainAnyThresholdOpensWrong)

/-- 'custodylaw38.DomainSplitsAndMerges': WHATEVER THE INPUT: true; the input reads as it did. -/
def domainSplitsAndMergesSpec : ChangeSpec := { name := "domainSplitsAndMerges", fn := fun _ => fun
  | [d1, d2, d3, d4] => { results := [.lit (.bool true)], args := [d1, d2, d3, d4] }
  | _ => none }
def domainSplitsAndMergesRow : OpenClaim := { program := "ytakfalfggmgcfaagreatdoor", sum := "ddca89a6545dbe5beb27f1d17368120fc45eabdfc95a2678699c13b3200b857c", func := "custody/custodylaw38.DomainSplitsAndMerges", spec := "domainSplitsAndMerges", inPlace := ["internal/abi.NoEscape", "internal/bytealg.MakeNoZero"], unfollowed := true, recurses := true, named := ["custody/hash.constants"], apart := false, laid := [("custody/hash.constants", laid_custody_hash_constants)] }
def DomainSplitsAndMergesSaid : Prop := domainSplitsAndMergesRow.holds Tryz.pinned (OpenSpec.ofChange domainSplitsAndMergesSpec)

/-- ITS FALSE NEIGHBOUR: 'it returns false'. Refute it at one input. -/
def domainSplitsAndMergesWrong : ChangeSpec := { name := "domainSplitsAndMerges", fn := fun _ => fun
  | [d1, d2, d3, d4] => { results := [.lit (.bool false)], args := [d1, d2, d3, d4] }
  | _ => none }
def DomainSplitsAndMergesWrongFalsely : Prop := domainSplitsAndMergesRow.holds Tryz.pinned (OpenSpec.ofChange domainSplitsAndMergesWrong)

/- THE SECOND FORM. 'bulk': how many values and letters a reading holds, each counted each time it is reached (what is shared counts as often as it is met; a slice's spare places count too). A statement '..UptoSaid' is the law's where the arguments, and the package variables that the reading takes, are together of bulk at most 1048576: NARROWER than '..Said'. Prove '..Said' where nothing that the law and all that it calls make is longer than what came in: it says more and counts as full. Else prove '..UptoSaid'. A law counts once. -/
mutual
def uptoBulk {H : Type} : DataW H → Nat
  | .lit (.string bytes) => bytes.length + 1
  | .lit _ => 1
  | .nil => 1
  | .ptr d => uptoBulk d + 1
  | .slice elems spare => uptoBulkAll elems + uptoBulkAll spare + 1
  | .agg parts => uptoBulkAll parts + 1
  | .iface _ d => uptoBulk d + 1
  | .map entries => uptoBulkEntries entries + 1
  | .held _ => 1
def uptoBulkAll {H : Type} : List (DataW H) → Nat
  | [] => 0
  | d :: r => uptoBulk d + uptoBulkAll r
def uptoBulkEntries {H : Type} : List (Lit × DataW H) → Nat
  | [] => 0
  | x :: r => uptoBulkEntry x + uptoBulkEntries r
def uptoBulkEntry {H : Type} : Lit × DataW H → Nat
  | (.string bytes, d) => bytes.length + uptoBulk d + 1
  | (_, d) => uptoBulk d + 1
 end
def uptoSmall : (H : Type) → List (DataW H) → Bool := fun _ ds => decide (uptoBulkAll ds ≤ 1048576)
def OpenSpec.upto (s : _root_.Go.ChangeSpec) : _root_.Go.OpenSpec := { _root_.Go.OpenSpec.ofChange s with cond := some uptoSmall }

/-- 'custodylaw36.BackupMatchesSpec', WHERE WHAT IT READS IS OF BULK AT MOST 1048576: true; the input reads as it did. -/
def backupMatchesSpecUptoRow : OpenClaim := { program := "ytakfalfggmgcfaagreatdoor", sum := "ddca89a6545dbe5beb27f1d17368120fc45eabdfc95a2678699c13b3200b857c", func := "custody/custodylaw36.BackupMatchesSpec", spec := "backupMatchesSpec", inPlace := ["internal/abi.NoEscape", "internal/bytealg.MakeNoZero"], unfollowed := true, recurses := true, named := ["custody/hash.constants", "custody/custodyref02.constants"], apart := false, laid := [("custody/custodyref02.constants", laid_custody_custodyref02_constants), ("custody/hash.constants", laid_custody_hash_constants)], narrowed := true }
def BackupMatchesSpecUptoSaid : Prop := backupMatchesSpecUptoRow.holds Tryz.pinned (OpenSpec.upto backupMatchesSpecSpec)

/-- 'custodylaw36.BackupOpensAsSpecified', WHERE WHAT IT READS IS OF BULK AT MOST 1048576: true; the input reads as it did. -/
def backupOpensAsSpecifiedUptoRow : OpenClaim := { program := "ytakfalfggmgcfaagreatdoor", sum := "ddca89a6545dbe5beb27f1d17368120fc45eabdfc95a2678699c13b3200b857c", func := "custody/custodylaw36.BackupOpensAsSpecified", spec := "backupOpensAsSpecified", inPlace := ["internal/abi.NoEscape", "internal/bytealg.MakeNoZero"], unfollowed := true, recurses := true, named := ["custody/hash.constants", "custody/custodyref02.constants"], apart := false, laid := [("custody/custodyref02.constants", laid_custody_custodyref02_constants), ("custody/hash.constants", laid_custody_hash_constants)], narrowed := true }
def BackupOpensAsSpecifiedUptoSaid : Prop := backupOpensAsSpecifiedUptoRow.holds Tryz.pinned (OpenSpec.upto backupOpensAsSpecifiedSpec)

/-- 'custodylaw36.BackupNeedsItsKey', WHERE WHAT IT READS IS OF BULK AT MOST 1048576: true; the input reads as it did. -/
def backupNeedsItsKeyUptoRow : OpenClaim := { program := "ytakfalfggmgcfaagreatdoor", sum := "ddca89a6545dbe5beb27f1d17368120fc45eabdfc95a2678699c13b3200b857c", func := "custody/custodylaw36.BackupNeedsItsKey", spec := "backupNeedsItsKey", inPlace := ["internal/abi.NoEscape", "internal/bytealg.MakeNoZero"], unfollowed := true, recurses := true, named := ["custody/hash.constants", "custody/custodyref02.constants"], apart := false, laid := [("custody/custodyref02.constants", laid_custody_custodyref02_constants), ("custody/hash.constants", laid_custody_hash_constants)], narrowed := true }
def BackupNeedsItsKeyUptoSaid : Prop := backupNeedsItsKeyUptoRow.holds Tryz.pinned (OpenSpec.upto backupNeedsItsKeySpec)

/-- 'custodylaw38.DomainFoundingMatchesSpec', WHERE WHAT IT READS IS OF BULK AT MOST 1048576: true; the input reads as it did. -/
def domainFoundingMatchesSpecUptoRow : OpenClaim := { program := "ytakfalfggmgcfaagreatdoor", sum := "ddca89a6545dbe5beb27f1d17368120fc45eabdfc95a2678699c13b3200b857c", func := "custody/custodylaw38.DomainFoundingMatchesSpec", spec := "domainFoundingMatchesSpec", inPlace := ["internal/abi.NoEscape", "internal/bytealg.MakeNoZero"], unfollowed := true, recurses := true, named := ["custody/hash.constants", "custody/custodyref02.constants"], apart := false, laid := [("custody/custodyref02.constants", laid_custody_custodyref02_constants), ("custody/hash.constants", laid_custody_hash_constants)], narrowed := true }
def DomainFoundingMatchesSpecUptoSaid : Prop := domainFoundingMatchesSpecUptoRow.holds Tryz.pinned (OpenSpec.upto domainFoundingMatchesSpecSpec)

/-- 'custodylaw38.DomainBackupMatchesSpec', WHERE WHAT IT READS IS OF BULK AT MOST 1048576: true; the input reads as it did. -/
def domainBackupMatchesSpecUptoRow : OpenClaim := { program := "ytakfalfggmgcfaagreatdoor", sum := "ddca89a6545dbe5beb27f1d17368120fc45eabdfc95a2678699c13b3200b857c", func := "custody/custodylaw38.DomainBackupMatchesSpec", spec := "domainBackupMatchesSpec", inPlace := ["internal/abi.NoEscape", "internal/bytealg.MakeNoZero"], unfollowed := true, recurses := true, named := ["custody/hash.constants", "custody/custodyref02.constants"], apart := false, laid := [("custody/custodyref02.constants", laid_custody_custodyref02_constants), ("custody/hash.constants", laid_custody_hash_constants)], narrowed := true }
def DomainBackupMatchesSpecUptoSaid : Prop := domainBackupMatchesSpecUptoRow.holds Tryz.pinned (OpenSpec.upto domainBackupMatchesSpecSpec)

/-- 'custodylaw38.DomainSplitMatchesSpec', WHERE WHAT IT READS IS OF BULK AT MOST 1048576: true; the input reads as it did. -/
def domainSplitMatchesSpecUptoRow : OpenClaim := { program := "ytakfalfggmgcfaagreatdoor", sum := "ddca89a6545dbe5beb27f1d17368120fc45eabdfc95a2678699c13b3200b857c", func := "custody/custodylaw38.DomainSplitMatchesSpec", spec := "domainSplitMatchesSpec", inPlace := ["internal/abi.NoEscape", "internal/bytealg.MakeNoZero"], unfollowed := true, recurses := true, named := ["custody/hash.constants", "custody/custodyref02.constants"], apart := false, laid := [("custody/custodyref02.constants", laid_custody_custodyref02_constants), ("custody/hash.constants", laid_custody_hash_constants)], narrowed := true }
def DomainSplitMatchesSpecUptoSaid : Prop := domainSplitMatchesSpecUptoRow.holds Tryz.pinned (OpenSpec.upto domainSplitMatchesSpecSpec)

/-- 'custodylaw38.DomainMergeMatchesSpec', WHERE WHAT IT READS IS OF BULK AT MOST 1048576: true; the input reads as it did. -/
def domainMergeMatchesSpecUptoRow : OpenClaim := { program := "ytakfalfggmgcfaagreatdoor", sum := "ddca89a6545dbe5beb27f1d17368120fc45eabdfc95a2678699c13b3200b857c", func := "custody/custodylaw38.DomainMergeMatchesSpec", spec := "domainMergeMatchesSpec", inPlace := ["internal/abi.NoEscape", "internal/bytealg.MakeNoZero"], unfollowed := true, recurses := true, named := ["custody/hash.constants", "custody/custodyref02.constants"], apart := false, laid := [("custody/custodyref02.constants", laid_custody_custodyref02_constants), ("custody/hash.constants", laid_custody_hash_constants)], narrowed := true }
def DomainMergeMatchesSpecUptoSaid : Prop := domainMergeMatchesSpecUptoRow.holds Tryz.pinned (OpenSpec.upto domainMergeMatchesSpecSpec)

/-- 'custodylaw38.DomainAnyThresholdOpens', WHERE WHAT IT READS IS OF BULK AT MOST 1048576: true; the input reads as it did. -/
def domainAnyThresholdOpensUptoRow : OpenClaim := { program := "ytakfalfggmgcfaagreatdoor", sum := "ddca89a6545dbe5beb27f1d17368120fc45eabdfc95a2678699c13b3200b857c", func := "custody/custodylaw38.DomainAnyThresholdOpens", spec := "domainAnyThresholdOpens", inPlace := ["internal/abi.NoEscape", "internal/bytealg.MakeNoZero"], unfollowed := true, recurses := true, named := ["custody/hash.constants"], apart := false, laid := [("custody/hash.constants", laid_custody_hash_constants)], narrowed := true }
def DomainAnyThresholdOpensUptoSaid : Prop := domainAnyThresholdOpensUptoRow.holds Tryz.pinned (OpenSpec.upto domainAnyThresholdOpensSpec)

/-- 'custodylaw38.DomainSplitsAndMerges', WHERE WHAT IT READS IS OF BULK AT MOST 1048576: true; the input reads as it did. -/
def domainSplitsAndMergesUptoRow : OpenClaim := { program := "ytakfalfggmgcfaagreatdoor", sum := "ddca89a6545dbe5beb27f1d17368120fc45eabdfc95a2678699c13b3200b857c", func := "custody/custodylaw38.DomainSplitsAndMerges", spec := "domainSplitsAndMerges", inPlace := ["internal/abi.NoEscape", "internal/bytealg.MakeNoZero"], unfollowed := true, recurses := true, named := ["custody/hash.constants"], apart := false, laid := [("custody/hash.constants", laid_custody_hash_constants)], narrowed := true }
def DomainSplitsAndMergesUptoSaid : Prop := domainSplitsAndMergesUptoRow.holds Tryz.pinned (OpenSpec.upto domainSplitsAndMergesSpec)

end Rows
end Go.Proofs.YtakfalfggmgcfaaGreatDoor
