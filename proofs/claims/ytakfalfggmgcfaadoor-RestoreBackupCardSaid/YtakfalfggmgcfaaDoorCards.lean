/-
  DERIVED. GIVEN WITH THE SEED: THE CARDS: each row of YtakfalfggmgcfaaDoorRows.lean that lists a variable, with what it lists TIED to the program's text (the seventh form; the later family's looks); each row that meets fmt, with fmt's text TOLD by the authors' own Lean function (tested against real Go, not proved from fmt's source: count such statements apart). THE CARD IS WHAT COUNTS. Prove the row's statement (the work); the ties are given (YtakfalfggmgcfaaDoorTie.lean); close each card by the builder's one call (the guide's Derived/Test/ToyasCard.lean, 'card_holds'). Laid BY PROGRAM, IN A SANDBOX (cutbox-door.mjs). By AI agents, Wed Nov 11 2026. No macro, syntax, notation, axiom, sorry.
-/
import Derived.Test.YtakfalfggmgcfaaDoorRows
import GoSem.ClaimSeven
namespace Go.Proofs.YtakfalfggmgcfaaDoor
namespace Rows

/-- THE TIED CARD OF 'custodylaw04.SealMatchesSpec'. -/
def sealMatchesSpecCard : Claim7 := { stood := { row := sealMatchesSpecRow, standIns := [], harness := (true, "d8e72e588dc6cb4c136187ef44086255f06f6c3f150b3dc239f4c0fc3d62beba"), looks := false }, kinds := [], alts := [], laidByText := true, laidKinds := [.data, .data], laidTests := true, laidLooks := .later }
def SealMatchesSpecCardSaid : Prop := Claim7.holds Tryd.pinned (.plain (OpenSpec.ofChange sealMatchesSpecSpec)) sealMatchesSpecCard

/-- THE TIED CARD OF 'custodylaw04.SealOpensAsSpecified'. -/
def sealOpensAsSpecifiedCard : Claim7 := { stood := { row := sealOpensAsSpecifiedRow, standIns := [], harness := (true, "d8e72e588dc6cb4c136187ef44086255f06f6c3f150b3dc239f4c0fc3d62beba"), looks := false }, kinds := [], alts := [], laidByText := true, laidKinds := [.data, .data], laidTests := true, laidLooks := .later }
def SealOpensAsSpecifiedCardSaid : Prop := Claim7.holds Tryd.pinned (.plain (OpenSpec.ofChange sealOpensAsSpecifiedSpec)) sealOpensAsSpecifiedCard

/-- THE TIED CARD OF 'custodylaw04.SealRoundTrip'. -/
def sealRoundTripCard : Claim7 := { stood := { row := sealRoundTripRow, standIns := [], harness := (true, "d8e72e588dc6cb4c136187ef44086255f06f6c3f150b3dc239f4c0fc3d62beba"), looks := false }, kinds := [], alts := [], laidByText := true, laidKinds := [.data, .data], laidTests := true, laidLooks := .later }
def SealRoundTripCardSaid : Prop := Claim7.holds Tryd.pinned (.plain (OpenSpec.ofChange sealRoundTripSpec)) sealRoundTripCard

/-- THE TIED CARD OF 'custodylaw04.SealChanged'. -/
def sealChangedCard : Claim7 := { stood := { row := sealChangedRow, standIns := [], harness := (true, "d8e72e588dc6cb4c136187ef44086255f06f6c3f150b3dc239f4c0fc3d62beba"), looks := false }, kinds := [], alts := [], laidByText := true, laidKinds := [.data, .data], laidTests := true, laidLooks := .later }
def SealChangedCardSaid : Prop := Claim7.holds Tryd.pinned (.plain (OpenSpec.ofChange sealChangedSpec)) sealChangedCard

/-- THE TIED CARD OF 'custodylaw04.SealInjective'. -/
def sealInjectiveCard : Claim7 := { stood := { row := sealInjectiveRow, standIns := [], harness := (true, "d8e72e588dc6cb4c136187ef44086255f06f6c3f150b3dc239f4c0fc3d62beba"), looks := false }, kinds := [], alts := [], laidByText := true, laidKinds := [.data, .data], laidTests := true, laidLooks := .later }
def SealInjectiveCardSaid : Prop := Claim7.holds Tryd.pinned (.plain (OpenSpec.ofChange sealInjectiveSpec)) sealInjectiveCard

/-- THE TIED CARD OF 'custodylaw36.BackupRoundTrip'. -/
def backupRoundTripCard : Claim7 := { stood := { row := backupRoundTripRow, standIns := [], harness := (true, "d8e72e588dc6cb4c136187ef44086255f06f6c3f150b3dc239f4c0fc3d62beba"), looks := false }, kinds := [], alts := [], laidByText := true, laidKinds := [.data], laidTests := true, laidLooks := .later }
def BackupRoundTripCardSaid : Prop := Claim7.holds Tryd.pinned (.plain (OpenSpec.ofChange backupRoundTripSpec)) backupRoundTripCard

/-- THE TIED CARD OF 'custodylaw36.BackupComplete'. -/
def backupCompleteCard : Claim7 := { stood := { row := backupCompleteRow, standIns := [], harness := (true, "d8e72e588dc6cb4c136187ef44086255f06f6c3f150b3dc239f4c0fc3d62beba"), looks := false }, kinds := [], alts := [], laidByText := true, laidKinds := [.data], laidTests := true, laidLooks := .later }
def BackupCompleteCardSaid : Prop := Claim7.holds Tryd.pinned (.plain (OpenSpec.ofChange backupCompleteSpec)) backupCompleteCard

/-- THE TIED CARD OF 'custodylaw37.RestoreBackup'. -/
def restoreBackupCard : Claim7 := { stood := { row := restoreBackupRow, standIns := [], harness := (true, "d8e72e588dc6cb4c136187ef44086255f06f6c3f150b3dc239f4c0fc3d62beba"), looks := false }, kinds := [], alts := [], laidByText := true, laidKinds := [.data], laidTests := true, laidLooks := .later }
def RestoreBackupCardSaid : Prop := Claim7.holds Tryd.pinned (.plain (OpenSpec.ofChange restoreBackupSpec)) restoreBackupCard

/-- THE SECOND FORM's CARD OF 'custodylaw04.SealMatchesSpec'. -/
def sealMatchesSpecUptoCard : Claim7 := { stood := { row := sealMatchesSpecUptoRow, standIns := [], harness := (true, "d8e72e588dc6cb4c136187ef44086255f06f6c3f150b3dc239f4c0fc3d62beba"), looks := false }, kinds := [], alts := [], laidByText := true, laidKinds := [.data, .data], laidTests := true, laidLooks := .later }
def SealMatchesSpecUptoCardSaid : Prop := Claim7.holds Tryd.pinned (.plain (OpenSpec.upto sealMatchesSpecSpec)) sealMatchesSpecUptoCard

/-- THE SECOND FORM's CARD OF 'custodylaw04.SealOpensAsSpecified'. -/
def sealOpensAsSpecifiedUptoCard : Claim7 := { stood := { row := sealOpensAsSpecifiedUptoRow, standIns := [], harness := (true, "d8e72e588dc6cb4c136187ef44086255f06f6c3f150b3dc239f4c0fc3d62beba"), looks := false }, kinds := [], alts := [], laidByText := true, laidKinds := [.data, .data], laidTests := true, laidLooks := .later }
def SealOpensAsSpecifiedUptoCardSaid : Prop := Claim7.holds Tryd.pinned (.plain (OpenSpec.upto sealOpensAsSpecifiedSpec)) sealOpensAsSpecifiedUptoCard

/-- THE SECOND FORM's CARD OF 'custodylaw04.SealRoundTrip'. -/
def sealRoundTripUptoCard : Claim7 := { stood := { row := sealRoundTripUptoRow, standIns := [], harness := (true, "d8e72e588dc6cb4c136187ef44086255f06f6c3f150b3dc239f4c0fc3d62beba"), looks := false }, kinds := [], alts := [], laidByText := true, laidKinds := [.data, .data], laidTests := true, laidLooks := .later }
def SealRoundTripUptoCardSaid : Prop := Claim7.holds Tryd.pinned (.plain (OpenSpec.upto sealRoundTripSpec)) sealRoundTripUptoCard

/-- THE SECOND FORM's CARD OF 'custodylaw04.SealChanged'. -/
def sealChangedUptoCard : Claim7 := { stood := { row := sealChangedUptoRow, standIns := [], harness := (true, "d8e72e588dc6cb4c136187ef44086255f06f6c3f150b3dc239f4c0fc3d62beba"), looks := false }, kinds := [], alts := [], laidByText := true, laidKinds := [.data, .data], laidTests := true, laidLooks := .later }
def SealChangedUptoCardSaid : Prop := Claim7.holds Tryd.pinned (.plain (OpenSpec.upto sealChangedSpec)) sealChangedUptoCard

/-- THE SECOND FORM's CARD OF 'custodylaw04.SealInjective'. -/
def sealInjectiveUptoCard : Claim7 := { stood := { row := sealInjectiveUptoRow, standIns := [], harness := (true, "d8e72e588dc6cb4c136187ef44086255f06f6c3f150b3dc239f4c0fc3d62beba"), looks := false }, kinds := [], alts := [], laidByText := true, laidKinds := [.data, .data], laidTests := true, laidLooks := .later }
def SealInjectiveUptoCardSaid : Prop := Claim7.holds Tryd.pinned (.plain (OpenSpec.upto sealInjectiveSpec)) sealInjectiveUptoCard

/-- THE SECOND FORM's CARD OF 'custodylaw36.BackupRoundTrip'. -/
def backupRoundTripUptoCard : Claim7 := { stood := { row := backupRoundTripUptoRow, standIns := [], harness := (true, "d8e72e588dc6cb4c136187ef44086255f06f6c3f150b3dc239f4c0fc3d62beba"), looks := false }, kinds := [], alts := [], laidByText := true, laidKinds := [.data], laidTests := true, laidLooks := .later }
def BackupRoundTripUptoCardSaid : Prop := Claim7.holds Tryd.pinned (.plain (OpenSpec.upto backupRoundTripSpec)) backupRoundTripUptoCard

/-- THE SECOND FORM's CARD OF 'custodylaw36.BackupComplete'. -/
def backupCompleteUptoCard : Claim7 := { stood := { row := backupCompleteUptoRow, standIns := [], harness := (true, "d8e72e588dc6cb4c136187ef44086255f06f6c3f150b3dc239f4c0fc3d62beba"), looks := false }, kinds := [], alts := [], laidByText := true, laidKinds := [.data], laidTests := true, laidLooks := .later }
def BackupCompleteUptoCardSaid : Prop := Claim7.holds Tryd.pinned (.plain (OpenSpec.upto backupCompleteSpec)) backupCompleteUptoCard

/-- THE SECOND FORM's CARD OF 'custodylaw37.RestoreBackup'. -/
def restoreBackupUptoCard : Claim7 := { stood := { row := restoreBackupUptoRow, standIns := [], harness := (true, "d8e72e588dc6cb4c136187ef44086255f06f6c3f150b3dc239f4c0fc3d62beba"), looks := false }, kinds := [], alts := [], laidByText := true, laidKinds := [.data], laidTests := true, laidLooks := .later }
def RestoreBackupUptoCardSaid : Prop := Claim7.holds Tryd.pinned (.plain (OpenSpec.upto restoreBackupSpec)) restoreBackupUptoCard
end Rows
end Go.Proofs.YtakfalfggmgcfaaDoor
