/- Laws of this seat over what the arguments read as. -/
import Derived.Test.YtakfalfggmgcfaaL8
import Derived.Test.Ytakfalfggmgcfaa1A
set_option linter.unusedVariables false
set_option linter.unusedSimpArgs false
/-! The laws over what the arguments read as. -/
namespace Go.Cu
theorem wfI_of {n : Int} (h : wfK .i64 n) : wfI n := by
  unfold wfK Lit.wf at h
  simp [IntKind.min, IntKind.max, IntKind.signed, IntKind.bits] at h
  exact ⟨by omega, by omega⟩
theorem inT_of {t : Table} (h : Table.Wf t) : inT t := ⟨wfI_of h.1, fun k hk => wfI_of (h.2.1 k hk).2.2.2.1⟩
theorem inB_of {b : Backup} (h : Backup.Wf b) : inB' b := fun k hk => wfI_of (h.2.2.2.2.2.2.2.1 k hk).2.2.2.1
theorem law_RestoreMatchesSpec' (a0 : Table) (a1 : Backup) (a2 : Key) (a3 : Int) (a4 : restore_Place) (w0 : Table.Wf a0) (w1 : Backup.Wf a1) (w2 : Key.Wf a2) (w3 : (Lit.int .i64 a3).wf = true) (w4 : restore_Place.Wf a4) : law37_RestoreMatchesSpec a0 a1 a2 a3 a4 = some true :=
  law_RestoreMatchesSpec a0 a1 a2 a3 a4 (inT_of w0) (inB_of w1)
theorem law_RestoreHolds' (a0 : Table) (a1 : Backup) (a2 a3 : Int) (w0 : Table.Wf a0) (w1 : Backup.Wf a1) (w2 : (Lit.int .i64 a2).wf = true) (w3 : (Lit.int .i64 a3).wf = true) : law37_RestoreHolds a0 a1 a2 a3 = some true :=
  law_RestoreHolds a0 a1 a2 a3 (inT_of w0) (inB_of w1)
theorem law_RestoreNarrow' (a0 : Table) (a1 : Backup) (a2 : Int) (w0 : Table.Wf a0) (w1 : Backup.Wf a1) (w2 : (Lit.int .i64 a2).wf = true) : law37_RestoreNarrow a0 a1 a2 = some true :=
  law_RestoreNarrow a0 a1 a2 (inT_of w0) (inB_of w1)
theorem law_RestoreAdmits' (a0 : restore_Place) (a1 : Backup) (w0 : restore_Place.Wf a0) (w1 : Backup.Wf a1) : law37_RestoreAdmits a0 a1 = some true :=
  law_RestoreAdmits a0 a1 (inB_of w1)
end Go.Cu
