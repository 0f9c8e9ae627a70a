/- Rules for walks over facts, pure functions and plain laws; no condition. -/
import Derived.Test.YtakfalfggmgcfaaDoorE7
import Derived.Test.YtakfalfggmgcfaaDoorK3
import Derived.Test.YtakfalfggmgcfaaDoorK2
import Derived.Test.YtakfalfggmgcfaaDoorEWx2
import Derived.Test.YtakfalfggmgcfaaDoorRows
import Derived.LaidMore
import Derived.Stop.Joined
import Derived.Lib.LaidTab
set_option linter.unusedVariables false
set_option linter.unusedSimpArgs false
/-! Plain laws: the backup example. -/
namespace Go.Cu
attribute [local irreducible] macS blkS bits xorS bytesS
end Go.Cu

/-! The laws over what the arguments read as. -/
namespace Go.Cu
theorem wfI_of {n : Int} (h : wfK .i64 n) : wfI n := by
 unfold wfK Lit.wf at h
 simp [IntKind.min, IntKind.max, IntKind.signed, IntKind.bits] at h
 exact ⟨by omega, by omega⟩
theorem num_of {k : Key} (h : Key.Wf k) : wfI k.Id ∧ wfI k.Type_ ∧ wfI k.Uses ∧ wfI k.Start ∧ wfI k.End ∧ wfI k.Version ∧ wfI k.Parent := by
 obtain ⟨h1, h2, _, h4, h5, h6, h7, h8⟩ := h
 exact ⟨wfI_of h1, wfI_of h2, wfI_of h4, wfI_of h5, wfI_of h6, wfI_of h7, wfI_of h8⟩
theorem inTk_of {t : Table} (h : Table.Wf t) : inTk t := ⟨wfI_of h.1, fun k hk => num_of (h.2.1 k hk)⟩
theorem law_RestoreBackup' (a0 a1 : Table) (a2 : List UInt8) (a3 a4 : Int) (w0 : Table.Wf a0) (w1 : Table.Wf a1) (w2 : a2.length ≤ 140737488351232) (w3 : (Lit.int .i64 a3).wf = true) (w4 : (Lit.int .i64 a4).wf = true) : law37_RestoreBackup a0 a1 a2 a3 a4 = some true :=
 law_RestoreBackup sanity37 a0 a1 a2 a3 a4 (inTk_of w0) (inTk_of w1)
end Go.Cu

/-! The package variables that the laws lean on. -/
namespace Go.Cu
open Go.Proofs Go.Proofs.YtakfalfggmgcfaaDoor
theorem gHash : Tryd.prog.globalNamed "custody/hash.constants" = some 1 := by kernel_rfl
theorem tHash : (Tryd.prog.globals[1]?).map (·.type) = some 157 := by kernel_rfl
theorem datHash {H : Type} : (Rows.laid_custody_hash_constants : DataW H) = Lib.tabData .u32 hash_constants.toList := rfl
theorem var_heap {P : Program} {w : World} {n : String} {g : Nat} {cs : Array Value} (hg : P.globalNamed n = some g) (h : w.var? P n = some cs) : ∃ T f, w.heap[g]? = some (.cells cs T f) := by
 simp only [World.var?, hg, Option.bind_some] at h
 split at h
 ·rename_i c t f hb
  injection h with h; subst h
  exact ⟨t, f, hb⟩
 ·cases h
theorem c157 : Tryd.prog.cellsOf 157 = 64 := by kernel_rfl
theorem c70 : Tryd.prog.cellsOf 70 = 1 := by kernel_rfl
theorem glHash {W : World} {H : Type} {enc : TypeId × Value → H} {sp : Nat → Bool} {hd : Bool} {f : Nat} {cs : Array Value} {p : List MemPlace} (hv : W.var? Tryd.prog "custody/hash.constants" = some cs)
  (h : DataW.trod enc Tryd.prog W 0 sp hd f 157 cs.toList = some (Rows.laid_custody_hash_constants, p)) : ∃ T f, hp W 1 = some (.cells (vI .u32 hash_constants).toArray T f) := by
 rw [datHash] at h
 have := Lib.cells_of_tab Tryd.underlying157 Tryd.underlying70 c70 c157 h
 obtain ⟨T, f, hh⟩ := var_heap gHash hv
 refine ⟨T, f, hh.trans ?_⟩
 rw [show cs = (vI .u32 hash_constants).toArray from Array.ext' (by rw [this]; rfl)]
theorem gl_of_laid {W : World} (h : laidMetH Tryd.prog [("custody/hash.constants", Rows.laid_custody_hash_constants)] W) : Gl (hp W) := by
 rw [MakeChecks.laidMetH_plain _ _ _ (by kernel_rfl)] at h
 obtain ⟨ps, ⟨g1, t1, cs1, f1, p1, q1, hg1, ht1, hv1, hd1, _, _⟩, _, _⟩ := h
 obtain rfl := Option.some.inj (gHash.symm.trans hg1)
 obtain rfl := Option.some.inj (tHash.symm.trans ht1)
 exact ⟨glHash hv1 hd1⟩
/-- The door's own heap meets the condition. -/
theorem door_met (os : Os) (args : Array Value) : laidMetH Tryd.prog [("custody/hash.constants", Rows.laid_custody_hash_constants)] ((World.doorLaid Tryd.prog 400 os).forCall (fun _ _ => 0) ⟨#[], args, []⟩).memory :=
 laidMetH_of_parts3 (fuel := 8) (laidMet_of_run' 8 (by kernel_rfl) (by kernel_rfl)) (by kernel_rfl) (by kernel_rfl)
end Go.Cu
