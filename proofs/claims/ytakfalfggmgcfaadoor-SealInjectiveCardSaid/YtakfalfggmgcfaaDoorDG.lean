/- Laws of this seat over what the arguments read as. -/
import Derived.Test.YtakfalfggmgcfaaDoorDWx3
import Derived.Test.YtakfalfggmgcfaaDoorRows
import Derived.LaidMore
import Derived.Stop.Joined
import Derived.Lib.LaidTab
set_option linter.unusedSimpArgs false
set_option linter.unusedVariables false
/-! The package variables that the laws lean on. -/
namespace Go.Cu
open Go.Proofs Go.Proofs.YtakfalfggmgcfaaDoor
theorem gRef : Tryd.prog.globalNamed "custody/custodyref02.constants" = some 0 := by kernel_rfl
theorem gHash : Tryd.prog.globalNamed "custody/hash.constants" = some 1 := by kernel_rfl
theorem tRef : (Tryd.prog.globals[0]?).map (·.type) = some 157 := by kernel_rfl
theorem tHash : (Tryd.prog.globals[1]?).map (·.type) = some 157 := by kernel_rfl
theorem datRef {H : Type} : (Rows.laid_custody_custodyref02_constants : DataW H) = Lib.tabData .u32 ref02_constants.toList := rfl
theorem datHash {H : Type} : (Rows.laid_custody_hash_constants : DataW H) = Lib.tabData .u32 hash_constants.toList := rfl
theorem var_heap {P : Program} {w : World} {n : String} {g : Nat} {cs : Array Value} (hg : P.globalNamed n = some g) (h : w.var? P n = some cs) : ∃ T f, w.heap[g]? = some (.cells cs T f) := by
  simp only [World.var?, hg, Option.bind_some] at h
  split at h
  · rename_i c t f hb
    injection h with h; subst h
    exact ⟨t, f, hb⟩
  · cases h
theorem c157 : Tryd.prog.cellsOf 157 = 64 := by kernel_rfl
theorem c70 : Tryd.prog.cellsOf 70 = 1 := by kernel_rfl
theorem glRef {W : World} {H : Type} {enc : TypeId × Value → H} {sp : Nat → Bool} {hd : Bool} {f : Nat} {cs : Array Value} {p : List MemPlace} (hv : W.var? Tryd.prog "custody/custodyref02.constants" = some cs)
    (h : DataW.trod enc Tryd.prog W 0 sp hd f 157 cs.toList = some (Rows.laid_custody_custodyref02_constants, p)) : ∃ T f, hp W 0 = some (.cells (vI .u32 ref02_constants).toArray T f) := by
  rw [datRef] at h
  have := Lib.cells_of_tab Tryd.underlying157 Tryd.underlying70 c70 c157 h
  obtain ⟨T, f, hh⟩ := var_heap gRef hv
  refine ⟨T, f, hh.trans ?_⟩
  rw [show cs = (vI .u32 ref02_constants).toArray from Array.ext' (by rw [this]; rfl)]
theorem glHash {W : World} {H : Type} {enc : TypeId × Value → H} {sp : Nat → Bool} {hd : Bool} {f : Nat} {cs : Array Value} {p : List MemPlace} (hv : W.var? Tryd.prog "custody/hash.constants" = some cs)
    (h : DataW.trod enc Tryd.prog W 0 sp hd f 157 cs.toList = some (Rows.laid_custody_hash_constants, p)) : ∃ T f, hp W 1 = some (.cells (vI .u32 hash_constants).toArray T f) := by
  rw [datHash] at h
  have := Lib.cells_of_tab Tryd.underlying157 Tryd.underlying70 c70 c157 h
  obtain ⟨T, f, hh⟩ := var_heap gHash hv
  refine ⟨T, f, hh.trans ?_⟩
  rw [show cs = (vI .u32 hash_constants).toArray from Array.ext' (by rw [this]; rfl)]
theorem gl_of_laid {W : World} (h : laidMetH Tryd.prog [("custody/custodyref02.constants", Rows.laid_custody_custodyref02_constants), ("custody/hash.constants", Rows.laid_custody_hash_constants)] W) : Gl (hp W) := by
  rw [MakeChecks.laidMetH_plain _ _ _ (by kernel_rfl)] at h
  obtain ⟨ps, ⟨g0, t0, cs0, f0, p0, q0, hg0, ht0, hv0, hd0, ⟨g1, t1, cs1, f1, p1, q1, hg1, ht1, hv1, hd1, _, _⟩, _⟩, _, _⟩ := h
  obtain rfl := Option.some.inj (gRef.symm.trans hg0)
  obtain rfl := Option.some.inj (gHash.symm.trans hg1)
  obtain rfl := Option.some.inj (tRef.symm.trans ht0)
  obtain rfl := Option.some.inj (tHash.symm.trans ht1)
  exact ⟨glRef hv0 hd0, glHash hv1 hd1⟩
/-- The door's own heap meets the condition. -/
theorem door_met (os : Os) (args : Array Value) : laidMetH Tryd.prog [("custody/custodyref02.constants", Rows.laid_custody_custodyref02_constants), ("custody/hash.constants", Rows.laid_custody_hash_constants)] ((World.doorLaid Tryd.prog 400 os).forCall (fun _ _ => 0) ⟨#[], args, []⟩).memory :=
  laidMetH_of_parts3 (fuel := 8) (laidMet_of_run' 8 (by kernel_rfl) (by kernel_rfl)) (by kernel_rfl) (by kernel_rfl)
end Go.Cu
