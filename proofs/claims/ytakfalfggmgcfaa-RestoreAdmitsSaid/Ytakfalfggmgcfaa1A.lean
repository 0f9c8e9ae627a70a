/- Laws of this seat over what the arguments read as. -/
import Derived.Test.Ytakfalfggmgcfaa1P
import Derived.Test.YtakfalfggmgcfaaCu18
import Derived.Test.YtakfalfggmgcfaaProg
import Derived.KernelRfl
set_option linter.unusedVariables false
set_option linter.unusedSimpArgs false
set_option maxHeartbeats 4000000
/-! How the arguments read. -/
namespace Go.Cu
open Go.Proofs Go.RowKit Go.ChangeShapes Go.WideShapes Go.Deep
def Key.Wf (x : Key) : Prop := (wfK .i64 x.Id) ∧ (wfK .i64 x.Type_) ∧ (x.Value.length ≤ maxLen) ∧ (wfK .i64 x.Uses) ∧ (wfK .i64 x.Start) ∧ (wfK .i64 x.End) ∧ (wfK .i64 x.Version) ∧ (wfK .i64 x.Parent)
def Table.Wf (x : Table) : Prop := (wfK .i64 x.Next) ∧ ((∀ a ∈ x.Keys, Key.Wf a) ∧ x.Keys.length ≤ maxLen)
def Backup.Wf (x : Backup) : Prop := (∀ a ∈ x.Domain.toList, wfK .u8 a) ∧ (wfK .i64 x.Epoch) ∧ (wfK .i64 x.Number) ∧ (wfK .i64 x.Firmware) ∧ (wfK .i64 x.Time) ∧ (∀ a ∈ x.Policy.toList, wfK .u8 a) ∧ (x.Module.length ≤ maxLen) ∧ ((∀ a ∈ x.Keys, Key.Wf a) ∧ x.Keys.length ≤ maxLen)
def restore_Place.Wf (x : restore_Place) : Prop := (∀ a ∈ x.Domain.toList, wfK .u8 a) ∧ (∀ a ∈ x.Policy.toList, wfK .u8 a) ∧ (wfK .i64 x.Firmware) ∧ (wfK .i64 x.Number)
theorem Key.opn {w : World} : Opn Try.prog w 30 fun cs => ∃ x : Key, cs = Key.C x ∧ Key.Wf x := by
  intro H enc fuel cs x h
  have hsz : cs.length = 9 := (opn_size Try.underlying30 h).trans (by kernel_rfl)
  obtain ⟨_, _, h0⟩ := opn_at Try.underlying30 h 0 _ (u := 3) (o := 0) (c := 1) rfl rfl rfl (by kernel_rfl)
  obtain ⟨a0, e0, w0⟩ := (opn_int Try.underlying3) _ _ _ _ _ h0
  obtain ⟨_, _, h1⟩ := opn_at Try.underlying30 h 1 _ (u := 3) (o := 1) (c := 1) rfl rfl rfl (by kernel_rfl)
  obtain ⟨a1, e1, w1⟩ := (opn_int Try.underlying3) _ _ _ _ _ h1
  obtain ⟨_, _, h2⟩ := opn_at Try.underlying30 h 2 _ (u := 9) (o := 2) (c := 1) rfl rfl rfl (by kernel_rfl)
  obtain ⟨a2, e2, w2⟩ := (opn_str Try.underlying9) _ _ _ _ _ h2
  obtain ⟨_, _, h3⟩ := opn_at Try.underlying30 h 3 _ (u := 3) (o := 3) (c := 1) rfl rfl rfl (by kernel_rfl)
  obtain ⟨a3, e3, w3⟩ := (opn_int Try.underlying3) _ _ _ _ _ h3
  obtain ⟨_, _, h4⟩ := opn_at Try.underlying30 h 4 _ (u := 3) (o := 4) (c := 1) rfl rfl rfl (by kernel_rfl)
  obtain ⟨a4, e4, w4⟩ := (opn_int Try.underlying3) _ _ _ _ _ h4
  obtain ⟨_, _, h5⟩ := opn_at Try.underlying30 h 5 _ (u := 3) (o := 5) (c := 1) rfl rfl rfl (by kernel_rfl)
  obtain ⟨a5, e5, w5⟩ := (opn_int Try.underlying3) _ _ _ _ _ h5
  obtain ⟨_, _, h6⟩ := opn_at Try.underlying30 h 6 _ (u := 3) (o := 6) (c := 1) rfl rfl rfl (by kernel_rfl)
  obtain ⟨a6, e6, w6⟩ := (opn_int Try.underlying3) _ _ _ _ _ h6
  obtain ⟨_, _, h7⟩ := opn_at Try.underlying30 h 7 _ (u := 3) (o := 7) (c := 1) rfl rfl rfl (by kernel_rfl)
  obtain ⟨a7, e7, w7⟩ := (opn_int Try.underlying3) _ _ _ _ _ h7
  obtain ⟨_, _, h8⟩ := opn_at Try.underlying30 h 8 _ (u := 4) (o := 8) (c := 1) rfl rfl rfl (by kernel_rfl)
  obtain ⟨a8, e8⟩ := opn_bool Try.underlying4 _ _ _ _ _ h8
  refine ⟨⟨a0, a1, a2, a3, a4, a5, a6, a7, a8⟩, ?_, w0, w1, w2, w3, w4, w5, w6, w7⟩
  have z := (cut_next cs 0 1 1 rfl e0 (cut_next cs 1 1 2 rfl e1 (cut_next cs 2 1 3 rfl e2 (cut_next cs 3 1 4 rfl e3 (cut_next cs 4 1 5 rfl e4 (cut_next cs 5 1 6 rfl e5 (cut_next cs 6 1 7 rfl e6 (cut_next cs 7 1 8 rfl e7 (cut_next cs 8 1 9 rfl e8 (cut_end cs 9 hsz))))))))))
  exact z
theorem Table.open {w : World} {H : Type} {enc : TypeId × Go.Value → H} {v : Go.Value} {d : DataW H} {ps : List MemPlace} {base : Nat} (hok : Value.okWide Try.prog w .any base 24 v) (hv : DataW.Trod enc Try.prog w 0 (fun _ => true) true 24 v d ps) :
    ∃ (x : Table) (v0_ : Go.Value), v = .agg (Table.C x v0_).toArray ∧ RS Key.F (hp w) v0_ x.Keys ∧ Table.Wf x := by
  obtain ⟨cs, rfl, hc⟩ := okWide_struct Try.underlying24 hok
  obtain ⟨fuel, hf⟩ := hv
  have hf : DataW.trod enc Try.prog w 0 (fun _ => true) true fuel 24 cs.toList = some (d, ps) := hf
  have hsz : cs.toList.length = 2 := (opn_size Try.underlying24 hf).trans (by kernel_rfl)
  obtain ⟨_, _, h0⟩ := opn_at Try.underlying24 hf 0 _ (u := 3) (o := 0) (c := 1) rfl rfl rfl (by kernel_rfl)
  obtain ⟨a0, e0, w0⟩ := (opn_int Try.underlying3) _ _ _ _ _ h0
  obtain ⟨_, _, h1⟩ := opn_at Try.underlying24 hf 1 _ (u := 22) (o := 1) (c := 1) rfl rfl rfl (by kernel_rfl)
  obtain ⟨v1, e1, g1⟩ := one_at cs.toList 1 (by omega)
  rw [e1] at h1
  obtain ⟨a1, r1, w1, l1⟩ := opn_slice (F := Key.F) (Q := Key.Wf) (v := v1) Try.underlying22 (by kernel_rfl) (by decide) Key.opn (cellOk (i := 1) (ts := [3, 22]) Try.underlying24 hok (by kernel_rfl) (by decide) rfl (by rw [← Array.getElem?_toList]; exact g1)) h1
  refine ⟨⟨a0, a1⟩, v1, ?_, r1, w0, ⟨w1, l1⟩⟩
  refine congrArg Go.Value.agg (Array.ext' ?_)
  have z := (cut_next cs.toList 0 1 1 rfl e0 (cut_next cs.toList 1 1 2 rfl e1 (cut_end cs.toList 2 hsz)))
  exact z
theorem Backup.open {w : World} {H : Type} {enc : TypeId × Go.Value → H} {v : Go.Value} {d : DataW H} {ps : List MemPlace} {base : Nat} (hok : Value.okWide Try.prog w .any base 28 v) (hv : DataW.Trod enc Try.prog w 0 (fun _ => true) true 28 v d ps) :
    ∃ (x : Backup) (v0_ : Go.Value), v = .agg (Backup.C x v0_).toArray ∧ RS Key.F (hp w) v0_ x.Keys ∧ Backup.Wf x := by
  obtain ⟨cs, rfl, hc⟩ := okWide_struct Try.underlying28 hok
  obtain ⟨fuel, hf⟩ := hv
  have hf : DataW.trod enc Try.prog w 0 (fun _ => true) true fuel 28 cs.toList = some (d, ps) := hf
  have hsz : cs.toList.length = 38 := (opn_size Try.underlying28 hf).trans (by kernel_rfl)
  obtain ⟨_, _, h0⟩ := opn_at Try.underlying28 hf 0 _ (u := 26) (o := 0) (c := 16) rfl rfl rfl (by kernel_rfl)
  obtain ⟨a0, e0, w0⟩ := (opn_arr (n := 16) Try.underlying26 Try.underlying5 (by kernel_rfl) (by kernel_rfl)) _ _ _ _ _ h0
  obtain ⟨_, _, h1⟩ := opn_at Try.underlying28 hf 1 _ (u := 3) (o := 16) (c := 1) rfl rfl rfl (by kernel_rfl)
  obtain ⟨a1, e1, w1⟩ := (opn_int Try.underlying3) _ _ _ _ _ h1
  obtain ⟨_, _, h2⟩ := opn_at Try.underlying28 hf 2 _ (u := 3) (o := 17) (c := 1) rfl rfl rfl (by kernel_rfl)
  obtain ⟨a2, e2, w2⟩ := (opn_int Try.underlying3) _ _ _ _ _ h2
  obtain ⟨_, _, h3⟩ := opn_at Try.underlying28 hf 3 _ (u := 3) (o := 18) (c := 1) rfl rfl rfl (by kernel_rfl)
  obtain ⟨a3, e3, w3⟩ := (opn_int Try.underlying3) _ _ _ _ _ h3
  obtain ⟨_, _, h4⟩ := opn_at Try.underlying28 hf 4 _ (u := 3) (o := 19) (c := 1) rfl rfl rfl (by kernel_rfl)
  obtain ⟨a4, e4, w4⟩ := (opn_int Try.underlying3) _ _ _ _ _ h4
  obtain ⟨_, _, h5⟩ := opn_at Try.underlying28 hf 5 _ (u := 26) (o := 20) (c := 16) rfl rfl rfl (by kernel_rfl)
  obtain ⟨a5, e5, w5⟩ := (opn_arr (n := 16) Try.underlying26 Try.underlying5 (by kernel_rfl) (by kernel_rfl)) _ _ _ _ _ h5
  obtain ⟨_, _, h6⟩ := opn_at Try.underlying28 hf 6 _ (u := 9) (o := 36) (c := 1) rfl rfl rfl (by kernel_rfl)
  obtain ⟨a6, e6, w6⟩ := (opn_str Try.underlying9) _ _ _ _ _ h6
  obtain ⟨_, _, h7⟩ := opn_at Try.underlying28 hf 7 _ (u := 22) (o := 37) (c := 1) rfl rfl rfl (by kernel_rfl)
  obtain ⟨v7, e7, g7⟩ := one_at cs.toList 37 (by omega)
  rw [e7] at h7
  obtain ⟨a7, r7, w7, l7⟩ := opn_slice (F := Key.F) (Q := Key.Wf) (v := v7) Try.underlying22 (by kernel_rfl) (by decide) Key.opn (cellOk (i := 37) (ts := [5, 5, 5, 5, 5, 5, 5, 5, 5, 5, 5, 5, 5, 5, 5, 5, 3, 3, 3, 3, 5, 5, 5, 5, 5, 5, 5, 5, 5, 5, 5, 5, 5, 5, 5, 5, 9, 22]) Try.underlying28 hok (by kernel_rfl) (by decide) rfl (by rw [← Array.getElem?_toList]; exact g7)) h7
  refine ⟨⟨a0, a1, a2, a3, a4, a5, a6, a7⟩, v7, ?_, r7, w0, w1, w2, w3, w4, w5, w6, ⟨w7, l7⟩⟩
  refine congrArg Go.Value.agg (Array.ext' ?_)
  have z := (cut_next cs.toList 0 16 16 rfl e0 (cut_next cs.toList 16 1 17 rfl e1 (cut_next cs.toList 17 1 18 rfl e2 (cut_next cs.toList 18 1 19 rfl e3 (cut_next cs.toList 19 1 20 rfl e4 (cut_next cs.toList 20 16 36 rfl e5 (cut_next cs.toList 36 1 37 rfl e6 (cut_next cs.toList 37 1 38 rfl e7 (cut_end cs.toList 38 hsz)))))))))
  exact z
theorem Key.open {w : World} {H : Type} {enc : TypeId × Go.Value → H} {v : Go.Value} {d : DataW H} {ps : List MemPlace} {base : Nat} (hok : Value.okWide Try.prog w .any base 30 v) (hv : DataW.Trod enc Try.prog w 0 (fun _ => true) true 30 v d ps) :
    ∃ (x : Key), v = .agg (Key.C x).toArray ∧ Key.Wf x := by
  obtain ⟨cs, rfl, hc⟩ := okWide_struct Try.underlying30 hok
  obtain ⟨fuel, hf⟩ := hv
  have hf : DataW.trod enc Try.prog w 0 (fun _ => true) true fuel 30 cs.toList = some (d, ps) := hf
  have hsz : cs.toList.length = 9 := (opn_size Try.underlying30 hf).trans (by kernel_rfl)
  obtain ⟨_, _, h0⟩ := opn_at Try.underlying30 hf 0 _ (u := 3) (o := 0) (c := 1) rfl rfl rfl (by kernel_rfl)
  obtain ⟨a0, e0, w0⟩ := (opn_int Try.underlying3) _ _ _ _ _ h0
  obtain ⟨_, _, h1⟩ := opn_at Try.underlying30 hf 1 _ (u := 3) (o := 1) (c := 1) rfl rfl rfl (by kernel_rfl)
  obtain ⟨a1, e1, w1⟩ := (opn_int Try.underlying3) _ _ _ _ _ h1
  obtain ⟨_, _, h2⟩ := opn_at Try.underlying30 hf 2 _ (u := 9) (o := 2) (c := 1) rfl rfl rfl (by kernel_rfl)
  obtain ⟨a2, e2, w2⟩ := (opn_str Try.underlying9) _ _ _ _ _ h2
  obtain ⟨_, _, h3⟩ := opn_at Try.underlying30 hf 3 _ (u := 3) (o := 3) (c := 1) rfl rfl rfl (by kernel_rfl)
  obtain ⟨a3, e3, w3⟩ := (opn_int Try.underlying3) _ _ _ _ _ h3
  obtain ⟨_, _, h4⟩ := opn_at Try.underlying30 hf 4 _ (u := 3) (o := 4) (c := 1) rfl rfl rfl (by kernel_rfl)
  obtain ⟨a4, e4, w4⟩ := (opn_int Try.underlying3) _ _ _ _ _ h4
  obtain ⟨_, _, h5⟩ := opn_at Try.underlying30 hf 5 _ (u := 3) (o := 5) (c := 1) rfl rfl rfl (by kernel_rfl)
  obtain ⟨a5, e5, w5⟩ := (opn_int Try.underlying3) _ _ _ _ _ h5
  obtain ⟨_, _, h6⟩ := opn_at Try.underlying30 hf 6 _ (u := 3) (o := 6) (c := 1) rfl rfl rfl (by kernel_rfl)
  obtain ⟨a6, e6, w6⟩ := (opn_int Try.underlying3) _ _ _ _ _ h6
  obtain ⟨_, _, h7⟩ := opn_at Try.underlying30 hf 7 _ (u := 3) (o := 7) (c := 1) rfl rfl rfl (by kernel_rfl)
  obtain ⟨a7, e7, w7⟩ := (opn_int Try.underlying3) _ _ _ _ _ h7
  obtain ⟨_, _, h8⟩ := opn_at Try.underlying30 hf 8 _ (u := 4) (o := 8) (c := 1) rfl rfl rfl (by kernel_rfl)
  obtain ⟨a8, e8⟩ := opn_bool Try.underlying4 _ _ _ _ _ h8
  refine ⟨⟨a0, a1, a2, a3, a4, a5, a6, a7, a8⟩, ?_, w0, w1, w2, w3, w4, w5, w6, w7⟩
  refine congrArg Go.Value.agg (Array.ext' ?_)
  have z := (cut_next cs.toList 0 1 1 rfl e0 (cut_next cs.toList 1 1 2 rfl e1 (cut_next cs.toList 2 1 3 rfl e2 (cut_next cs.toList 3 1 4 rfl e3 (cut_next cs.toList 4 1 5 rfl e4 (cut_next cs.toList 5 1 6 rfl e5 (cut_next cs.toList 6 1 7 rfl e6 (cut_next cs.toList 7 1 8 rfl e7 (cut_next cs.toList 8 1 9 rfl e8 (cut_end cs.toList 9 hsz))))))))))
  exact z
theorem restore_Place.open {w : World} {H : Type} {enc : TypeId × Go.Value → H} {v : Go.Value} {d : DataW H} {ps : List MemPlace} {base : Nat} (hok : Value.okWide Try.prog w .any base 32 v) (hv : DataW.Trod enc Try.prog w 0 (fun _ => true) true 32 v d ps) :
    ∃ (x : restore_Place), v = .agg (restore_Place.C x).toArray ∧ restore_Place.Wf x := by
  obtain ⟨cs, rfl, hc⟩ := okWide_struct Try.underlying32 hok
  obtain ⟨fuel, hf⟩ := hv
  have hf : DataW.trod enc Try.prog w 0 (fun _ => true) true fuel 32 cs.toList = some (d, ps) := hf
  have hsz : cs.toList.length = 34 := (opn_size Try.underlying32 hf).trans (by kernel_rfl)
  obtain ⟨_, _, h0⟩ := opn_at Try.underlying32 hf 0 _ (u := 26) (o := 0) (c := 16) rfl rfl rfl (by kernel_rfl)
  obtain ⟨a0, e0, w0⟩ := (opn_arr (n := 16) Try.underlying26 Try.underlying5 (by kernel_rfl) (by kernel_rfl)) _ _ _ _ _ h0
  obtain ⟨_, _, h1⟩ := opn_at Try.underlying32 hf 1 _ (u := 26) (o := 16) (c := 16) rfl rfl rfl (by kernel_rfl)
  obtain ⟨a1, e1, w1⟩ := (opn_arr (n := 16) Try.underlying26 Try.underlying5 (by kernel_rfl) (by kernel_rfl)) _ _ _ _ _ h1
  obtain ⟨_, _, h2⟩ := opn_at Try.underlying32 hf 2 _ (u := 3) (o := 32) (c := 1) rfl rfl rfl (by kernel_rfl)
  obtain ⟨a2, e2, w2⟩ := (opn_int Try.underlying3) _ _ _ _ _ h2
  obtain ⟨_, _, h3⟩ := opn_at Try.underlying32 hf 3 _ (u := 3) (o := 33) (c := 1) rfl rfl rfl (by kernel_rfl)
  obtain ⟨a3, e3, w3⟩ := (opn_int Try.underlying3) _ _ _ _ _ h3
  refine ⟨⟨a0, a1, a2, a3⟩, ?_, w0, w1, w2, w3⟩
  refine congrArg Go.Value.agg (Array.ext' ?_)
  have z := (cut_next cs.toList 0 16 16 rfl e0 (cut_next cs.toList 16 16 32 rfl e1 (cut_next cs.toList 32 1 33 rfl e2 (cut_next cs.toList 33 1 34 rfl e3 (cut_end cs.toList 34 hsz)))))
  exact z
end Go.Cu
