/- Each Go function comes to its pure function; condition: that one is defined there. -/
import Derived.Test.Ytakfalfggmgcfaa1P
import Derived.Test.Ytakfalfggmgcfaa1S
import Derived.Shelf.Strings.Repeat
import Derived.Ground.NamesProg
import Derived.Lib.Agree
import Derived.Test.YtakfalfggmgcfaaProg
import Derived.KernelRfl
import Derived.Test.YtakfalfggmgcfaaCu18
set_option linter.unusedVariables false
set_option linter.unusedSimpArgs false
set_option maxHeartbeats 4000000
/-! The walks. -/
namespace Go.Cu
open Go.Proofs Go.Proofs.Try Go.Shelf
theorem ts22 : TSize Try.prog 22 1 := by unfold TSize; kernel_rfl
theorem fa24_1 : FA Try.prog 24 1 1 := FA.mk Try.underlying24 rfl ts22 (by decide) rfl
theorem ta22 : TAgg Try.prog 22 false := by unfold TAgg; kernel_rfl
theorem fa28_7 : FA Try.prog 28 7 37 := FA.mk Try.underlying28 rfl ts22 (by decide) rfl
theorem ts9 : TSize Try.prog 9 1 := by unfold TSize; kernel_rfl
theorem fa28_6 : FA Try.prog 28 6 36 := FA.mk Try.underlying28 rfl ts9 (by decide) rfl
theorem ta9 : TAgg Try.prog 9 false := by unfold TAgg; kernel_rfl
theorem ts3 : TSize Try.prog 3 1 := by unfold TSize; kernel_rfl
theorem fa30_1 : FA Try.prog 30 1 1 := FA.mk Try.underlying30 rfl ts3 (by decide) rfl
theorem ta3 : TAgg Try.prog 3 false := by unfold TAgg; kernel_rfl
theorem cf21 : CF Try.prog 21 := CF.mk Try.func21 (by kernel_rfl) (by kernel_rfl)
theorem fa30_2 : FA Try.prog 30 2 2 := FA.mk Try.underlying30 rfl ts9 (by decide) rfl
theorem fa30_3 : FA Try.prog 30 3 3 := FA.mk Try.underlying30 rfl ts3 (by decide) rfl
theorem fa30_4 : FA Try.prog 30 4 4 := FA.mk Try.underlying30 rfl ts3 (by decide) rfl
theorem fa30_5 : FA Try.prog 30 5 5 := FA.mk Try.underlying30 rfl ts3 (by decide) rfl
theorem fa30_6 : FA Try.prog 30 6 6 := FA.mk Try.underlying30 rfl ts3 (by decide) rfl
theorem fa30_7 : FA Try.prog 30 7 7 := FA.mk Try.underlying30 rfl ts3 (by decide) rfl
theorem fa24_0 : FA Try.prog 24 0 0 := FA.mk Try.underlying24 rfl ts3 (by decide) rfl
theorem ts30 : TSize Try.prog 30 9 := by unfold TSize; kernel_rfl
theorem ta30 : TAgg Try.prog 30 true := by unfold TAgg; kernel_rfl
theorem cf22 : CF Try.prog 22 := CF.mk Try.func22 (by kernel_rfl) (by kernel_rfl)
theorem fa30_0 : FA Try.prog 30 0 0 := FA.mk Try.underlying30 rfl ts3 (by decide) rfl
theorem tz30 : TZero Try.prog 30 (.agg #[.int .i64 0, .int .i64 0, str [], .int .i64 0, .int .i64 0, .int .i64 0, .int .i64 0, .int .i64 0, .bool false]) := by unfold TZero; kernel_rfl
theorem cf48 : CF Try.prog 48 := CF.mk Try.func48 (by kernel_rfl) (by kernel_rfl)
theorem cf53 : CF Try.prog 53 := CF.mk Try.func53 (by kernel_rfl) (by kernel_rfl)
theorem cf50 : CF Try.prog 50 := CF.mk Try.func50 (by kernel_rfl) (by kernel_rfl)
theorem cf49 : CF Try.prog 49 := CF.mk Try.func49 (by kernel_rfl) (by kernel_rfl)
theorem cf40 : CF Try.prog 40 := CF.mk Try.func40 (by kernel_rfl) (by kernel_rfl)
theorem fa28_1 : FA Try.prog 28 1 16 := FA.mk Try.underlying28 rfl ts3 (by decide) rfl
theorem fa28_2 : FA Try.prog 28 2 17 := FA.mk Try.underlying28 rfl ts3 (by decide) rfl
theorem fa28_3 : FA Try.prog 28 3 18 := FA.mk Try.underlying28 rfl ts3 (by decide) rfl
theorem te3 : TEl Try.prog 3 1 := ⟨ts3, ⟨8, by unfold TBytes; kernel_rfl, by decide⟩, ⟨(.int .i64 0), by unfold TZero; kernel_rfl, rfl⟩⟩
theorem cf41 : CF Try.prog 41 := CF.mk Try.func41 (by kernel_rfl) (by kernel_rfl)
theorem fa28_4 : FA Try.prog 28 4 19 := FA.mk Try.underlying28 rfl ts3 (by decide) rfl
theorem te30 : TEl Try.prog 30 9 := ⟨ts30, ⟨80, by unfold TBytes; kernel_rfl, by decide⟩, ⟨(.agg #[.int .i64 0, .int .i64 0, str [], .int .i64 0, .int .i64 0, .int .i64 0, .int .i64 0, .int .i64 0, .bool false]), by unfold TZero; kernel_rfl, rfl⟩⟩
theorem ta4 : TAgg Try.prog 4 false := by unfold TAgg; kernel_rfl
theorem eqi30 : Eqi Try.prog 3 30 Key.C := Eqi.st (k := 2) Try.underlying30 (by kernel_rfl) fun d i j w => (eqf_cons rfl (part1 ta3 rfl) (part1 ta3 rfl) (run_equalIn_int Try.underlying3 w) (eqf_cons rfl (part1 ta3 rfl) (part1 ta3 rfl) (run_equalIn_int Try.underlying3 w) (eqf_cons rfl (part1 ta9 rfl) (part1 ta9 rfl) (run_equalIn_str Try.underlying9 w) (eqf_cons rfl (part1 ta3 rfl) (part1 ta3 rfl) (run_equalIn_int Try.underlying3 w) (eqf_cons rfl (part1 ta3 rfl) (part1 ta3 rfl) (run_equalIn_int Try.underlying3 w) (eqf_cons rfl (part1 ta3 rfl) (part1 ta3 rfl) (run_equalIn_int Try.underlying3 w) (eqf_cons rfl (part1 ta3 rfl) (part1 ta3 rfl) (run_equalIn_int Try.underlying3 w) (eqf_cons rfl (part1 ta3 rfl) (part1 ta3 rfl) (run_equalIn_int Try.underlying3 w) (eqf_cons rfl (part1 ta4 rfl) (part1 ta4 rfl) (run_equalIn_bool Try.underlying4 w) eqf_nil))))))))).trans (congrArg (Result.ok · w) (by rw [Bool.eq_iff_iff]; cases i; cases j; simp))
theorem eq30 : EQ Try.prog 30 (fun x : Key => .agg (Key.C x).toArray) := EQ.mk (by kernel_rfl) eqi30 (by decide)
theorem cf29 : CF Try.prog 29 := CF.mk Try.func29 (by kernel_rfl) (by kernel_rfl)
theorem cf28 : CF Try.prog 28 := CF.mk Try.func28 (by kernel_rfl) (by kernel_rfl)
theorem tz24 : TZero Try.prog 24 (.agg #[.int .i64 0, .slice none 0 0]) := by unfold TZero; kernel_rfl
theorem ts24 : TSize Try.prog 24 2 := by unfold TSize; kernel_rfl
theorem ta24 : TAgg Try.prog 24 true := by unfold TAgg; kernel_rfl
theorem cf42 : CF Try.prog 42 := CF.mk Try.func42 (by kernel_rfl) (by kernel_rfl)
theorem ta28 : TAgg Try.prog 28 true := by unfold TAgg; kernel_rfl
theorem ts28 : TSize Try.prog 28 38 := by unfold TSize; kernel_rfl
theorem cf24 : CF Try.prog 24 := CF.mk Try.func24 (by kernel_rfl) (by kernel_rfl)
theorem cf25 : CF Try.prog 25 := CF.mk Try.func25 (by kernel_rfl) (by kernel_rfl)
theorem cf12 : CF Try.prog 12 := CF.mk Try.func12 (by kernel_rfl) (by kernel_rfl)
theorem tz3 : TZero Try.prog 3 (.int .i64 0) := by unfold TZero; kernel_rfl
theorem cf26 : CF Try.prog 26 := CF.mk Try.func26 (by kernel_rfl) (by kernel_rfl)
theorem ta32 : TAgg Try.prog 32 true := by unfold TAgg; kernel_rfl
theorem ts32 : TSize Try.prog 32 34 := by unfold TSize; kernel_rfl
theorem ts26 : TSize Try.prog 26 16 := by unfold TSize; kernel_rfl
theorem fa28_0 : FA Try.prog 28 0 0 := FA.mk Try.underlying28 rfl ts26 (by decide) rfl
theorem ta26 : TAgg Try.prog 26 true := by unfold TAgg; kernel_rfl
theorem fa28_5 : FA Try.prog 28 5 20 := FA.mk Try.underlying28 rfl ts26 (by decide) rfl
theorem fa32_2 : FA Try.prog 32 2 32 := FA.mk Try.underlying32 rfl ts3 (by decide) rfl
theorem fa32_3 : FA Try.prog 32 3 33 := FA.mk Try.underlying32 rfl ts3 (by decide) rfl
theorem tz32 : TZero Try.prog 32 (.agg #[.int .u8 0, .int .u8 0, .int .u8 0, .int .u8 0, .int .u8 0, .int .u8 0, .int .u8 0, .int .u8 0, .int .u8 0, .int .u8 0, .int .u8 0, .int .u8 0, .int .u8 0, .int .u8 0, .int .u8 0, .int .u8 0, .int .u8 0, .int .u8 0, .int .u8 0, .int .u8 0, .int .u8 0, .int .u8 0, .int .u8 0, .int .u8 0, .int .u8 0, .int .u8 0, .int .u8 0, .int .u8 0, .int .u8 0, .int .u8 0, .int .u8 0, .int .u8 0, .int .i64 0, .int .i64 0]) := by unfold TZero; kernel_rfl
theorem ta5 : TAgg Try.prog 5 false := by unfold TAgg; kernel_rfl
theorem ts5 : TSize Try.prog 5 1 := by unfold TSize; kernel_rfl
theorem eqi26 : Eqi Try.prog 2 26 (fun v : (Vector Int 16) => vI .u8 v) := Eqi.arr Try.underlying26 Try.underlying5 ta5 ts5
theorem eqi32 : Eqi Try.prog 3 32 restore_Place.C := Eqi.st (k := 2) Try.underlying32 (by kernel_rfl) fun d i j w => (eqf_cons rfl (partA ta26 ts26 (restore_Place.d0_16 _)) (partA ta26 ts26 (restore_Place.d0_16 _)) (eqi26 d _ _ w) (eqf_cons rfl (partA ta26 ts26 (restore_Place.d16_16 _)) (partA ta26 ts26 (restore_Place.d16_16 _)) (eqi26 d _ _ w) (eqf_cons rfl (part1 ta3 (restore_Place.g32 _)) (part1 ta3 (restore_Place.g32 _)) (run_equalIn_int Try.underlying3 w) (eqf_cons rfl (part1 ta3 (restore_Place.g33 _)) (part1 ta3 (restore_Place.g33 _)) (run_equalIn_int Try.underlying3 w) eqf_nil)))).trans (congrArg (Result.ok · w) (by rw [Bool.eq_iff_iff]; cases i; cases j; simp))
theorem eq32 : EQ Try.prog 32 (fun x : restore_Place => .agg (restore_Place.C x).toArray) := EQ.mk (by kernel_rfl) eqi32 (by decide)
theorem cf32 : CF Try.prog 32 := CF.mk Try.func32 (by kernel_rfl) (by kernel_rfl)
theorem cf31 : CF Try.prog 31 := CF.mk Try.func31 (by kernel_rfl) (by kernel_rfl)
theorem cf23 : CF Try.prog 23 := CF.mk Try.func23 (by kernel_rfl) (by kernel_rfl)
theorem tz28 : TZero Try.prog 28 (.agg #[.int .u8 0, .int .u8 0, .int .u8 0, .int .u8 0, .int .u8 0, .int .u8 0, .int .u8 0, .int .u8 0, .int .u8 0, .int .u8 0, .int .u8 0, .int .u8 0, .int .u8 0, .int .u8 0, .int .u8 0, .int .u8 0, .int .i64 0, .int .i64 0, .int .i64 0, .int .i64 0, .int .u8 0, .int .u8 0, .int .u8 0, .int .u8 0, .int .u8 0, .int .u8 0, .int .u8 0, .int .u8 0, .int .u8 0, .int .u8 0, .int .u8 0, .int .u8 0, .int .u8 0, .int .u8 0, .int .u8 0, .int .u8 0, str [], .slice none 0 0]) := by unfold TZero; kernel_rfl
theorem cf10 : CF Try.prog 10 := CF.mk Try.func10 (by kernel_rfl) (by kernel_rfl)
theorem cf18 : CF Try.prog 18 := CF.mk Try.func18 (by kernel_rfl) (by kernel_rfl)
theorem cf14 : CF Try.prog 14 := CF.mk Try.func14 (by kernel_rfl) (by kernel_rfl)
theorem cf16 : CF Try.prog 16 := CF.mk Try.func16 (by kernel_rfl) (by kernel_rfl)
theorem cf33 : CF Try.prog 33 := CF.mk Try.func33 (by kernel_rfl) (by kernel_rfl)
theorem cf30 : CF Try.prog 30 := CF.mk Try.func30 (by kernel_rfl) (by kernel_rfl)
theorem tz66 : TZero Try.prog 66 (.agg #[.int .i64 0, .slice none 0 0, .int .i64 0, .int .i64 0]) := by unfold TZero; kernel_rfl
theorem ts66 : TSize Try.prog 66 4 := by unfold TSize; kernel_rfl
theorem ta66 : TAgg Try.prog 66 true := by unfold TAgg; kernel_rfl
theorem cf20 : CF Try.prog 20 := CF.mk Try.func20 (by kernel_rfl) (by kernel_rfl)
theorem tz41 : TZero Try.prog 41 (.agg #[.int .i64 0, .slice none 0 0, .slice none 0 0, .int .i64 0]) := by unfold TZero; kernel_rfl
theorem ts41 : TSize Try.prog 41 4 := by unfold TSize; kernel_rfl
theorem ta41 : TAgg Try.prog 41 true := by unfold TAgg; kernel_rfl
theorem fa41_0 : FA Try.prog 41 0 0 := FA.mk Try.underlying41 rfl ts24 (by decide) rfl
theorem cf13 : CF Try.prog 13 := CF.mk Try.func13 (by kernel_rfl) (by kernel_rfl)
theorem ts64 : TSize Try.prog 64 2 := by unfold TSize; kernel_rfl
theorem te64 : TEl Try.prog 64 2 := ⟨ts64, ⟨16, by unfold TBytes; kernel_rfl, by decide⟩, ⟨(.agg #[.int .i64 0, .int .i64 0]), by unfold TZero; kernel_rfl, rfl⟩⟩
theorem fa64_0 : FA Try.prog 64 0 0 := FA.mk Try.underlying64 rfl ts3 (by decide) rfl
theorem fa64_1 : FA Try.prog 64 1 1 := FA.mk Try.underlying64 rfl ts3 (by decide) rfl
theorem cf27 : CF Try.prog 27 := CF.mk Try.func27 (by kernel_rfl) (by kernel_rfl)
theorem ts37 : TSize Try.prog 37 1 := by unfold TSize; kernel_rfl
theorem fa66_2 : FA Try.prog 66 2 3 := FA.mk Try.underlying66 rfl ts37 (by decide) rfl
theorem ta37 : TAgg Try.prog 37 false := by unfold TAgg; kernel_rfl
theorem fa66_0 : FA Try.prog 66 0 0 := FA.mk Try.underlying66 rfl ts24 (by decide) rfl
theorem ts36 : TSize Try.prog 36 1 := by unfold TSize; kernel_rfl
theorem fa41_1 : FA Try.prog 41 1 2 := FA.mk Try.underlying41 rfl ts36 (by decide) rfl
theorem ta36 : TAgg Try.prog 36 false := by unfold TAgg; kernel_rfl
theorem fa66_1 : FA Try.prog 66 1 2 := FA.mk Try.underlying66 rfl ts3 (by decide) rfl
theorem fa50_0 : FA Try.prog 50 0 0 := FA.mk Try.underlying50 rfl ts26 (by decide) rfl
theorem eq26 : EQ Try.prog 26 (fun v : (Vector Int 16) => .agg (vI .u8 v).toArray) := EQ.mk (by kernel_rfl) eqi26 (by decide)
theorem fa50_1 : FA Try.prog 50 1 16 := FA.mk Try.underlying50 rfl ts26 (by decide) rfl
theorem fa50_2 : FA Try.prog 50 2 32 := FA.mk Try.underlying50 rfl ts3 (by decide) rfl
theorem fa50_3 : FA Try.prog 50 3 33 := FA.mk Try.underlying50 rfl ts3 (by decide) rfl
theorem cf7 : CF Try.prog 7 := CF.mk Try.func7 (by kernel_rfl) (by kernel_rfl)
theorem cf8 : CF Try.prog 8 := CF.mk Try.func8 (by kernel_rfl) (by kernel_rfl)
theorem cf9 : CF Try.prog 9 := CF.mk Try.func9 (by kernel_rfl) (by kernel_rfl)
theorem cf11 : CF Try.prog 11 := CF.mk Try.func11 (by kernel_rfl) (by kernel_rfl)
theorem cf15 : CF Try.prog 15 := CF.mk Try.func15 (by kernel_rfl) (by kernel_rfl)
theorem fa41_2 : FA Try.prog 41 2 3 := FA.mk Try.underlying41 rfl ts37 (by decide) rfl
theorem cf17 : CF Try.prog 17 := CF.mk Try.func17 (by kernel_rfl) (by kernel_rfl)
theorem fa32_0 : FA Try.prog 32 0 0 := FA.mk Try.underlying32 rfl ts26 (by decide) rfl
theorem fa32_1 : FA Try.prog 32 1 16 := FA.mk Try.underlying32 rfl ts26 (by decide) rfl
theorem tz50 : TZero Try.prog 50 (.agg #[.int .u8 0, .int .u8 0, .int .u8 0, .int .u8 0, .int .u8 0, .int .u8 0, .int .u8 0, .int .u8 0, .int .u8 0, .int .u8 0, .int .u8 0, .int .u8 0, .int .u8 0, .int .u8 0, .int .u8 0, .int .u8 0, .int .u8 0, .int .u8 0, .int .u8 0, .int .u8 0, .int .u8 0, .int .u8 0, .int .u8 0, .int .u8 0, .int .u8 0, .int .u8 0, .int .u8 0, .int .u8 0, .int .u8 0, .int .u8 0, .int .u8 0, .int .u8 0, .int .i64 0, .int .i64 0]) := by unfold TZero; kernel_rfl
theorem cf19 : CF Try.prog 19 := CF.mk Try.func19 (by kernel_rfl) (by kernel_rfl)
set_option maxRecDepth 20000 in
theorem law37_few.calls {M : Heap} {w : World} (hM : Sub M w) (p0 : Table) (v1 : Value) (h2 : RS Key.F M v1 p0.Keys) (p1 : Backup) (v3 : Value) (h4 : RS Key.F M v3 p1.Keys) (r : Bool) (H : law37_few p0 p1 = some r) :
    Calls Try.prog 7 [(.agg (Table.C p0 v1).toArray), (.agg (Backup.C p1 v3).toArray)].toArray w (Post M w fun M' v => v = (.bool r)) := by
  refine enter 21 [(0, (.agg (Table.C p0 v1).toArray)), (1, (.agg (Backup.C p1 v3).toArray))] Try.func7 rfl rfl rfl hM ?_
  intro Q hret
  unfold law37_few at H
  refine c_seq ?_
  intro K5 hK5
  refine c_reg ?_
  refine w_boxM trivial rfl rfl rfl ?_
  intro b6 M7 l8 h9
  replace h2 := h2.mono l8
  replace h4 := h4.mono l8
  refine w_boxM trivial rfl rfl rfl ?_
  intro b10 M11 l12 h13
  replace h2 := h2.mono l12
  replace h4 := h4.mono l12
  replace h9 := l12 _ _ h9
  refine w_val trivial rfl (fun a w hf hs => r_assign (hf.ev rfl)) ?_
  refine w_nil (hK5 _ _ _ ?_)
  obtain ⟨t14, H1, H⟩ := bnd H
  refine c_cut (fun a' w' => ∃ (M15 : Heap), HLe M11 M15 ∧ Fr 21 [(4, (.bool t14))] a' ∧ St none' M w M15 (lt []) w') ?_ ?_
  · replace H := H1
    clear H1
    refine c_reg ?_
    refine w_val trivial rfl (fun a w hf hs => r_fa fa24_1 (hf.ev rfl)) ?_
    refine w_val trivial rfl (fun a w hf hs => r_load1 ta22 (hf.ev rfl) (hs.sub _ _ h9) rfl) ?_
    refine w_val trivial rfl (fun a w hf hs => r_lenR Try.underlying22 h2 (hf.ev rfl)) ?_
    refine w_val trivial rfl (fun a w hf hs => r_leq (hf.ev rfl) (hf.ev rfl)) ?_
    refine w_val trivial rfl (fun a w hf hs => r_move (hf.ev rfl)) ?_
    by_cases b17 : (decide ((p0.Keys.length : Int) ≤ (40 : Int))) = true
    · replace H := if_t b17 H
      refine w_val (Wnt.of rfl rfl b17) rfl (fun a w hf hs => r_fa fa28_7 (hf.ev rfl)) ?_
      refine w_val (Wnt.of rfl rfl b17) rfl (fun a w hf hs => r_load1 ta22 (hf.ev rfl) (hs.sub _ _ h13) (Backup.g37 _ _)) ?_
      refine w_val (Wnt.of rfl rfl b17) rfl (fun a w hf hs => r_lenR Try.underlying22 h4 (hf.ev rfl)) ?_
      refine w_val (Wnt.of rfl rfl b17) rfl (fun a w hf hs => r_leq (hf.ev rfl) (hf.ev rfl)) ?_
      refine w_val trivial rfl (fun a w hf hs => r_pickT (hf.ev rfl) b17 (hf.ev rfl)) ?_
      refine w_val trivial rfl (fun a w hf hs => r_move (hf.ev rfl)) ?_
      by_cases b18 : (decide ((p1.Keys.length : Int) ≤ (40 : Int))) = true
      · replace H := if_t b18 H
        refine w_val (Wnt.of rfl rfl b18) rfl (fun a w hf hs => r_fa fa28_6 (hf.ev rfl)) ?_
        refine w_val (Wnt.of rfl rfl b18) rfl (fun a w hf hs => r_load1 ta9 (hf.ev rfl) (hs.sub _ _ h13) (Backup.g36 _ _)) ?_
        refine w_val (Wnt.of rfl rfl b18) rfl (fun a w hf hs => r_slen Try.underlying9 (hf.ev rfl)) ?_
        refine w_val (Wnt.of rfl rfl b18) rfl (fun a w hf hs => r_leq (hf.ev rfl) (hf.ev rfl)) ?_
        refine w_val trivial rfl (fun a w hf hs => r_pickT (hf.ev rfl) b18 (hf.ev rfl)) ?_
        refine w_val trivial rfl (fun a w hf hs => r_assign (hf.ev rfl)) ?_
        obtain rfl := some_r H
        refine w_nil ?_
        intro a w' hf hs
        exact ⟨_, (HLe.refl _), (hf.nil.add (hf.get _ _ rfl)), hs.sel [] (by decide) rfl⟩
      · replace b18 := Bool.eq_false_iff.2 b18
        replace H := if_f b18 H
        refine w_not (Nwt.of rfl rfl b18) rfl ?_
        refine w_not (Nwt.of rfl rfl b18) rfl ?_
        refine w_not (Nwt.of rfl rfl b18) rfl ?_
        refine w_not (Nwt.of rfl rfl b18) rfl ?_
        refine w_val trivial rfl (fun a w hf hs => r_pickF (hf.ev rfl) b18 (hf.ev rfl)) ?_
        refine w_val trivial rfl (fun a w hf hs => r_assign (hf.ev rfl)) ?_
        obtain rfl := some_r H
        refine w_nil ?_
        intro a w' hf hs
        exact ⟨_, (HLe.refl _), (hf.nil.add (hf.get _ _ rfl)), hs.sel [] (by decide) rfl⟩
    · replace b17 := Bool.eq_false_iff.2 b17
      replace H := if_f b17 H
      refine w_not (Nwt.of rfl rfl b17) rfl ?_
      refine w_not (Nwt.of rfl rfl b17) rfl ?_
      refine w_not (Nwt.of rfl rfl b17) rfl ?_
      refine w_not (Nwt.of rfl rfl b17) rfl ?_
      refine w_val trivial rfl (fun a w hf hs => r_pickF (hf.ev rfl) b17 (hf.ev rfl)) ?_
      refine w_val trivial rfl (fun a w hf hs => r_move (hf.ev rfl)) ?_
      refine w_not (Nwt.of rfl rfl rfl) rfl ?_
      refine w_not (Nwt.of rfl rfl rfl) rfl ?_
      refine w_not (Nwt.of rfl rfl rfl) rfl ?_
      refine w_not (Nwt.of rfl rfl rfl) rfl ?_
      refine w_val trivial rfl (fun a w hf hs => r_pickF (hf.ev rfl) rfl (hf.ev rfl)) ?_
      refine w_val trivial rfl (fun a w hf hs => r_assign (hf.ev rfl)) ?_
      obtain rfl := some_r H
      refine w_nil ?_
      intro a w' hf hs
      exact ⟨_, (HLe.refl _), (hf.nil.add (hf.get _ _ rfl)), hs.sel [] (by decide) rfl⟩
  · clear H1
    rintro a w' ⟨M15, l16, hf, hs⟩
    refine c_of (c := (Cx.mk Try.prog 21 none' M w)) ?_ hf hs
    clear hf hs
    replace h2 := h2.mono l16
    replace h4 := h4.mono l16
    replace h9 := l16 _ _ h9
    replace h13 := l16 _ _ h13
    obtain rfl := some_r H
    refine c_ret ?_
    intro a w' hf hs
    exact hret _ (.inl rfl) a w' hf.df ⟨_, _, Res.of1 rfl (RV.t hf rfl), hs.ext, rfl⟩
set_option maxRecDepth 20000 in
theorem ref27_within.calls {M : Heap} {w : World} (hM : Sub M w) (p0 : Int) (p1 : Int) (p2 : Int) (r : Bool) (H : ref27_within p0 p1 p2 = some r) :
    Calls Try.prog 21 [(.int .i64 p0), (.int .i64 p1), (.int .i64 p2)].toArray w (Post M w fun M' v => v = (.bool r)) := by
  refine enter 15 [(0, (.int .i64 p0)), (1, (.int .i64 p1)), (2, (.int .i64 p2))] Try.func21 rfl rfl rfl hM ?_
  intro Q hret
  unfold ref27_within at H
  refine c_seq ?_
  intro K1 hK1
  refine c_reg ?_
  refine w_val trivial rfl (fun a w hf hs => r_assign (hf.ev rfl)) ?_
  refine w_nil (hK1 _ _ _ ?_)
  obtain ⟨t2, H1, H⟩ := bnd H
  refine c_cut (fun a' w' => ∃ (M3 : Heap), HLe M M3 ∧ Fr 15 [(6, (.bool t2))] a' ∧ St none' M w M3 (lt []) w') ?_ ?_
  · replace H := H1
    clear H1
    refine c_reg ?_
    refine w_val trivial rfl (fun a w hf hs => r_move (hf.ev rfl)) ?_
    refine w_val trivial rfl (fun a w hf hs => r_move (hf.ev rfl)) ?_
    refine w_val trivial rfl (fun a w hf hs => r_geq (hf.ev rfl) (hf.ev rfl)) ?_
    refine w_val trivial rfl (fun a w hf hs => r_move (hf.ev rfl)) ?_
    by_cases b5 : (decide (p1 ≤ p0)) = true
    · replace H := if_t b5 H
      refine w_val (Wnt.of rfl rfl b5) rfl (fun a w hf hs => r_move (hf.ev rfl)) ?_
      refine w_val (Wnt.of rfl rfl b5) rfl (fun a w hf hs => r_move (hf.ev rfl)) ?_
      refine w_val (Wnt.of rfl rfl b5) rfl (fun a w hf hs => r_leq (hf.ev rfl) (hf.ev rfl)) ?_
      refine w_val trivial rfl (fun a w hf hs => r_pickT (hf.ev rfl) b5 (hf.ev rfl)) ?_
      refine w_val trivial rfl (fun a w hf hs => r_assign (hf.ev rfl)) ?_
      obtain rfl := some_r H
      refine w_nil ?_
      intro a w' hf hs
      exact ⟨_, (HLe.refl _), (hf.nil.add (hf.get _ _ rfl)), hs.sel [] (by decide) rfl⟩
    · replace b5 := Bool.eq_false_iff.2 b5
      replace H := if_f b5 H
      refine w_not (Nwt.of rfl rfl b5) rfl ?_
      refine w_not (Nwt.of rfl rfl b5) rfl ?_
      refine w_not (Nwt.of rfl rfl b5) rfl ?_
      refine w_val trivial rfl (fun a w hf hs => r_pickF (hf.ev rfl) b5 (hf.ev rfl)) ?_
      refine w_val trivial rfl (fun a w hf hs => r_assign (hf.ev rfl)) ?_
      obtain rfl := some_r H
      refine w_nil ?_
      intro a w' hf hs
      exact ⟨_, (HLe.refl _), (hf.nil.add (hf.get _ _ rfl)), hs.sel [] (by decide) rfl⟩
  · clear H1
    rintro a w' ⟨M3, l4, hf, hs⟩
    refine c_of (c := (Cx.mk Try.prog 15 none' M w)) ?_ hf hs
    clear hf hs
    obtain rfl := some_r H
    refine c_ret ?_
    intro a w' hf hs
    exact hret _ (.inl rfl) a w' hf.df ⟨_, _, Res.of1 rfl (RV.t hf rfl), hs.ext, rfl⟩
set_option maxRecDepth 20000 in
theorem ref27_Valid.calls {M : Heap} {w : World} (hM : Sub M w) (p0 : Key) (r : Bool) (H : ref27_Valid p0 = some r) :
    Calls Try.prog 22 [(.agg (Key.C p0).toArray)].toArray w (Post M w fun M' v => v = (.bool r)) := by
  refine enter 42 [(0, (.agg (Key.C p0).toArray))] Try.func22 rfl rfl rfl hM ?_
  intro Q hret
  unfold ref27_Valid at H
  refine c_seq ?_
  intro K1 hK1
  refine c_reg ?_
  refine w_boxM trivial rfl rfl rfl ?_
  intro b2 M3 l4 h5
  refine w_val trivial rfl (fun a w hf hs => r_assign (hf.ev rfl)) ?_
  refine w_nil (hK1 _ _ _ ?_)
  obtain ⟨t6, H1, H⟩ := bnd H
  refine c_cut (fun a' w' => ∃ (M7 : Heap), HLe M3 M7 ∧ Fr 42 [(2, (.bool t6))] a' ∧ St none' M w M7 (lt []) w') ?_ ?_
  · replace H := H1
    clear H1
    refine c_reg ?_
    refine w_val trivial rfl (fun a w hf hs => r_fa fa30_1 (hf.ev rfl)) ?_
    refine w_val trivial rfl (fun a w hf hs => r_load1 ta3 (hf.ev rfl) (hs.sub _ _ h5) rfl) ?_
    obtain ⟨t9, e14, H⟩ := bnd H
    refine w_call cf21 trivial rfl rfl (fun w hs => ref27_within.calls hs p0.Type_ (0 : Int) (31 : Int) _ e14) ?_
    rintro _ M11 l12 rfl
    replace h5 := l12 _ _ h5
    refine w_val trivial rfl (fun a w hf hs => r_move (hf.ev rfl)) ?_
    by_cases b15 : t9 = true
    · replace H := if_t b15 H
      refine w_val (Wnt.of rfl rfl b15) rfl (fun a w hf hs => r_fa fa30_2 (hf.ev rfl)) ?_
      refine w_val (Wnt.of rfl rfl b15) rfl (fun a w hf hs => r_load1 ta9 (hf.ev rfl) (hs.sub _ _ h5) rfl) ?_
      refine w_val (Wnt.of rfl rfl b15) rfl (fun a w hf hs => r_slen Try.underlying9 (hf.ev rfl)) ?_
      refine w_val (Wnt.of rfl rfl b15) rfl (fun a w hf hs => r_eql (hf.ev rfl) (hf.ev rfl)) ?_
      refine w_val trivial rfl (fun a w hf hs => r_pickT (hf.ev rfl) b15 (hf.ev rfl)) ?_
      refine w_val trivial rfl (fun a w hf hs => r_move (hf.ev rfl)) ?_
      by_cases b16 : ((p0.Value.length : Int) == (32 : Int)) = true
      · replace H := if_t b16 H
        refine w_val (Wnt.of rfl rfl b16) rfl (fun a w hf hs => r_fa fa30_3 (hf.ev rfl)) ?_
        refine w_val (Wnt.of rfl rfl b16) rfl (fun a w hf hs => r_load1 ta3 (hf.ev rfl) (hs.sub _ _ h5) rfl) ?_
        refine w_val (Wnt.of rfl rfl b16) rfl (fun a w hf hs => r_and (hf.ev rfl) (hf.ev rfl)) ?_
        refine w_val (Wnt.of rfl rfl b16) rfl (fun a w hf hs => r_fa fa30_3 (hf.ev rfl)) ?_
        refine w_val (Wnt.of rfl rfl b16) rfl (fun a w hf hs => r_load1 ta3 (hf.ev rfl) (hs.sub _ _ h5) rfl) ?_
        refine w_val (Wnt.of rfl rfl b16) rfl (fun a w hf hs => r_eql (hf.ev rfl) (hf.ev rfl)) ?_
        refine w_val trivial rfl (fun a w hf hs => r_pickT (hf.ev rfl) b16 (hf.ev rfl)) ?_
        refine w_val trivial rfl (fun a w hf hs => r_move (hf.ev rfl)) ?_
        by_cases b17 : ((bits .and .i64 p0.Uses (956 : Int)) == p0.Uses) = true
        · replace H := if_t b17 H
          refine w_val (Wnt.of rfl rfl b17) rfl (fun a w hf hs => r_fa fa30_4 (hf.ev rfl)) ?_
          refine w_val (Wnt.of rfl rfl b17) rfl (fun a w hf hs => r_load1 ta3 (hf.ev rfl) (hs.sub _ _ h5) rfl) ?_
          obtain ⟨t18, e23, H⟩ := bnd H
          refine w_call cf21 (Wnt.of rfl rfl b17) rfl rfl (fun w hs => ref27_within.calls hs p0.Start (0 : Int) (1099511627776 : Int) _ e23) ?_
          rintro _ M20 l21 rfl
          replace h5 := l21 _ _ h5
          refine w_val trivial rfl (fun a w hf hs => r_pickT (hf.ev rfl) b17 (hf.ev rfl)) ?_
          refine w_val trivial rfl (fun a w hf hs => r_move (hf.ev rfl)) ?_
          by_cases b24 : t18 = true
          · replace H := if_t b24 H
            refine w_val (Wnt.of rfl rfl b24) rfl (fun a w hf hs => r_fa fa30_5 (hf.ev rfl)) ?_
            refine w_val (Wnt.of rfl rfl b24) rfl (fun a w hf hs => r_load1 ta3 (hf.ev rfl) (hs.sub _ _ h5) rfl) ?_
            refine w_val (Wnt.of rfl rfl b24) rfl (fun a w hf hs => r_fa fa30_4 (hf.ev rfl)) ?_
            refine w_val (Wnt.of rfl rfl b24) rfl (fun a w hf hs => r_load1 ta3 (hf.ev rfl) (hs.sub _ _ h5) rfl) ?_
            obtain ⟨t25, e30, H⟩ := bnd H
            refine w_call cf21 (Wnt.of rfl rfl b24) rfl rfl (fun w hs => ref27_within.calls hs p0.End p0.Start (1099511627776 : Int) _ e30) ?_
            rintro _ M27 l28 rfl
            replace h5 := l28 _ _ h5
            refine w_val trivial rfl (fun a w hf hs => r_pickT (hf.ev rfl) b24 (hf.ev rfl)) ?_
            refine w_val trivial rfl (fun a w hf hs => r_move (hf.ev rfl)) ?_
            by_cases b31 : t25 = true
            · replace H := if_t b31 H
              refine w_val (Wnt.of rfl rfl b31) rfl (fun a w hf hs => r_fa fa30_6 (hf.ev rfl)) ?_
              refine w_val (Wnt.of rfl rfl b31) rfl (fun a w hf hs => r_load1 ta3 (hf.ev rfl) (hs.sub _ _ h5) rfl) ?_
              obtain ⟨t32, e37, H⟩ := bnd H
              refine w_call cf21 (Wnt.of rfl rfl b31) rfl rfl (fun w hs => ref27_within.calls hs p0.Version (1 : Int) (2147483647 : Int) _ e37) ?_
              rintro _ M34 l35 rfl
              replace h5 := l35 _ _ h5
              refine w_val trivial rfl (fun a w hf hs => r_pickT (hf.ev rfl) b31 (hf.ev rfl)) ?_
              refine w_val trivial rfl (fun a w hf hs => r_move (hf.ev rfl)) ?_
              by_cases b38 : t32 = true
              · replace H := if_t b38 H
                refine w_val (Wnt.of rfl rfl b38) rfl (fun a w hf hs => r_fa fa30_7 (hf.ev rfl)) ?_
                refine w_val (Wnt.of rfl rfl b38) rfl (fun a w hf hs => r_load1 ta3 (hf.ev rfl) (hs.sub _ _ h5) rfl) ?_
                obtain ⟨t39, e44, H⟩ := bnd H
                refine w_call cf21 (Wnt.of rfl rfl b38) rfl rfl (fun w hs => ref27_within.calls hs p0.Parent (0 : Int) (2147483647 : Int) _ e44) ?_
                rintro _ M41 l42 rfl
                replace h5 := l42 _ _ h5
                refine w_val trivial rfl (fun a w hf hs => r_pickT (hf.ev rfl) b38 (hf.ev rfl)) ?_
                refine w_val trivial rfl (fun a w hf hs => r_assign (hf.ev rfl)) ?_
                obtain rfl := some_r H
                refine w_nil ?_
                intro a w' hf hs
                exact ⟨_, (l12.trans (l21.trans (l28.trans (l35.trans l42)))), (hf.nil.add (hf.get _ _ rfl)), hs.sel [] (by decide) rfl⟩
              · replace b38 := Bool.eq_false_iff.2 b38
                replace H := if_f b38 H
                refine w_not (Nwt.of rfl rfl b38) rfl ?_
                refine w_not (Nwt.of rfl rfl b38) rfl ?_
                refine w_not (Nwt.of rfl rfl b38) rfl ?_
                refine w_val trivial rfl (fun a w hf hs => r_pickF (hf.ev rfl) b38 (hf.ev rfl)) ?_
                refine w_val trivial rfl (fun a w hf hs => r_assign (hf.ev rfl)) ?_
                obtain rfl := some_r H
                refine w_nil ?_
                intro a w' hf hs
                exact ⟨_, (l12.trans (l21.trans (l28.trans l35))), (hf.nil.add (hf.get _ _ rfl)), hs.sel [] (by decide) rfl⟩
            · replace b31 := Bool.eq_false_iff.2 b31
              replace H := if_f b31 H
              refine w_not (Nwt.of rfl rfl b31) rfl ?_
              refine w_not (Nwt.of rfl rfl b31) rfl ?_
              refine w_not (Nwt.of rfl rfl b31) rfl ?_
              refine w_val trivial rfl (fun a w hf hs => r_pickF (hf.ev rfl) b31 (hf.ev rfl)) ?_
              refine w_val trivial rfl (fun a w hf hs => r_move (hf.ev rfl)) ?_
              refine w_not (Nwt.of rfl rfl rfl) rfl ?_
              refine w_not (Nwt.of rfl rfl rfl) rfl ?_
              refine w_not (Nwt.of rfl rfl rfl) rfl ?_
              refine w_val trivial rfl (fun a w hf hs => r_pickF (hf.ev rfl) rfl (hf.ev rfl)) ?_
              refine w_val trivial rfl (fun a w hf hs => r_assign (hf.ev rfl)) ?_
              obtain rfl := some_r H
              refine w_nil ?_
              intro a w' hf hs
              exact ⟨_, (l12.trans (l21.trans l28)), (hf.nil.add (hf.get _ _ rfl)), hs.sel [] (by decide) rfl⟩
          · replace b24 := Bool.eq_false_iff.2 b24
            replace H := if_f b24 H
            refine w_not (Nwt.of rfl rfl b24) rfl ?_
            refine w_not (Nwt.of rfl rfl b24) rfl ?_
            refine w_not (Nwt.of rfl rfl b24) rfl ?_
            refine w_not (Nwt.of rfl rfl b24) rfl ?_
            refine w_not (Nwt.of rfl rfl b24) rfl ?_
            refine w_val trivial rfl (fun a w hf hs => r_pickF (hf.ev rfl) b24 (hf.ev rfl)) ?_
            refine w_val trivial rfl (fun a w hf hs => r_move (hf.ev rfl)) ?_
            refine w_not (Nwt.of rfl rfl rfl) rfl ?_
            refine w_not (Nwt.of rfl rfl rfl) rfl ?_
            refine w_not (Nwt.of rfl rfl rfl) rfl ?_
            refine w_val trivial rfl (fun a w hf hs => r_pickF (hf.ev rfl) rfl (hf.ev rfl)) ?_
            refine w_val trivial rfl (fun a w hf hs => r_move (hf.ev rfl)) ?_
            refine w_not (Nwt.of rfl rfl rfl) rfl ?_
            refine w_not (Nwt.of rfl rfl rfl) rfl ?_
            refine w_not (Nwt.of rfl rfl rfl) rfl ?_
            refine w_val trivial rfl (fun a w hf hs => r_pickF (hf.ev rfl) rfl (hf.ev rfl)) ?_
            refine w_val trivial rfl (fun a w hf hs => r_assign (hf.ev rfl)) ?_
            obtain rfl := some_r H
            refine w_nil ?_
            intro a w' hf hs
            exact ⟨_, (l12.trans l21), (hf.nil.add (hf.get _ _ rfl)), hs.sel [] (by decide) rfl⟩
        · replace b17 := Bool.eq_false_iff.2 b17
          replace H := if_f b17 H
          refine w_not (Nwt.of rfl rfl b17) rfl ?_
          refine w_not (Nwt.of rfl rfl b17) rfl ?_
          refine w_not (Nwt.of rfl rfl b17) rfl ?_
          refine w_val trivial rfl (fun a w hf hs => r_pickF (hf.ev rfl) b17 (hf.ev rfl)) ?_
          refine w_val trivial rfl (fun a w hf hs => r_move (hf.ev rfl)) ?_
          refine w_not (Nwt.of rfl rfl rfl) rfl ?_
          refine w_not (Nwt.of rfl rfl rfl) rfl ?_
          refine w_not (Nwt.of rfl rfl rfl) rfl ?_
          refine w_not (Nwt.of rfl rfl rfl) rfl ?_
          refine w_not (Nwt.of rfl rfl rfl) rfl ?_
          refine w_val trivial rfl (fun a w hf hs => r_pickF (hf.ev rfl) rfl (hf.ev rfl)) ?_
          refine w_val trivial rfl (fun a w hf hs => r_move (hf.ev rfl)) ?_
          refine w_not (Nwt.of rfl rfl rfl) rfl ?_
          refine w_not (Nwt.of rfl rfl rfl) rfl ?_
          refine w_not (Nwt.of rfl rfl rfl) rfl ?_
          refine w_val trivial rfl (fun a w hf hs => r_pickF (hf.ev rfl) rfl (hf.ev rfl)) ?_
          refine w_val trivial rfl (fun a w hf hs => r_move (hf.ev rfl)) ?_
          refine w_not (Nwt.of rfl rfl rfl) rfl ?_
          refine w_not (Nwt.of rfl rfl rfl) rfl ?_
          refine w_not (Nwt.of rfl rfl rfl) rfl ?_
          refine w_val trivial rfl (fun a w hf hs => r_pickF (hf.ev rfl) rfl (hf.ev rfl)) ?_
          refine w_val trivial rfl (fun a w hf hs => r_assign (hf.ev rfl)) ?_
          obtain rfl := some_r H
          refine w_nil ?_
          intro a w' hf hs
          exact ⟨_, l12, (hf.nil.add (hf.get _ _ rfl)), hs.sel [] (by decide) rfl⟩
      · replace b16 := Bool.eq_false_iff.2 b16
        replace H := if_f b16 H
        refine w_not (Nwt.of rfl rfl b16) rfl ?_
        refine w_not (Nwt.of rfl rfl b16) rfl ?_
        refine w_not (Nwt.of rfl rfl b16) rfl ?_
        refine w_not (Nwt.of rfl rfl b16) rfl ?_
        refine w_not (Nwt.of rfl rfl b16) rfl ?_
        refine w_not (Nwt.of rfl rfl b16) rfl ?_
        refine w_val trivial rfl (fun a w hf hs => r_pickF (hf.ev rfl) b16 (hf.ev rfl)) ?_
        refine w_val trivial rfl (fun a w hf hs => r_move (hf.ev rfl)) ?_
        refine w_not (Nwt.of rfl rfl rfl) rfl ?_
        refine w_not (Nwt.of rfl rfl rfl) rfl ?_
        refine w_not (Nwt.of rfl rfl rfl) rfl ?_
        refine w_val trivial rfl (fun a w hf hs => r_pickF (hf.ev rfl) rfl (hf.ev rfl)) ?_
        refine w_val trivial rfl (fun a w hf hs => r_move (hf.ev rfl)) ?_
        refine w_not (Nwt.of rfl rfl rfl) rfl ?_
        refine w_not (Nwt.of rfl rfl rfl) rfl ?_
        refine w_not (Nwt.of rfl rfl rfl) rfl ?_
        refine w_not (Nwt.of rfl rfl rfl) rfl ?_
        refine w_not (Nwt.of rfl rfl rfl) rfl ?_
        refine w_val trivial rfl (fun a w hf hs => r_pickF (hf.ev rfl) rfl (hf.ev rfl)) ?_
        refine w_val trivial rfl (fun a w hf hs => r_move (hf.ev rfl)) ?_
        refine w_not (Nwt.of rfl rfl rfl) rfl ?_
        refine w_not (Nwt.of rfl rfl rfl) rfl ?_
        refine w_not (Nwt.of rfl rfl rfl) rfl ?_
        refine w_val trivial rfl (fun a w hf hs => r_pickF (hf.ev rfl) rfl (hf.ev rfl)) ?_
        refine w_val trivial rfl (fun a w hf hs => r_move (hf.ev rfl)) ?_
        refine w_not (Nwt.of rfl rfl rfl) rfl ?_
        refine w_not (Nwt.of rfl rfl rfl) rfl ?_
        refine w_not (Nwt.of rfl rfl rfl) rfl ?_
        refine w_val trivial rfl (fun a w hf hs => r_pickF (hf.ev rfl) rfl (hf.ev rfl)) ?_
        refine w_val trivial rfl (fun a w hf hs => r_assign (hf.ev rfl)) ?_
        obtain rfl := some_r H
        refine w_nil ?_
        intro a w' hf hs
        exact ⟨_, l12, (hf.nil.add (hf.get _ _ rfl)), hs.sel [] (by decide) rfl⟩
    · replace b15 := Bool.eq_false_iff.2 b15
      replace H := if_f b15 H
      refine w_not (Nwt.of rfl rfl b15) rfl ?_
      refine w_not (Nwt.of rfl rfl b15) rfl ?_
      refine w_not (Nwt.of rfl rfl b15) rfl ?_
      refine w_not (Nwt.of rfl rfl b15) rfl ?_
      refine w_val trivial rfl (fun a w hf hs => r_pickF (hf.ev rfl) b15 (hf.ev rfl)) ?_
      refine w_val trivial rfl (fun a w hf hs => r_move (hf.ev rfl)) ?_
      refine w_not (Nwt.of rfl rfl rfl) rfl ?_
      refine w_not (Nwt.of rfl rfl rfl) rfl ?_
      refine w_not (Nwt.of rfl rfl rfl) rfl ?_
      refine w_not (Nwt.of rfl rfl rfl) rfl ?_
      refine w_not (Nwt.of rfl rfl rfl) rfl ?_
      refine w_not (Nwt.of rfl rfl rfl) rfl ?_
      refine w_val trivial rfl (fun a w hf hs => r_pickF (hf.ev rfl) rfl (hf.ev rfl)) ?_
      refine w_val trivial rfl (fun a w hf hs => r_move (hf.ev rfl)) ?_
      refine w_not (Nwt.of rfl rfl rfl) rfl ?_
      refine w_not (Nwt.of rfl rfl rfl) rfl ?_
      refine w_not (Nwt.of rfl rfl rfl) rfl ?_
      refine w_val trivial rfl (fun a w hf hs => r_pickF (hf.ev rfl) rfl (hf.ev rfl)) ?_
      refine w_val trivial rfl (fun a w hf hs => r_move (hf.ev rfl)) ?_
      refine w_not (Nwt.of rfl rfl rfl) rfl ?_
      refine w_not (Nwt.of rfl rfl rfl) rfl ?_
      refine w_not (Nwt.of rfl rfl rfl) rfl ?_
      refine w_not (Nwt.of rfl rfl rfl) rfl ?_
      refine w_not (Nwt.of rfl rfl rfl) rfl ?_
      refine w_val trivial rfl (fun a w hf hs => r_pickF (hf.ev rfl) rfl (hf.ev rfl)) ?_
      refine w_val trivial rfl (fun a w hf hs => r_move (hf.ev rfl)) ?_
      refine w_not (Nwt.of rfl rfl rfl) rfl ?_
      refine w_not (Nwt.of rfl rfl rfl) rfl ?_
      refine w_not (Nwt.of rfl rfl rfl) rfl ?_
      refine w_val trivial rfl (fun a w hf hs => r_pickF (hf.ev rfl) rfl (hf.ev rfl)) ?_
      refine w_val trivial rfl (fun a w hf hs => r_move (hf.ev rfl)) ?_
      refine w_not (Nwt.of rfl rfl rfl) rfl ?_
      refine w_not (Nwt.of rfl rfl rfl) rfl ?_
      refine w_not (Nwt.of rfl rfl rfl) rfl ?_
      refine w_val trivial rfl (fun a w hf hs => r_pickF (hf.ev rfl) rfl (hf.ev rfl)) ?_
      refine w_val trivial rfl (fun a w hf hs => r_assign (hf.ev rfl)) ?_
      obtain rfl := some_r H
      refine w_nil ?_
      intro a w' hf hs
      exact ⟨_, l12, (hf.nil.add (hf.get _ _ rfl)), hs.sel [] (by decide) rfl⟩
  · clear H1
    rintro a w' ⟨M7, l8, hf, hs⟩
    refine c_of (c := (Cx.mk Try.prog 42 none' M w)) ?_ hf hs
    clear hf hs
    replace h5 := l8 _ _ h5
    obtain rfl := some_r H
    refine c_ret ?_
    intro a w' hf hs
    exact hret _ (.inl rfl) a w' hf.df ⟨_, _, Res.of1 rfl (RV.t hf rfl), hs.ext, rfl⟩
set_option maxRecDepth 20000 in
theorem ref27_ValidTable.calls {M : Heap} {w : World} (hM : Sub M w) (p0 : Table) (v1 : Value) (h2 : RS Key.F M v1 p0.Keys) (r : Bool) (H : ref27_ValidTable p0 = some r) :
    Calls Try.prog 8 [(.agg (Table.C p0 v1).toArray)].toArray w (Post M w fun M' v => v = (.bool r)) := by
  refine enter 55 [(0, (.agg (Table.C p0 v1).toArray))] Try.func8 rfl rfl rfl hM ?_
  intro Q hret
  unfold ref27_ValidTable at H
  refine c_seq ?_
  intro K3 hK3
  refine c_reg ?_
  refine w_boxM trivial rfl rfl rfl ?_
  intro b4 M5 l6 h7
  replace h2 := h2.mono l6
  refine w_val trivial rfl (fun a w hf hs => r_assign (hf.ev rfl)) ?_
  refine w_nil (hK3 _ _ _ ?_)
  refine c_seq ?_
  intro K8 hK8
  obtain ⟨t9, H1, H⟩ := bnd H
  refine c_cut (fun a' w' => ∃ (M10 : Heap), HLe M5 M10 ∧ Fr 55 [(1, (ptr b4 0)), (16, (.bool t9))] a' ∧ St none' M w M10 (lt []) w') ?_ ?_
  · replace H := H1
    clear H1
    refine c_reg ?_
    refine w_val trivial rfl (fun a w hf hs => r_fa fa24_1 (hf.ev rfl)) ?_
    refine w_val trivial rfl (fun a w hf hs => r_load1 ta22 (hf.ev rfl) (hs.sub _ _ h7) rfl) ?_
    refine w_val trivial rfl (fun a w hf hs => r_lenR Try.underlying22 h2 (hf.ev rfl)) ?_
    refine w_val trivial rfl (fun a w hf hs => r_gtr (hf.ev rfl) (hf.ev rfl)) ?_
    refine w_val trivial rfl (fun a w hf hs => r_move (hf.ev rfl)) ?_
    by_cases b12 : (decide ((4096 : Int) < (p0.Keys.length : Int))) = true
    · replace H := if_t b12 H
      refine w_not (Nwt.of rfl rfl b12) rfl ?_
      refine w_not (Nwt.of rfl rfl b12) rfl ?_
      refine w_not (Nwt.of rfl rfl b12) rfl ?_
      refine w_not (Nwt.of rfl rfl b12) rfl ?_
      refine w_val trivial rfl (fun a w hf hs => r_pickT (hf.ev rfl) b12 (hf.ev rfl)) ?_
      obtain rfl := some_r H
      refine w_nil ?_
      intro a w' hf hs
      exact ⟨_, (HLe.refl _), ((hf.nil.add (hf.get _ _ rfl)).add (hf.get _ _ rfl)), hs.sel [] (by decide) rfl⟩
    · replace b12 := Bool.eq_false_iff.2 b12
      replace H := if_f b12 H
      refine w_val (Wnt.of rfl rfl b12) rfl (fun a w hf hs => r_fa fa24_0 (hf.ev rfl)) ?_
      refine w_val (Wnt.of rfl rfl b12) rfl (fun a w hf hs => r_load1 ta3 (hf.ev rfl) (hs.sub _ _ h7) rfl) ?_
      obtain ⟨t13, e18, H⟩ := bnd H
      refine w_call cf21 (Wnt.of rfl rfl b12) rfl rfl (fun w hs => ref27_within.calls hs p0.Next (1 : Int) (2147483647 : Int) _ e18) ?_
      rintro _ M15 l16 rfl
      replace h2 := h2.mono l16
      replace h7 := l16 _ _ h7
      refine w_val (Wnt.of rfl rfl b12) rfl (fun a w hf hs => r_not (hf.ev rfl)) ?_
      refine w_val trivial rfl (fun a w hf hs => r_pickF (hf.ev rfl) b12 (hf.ev rfl)) ?_
      obtain rfl := some_r H
      refine w_nil ?_
      intro a w' hf hs
      exact ⟨_, l16, ((hf.nil.add (hf.get _ _ rfl)).add (hf.get _ _ rfl)), hs.sel [] (by decide) rfl⟩
  · clear H1
    rintro a w' ⟨M10, l11, hf, hs⟩
    refine c_of (c := (Cx.mk Try.prog 55 none' M w)) ?_ hf hs
    clear hf hs
    replace h2 := h2.mono l11
    replace h7 := l11 _ _ h7
    refine c_if rfl (fun b19 => ?_) (fun b19 => ?_)
    · replace H := if_t b19 H
      refine c_seq ?_
      intro K20 hK20
      refine c_reg ?_
      refine w_val trivial rfl (fun a w hf hs => r_assign (hf.ev rfl)) ?_
      refine w_nil (hK20 _ _ _ ?_)
      obtain rfl := some_r H
      refine c_ret ?_
      intro a w' hf hs
      exact hret _ (.inl rfl) a w' hf.df ⟨_, _, Res.of1 rfl (RV.t hf rfl), hs.ext, rfl⟩
    · replace H := if_f b19 H
      refine c_skip (hK8 _ _ _ ?_)
      refine c_seq ?_
      intro K21 hK21
      refine c_reg ?_
      refine w_val trivial rfl (fun a w hf hs => r_assign (hf.ev rfl)) ?_
      refine w_nil (hK21 _ _ _ ?_)
      refine c_cut (fun a' w' => ∃ (M22 : Heap), HLe M10 M22 ∧ Fr 55 [] a' ∧ St none' M w M22 (lt []) w' ∧ ref27_ValidTable.j1  = some r) ?_ ?_
      · refine c_seq ?_
        intro K25 hK25
        refine c_reg ?_
        refine w_val trivial rfl (fun a w hf hs => r_assign (hf.ev rfl)) ?_
        refine w_nil (hK25 _ _ _ ?_)
        refine c_block ?_
        refine c_loop (fun (s26 : (Int × Int)) a' w' => ∃ (M27 : Heap), HLe M10 M27 ∧ Fr 55 [(1, (ptr b4 0)), (3, (.int .i64 s26.1)), (4, (.int .i64 s26.2))] a' ∧ St none' M w M27 (lt []) w') ((0 : Int), (0 : Int)) H ?_ ?_
        · intro a w' hf hs
          exact ⟨_, HLe.refl _, (((hf.nil.add (hf.get _ _ rfl)).add (hf.get _ _ rfl)).add (hf.get _ _ rfl)), hs.selD [] (by decide) rfl⟩
        · clear H
          intro s26 y30 H r29 a w' hJ
          obtain ⟨M27, l28, hf, hs⟩ := hJ
          refine c_of (c := (Cx.mk Try.prog 55 none' M w)) ?_ hf hs
          unfold ref27_ValidTable.l2 at H
          clear hf hs
          replace h2 := h2.mono l28
          replace h7 := l28 _ _ h7
          refine c_seq ?_
          intro K31 hK31
          refine c_seq ?_
          intro K32 hK32
          refine c_reg ?_
          refine w_val trivial rfl (fun a w hf hs => r_move (hf.ev rfl)) ?_
          refine w_val trivial rfl (fun a w hf hs => r_fa fa24_1 (hf.ev rfl)) ?_
          refine w_val trivial rfl (fun a w hf hs => r_load1 ta22 (hf.ev rfl) (hs.sub _ _ h7) rfl) ?_
          refine w_val trivial rfl (fun a w hf hs => r_lenR Try.underlying22 h2 (hf.ev rfl)) ?_
          refine w_val trivial rfl (fun a w hf hs => r_lss (hf.ev rfl) (hf.ev rfl)) ?_
          refine w_nil (hK32 _ _ _ ?_)
          refine c_if rfl (fun b33 => ?_) (fun b33 => ?_)
          · replace H := if_t b33 H
            refine c_skip (hK31 _ _ _ ?_)
            refine c_seq ?_
            intro K34 hK34
            refine c_block ?_
            refine c_seq ?_
            intro K35 hK35
            refine c_reg ?_
            refine w_val trivial rfl (fun a w hf hs => r_fa fa24_1 (hf.ev rfl)) ?_
            refine w_val trivial rfl (fun a w hf hs => r_load1 ta22 (hf.ev rfl) (hs.sub _ _ h7) rfl) ?_
            refine w_val trivial rfl (fun a w hf hs => r_move (hf.ev rfl)) ?_
            obtain ⟨g36, H⟩ := grd_s H
            refine w_val trivial rfl (fun a w hf hs => r_iR Try.underlying22 ts30 h2 (hf.ev rfl) (hf.ev rfl) g36.1 g36.2) ?_
            refine w_val trivial rfl (fun a w hf hs => r_loadEA ta30 ts30 h2 hs.sub g36.1 g36.2 (hf.ev rfl) rfl rfl) ?_
            refine w_allocL (A := Key.C (⟨(0 : Int), (0 : Int), ([] : List UInt8), (0 : Int), (0 : Int), (0 : Int), (0 : Int), (0 : Int), false⟩ : Key)) tz30 trivial rfl rfl ?_
            intro b37
            refine w_store (i := 0) (vs := Key.C (rd p0.Keys s26.2)) (A' := Key.C (rd p0.Keys s26.2)) trivial rfl rfl rfl rfl ts30 rfl (Key.F_one _) (Nat.le_of_ble_eq_true rfl) rfl ?_
            refine w_nil (hK35 _ _ _ ?_)
            refine c_seq ?_
            intro K38 hK38
            refine c_reg ?_
            refine w_val trivial rfl (fun a w hf hs => r_loadA ta30 ts30 (hf.ev rfl) (hs.blk (i := 0) rfl) rfl rfl) ?_
            obtain ⟨t39, e44, H⟩ := bnd H
            refine w_call cf22 trivial rfl rfl (fun w hs => ref27_Valid.calls hs (rd p0.Keys s26.2) _ e44) ?_
            rintro _ M41 l42 rfl
            replace h2 := h2.mono l42
            replace h7 := l42 _ _ h7
            refine w_val trivial rfl (fun a w hf hs => r_assign (hf.ev rfl)) ?_
            refine w_nil (hK38 _ _ _ ?_)
            refine c_seq ?_
            intro K45 hK45
            obtain ⟨t46, H1, H⟩ := bnd H
            refine c_cut (fun a' w' => ∃ (M47 : Heap), HLe M41 M47 ∧ Fr 55 [(1, (ptr b4 0)), (4, (.int .i64 s26.2)), (5, (ptr b37 0)), (52, (.bool t46))] a' ∧ St none' M w M47 (lt [.blk b37 (.cells (Key.C (rd p0.Keys s26.2)).toArray 30 (0, 0))]) w') ?_ ?_
            · replace H := H1
              clear H1
              refine c_reg ?_
              refine w_val trivial rfl (fun a w hf hs => r_move (hf.ev rfl)) ?_
              refine w_val trivial rfl (fun a w hf hs => r_not (hf.ev rfl)) ?_
              refine w_val trivial rfl (fun a w hf hs => r_move (hf.ev rfl)) ?_
              by_cases b49 : (!t39) = true
              · replace H := if_t b49 H
                refine w_not (Nwt.of rfl rfl b49) rfl ?_
                refine w_not (Nwt.of rfl rfl b49) rfl ?_
                refine w_not (Nwt.of rfl rfl b49) rfl ?_
                refine w_not (Nwt.of rfl rfl b49) rfl ?_
                refine w_val trivial rfl (fun a w hf hs => r_pickT (hf.ev rfl) b49 (hf.ev rfl)) ?_
                refine w_val trivial rfl (fun a w hf hs => r_move (hf.ev rfl)) ?_
                refine w_not (Nwt.of rfl rfl rfl) rfl ?_
                refine w_not (Nwt.of rfl rfl rfl) rfl ?_
                refine w_not (Nwt.of rfl rfl rfl) rfl ?_
                refine w_not (Nwt.of rfl rfl rfl) rfl ?_
                refine w_not (Nwt.of rfl rfl rfl) rfl ?_
                refine w_val trivial rfl (fun a w hf hs => r_pickT (hf.ev rfl) rfl (hf.ev rfl)) ?_
                refine w_val trivial rfl (fun a w hf hs => r_move (hf.ev rfl)) ?_
                refine w_not (Nwt.of rfl rfl rfl) rfl ?_
                refine w_not (Nwt.of rfl rfl rfl) rfl ?_
                refine w_not (Nwt.of rfl rfl rfl) rfl ?_
                refine w_not (Nwt.of rfl rfl rfl) rfl ?_
                refine w_not (Nwt.of rfl rfl rfl) rfl ?_
                refine w_val trivial rfl (fun a w hf hs => r_pickT (hf.ev rfl) rfl (hf.ev rfl)) ?_
                obtain rfl := some_r H
                refine w_nil ?_
                intro a w' hf hs
                exact ⟨_, (HLe.refl _), ((((hf.nil.add (hf.get _ _ rfl)).add (hf.get _ _ rfl)).add (hf.get _ _ rfl)).add (hf.get _ _ rfl)), hs.sel [0] (by decide) rfl⟩
              · replace b49 := Bool.eq_false_iff.2 b49
                replace H := if_f b49 H
                refine w_val (Wnt.of rfl rfl b49) rfl (fun a w hf hs => r_fa fa30_0 (hf.ev rfl)) ?_
                refine w_val (Wnt.of rfl rfl b49) rfl (fun a w hf hs => r_load1 ta3 (hf.ev rfl) (hs.blk (i := 0) rfl) rfl) ?_
                refine w_val (Wnt.of rfl rfl b49) rfl (fun a w hf hs => r_move (hf.ev rfl)) ?_
                refine w_val (Wnt.of rfl rfl b49) rfl (fun a w hf hs => r_leq (hf.ev rfl) (hf.ev rfl)) ?_
                refine w_val trivial rfl (fun a w hf hs => r_pickF (hf.ev rfl) b49 (hf.ev rfl)) ?_
                refine w_val trivial rfl (fun a w hf hs => r_move (hf.ev rfl)) ?_
                by_cases b50 : (decide (((rd p0.Keys s26.2).Id) ≤ s26.1)) = true
                · replace H := if_t b50 H
                  refine w_not (Nwt.of rfl rfl b50) rfl ?_
                  refine w_not (Nwt.of rfl rfl b50) rfl ?_
                  refine w_not (Nwt.of rfl rfl b50) rfl ?_
                  refine w_not (Nwt.of rfl rfl b50) rfl ?_
                  refine w_not (Nwt.of rfl rfl b50) rfl ?_
                  refine w_val trivial rfl (fun a w hf hs => r_pickT (hf.ev rfl) b50 (hf.ev rfl)) ?_
                  refine w_val trivial rfl (fun a w hf hs => r_move (hf.ev rfl)) ?_
                  refine w_not (Nwt.of rfl rfl rfl) rfl ?_
                  refine w_not (Nwt.of rfl rfl rfl) rfl ?_
                  refine w_not (Nwt.of rfl rfl rfl) rfl ?_
                  refine w_not (Nwt.of rfl rfl rfl) rfl ?_
                  refine w_not (Nwt.of rfl rfl rfl) rfl ?_
                  refine w_val trivial rfl (fun a w hf hs => r_pickT (hf.ev rfl) rfl (hf.ev rfl)) ?_
                  obtain rfl := some_r H
                  refine w_nil ?_
                  intro a w' hf hs
                  exact ⟨_, (HLe.refl _), ((((hf.nil.add (hf.get _ _ rfl)).add (hf.get _ _ rfl)).add (hf.get _ _ rfl)).add (hf.get _ _ rfl)), hs.sel [0] (by decide) rfl⟩
                · replace b50 := Bool.eq_false_iff.2 b50
                  replace H := if_f b50 H
                  refine w_val (Wnt.of rfl rfl b50) rfl (fun a w hf hs => r_fa fa30_0 (hf.ev rfl)) ?_
                  refine w_val (Wnt.of rfl rfl b50) rfl (fun a w hf hs => r_load1 ta3 (hf.ev rfl) (hs.blk (i := 0) rfl) rfl) ?_
                  refine w_val (Wnt.of rfl rfl b50) rfl (fun a w hf hs => r_fa fa24_0 (hf.ev rfl)) ?_
                  refine w_val (Wnt.of rfl rfl b50) rfl (fun a w hf hs => r_load1 ta3 (hf.ev rfl) (hs.sub _ _ h7) rfl) ?_
                  refine w_val (Wnt.of rfl rfl b50) rfl (fun a w hf hs => r_geq (hf.ev rfl) (hf.ev rfl)) ?_
                  refine w_val trivial rfl (fun a w hf hs => r_pickF (hf.ev rfl) b50 (hf.ev rfl)) ?_
                  refine w_val trivial rfl (fun a w hf hs => r_move (hf.ev rfl)) ?_
                  by_cases b51 : (decide (p0.Next ≤ ((rd p0.Keys s26.2).Id))) = true
                  · replace H := if_t b51 H
                    refine w_not (Nwt.of rfl rfl b51) rfl ?_
                    refine w_not (Nwt.of rfl rfl b51) rfl ?_
                    refine w_not (Nwt.of rfl rfl b51) rfl ?_
                    refine w_not (Nwt.of rfl rfl b51) rfl ?_
                    refine w_not (Nwt.of rfl rfl b51) rfl ?_
                    refine w_val trivial rfl (fun a w hf hs => r_pickT (hf.ev rfl) b51 (hf.ev rfl)) ?_
                    obtain rfl := some_r H
                    refine w_nil ?_
                    intro a w' hf hs
                    exact ⟨_, (HLe.refl _), ((((hf.nil.add (hf.get _ _ rfl)).add (hf.get _ _ rfl)).add (hf.get _ _ rfl)).add (hf.get _ _ rfl)), hs.sel [0] (by decide) rfl⟩
                  · replace b51 := Bool.eq_false_iff.2 b51
                    replace H := if_f b51 H
                    refine w_val (Wnt.of rfl rfl b51) rfl (fun a w hf hs => r_fa fa30_7 (hf.ev rfl)) ?_
                    refine w_val (Wnt.of rfl rfl b51) rfl (fun a w hf hs => r_load1 ta3 (hf.ev rfl) (hs.blk (i := 0) rfl) rfl) ?_
                    refine w_val (Wnt.of rfl rfl b51) rfl (fun a w hf hs => r_fa fa24_0 (hf.ev rfl)) ?_
                    refine w_val (Wnt.of rfl rfl b51) rfl (fun a w hf hs => r_load1 ta3 (hf.ev rfl) (hs.sub _ _ h7) rfl) ?_
                    refine w_val (Wnt.of rfl rfl b51) rfl (fun a w hf hs => r_geq (hf.ev rfl) (hf.ev rfl)) ?_
                    refine w_val trivial rfl (fun a w hf hs => r_pickF (hf.ev rfl) b51 (hf.ev rfl)) ?_
                    obtain rfl := some_r H
                    refine w_nil ?_
                    intro a w' hf hs
                    exact ⟨_, (HLe.refl _), ((((hf.nil.add (hf.get _ _ rfl)).add (hf.get _ _ rfl)).add (hf.get _ _ rfl)).add (hf.get _ _ rfl)), hs.sel [0] (by decide) rfl⟩
            · clear H1
              rintro a w' ⟨M47, l48, hf, hs⟩
              refine c_of (c := (Cx.mk Try.prog 55 none' M w)) ?_ hf hs
              clear hf hs
              replace h2 := h2.mono l48
              replace h7 := l48 _ _ h7
              refine c_if rfl (fun b52 => ?_) (fun b52 => ?_)
              · replace H := if_t b52 H
                refine c_seq ?_
                intro K53 hK53
                refine c_reg ?_
                refine w_val trivial rfl (fun a w hf hs => r_assign (hf.ev rfl)) ?_
                refine w_nil (hK53 _ _ _ ?_)
                obtain rfl := (r29 _ (Option.some.inj H).symm)
                refine c_ret ?_
                intro a w' hf hs
                exact hret _ (.inl rfl) a w' hf.df ⟨_, _, Res.of1 rfl (RV.t hf rfl), hs.ext, rfl⟩
              · replace H := if_f b52 H
                refine c_skip (hK45 _ _ _ ?_)
                refine c_reg ?_
                refine w_val trivial rfl (fun a w hf hs => r_fa fa30_0 (hf.ev rfl)) ?_
                refine w_val trivial rfl (fun a w hf hs => r_load1 ta3 (hf.ev rfl) (hs.blk (i := 0) rfl) rfl) ?_
                refine w_val trivial rfl (fun a w hf hs => r_assign (hf.ev rfl)) ?_
                refine w_nil (hK34 _ _ _ ?_)
                refine c_reg ?_
                refine w_val trivial rfl (fun a w hf hs => r_move (hf.ev rfl)) ?_
                refine w_val trivial rfl (fun a w hf hs => r_add (hf.ev rfl) (hf.ev rfl)) ?_
                refine w_val trivial rfl (fun a w hf hs => r_assign (hf.ev rfl)) ?_
                refine w_nil ?_
                intro a w' hf hs
                exact ⟨_, (some_r H).symm, _, l28.trans (l42.trans l48), (((hf.nil.add (hf.get _ _ rfl)).add (hf.get _ _ rfl)).add (hf.get _ _ rfl)), hs.selD [] (by decide) rfl⟩
          · replace H := if_f b33 H
            replace H := map_inr H r29
            refine c_exit ?_
            intro a w' hf hs
            exact ⟨_, l28, hf.nil, hs.selD [] (by decide) rfl, H⟩
      · rintro a w' ⟨M22, l23, hf, hs, H⟩
        refine c_of (c := (Cx.mk Try.prog 55 none' M w)) ?_ hf hs
        unfold ref27_ValidTable.j1 at H
        clear hf hs
        replace h2 := h2.mono l23
        replace h7 := l23 _ _ h7
        refine c_seq ?_
        intro K24 hK24
        refine c_reg ?_
        refine w_val trivial rfl (fun a w hf hs => r_assign (hf.ev rfl)) ?_
        refine w_nil (hK24 _ _ _ ?_)
        obtain rfl := some_r H
        refine c_ret ?_
        intro a w' hf hs
        exact hret _ (.inl rfl) a w' hf.df ⟨_, _, Res.of1 rfl (RV.t hf rfl), hs.ext, rfl⟩
theorem extraRepeat : Builder.Extra Try.prog Try.laysRepeat_ren := {
  sizeBuilder := by kernel_rfl
  liesBuilder := by kernel_rfl
  t5 := Try.laysRepeat.t5
  a5 := Try.laysRepeat.a5
  z5 := Try.laysRepeat.z5
  v5 := Try.laysRepeat.v5
  infoByte := by kernel_rfl
  cellsByte := by kernel_rfl
  sizeByte := by kernel_rfl
  neB5 := by decide }
theorem fRepeat : Try.laysRepeat_ren.f 105 = 23 := by kernel_rfl
theorem strings_Repeat.calls {M : Heap} {w : World} (hM : Sub M w) (p0 : List UInt8) (p1 : Int) (r : List UInt8) (H : strings_Repeat p0 p1 = some r) :
    Calls Try.prog 23 [(str p0), (.int .i64 p1)].toArray w (Post M w fun M' v => v = (str r)) := by
  unfold strings_Repeat at H
  obtain ⟨g, H⟩ := grd_s H
  obtain rfl := some_r H
  obtain ⟨c, rfl⟩ := Int.eq_ofNat_of_zero_le g.1
  have h := Go.Proofs.Any.strings_Repeat Try.laysRepeat extraRepeat ⟨p0.toArray⟩ c w (by have := g.2.1; omega) (by show p0.toArray.size * c ≤ _; simpa using g.2.2)
  rw [fRepeat] at h
  refine Calls.mono h ?_
  rintro e w' ⟨rfl, hb⟩
  exact ⟨_, M, rfl, ext_below hM hb, by rw [repL_eq]; rfl⟩
set_option maxRecDepth 20000 in
theorem keys_within.calls {M : Heap} {w : World} (hM : Sub M w) (p0 : Int) (p1 : Int) (p2 : Int) (r : Bool) (H : keys_within p0 p1 p2 = some r) :
    Calls Try.prog 48 [(.int .i64 p0), (.int .i64 p1), (.int .i64 p2)].toArray w (Post M w fun M' v => v = (.bool r)) := by
  refine enter 15 [(0, (.int .i64 p0)), (1, (.int .i64 p1)), (2, (.int .i64 p2))] Try.func48 rfl rfl rfl hM ?_
  intro Q hret
  unfold keys_within at H
  refine c_seq ?_
  intro K1 hK1
  refine c_reg ?_
  refine w_val trivial rfl (fun a w hf hs => r_assign (hf.ev rfl)) ?_
  refine w_nil (hK1 _ _ _ ?_)
  obtain ⟨t2, H1, H⟩ := bnd H
  refine c_cut (fun a' w' => ∃ (M3 : Heap), HLe M M3 ∧ Fr 15 [(6, (.bool t2))] a' ∧ St none' M w M3 (lt []) w') ?_ ?_
  · replace H := H1
    clear H1
    refine c_reg ?_
    refine w_val trivial rfl (fun a w hf hs => r_move (hf.ev rfl)) ?_
    refine w_val trivial rfl (fun a w hf hs => r_move (hf.ev rfl)) ?_
    refine w_val trivial rfl (fun a w hf hs => r_leq (hf.ev rfl) (hf.ev rfl)) ?_
    refine w_val trivial rfl (fun a w hf hs => r_move (hf.ev rfl)) ?_
    by_cases b5 : (decide (p1 ≤ p0)) = true
    · replace H := if_t b5 H
      refine w_val (Wnt.of rfl rfl b5) rfl (fun a w hf hs => r_move (hf.ev rfl)) ?_
      refine w_val (Wnt.of rfl rfl b5) rfl (fun a w hf hs => r_move (hf.ev rfl)) ?_
      refine w_val (Wnt.of rfl rfl b5) rfl (fun a w hf hs => r_leq (hf.ev rfl) (hf.ev rfl)) ?_
      refine w_val trivial rfl (fun a w hf hs => r_pickT (hf.ev rfl) b5 (hf.ev rfl)) ?_
      refine w_val trivial rfl (fun a w hf hs => r_assign (hf.ev rfl)) ?_
      obtain rfl := some_r H
      refine w_nil ?_
      intro a w' hf hs
      exact ⟨_, (HLe.refl _), (hf.nil.add (hf.get _ _ rfl)), hs.sel [] (by decide) rfl⟩
    · replace b5 := Bool.eq_false_iff.2 b5
      replace H := if_f b5 H
      refine w_not (Nwt.of rfl rfl b5) rfl ?_
      refine w_not (Nwt.of rfl rfl b5) rfl ?_
      refine w_not (Nwt.of rfl rfl b5) rfl ?_
      refine w_val trivial rfl (fun a w hf hs => r_pickF (hf.ev rfl) b5 (hf.ev rfl)) ?_
      refine w_val trivial rfl (fun a w hf hs => r_assign (hf.ev rfl)) ?_
      obtain rfl := some_r H
      refine w_nil ?_
      intro a w' hf hs
      exact ⟨_, (HLe.refl _), (hf.nil.add (hf.get _ _ rfl)), hs.sel [] (by decide) rfl⟩
  · clear H1
    rintro a w' ⟨M3, l4, hf, hs⟩
    refine c_of (c := (Cx.mk Try.prog 15 none' M w)) ?_ hf hs
    clear hf hs
    obtain rfl := some_r H
    refine c_ret ?_
    intro a w' hf hs
    exact hret _ (.inl rfl) a w' hf.df ⟨_, _, Res.of1 rfl (RV.t hf rfl), hs.ext, rfl⟩
set_option maxRecDepth 20000 in
theorem keys_Valid.calls {M : Heap} {w : World} (hM : Sub M w) (p0 : Key) (r : Bool) (H : keys_Valid p0 = some r) :
    Calls Try.prog 40 [(.agg (Key.C p0).toArray)].toArray w (Post M w fun M' v => v = (.bool r)) := by
  refine enter 40 [(0, (.agg (Key.C p0).toArray))] Try.func40 rfl rfl rfl hM ?_
  intro Q hret
  unfold keys_Valid at H
  refine c_seq ?_
  intro K1 hK1
  refine c_reg ?_
  refine w_boxM trivial rfl rfl rfl ?_
  intro b2 M3 l4 h5
  refine w_val trivial rfl (fun a w hf hs => r_assign (hf.ev rfl)) ?_
  refine w_nil (hK1 _ _ _ ?_)
  obtain ⟨t6, H1, H⟩ := bnd H
  refine c_cut (fun a' w' => ∃ (M7 : Heap), HLe M3 M7 ∧ Fr 40 [(2, (.bool t6))] a' ∧ St none' M w M7 (lt []) w') ?_ ?_
  · replace H := H1
    clear H1
    refine c_reg ?_
    refine w_val trivial rfl (fun a w hf hs => r_fa fa30_1 (hf.ev rfl)) ?_
    refine w_val trivial rfl (fun a w hf hs => r_load1 ta3 (hf.ev rfl) (hs.sub _ _ h5) rfl) ?_
    obtain ⟨t9, e14, H⟩ := bnd H
    refine w_call cf48 trivial rfl rfl (fun w hs => keys_within.calls hs p0.Type_ (0 : Int) (31 : Int) _ e14) ?_
    rintro _ M11 l12 rfl
    replace h5 := l12 _ _ h5
    refine w_val trivial rfl (fun a w hf hs => r_move (hf.ev rfl)) ?_
    by_cases b15 : t9 = true
    · replace H := if_t b15 H
      refine w_val (Wnt.of rfl rfl b15) rfl (fun a w hf hs => r_fa fa30_2 (hf.ev rfl)) ?_
      refine w_val (Wnt.of rfl rfl b15) rfl (fun a w hf hs => r_load1 ta9 (hf.ev rfl) (hs.sub _ _ h5) rfl) ?_
      refine w_val (Wnt.of rfl rfl b15) rfl (fun a w hf hs => r_slen Try.underlying9 (hf.ev rfl)) ?_
      refine w_val (Wnt.of rfl rfl b15) rfl (fun a w hf hs => r_eql (hf.ev rfl) (hf.ev rfl)) ?_
      refine w_val trivial rfl (fun a w hf hs => r_pickT (hf.ev rfl) b15 (hf.ev rfl)) ?_
      refine w_val trivial rfl (fun a w hf hs => r_move (hf.ev rfl)) ?_
      by_cases b16 : ((p0.Value.length : Int) == (32 : Int)) = true
      · replace H := if_t b16 H
        refine w_val (Wnt.of rfl rfl b16) rfl (fun a w hf hs => r_fa fa30_3 (hf.ev rfl)) ?_
        refine w_val (Wnt.of rfl rfl b16) rfl (fun a w hf hs => r_load1 ta3 (hf.ev rfl) (hs.sub _ _ h5) rfl) ?_
        refine w_val (Wnt.of rfl rfl b16) rfl (fun a w hf hs => r_andNot (hf.ev rfl) (hf.ev rfl)) ?_
        refine w_val (Wnt.of rfl rfl b16) rfl (fun a w hf hs => r_eql (hf.ev rfl) (hf.ev rfl)) ?_
        refine w_val trivial rfl (fun a w hf hs => r_pickT (hf.ev rfl) b16 (hf.ev rfl)) ?_
        refine w_val trivial rfl (fun a w hf hs => r_move (hf.ev rfl)) ?_
        by_cases b17 : ((bits .andNot .i64 p0.Uses (956 : Int)) == (0 : Int)) = true
        · replace H := if_t b17 H
          refine w_val (Wnt.of rfl rfl b17) rfl (fun a w hf hs => r_fa fa30_4 (hf.ev rfl)) ?_
          refine w_val (Wnt.of rfl rfl b17) rfl (fun a w hf hs => r_load1 ta3 (hf.ev rfl) (hs.sub _ _ h5) rfl) ?_
          refine w_val (Wnt.of rfl rfl b17) rfl (fun a w hf hs => r_fa fa30_5 (hf.ev rfl)) ?_
          refine w_val (Wnt.of rfl rfl b17) rfl (fun a w hf hs => r_load1 ta3 (hf.ev rfl) (hs.sub _ _ h5) rfl) ?_
          obtain ⟨t18, e23, H⟩ := bnd H
          refine w_call cf48 (Wnt.of rfl rfl b17) rfl rfl (fun w hs => keys_within.calls hs p0.Start (0 : Int) p0.End _ e23) ?_
          rintro _ M20 l21 rfl
          replace h5 := l21 _ _ h5
          refine w_val trivial rfl (fun a w hf hs => r_pickT (hf.ev rfl) b17 (hf.ev rfl)) ?_
          refine w_val trivial rfl (fun a w hf hs => r_move (hf.ev rfl)) ?_
          by_cases b24 : t18 = true
          · replace H := if_t b24 H
            refine w_val (Wnt.of rfl rfl b24) rfl (fun a w hf hs => r_fa fa30_5 (hf.ev rfl)) ?_
            refine w_val (Wnt.of rfl rfl b24) rfl (fun a w hf hs => r_load1 ta3 (hf.ev rfl) (hs.sub _ _ h5) rfl) ?_
            obtain ⟨t25, e30, H⟩ := bnd H
            refine w_call cf48 (Wnt.of rfl rfl b24) rfl rfl (fun w hs => keys_within.calls hs p0.End (0 : Int) (1099511627776 : Int) _ e30) ?_
            rintro _ M27 l28 rfl
            replace h5 := l28 _ _ h5
            refine w_val trivial rfl (fun a w hf hs => r_pickT (hf.ev rfl) b24 (hf.ev rfl)) ?_
            refine w_val trivial rfl (fun a w hf hs => r_move (hf.ev rfl)) ?_
            by_cases b31 : t25 = true
            · replace H := if_t b31 H
              refine w_val (Wnt.of rfl rfl b31) rfl (fun a w hf hs => r_fa fa30_6 (hf.ev rfl)) ?_
              refine w_val (Wnt.of rfl rfl b31) rfl (fun a w hf hs => r_load1 ta3 (hf.ev rfl) (hs.sub _ _ h5) rfl) ?_
              obtain ⟨t32, e37, H⟩ := bnd H
              refine w_call cf48 (Wnt.of rfl rfl b31) rfl rfl (fun w hs => keys_within.calls hs p0.Version (1 : Int) (2147483647 : Int) _ e37) ?_
              rintro _ M34 l35 rfl
              replace h5 := l35 _ _ h5
              refine w_val trivial rfl (fun a w hf hs => r_pickT (hf.ev rfl) b31 (hf.ev rfl)) ?_
              refine w_val trivial rfl (fun a w hf hs => r_move (hf.ev rfl)) ?_
              by_cases b38 : t32 = true
              · replace H := if_t b38 H
                refine w_val (Wnt.of rfl rfl b38) rfl (fun a w hf hs => r_fa fa30_7 (hf.ev rfl)) ?_
                refine w_val (Wnt.of rfl rfl b38) rfl (fun a w hf hs => r_load1 ta3 (hf.ev rfl) (hs.sub _ _ h5) rfl) ?_
                obtain ⟨t39, e44, H⟩ := bnd H
                refine w_call cf48 (Wnt.of rfl rfl b38) rfl rfl (fun w hs => keys_within.calls hs p0.Parent (0 : Int) (2147483647 : Int) _ e44) ?_
                rintro _ M41 l42 rfl
                replace h5 := l42 _ _ h5
                refine w_val trivial rfl (fun a w hf hs => r_pickT (hf.ev rfl) b38 (hf.ev rfl)) ?_
                refine w_val trivial rfl (fun a w hf hs => r_assign (hf.ev rfl)) ?_
                obtain rfl := some_r H
                refine w_nil ?_
                intro a w' hf hs
                exact ⟨_, (l12.trans (l21.trans (l28.trans (l35.trans l42)))), (hf.nil.add (hf.get _ _ rfl)), hs.sel [] (by decide) rfl⟩
              · replace b38 := Bool.eq_false_iff.2 b38
                replace H := if_f b38 H
                refine w_not (Nwt.of rfl rfl b38) rfl ?_
                refine w_not (Nwt.of rfl rfl b38) rfl ?_
                refine w_not (Nwt.of rfl rfl b38) rfl ?_
                refine w_val trivial rfl (fun a w hf hs => r_pickF (hf.ev rfl) b38 (hf.ev rfl)) ?_
                refine w_val trivial rfl (fun a w hf hs => r_assign (hf.ev rfl)) ?_
                obtain rfl := some_r H
                refine w_nil ?_
                intro a w' hf hs
                exact ⟨_, (l12.trans (l21.trans (l28.trans l35))), (hf.nil.add (hf.get _ _ rfl)), hs.sel [] (by decide) rfl⟩
            · replace b31 := Bool.eq_false_iff.2 b31
              replace H := if_f b31 H
              refine w_not (Nwt.of rfl rfl b31) rfl ?_
              refine w_not (Nwt.of rfl rfl b31) rfl ?_
              refine w_not (Nwt.of rfl rfl b31) rfl ?_
              refine w_val trivial rfl (fun a w hf hs => r_pickF (hf.ev rfl) b31 (hf.ev rfl)) ?_
              refine w_val trivial rfl (fun a w hf hs => r_move (hf.ev rfl)) ?_
              refine w_not (Nwt.of rfl rfl rfl) rfl ?_
              refine w_not (Nwt.of rfl rfl rfl) rfl ?_
              refine w_not (Nwt.of rfl rfl rfl) rfl ?_
              refine w_val trivial rfl (fun a w hf hs => r_pickF (hf.ev rfl) rfl (hf.ev rfl)) ?_
              refine w_val trivial rfl (fun a w hf hs => r_assign (hf.ev rfl)) ?_
              obtain rfl := some_r H
              refine w_nil ?_
              intro a w' hf hs
              exact ⟨_, (l12.trans (l21.trans l28)), (hf.nil.add (hf.get _ _ rfl)), hs.sel [] (by decide) rfl⟩
          · replace b24 := Bool.eq_false_iff.2 b24
            replace H := if_f b24 H
            refine w_not (Nwt.of rfl rfl b24) rfl ?_
            refine w_not (Nwt.of rfl rfl b24) rfl ?_
            refine w_not (Nwt.of rfl rfl b24) rfl ?_
            refine w_val trivial rfl (fun a w hf hs => r_pickF (hf.ev rfl) b24 (hf.ev rfl)) ?_
            refine w_val trivial rfl (fun a w hf hs => r_move (hf.ev rfl)) ?_
            refine w_not (Nwt.of rfl rfl rfl) rfl ?_
            refine w_not (Nwt.of rfl rfl rfl) rfl ?_
            refine w_not (Nwt.of rfl rfl rfl) rfl ?_
            refine w_val trivial rfl (fun a w hf hs => r_pickF (hf.ev rfl) rfl (hf.ev rfl)) ?_
            refine w_val trivial rfl (fun a w hf hs => r_move (hf.ev rfl)) ?_
            refine w_not (Nwt.of rfl rfl rfl) rfl ?_
            refine w_not (Nwt.of rfl rfl rfl) rfl ?_
            refine w_not (Nwt.of rfl rfl rfl) rfl ?_
            refine w_val trivial rfl (fun a w hf hs => r_pickF (hf.ev rfl) rfl (hf.ev rfl)) ?_
            refine w_val trivial rfl (fun a w hf hs => r_assign (hf.ev rfl)) ?_
            obtain rfl := some_r H
            refine w_nil ?_
            intro a w' hf hs
            exact ⟨_, (l12.trans l21), (hf.nil.add (hf.get _ _ rfl)), hs.sel [] (by decide) rfl⟩
        · replace b17 := Bool.eq_false_iff.2 b17
          replace H := if_f b17 H
          refine w_not (Nwt.of rfl rfl b17) rfl ?_
          refine w_not (Nwt.of rfl rfl b17) rfl ?_
          refine w_not (Nwt.of rfl rfl b17) rfl ?_
          refine w_not (Nwt.of rfl rfl b17) rfl ?_
          refine w_not (Nwt.of rfl rfl b17) rfl ?_
          refine w_val trivial rfl (fun a w hf hs => r_pickF (hf.ev rfl) b17 (hf.ev rfl)) ?_
          refine w_val trivial rfl (fun a w hf hs => r_move (hf.ev rfl)) ?_
          refine w_not (Nwt.of rfl rfl rfl) rfl ?_
          refine w_not (Nwt.of rfl rfl rfl) rfl ?_
          refine w_not (Nwt.of rfl rfl rfl) rfl ?_
          refine w_val trivial rfl (fun a w hf hs => r_pickF (hf.ev rfl) rfl (hf.ev rfl)) ?_
          refine w_val trivial rfl (fun a w hf hs => r_move (hf.ev rfl)) ?_
          refine w_not (Nwt.of rfl rfl rfl) rfl ?_
          refine w_not (Nwt.of rfl rfl rfl) rfl ?_
          refine w_not (Nwt.of rfl rfl rfl) rfl ?_
          refine w_val trivial rfl (fun a w hf hs => r_pickF (hf.ev rfl) rfl (hf.ev rfl)) ?_
          refine w_val trivial rfl (fun a w hf hs => r_move (hf.ev rfl)) ?_
          refine w_not (Nwt.of rfl rfl rfl) rfl ?_
          refine w_not (Nwt.of rfl rfl rfl) rfl ?_
          refine w_not (Nwt.of rfl rfl rfl) rfl ?_
          refine w_val trivial rfl (fun a w hf hs => r_pickF (hf.ev rfl) rfl (hf.ev rfl)) ?_
          refine w_val trivial rfl (fun a w hf hs => r_assign (hf.ev rfl)) ?_
          obtain rfl := some_r H
          refine w_nil ?_
          intro a w' hf hs
          exact ⟨_, l12, (hf.nil.add (hf.get _ _ rfl)), hs.sel [] (by decide) rfl⟩
      · replace b16 := Bool.eq_false_iff.2 b16
        replace H := if_f b16 H
        refine w_not (Nwt.of rfl rfl b16) rfl ?_
        refine w_not (Nwt.of rfl rfl b16) rfl ?_
        refine w_not (Nwt.of rfl rfl b16) rfl ?_
        refine w_not (Nwt.of rfl rfl b16) rfl ?_
        refine w_val trivial rfl (fun a w hf hs => r_pickF (hf.ev rfl) b16 (hf.ev rfl)) ?_
        refine w_val trivial rfl (fun a w hf hs => r_move (hf.ev rfl)) ?_
        refine w_not (Nwt.of rfl rfl rfl) rfl ?_
        refine w_not (Nwt.of rfl rfl rfl) rfl ?_
        refine w_not (Nwt.of rfl rfl rfl) rfl ?_
        refine w_not (Nwt.of rfl rfl rfl) rfl ?_
        refine w_not (Nwt.of rfl rfl rfl) rfl ?_
        refine w_val trivial rfl (fun a w hf hs => r_pickF (hf.ev rfl) rfl (hf.ev rfl)) ?_
        refine w_val trivial rfl (fun a w hf hs => r_move (hf.ev rfl)) ?_
        refine w_not (Nwt.of rfl rfl rfl) rfl ?_
        refine w_not (Nwt.of rfl rfl rfl) rfl ?_
        refine w_not (Nwt.of rfl rfl rfl) rfl ?_
        refine w_val trivial rfl (fun a w hf hs => r_pickF (hf.ev rfl) rfl (hf.ev rfl)) ?_
        refine w_val trivial rfl (fun a w hf hs => r_move (hf.ev rfl)) ?_
        refine w_not (Nwt.of rfl rfl rfl) rfl ?_
        refine w_not (Nwt.of rfl rfl rfl) rfl ?_
        refine w_not (Nwt.of rfl rfl rfl) rfl ?_
        refine w_val trivial rfl (fun a w hf hs => r_pickF (hf.ev rfl) rfl (hf.ev rfl)) ?_
        refine w_val trivial rfl (fun a w hf hs => r_move (hf.ev rfl)) ?_
        refine w_not (Nwt.of rfl rfl rfl) rfl ?_
        refine w_not (Nwt.of rfl rfl rfl) rfl ?_
        refine w_not (Nwt.of rfl rfl rfl) rfl ?_
        refine w_val trivial rfl (fun a w hf hs => r_pickF (hf.ev rfl) rfl (hf.ev rfl)) ?_
        refine w_val trivial rfl (fun a w hf hs => r_assign (hf.ev rfl)) ?_
        obtain rfl := some_r H
        refine w_nil ?_
        intro a w' hf hs
        exact ⟨_, l12, (hf.nil.add (hf.get _ _ rfl)), hs.sel [] (by decide) rfl⟩
    · replace b15 := Bool.eq_false_iff.2 b15
      replace H := if_f b15 H
      refine w_not (Nwt.of rfl rfl b15) rfl ?_
      refine w_not (Nwt.of rfl rfl b15) rfl ?_
      refine w_not (Nwt.of rfl rfl b15) rfl ?_
      refine w_not (Nwt.of rfl rfl b15) rfl ?_
      refine w_val trivial rfl (fun a w hf hs => r_pickF (hf.ev rfl) b15 (hf.ev rfl)) ?_
      refine w_val trivial rfl (fun a w hf hs => r_move (hf.ev rfl)) ?_
      refine w_not (Nwt.of rfl rfl rfl) rfl ?_
      refine w_not (Nwt.of rfl rfl rfl) rfl ?_
      refine w_not (Nwt.of rfl rfl rfl) rfl ?_
      refine w_not (Nwt.of rfl rfl rfl) rfl ?_
      refine w_val trivial rfl (fun a w hf hs => r_pickF (hf.ev rfl) rfl (hf.ev rfl)) ?_
      refine w_val trivial rfl (fun a w hf hs => r_move (hf.ev rfl)) ?_
      refine w_not (Nwt.of rfl rfl rfl) rfl ?_
      refine w_not (Nwt.of rfl rfl rfl) rfl ?_
      refine w_not (Nwt.of rfl rfl rfl) rfl ?_
      refine w_not (Nwt.of rfl rfl rfl) rfl ?_
      refine w_not (Nwt.of rfl rfl rfl) rfl ?_
      refine w_val trivial rfl (fun a w hf hs => r_pickF (hf.ev rfl) rfl (hf.ev rfl)) ?_
      refine w_val trivial rfl (fun a w hf hs => r_move (hf.ev rfl)) ?_
      refine w_not (Nwt.of rfl rfl rfl) rfl ?_
      refine w_not (Nwt.of rfl rfl rfl) rfl ?_
      refine w_not (Nwt.of rfl rfl rfl) rfl ?_
      refine w_val trivial rfl (fun a w hf hs => r_pickF (hf.ev rfl) rfl (hf.ev rfl)) ?_
      refine w_val trivial rfl (fun a w hf hs => r_move (hf.ev rfl)) ?_
      refine w_not (Nwt.of rfl rfl rfl) rfl ?_
      refine w_not (Nwt.of rfl rfl rfl) rfl ?_
      refine w_not (Nwt.of rfl rfl rfl) rfl ?_
      refine w_val trivial rfl (fun a w hf hs => r_pickF (hf.ev rfl) rfl (hf.ev rfl)) ?_
      refine w_val trivial rfl (fun a w hf hs => r_move (hf.ev rfl)) ?_
      refine w_not (Nwt.of rfl rfl rfl) rfl ?_
      refine w_not (Nwt.of rfl rfl rfl) rfl ?_
      refine w_not (Nwt.of rfl rfl rfl) rfl ?_
      refine w_val trivial rfl (fun a w hf hs => r_pickF (hf.ev rfl) rfl (hf.ev rfl)) ?_
      refine w_val trivial rfl (fun a w hf hs => r_assign (hf.ev rfl)) ?_
      obtain rfl := some_r H
      refine w_nil ?_
      intro a w' hf hs
      exact ⟨_, l12, (hf.nil.add (hf.get _ _ rfl)), hs.sel [] (by decide) rfl⟩
  · clear H1
    rintro a w' ⟨M7, l8, hf, hs⟩
    refine c_of (c := (Cx.mk Try.prog 40 none' M w)) ?_ hf hs
    clear hf hs
    replace h5 := l8 _ _ h5
    obtain rfl := some_r H
    refine c_ret ?_
    intro a w' hf hs
    exact hret _ (.inl rfl) a w' hf.df ⟨_, _, Res.of1 rfl (RV.t hf rfl), hs.ext, rfl⟩
set_option maxRecDepth 20000 in
theorem backup_within_1.calls {M : Heap} {w : World} (hM : Sub M w) (p0 : Int) (c0_ : Int) (cb0_ : Nat) (ch0_ : M cb0_ = some (.cells ([(.int .i64 c0_)]).toArray 3 (0, 0))) (r : Bool) (H : backup_within_1 p0 c0_ = some r) :
    Calls Try.prog 50 [(.int .i64 p0), (ptr cb0_ 0)].toArray w (Post M w fun M' v => v = (.bool r)) := by
  refine enter 11 [(0, (.int .i64 p0)), (1, (ptr cb0_ 0))] Try.func50 rfl rfl rfl hM ?_
  intro Q hret
  unfold backup_within_1 at H
  refine c_seq ?_
  intro K1 hK1
  refine c_reg ?_
  refine w_val trivial rfl (fun a w hf hs => r_assign (hf.ev rfl)) ?_
  refine w_nil (hK1 _ _ _ ?_)
  obtain ⟨t2, H1, H⟩ := bnd H
  refine c_cut (fun a' w' => ∃ (M3 : Heap), HLe M M3 ∧ Fr 11 [(3, (.bool t2))] a' ∧ St none' M w M3 (lt []) w') ?_ ?_
  · replace H := H1
    clear H1
    refine c_reg ?_
    refine w_val trivial rfl (fun a w hf hs => r_move (hf.ev rfl)) ?_
    refine w_val trivial rfl (fun a w hf hs => r_lss (hf.ev rfl) (hf.ev rfl)) ?_
    refine w_val trivial rfl (fun a w hf hs => r_move (hf.ev rfl)) ?_
    by_cases b5 : (decide (p0 < (0 : Int))) = true
    · replace H := if_t b5 H
      refine w_not (Nwt.of rfl rfl b5) rfl ?_
      refine w_not (Nwt.of rfl rfl b5) rfl ?_
      refine w_not (Nwt.of rfl rfl b5) rfl ?_
      refine w_val trivial rfl (fun a w hf hs => r_pickT (hf.ev rfl) b5 (hf.ev rfl)) ?_
      refine w_val trivial rfl (fun a w hf hs => r_assign (hf.ev rfl)) ?_
      obtain rfl := some_r H
      refine w_nil ?_
      intro a w' hf hs
      exact ⟨_, (HLe.refl _), (hf.nil.add (hf.get _ _ rfl)), hs.sel [] (by decide) rfl⟩
    · replace b5 := Bool.eq_false_iff.2 b5
      replace H := if_f b5 H
      refine w_val (Wnt.of rfl rfl b5) rfl (fun a w hf hs => r_move (hf.ev rfl)) ?_
      refine w_val (Wnt.of rfl rfl b5) rfl (fun a w hf hs => r_load1 ta3 (hf.ev rfl) (hs.sub _ _ ch0_) rfl) ?_
      refine w_val (Wnt.of rfl rfl b5) rfl (fun a w hf hs => r_gtr (hf.ev rfl) (hf.ev rfl)) ?_
      refine w_val trivial rfl (fun a w hf hs => r_pickF (hf.ev rfl) b5 (hf.ev rfl)) ?_
      refine w_val trivial rfl (fun a w hf hs => r_assign (hf.ev rfl)) ?_
      obtain rfl := some_r H
      refine w_nil ?_
      intro a w' hf hs
      exact ⟨_, (HLe.refl _), (hf.nil.add (hf.get _ _ rfl)), hs.sel [] (by decide) rfl⟩
  · clear H1
    rintro a w' ⟨M3, l4, hf, hs⟩
    refine c_of (c := (Cx.mk Try.prog 11 none' M w)) ?_ hf hs
    clear hf hs
    replace ch0_ := l4 _ _ ch0_
    obtain rfl := some_r H
    refine c_ret ?_
    intro a w' hf hs
    exact hret _ (.inl rfl) a w' hf.df ⟨_, _, Res.of1 rfl (RV.t hf rfl), hs.ext, rfl⟩
set_option maxRecDepth 20000 in
theorem slices_IndexFunc_int.calls {M : Heap} {w : World} (hM : Sub M w) (p0 : (List Int)) (v1 : Value) (h2 : RS (FI .i64) M v1 p0) (p1 : (Int → Option Bool)) (p1v : Value) (p1h : FnS Try.prog M p1v (Value.int .i64) Value.bool p1) (r : Int) (H : slices_IndexFunc_int p0 p1 = some r) :
    Calls Try.prog 53 [v1, p1v].toArray w (Post M w fun M' v => v = (.int .i64 r)) := by
  refine enter 19 [(0, v1), (1, p1v)] Try.func53 rfl rfl rfl hM ?_
  intro Q hret
  unfold slices_IndexFunc_int at H
  refine c_seq ?_
  intro K3 hK3
  refine c_reg ?_
  refine w_val trivial rfl (fun a w hf hs => r_assign (hf.ev rfl)) ?_
  refine w_nil (hK3 _ _ _ ?_)
  refine c_cut (fun a' w' => ∃ (M4 : Heap), HLe M M4 ∧ Fr 19 [] a' ∧ St none' M w M4 (lt []) w' ∧ slices_IndexFunc_int.j1  = some r) ?_ ?_
  · refine c_seq ?_
    intro K7 hK7
    refine c_reg ?_
    refine w_val trivial rfl (fun a w hf hs => r_move (hf.ev rfl)) ?_
    refine w_val trivial rfl (fun a w hf hs => r_lenR Try.underlying36 h2 (hf.ev rfl)) ?_
    refine w_val trivial rfl (fun a w hf hs => r_move (hf.ev rfl)) ?_
    refine w_nil (hK7 _ _ _ ?_)
    refine c_block ?_
    refine c_loop (fun (s8 : Int) a' w' => ∃ (M9 : Heap), HLe M M9 ∧ Fr 19 [(0, v1), (1, p1v), (7, (.int .i64 (p0.length : Int))), (8, (.int .i64 s8))] a' ∧ St none' M w M9 (lt []) w') (0 : Int) H ?_ ?_
    · intro a w' hf hs
      exact ⟨_, HLe.refl _, ((((hf.nil.add (hf.get _ _ rfl)).add (hf.get _ _ rfl)).add (hf.get _ _ rfl)).add (hf.get _ _ rfl)), hs.selD [] (by decide) rfl⟩
    · clear H
      intro s8 y12 H r11 a w' hJ
      obtain ⟨M9, l10, hf, hs⟩ := hJ
      refine c_of (c := (Cx.mk Try.prog 19 none' M w)) ?_ hf hs
      unfold slices_IndexFunc_int.l2 at H
      clear hf hs
      replace h2 := h2.mono l10
      replace p1h := p1h.mono l10
      refine c_seq ?_
      intro K13 hK13
      refine c_reg ?_
      refine w_val trivial rfl (fun a w hf hs => r_lss (hf.ev rfl) (hf.ev rfl)) ?_
      refine w_nil (hK13 _ _ _ ?_)
      refine c_seq ?_
      intro K14 hK14
      refine c_if rfl (fun b15 => ?_) (fun b15 => ?_)
      · replace H := if_t b15 H
        refine c_skip (hK14 _ _ _ ?_)
        refine c_seq ?_
        intro K16 hK16
        refine c_block ?_
        refine c_seq ?_
        intro K17 hK17
        refine c_reg ?_
        refine w_val trivial rfl (fun a w hf hs => r_move (hf.ev rfl)) ?_
        refine w_val trivial rfl (fun a w hf hs => r_assign (hf.ev rfl)) ?_
        refine w_nil (hK17 _ _ _ ?_)
        refine c_seq ?_
        intro K18 hK18
        refine c_reg ?_
        refine w_val trivial rfl (fun a w hf hs => r_move (hf.ev rfl)) ?_
        refine w_val trivial rfl (fun a w hf hs => r_move (hf.ev rfl)) ?_
        refine w_val trivial rfl (fun a w hf hs => r_move (hf.ev rfl)) ?_
        obtain ⟨g19, H⟩ := grd_s H
        refine w_val trivial rfl (fun a w hf hs => r_iR Try.underlying36 ts3 h2 (hf.ev rfl) (hf.ev rfl) g19.1 g19.2) ?_
        refine w_val trivial rfl (fun a w hf hs => r_loadE1 ta3 h2 hs.sub g19.1 g19.2 (hf.ev rfl) rfl) ?_
        obtain ⟨t20, e25, H⟩ := bnd H
        refine w_callV trivial rfl rfl rfl (fun _ h => by cases h) (fun w hs => p1h _ w _ _ (HLe.refl _) hs e25) ?_
        rintro _ M22 l23 rfl
        replace h2 := h2.mono l23
        replace p1h := p1h.mono l23
        refine w_nil (hK18 _ _ _ ?_)
        refine c_if rfl (fun b26 => ?_) (fun b26 => ?_)
        · replace H := if_t b26 H
          refine c_seq ?_
          intro K27 hK27
          refine c_reg ?_
          refine w_val trivial rfl (fun a w hf hs => r_move (hf.ev rfl)) ?_
          refine w_val trivial rfl (fun a w hf hs => r_assign (hf.ev rfl)) ?_
          refine w_nil (hK27 _ _ _ ?_)
          obtain rfl := (r11 _ (Option.some.inj H).symm)
          refine c_ret ?_
          intro a w' hf hs
          exact hret _ (.inl rfl) a w' hf.df ⟨_, _, Res.of1 rfl (RV.t hf rfl), hs.ext, rfl⟩
        · replace H := if_f b26 H
          refine c_skip (hK16 _ _ _ ?_)
          refine c_reg ?_
          refine w_val trivial rfl (fun a w hf hs => r_add (hf.ev rfl) (hf.ev rfl)) ?_
          refine w_val trivial rfl (fun a w hf hs => r_move (hf.ev rfl)) ?_
          refine w_nil ?_
          intro a w' hf hs
          exact ⟨_, (some_r H).symm, _, l10.trans l23, ((((hf.nil.add (hf.get _ _ rfl)).add (hf.get _ _ rfl)).add (hf.get _ _ rfl)).add (hf.get _ _ rfl)), hs.selD [] (by decide) rfl⟩
      · replace H := if_f b15 H
        replace H := map_inr H r11
        refine c_exit ?_
        intro a w' hf hs
        exact ⟨_, l10, hf.nil, hs.selD [] (by decide) rfl, H⟩
  · rintro a w' ⟨M4, l5, hf, hs, H⟩
    refine c_of (c := (Cx.mk Try.prog 19 none' M w)) ?_ hf hs
    unfold slices_IndexFunc_int.j1 at H
    clear hf hs
    replace h2 := h2.mono l5
    replace p1h := p1h.mono l5
    refine c_seq ?_
    intro K6 hK6
    refine c_reg ?_
    refine w_val trivial rfl (fun a w hf hs => r_assign (hf.ev rfl)) ?_
    refine w_nil (hK6 _ _ _ ?_)
    obtain rfl := some_r H
    refine c_ret ?_
    intro a w' hf hs
    exact hret _ (.inl rfl) a w' hf.df ⟨_, _, Res.of1 rfl (RV.t hf rfl), hs.ext, rfl⟩
set_option maxRecDepth 20000 in
theorem slices_ContainsFunc_int.calls {M : Heap} {w : World} (hM : Sub M w) (p0 : (List Int)) (v1 : Value) (h2 : RS (FI .i64) M v1 p0) (p1 : (Int → Option Bool)) (p1v : Value) (p1h : FnS Try.prog M p1v (Value.int .i64) Value.bool p1) (r : Bool) (H : slices_ContainsFunc_int p0 p1 = some r) :
    Calls Try.prog 49 [v1, p1v].toArray w (Post M w fun M' v => v = (.bool r)) := by
  refine enter 9 [(0, v1), (1, p1v)] Try.func49 rfl rfl rfl hM ?_
  intro Q hret
  unfold slices_ContainsFunc_int at H
  refine c_seq ?_
  intro K3 hK3
  refine c_reg ?_
  refine w_val trivial rfl (fun a w hf hs => r_assign (hf.ev rfl)) ?_
  refine w_nil (hK3 _ _ _ ?_)
  refine c_seq ?_
  intro K4 hK4
  refine c_reg ?_
  refine w_val trivial rfl (fun a w hf hs => r_move (hf.ev rfl)) ?_
  refine w_val trivial rfl (fun a w hf hs => r_move (hf.ev rfl)) ?_
  obtain ⟨t5, e10, H⟩ := bnd H
  refine w_call cf53 trivial rfl rfl (fun w hs => slices_IndexFunc_int.calls hs p0 v1 h2 p1 p1v p1h _ e10) ?_
  rintro _ M7 l8 rfl
  replace h2 := h2.mono l8
  replace p1h := p1h.mono l8
  refine w_val trivial rfl (fun a w hf hs => r_geq (hf.ev rfl) (hf.ev rfl)) ?_
  refine w_val trivial rfl (fun a w hf hs => r_assign (hf.ev rfl)) ?_
  refine w_nil (hK4 _ _ _ ?_)
  obtain rfl := some_r H
  refine c_ret ?_
  intro a w' hf hs
  exact hret _ (.inl rfl) a w' hf.df ⟨_, _, Res.of1 rfl (RV.t hf rfl), hs.ext, rfl⟩
set_option maxRecDepth 20000 in
theorem backup_within.calls {M : Heap} {w : World} (hM : Sub M w) (p0 : Int) (p1 : (List Int)) (v1 : Value) (h2 : RS (FI .i64) M v1 p1) (r : Bool) (H : backup_within p0 p1 = some r) :
    Calls Try.prog 41 [(.int .i64 p0), v1].toArray w (Post M w fun M' v => v = (.bool r)) := by
  refine enter 9 [(0, (.int .i64 p0)), (1, v1)] Try.func41 rfl rfl rfl hM ?_
  intro Q hret
  unfold backup_within at H
  refine c_seq ?_
  intro K3 hK3
  refine c_reg ?_
  refine w_boxM trivial rfl rfl rfl ?_
  intro b4 M5 l6 h7
  replace h2 := h2.mono l6
  refine w_val trivial rfl (fun a w hf hs => r_assign (hf.ev rfl)) ?_
  refine w_nil (hK3 _ _ _ ?_)
  refine c_seq ?_
  intro K8 hK8
  refine c_reg ?_
  refine w_val trivial rfl (fun a w hf hs => r_move (hf.ev rfl)) ?_
  refine w_val trivial rfl (fun a w hf hs => r_makeFunc (hf.evs rfl)) ?_
  obtain ⟨t9, e14, H⟩ := bnd H
  refine w_call cf49 trivial rfl rfl (fun w hs => slices_ContainsFunc_int.calls hs p1 v1 h2 (fun x => backup_within_1 x p0) (.func (.func 50) #[] #[(ptr b4 0)]) (FnS.of cf50 fun M' w x r hM hs hp => Calls.mono (backup_within_1.calls hs x p0 b4 (hM _ _ h7) _ hp) fun e w' q => q) _ e14) ?_
  rintro _ M11 l12 rfl
  replace h2 := h2.mono l12
  replace h7 := l12 _ _ h7
  refine w_val trivial rfl (fun a w hf hs => r_not (hf.ev rfl)) ?_
  refine w_val trivial rfl (fun a w hf hs => r_assign (hf.ev rfl)) ?_
  refine w_nil (hK8 _ _ _ ?_)
  obtain rfl := some_r H
  refine c_ret ?_
  intro a w' hf hs
  exact hret _ (.inl rfl) a w' hf.df ⟨_, _, Res.of1 rfl (RV.t hf rfl), hs.ext, rfl⟩
set_option maxRecDepth 20000 in
theorem backup_Valid.calls {M : Heap} {w : World} (hM : Sub M w) (p0 : Backup) (v1 : Value) (h2 : RS Key.F M v1 p0.Keys) (r : Bool) (H : backup_Valid p0 = some r) :
    Calls Try.prog 24 [(.agg (Backup.C p0 v1).toArray)].toArray w (Post M w fun M' v => v = (.bool r)) := by
  refine enter 58 [(0, (.agg (Backup.C p0 v1).toArray))] Try.func24 rfl rfl rfl hM ?_
  intro Q hret
  unfold backup_Valid at H
  refine c_seq ?_
  intro K3 hK3
  refine c_reg ?_
  refine w_boxM trivial rfl rfl rfl ?_
  intro b4 M5 l6 h7
  replace h2 := h2.mono l6
  refine w_val trivial rfl (fun a w hf hs => r_assign (hf.ev rfl)) ?_
  refine w_nil (hK3 _ _ _ ?_)
  refine c_seq ?_
  intro K8 hK8
  refine c_reg ?_
  refine w_val trivial rfl (fun a w hf hs => r_assign (hf.ev rfl)) ?_
  refine w_nil (hK8 _ _ _ ?_)
  refine c_cut (fun a' w' => ∃ (M9 : Heap), HLe M5 M9 ∧ Fr 58 [(1, (ptr b4 0))] a' ∧ St none' M w M9 (lt []) w' ∧ backup_Valid.j1 p0 = some r) ?_ ?_
  · refine c_seq ?_
    intro K50 hK50
    refine c_reg ?_
    refine w_val trivial rfl (fun a w hf hs => r_fa fa28_7 (hf.ev rfl)) ?_
    refine w_val trivial rfl (fun a w hf hs => r_load1 ta22 (hf.ev rfl) (hs.sub _ _ h7) (Backup.g37 _ _)) ?_
    refine w_val trivial rfl (fun a w hf hs => r_lenR Try.underlying22 h2 (hf.ev rfl)) ?_
    refine w_val trivial rfl (fun a w hf hs => r_move (hf.ev rfl)) ?_
    refine w_nil (hK50 _ _ _ ?_)
    refine c_block ?_
    refine c_loop (fun (s51 : (Int × Int)) a' w' => ∃ (M52 : Heap), HLe M5 M52 ∧ Fr 58 [(1, (ptr b4 0)), (3, (.int .i64 s51.1)), (7, v1), (8, (.int .i64 (p0.Keys.length : Int))), (9, (.int .i64 s51.2))] a' ∧ St none' M w M52 (lt []) w') ((0 : Int), (0 : Int)) H ?_ ?_
    · intro a w' hf hs
      exact ⟨_, HLe.refl _, (((((hf.nil.add (hf.get _ _ rfl)).add (hf.get _ _ rfl)).add (hf.get _ _ rfl)).add (hf.get _ _ rfl)).add (hf.get _ _ rfl)), hs.selD [] (by decide) rfl⟩
    · clear H
      intro s51 y55 H r54 a w' hJ
      obtain ⟨M52, l53, hf, hs⟩ := hJ
      refine c_of (c := (Cx.mk Try.prog 58 none' M w)) ?_ hf hs
      unfold backup_Valid.l2 at H
      clear hf hs
      replace h2 := h2.mono l53
      replace h7 := l53 _ _ h7
      refine c_seq ?_
      intro K56 hK56
      refine c_reg ?_
      refine w_val trivial rfl (fun a w hf hs => r_lss (hf.ev rfl) (hf.ev rfl)) ?_
      refine w_nil (hK56 _ _ _ ?_)
      refine c_seq ?_
      intro K57 hK57
      refine c_if rfl (fun b58 => ?_) (fun b58 => ?_)
      · replace H := if_t b58 H
        refine c_skip (hK57 _ _ _ ?_)
        refine c_seq ?_
        intro K59 hK59
        refine c_block ?_
        refine c_seq ?_
        intro K60 hK60
        refine c_reg ?_
        obtain ⟨g61, H⟩ := grd_s H
        refine w_val trivial rfl (fun a w hf hs => r_iR Try.underlying22 ts30 h2 (hf.ev rfl) (hf.ev rfl) g61.1 g61.2) ?_
        refine w_val trivial rfl (fun a w hf hs => r_loadEA ta30 ts30 h2 hs.sub g61.1 g61.2 (hf.ev rfl) rfl rfl) ?_
        refine w_allocL (A := Key.C (⟨(0 : Int), (0 : Int), ([] : List UInt8), (0 : Int), (0 : Int), (0 : Int), (0 : Int), (0 : Int), false⟩ : Key)) tz30 trivial rfl rfl ?_
        intro b62
        refine w_store (i := 0) (vs := Key.C (rd p0.Keys s51.2)) (A' := Key.C (rd p0.Keys s51.2)) trivial rfl rfl rfl rfl ts30 rfl (Key.F_one _) (Nat.le_of_ble_eq_true rfl) rfl ?_
        refine w_nil (hK60 _ _ _ ?_)
        refine c_seq ?_
        intro K63 hK63
        obtain ⟨t64, H1, H⟩ := bnd H
        refine c_cut (fun a' w' => ∃ (M65 : Heap), HLe M52 M65 ∧ Fr 58 [(1, (ptr b4 0)), (5, (ptr b62 0)), (7, v1), (8, (.int .i64 (p0.Keys.length : Int))), (9, (.int .i64 s51.2)), (26, (.bool t64))] a' ∧ St none' M w M65 (lt [.blk b62 (.cells (Key.C (rd p0.Keys s51.2)).toArray 30 (0, 0))]) w') ?_ ?_
        · replace H := H1
          clear H1
          refine c_reg ?_
          refine w_val trivial rfl (fun a w hf hs => r_loadA ta30 ts30 (hf.ev rfl) (hs.blk (i := 0) rfl) rfl rfl) ?_
          obtain ⟨t67, e72, H⟩ := bnd H
          refine w_call cf40 trivial rfl rfl (fun w hs => keys_Valid.calls hs (rd p0.Keys s51.2) _ e72) ?_
          rintro _ M69 l70 rfl
          replace h2 := h2.mono l70
          replace h7 := l70 _ _ h7
          refine w_val trivial rfl (fun a w hf hs => r_not (hf.ev rfl)) ?_
          refine w_val trivial rfl (fun a w hf hs => r_move (hf.ev rfl)) ?_
          by_cases b73 : (!t67) = true
          · replace H := if_t b73 H
            refine w_not (Nwt.of rfl rfl b73) rfl ?_
            refine w_not (Nwt.of rfl rfl b73) rfl ?_
            refine w_not (Nwt.of rfl rfl b73) rfl ?_
            refine w_not (Nwt.of rfl rfl b73) rfl ?_
            refine w_val trivial rfl (fun a w hf hs => r_pickT (hf.ev rfl) b73 (hf.ev rfl)) ?_
            refine w_val trivial rfl (fun a w hf hs => r_move (hf.ev rfl)) ?_
            refine w_not (Nwt.of rfl rfl rfl) rfl ?_
            refine w_not (Nwt.of rfl rfl rfl) rfl ?_
            refine w_not (Nwt.of rfl rfl rfl) rfl ?_
            refine w_val trivial rfl (fun a w hf hs => r_pickT (hf.ev rfl) rfl (hf.ev rfl)) ?_
            obtain rfl := some_r H
            refine w_nil ?_
            intro a w' hf hs
            exact ⟨_, l70, ((((((hf.nil.add (hf.get _ _ rfl)).add (hf.get _ _ rfl)).add (hf.get _ _ rfl)).add (hf.get _ _ rfl)).add (hf.get _ _ rfl)).add (hf.get _ _ rfl)), hs.sel [0] (by decide) rfl⟩
          · replace b73 := Bool.eq_false_iff.2 b73
            replace H := if_f b73 H
            refine w_val (Wnt.of rfl rfl b73) rfl (fun a w hf hs => r_fa fa30_0 (hf.ev rfl)) ?_
            refine w_val (Wnt.of rfl rfl b73) rfl (fun a w hf hs => r_load1 ta3 (hf.ev rfl) (hs.blk (i := 0) rfl) rfl) ?_
            refine w_val (Wnt.of rfl rfl b73) rfl (fun a w hf hs => r_move (hf.ev rfl)) ?_
            refine w_val (Wnt.of rfl rfl b73) rfl (fun a w hf hs => r_leq (hf.ev rfl) (hf.ev rfl)) ?_
            refine w_val trivial rfl (fun a w hf hs => r_pickF (hf.ev rfl) b73 (hf.ev rfl)) ?_
            refine w_val trivial rfl (fun a w hf hs => r_move (hf.ev rfl)) ?_
            by_cases b74 : (decide (((rd p0.Keys s51.2).Id) ≤ s51.1)) = true
            · replace H := if_t b74 H
              refine w_not (Nwt.of rfl rfl b74) rfl ?_
              refine w_not (Nwt.of rfl rfl b74) rfl ?_
              refine w_not (Nwt.of rfl rfl b74) rfl ?_
              refine w_val trivial rfl (fun a w hf hs => r_pickT (hf.ev rfl) b74 (hf.ev rfl)) ?_
              obtain rfl := some_r H
              refine w_nil ?_
              intro a w' hf hs
              exact ⟨_, l70, ((((((hf.nil.add (hf.get _ _ rfl)).add (hf.get _ _ rfl)).add (hf.get _ _ rfl)).add (hf.get _ _ rfl)).add (hf.get _ _ rfl)).add (hf.get _ _ rfl)), hs.sel [0] (by decide) rfl⟩
            · replace b74 := Bool.eq_false_iff.2 b74
              replace H := if_f b74 H
              refine w_val (Wnt.of rfl rfl b74) rfl (fun a w hf hs => r_fa fa30_0 (hf.ev rfl)) ?_
              refine w_val (Wnt.of rfl rfl b74) rfl (fun a w hf hs => r_load1 ta3 (hf.ev rfl) (hs.blk (i := 0) rfl) rfl) ?_
              refine w_val (Wnt.of rfl rfl b74) rfl (fun a w hf hs => r_gtr (hf.ev rfl) (hf.ev rfl)) ?_
              refine w_val trivial rfl (fun a w hf hs => r_pickF (hf.ev rfl) b74 (hf.ev rfl)) ?_
              obtain rfl := some_r H
              refine w_nil ?_
              intro a w' hf hs
              exact ⟨_, l70, ((((((hf.nil.add (hf.get _ _ rfl)).add (hf.get _ _ rfl)).add (hf.get _ _ rfl)).add (hf.get _ _ rfl)).add (hf.get _ _ rfl)).add (hf.get _ _ rfl)), hs.sel [0] (by decide) rfl⟩
        · clear H1
          rintro a w' ⟨M65, l66, hf, hs⟩
          refine c_of (c := (Cx.mk Try.prog 58 none' M w)) ?_ hf hs
          clear hf hs
          replace h2 := h2.mono l66
          replace h7 := l66 _ _ h7
          refine c_if rfl (fun b75 => ?_) (fun b75 => ?_)
          · replace H := if_t b75 H
            refine c_seq ?_
            intro K76 hK76
            refine c_reg ?_
            refine w_val trivial rfl (fun a w hf hs => r_assign (hf.ev rfl)) ?_
            refine w_nil (hK76 _ _ _ ?_)
            obtain rfl := (r54 _ (Option.some.inj H).symm)
            refine c_ret ?_
            intro a w' hf hs
            exact hret _ (.inl rfl) a w' hf.df ⟨_, _, Res.of1 rfl (RV.t hf rfl), hs.ext, rfl⟩
          · replace H := if_f b75 H
            refine c_skip (hK63 _ _ _ ?_)
            refine c_reg ?_
            refine w_val trivial rfl (fun a w hf hs => r_fa fa30_0 (hf.ev rfl)) ?_
            refine w_val trivial rfl (fun a w hf hs => r_load1 ta3 (hf.ev rfl) (hs.blk (i := 0) rfl) rfl) ?_
            refine w_val trivial rfl (fun a w hf hs => r_assign (hf.ev rfl)) ?_
            refine w_nil (hK59 _ _ _ ?_)
            refine c_reg ?_
            refine w_val trivial rfl (fun a w hf hs => r_add (hf.ev rfl) (hf.ev rfl)) ?_
            refine w_val trivial rfl (fun a w hf hs => r_move (hf.ev rfl)) ?_
            refine w_nil ?_
            intro a w' hf hs
            exact ⟨_, (some_r H).symm, _, l53.trans l66, (((((hf.nil.add (hf.get _ _ rfl)).add (hf.get _ _ rfl)).add (hf.get _ _ rfl)).add (hf.get _ _ rfl)).add (hf.get _ _ rfl)), hs.selD [] (by decide) rfl⟩
      · replace H := if_f b58 H
        replace H := map_inr H r54
        refine c_exit ?_
        intro a w' hf hs
        exact ⟨_, l53, (hf.nil.add (hf.get _ _ rfl)), hs.selD [] (by decide) rfl, H⟩
  · rintro a w' ⟨M9, l10, hf, hs, H⟩
    refine c_of (c := (Cx.mk Try.prog 58 none' M w)) ?_ hf hs
    unfold backup_Valid.j1 at H
    clear hf hs
    replace h2 := h2.mono l10
    replace h7 := l10 _ _ h7
    obtain ⟨t11, H1, H⟩ := bnd H
    refine c_cut (fun a' w' => ∃ (M12 : Heap), HLe M9 M12 ∧ Fr 58 [(2, (.bool t11))] a' ∧ St none' M w M12 (lt []) w') ?_ ?_
    · replace H := H1
      clear H1
      refine c_reg ?_
      refine w_val trivial rfl (fun a w hf hs => r_fa fa28_1 (hf.ev rfl)) ?_
      refine w_val trivial rfl (fun a w hf hs => r_load1 ta3 (hf.ev rfl) (hs.sub _ _ h7) (Backup.g16 _ _)) ?_
      refine w_val trivial rfl (fun a w hf hs => r_fa fa28_2 (hf.ev rfl)) ?_
      refine w_val trivial rfl (fun a w hf hs => r_load1 ta3 (hf.ev rfl) (hs.sub _ _ h7) (Backup.g17 _ _)) ?_
      refine w_val trivial rfl (fun a w hf hs => r_fa fa28_3 (hf.ev rfl)) ?_
      refine w_val trivial rfl (fun a w hf hs => r_load1 ta3 (hf.ev rfl) (hs.sub _ _ h7) (Backup.g18 _ _)) ?_
      refine w_bsl (F := (FI .i64)) (es := ([p0.Epoch, p0.Number, p0.Firmware] : List Int)) (xs := [.tmp 31, .tmp 33, .tmp 35]) (vs := [(.int .i64 p0.Epoch), (.int .i64 p0.Number), (.int .i64 p0.Firmware)]) Try.underlying36 te3 trivial rfl rfl rfl rfl rfl (by decide) ?_
      intro v14 M15 l16 h17 c18
      replace h2 := h2.mono l16
      replace h7 := l16 _ _ h7
      obtain ⟨t19, e24, H⟩ := bnd H
      refine w_call cf41 trivial rfl rfl (fun w hs => backup_within.calls hs (2147483647 : Int) ([p0.Epoch, p0.Number, p0.Firmware] : List Int) v14 h17 _ e24) ?_
      rintro _ M21 l22 rfl
      replace h2 := h2.mono l22
      replace h7 := l22 _ _ h7
      replace h17 := h17.mono l22
      refine w_val trivial rfl (fun a w hf hs => r_move (hf.ev rfl)) ?_
      by_cases b25 : t19 = true
      · replace H := if_t b25 H
        refine w_val (Wnt.of rfl rfl b25) rfl (fun a w hf hs => r_fa fa28_4 (hf.ev rfl)) ?_
        refine w_val (Wnt.of rfl rfl b25) rfl (fun a w hf hs => r_load1 ta3 (hf.ev rfl) (hs.sub _ _ h7) (Backup.g19 _ _)) ?_
        refine w_bsl (F := (FI .i64)) (es := ([p0.Time] : List Int)) (xs := [.tmp 40]) (vs := [(.int .i64 p0.Time)]) Try.underlying36 te3 (Wnt.of rfl rfl b25) rfl rfl rfl rfl rfl (by decide) ?_
        intro v26 M27 l28 h29 c30
        replace h2 := h2.mono l28
        replace h7 := l28 _ _ h7
        replace h17 := h17.mono l28
        obtain ⟨t31, e36, H⟩ := bnd H
        refine w_call cf41 (Wnt.of rfl rfl b25) rfl rfl (fun w hs => backup_within.calls hs (1099511627776 : Int) ([p0.Time] : List Int) v26 h29 _ e36) ?_
        rintro _ M33 l34 rfl
        replace h2 := h2.mono l34
        replace h7 := l34 _ _ h7
        replace h17 := h17.mono l34
        replace h29 := h29.mono l34
        refine w_val trivial rfl (fun a w hf hs => r_pickT (hf.ev rfl) b25 (hf.ev rfl)) ?_
        refine w_val trivial rfl (fun a w hf hs => r_move (hf.ev rfl)) ?_
        by_cases b37 : t31 = true
        · replace H := if_t b37 H
          refine w_val (Wnt.of rfl rfl b37) rfl (fun a w hf hs => r_fa fa28_6 (hf.ev rfl)) ?_
          refine w_val (Wnt.of rfl rfl b37) rfl (fun a w hf hs => r_load1 ta9 (hf.ev rfl) (hs.sub _ _ h7) (Backup.g36 _ _)) ?_
          refine w_val (Wnt.of rfl rfl b37) rfl (fun a w hf hs => r_slen Try.underlying9 (hf.ev rfl)) ?_
          refine w_val (Wnt.of rfl rfl b37) rfl (fun a w hf hs => r_sub (hf.ev rfl) (hf.ev rfl)) ?_
          refine w_bsl (F := (FI .i64)) (es := ([(IntKind.i64.wrap ((p0.Module.length : Int) - (1 : Int)))] : List Int)) (xs := [.tmp 48]) (vs := [(.int .i64 (IntKind.i64.wrap ((p0.Module.length : Int) - (1 : Int))))]) Try.underlying36 te3 (Wnt.of rfl rfl b37) rfl rfl rfl rfl rfl (by decide) ?_
          intro v38 M39 l40 h41 c42
          replace h2 := h2.mono l40
          replace h7 := l40 _ _ h7
          replace h17 := h17.mono l40
          replace h29 := h29.mono l40
          obtain ⟨t43, e48, H⟩ := bnd H
          refine w_call cf41 (Wnt.of rfl rfl b37) rfl rfl (fun w hs => backup_within.calls hs (11 : Int) ([(IntKind.i64.wrap ((p0.Module.length : Int) - (1 : Int)))] : List Int) v38 h41 _ e48) ?_
          rintro _ M45 l46 rfl
          replace h2 := h2.mono l46
          replace h7 := l46 _ _ h7
          replace h17 := h17.mono l46
          replace h29 := h29.mono l46
          replace h41 := h41.mono l46
          refine w_val trivial rfl (fun a w hf hs => r_pickT (hf.ev rfl) b37 (hf.ev rfl)) ?_
          refine w_val trivial rfl (fun a w hf hs => r_move (hf.ev rfl)) ?_
          by_cases b49 : t43 = true
          · replace H := if_t b49 H
            refine w_val (Wnt.of rfl rfl b49) rfl (fun a w hf hs => r_fa fa28_7 (hf.ev rfl)) ?_
            refine w_val (Wnt.of rfl rfl b49) rfl (fun a w hf hs => r_load1 ta22 (hf.ev rfl) (hs.sub _ _ h7) (Backup.g37 _ _)) ?_
            refine w_val (Wnt.of rfl rfl b49) rfl (fun a w hf hs => r_lenR Try.underlying22 h2 (hf.ev rfl)) ?_
            refine w_val (Wnt.of rfl rfl b49) rfl (fun a w hf hs => r_leq (hf.ev rfl) (hf.ev rfl)) ?_
            refine w_val trivial rfl (fun a w hf hs => r_pickT (hf.ev rfl) b49 (hf.ev rfl)) ?_
            refine w_val trivial rfl (fun a w hf hs => r_assign (hf.ev rfl)) ?_
            obtain rfl := some_r H
            refine w_nil ?_
            intro a w' hf hs
            exact ⟨_, (l16.trans (l22.trans (l28.trans (l34.trans (l40.trans l46))))), (hf.nil.add (hf.get _ _ rfl)), hs.sel [] (by decide) rfl⟩
          · replace b49 := Bool.eq_false_iff.2 b49
            replace H := if_f b49 H
            refine w_not (Nwt.of rfl rfl b49) rfl ?_
            refine w_not (Nwt.of rfl rfl b49) rfl ?_
            refine w_not (Nwt.of rfl rfl b49) rfl ?_
            refine w_not (Nwt.of rfl rfl b49) rfl ?_
            refine w_val trivial rfl (fun a w hf hs => r_pickF (hf.ev rfl) b49 (hf.ev rfl)) ?_
            refine w_val trivial rfl (fun a w hf hs => r_assign (hf.ev rfl)) ?_
            obtain rfl := some_r H
            refine w_nil ?_
            intro a w' hf hs
            exact ⟨_, (l16.trans (l22.trans (l28.trans (l34.trans (l40.trans l46))))), (hf.nil.add (hf.get _ _ rfl)), hs.sel [] (by decide) rfl⟩
        · replace b37 := Bool.eq_false_iff.2 b37
          replace H := if_f b37 H
          refine w_not (Nwt.of rfl rfl b37) rfl ?_
          refine w_not (Nwt.of rfl rfl b37) rfl ?_
          refine w_not (Nwt.of rfl rfl b37) rfl ?_
          refine w_not (Nwt.of rfl rfl b37) rfl ?_
          refine w_not (Nwt.of rfl rfl b37) rfl ?_
          refine w_not (Nwt.of rfl rfl b37) rfl ?_
          refine w_val trivial rfl (fun a w hf hs => r_pickF (hf.ev rfl) b37 (hf.ev rfl)) ?_
          refine w_val trivial rfl (fun a w hf hs => r_move (hf.ev rfl)) ?_
          refine w_not (Nwt.of rfl rfl rfl) rfl ?_
          refine w_not (Nwt.of rfl rfl rfl) rfl ?_
          refine w_not (Nwt.of rfl rfl rfl) rfl ?_
          refine w_not (Nwt.of rfl rfl rfl) rfl ?_
          refine w_val trivial rfl (fun a w hf hs => r_pickF (hf.ev rfl) rfl (hf.ev rfl)) ?_
          refine w_val trivial rfl (fun a w hf hs => r_assign (hf.ev rfl)) ?_
          obtain rfl := some_r H
          refine w_nil ?_
          intro a w' hf hs
          exact ⟨_, (l16.trans (l22.trans (l28.trans l34))), (hf.nil.add (hf.get _ _ rfl)), hs.sel [] (by decide) rfl⟩
      · replace b25 := Bool.eq_false_iff.2 b25
        replace H := if_f b25 H
        refine w_not (Nwt.of rfl rfl b25) rfl ?_
        refine w_not (Nwt.of rfl rfl b25) rfl ?_
        refine w_not (Nwt.of rfl rfl b25) rfl ?_
        refine w_not (Nwt.of rfl rfl b25) rfl ?_
        refine w_val trivial rfl (fun a w hf hs => r_pickF (hf.ev rfl) b25 (hf.ev rfl)) ?_
        refine w_val trivial rfl (fun a w hf hs => r_move (hf.ev rfl)) ?_
        refine w_not (Nwt.of rfl rfl rfl) rfl ?_
        refine w_not (Nwt.of rfl rfl rfl) rfl ?_
        refine w_not (Nwt.of rfl rfl rfl) rfl ?_
        refine w_not (Nwt.of rfl rfl rfl) rfl ?_
        refine w_not (Nwt.of rfl rfl rfl) rfl ?_
        refine w_not (Nwt.of rfl rfl rfl) rfl ?_
        refine w_val trivial rfl (fun a w hf hs => r_pickF (hf.ev rfl) rfl (hf.ev rfl)) ?_
        refine w_val trivial rfl (fun a w hf hs => r_move (hf.ev rfl)) ?_
        refine w_not (Nwt.of rfl rfl rfl) rfl ?_
        refine w_not (Nwt.of rfl rfl rfl) rfl ?_
        refine w_not (Nwt.of rfl rfl rfl) rfl ?_
        refine w_not (Nwt.of rfl rfl rfl) rfl ?_
        refine w_val trivial rfl (fun a w hf hs => r_pickF (hf.ev rfl) rfl (hf.ev rfl)) ?_
        refine w_val trivial rfl (fun a w hf hs => r_assign (hf.ev rfl)) ?_
        obtain rfl := some_r H
        refine w_nil ?_
        intro a w' hf hs
        exact ⟨_, (l16.trans l22), (hf.nil.add (hf.get _ _ rfl)), hs.sel [] (by decide) rfl⟩
    · clear H1
      rintro a w' ⟨M12, l13, hf, hs⟩
      refine c_of (c := (Cx.mk Try.prog 58 none' M w)) ?_ hf hs
      clear hf hs
      replace h2 := h2.mono l13
      replace h7 := l13 _ _ h7
      obtain rfl := some_r H
      refine c_ret ?_
      intro a w' hf hs
      exact hret _ (.inl rfl) a w' hf.df ⟨_, _, Res.of1 rfl (RV.t hf rfl), hs.ext, rfl⟩
set_option maxRecDepth 20000 in
theorem slices_Clone_Key.calls {M : Heap} {w : World} (hM : Sub M w) (p0 : (List Key)) (v1 : Value) (h2 : RS Key.F M v1 p0) (r : (List Key)) (H : slices_Clone_Key p0 = some r) :
    Calls Try.prog 25 [v1].toArray w (Post M w fun M' v => ∃ v13, v = v13 ∧ RS Key.F M' v13 r) := by
  rcases h2 with ⟨rfl, rfl⟩ | h2
  · have h2 : RS Key.F M (.slice none 0 0) [] := RS.none
    have H : some ([] : (List Key)) = some r := by
      unfold slices_Clone_Key at H
      obtain ⟨_, H⟩ := grd_s H
      exact H
    refine enter 8 [(0, (.slice none 0 0))] Try.func25 rfl rfl rfl hM ?_
    intro Q hret
    refine c_seq ?_
    intro K3 hK3
    refine c_reg ?_
    refine w_val trivial rfl (fun a w hf hs => r_assign (hf.ev rfl)) ?_
    refine w_nil (hK3 _ _ _ ?_)
    refine c_seq ?_
    intro K4 hK4
    refine c_seq ?_
    intro K5 hK5
    refine c_reg ?_
    refine w_val trivial rfl (fun a w hf hs => r_move (hf.ev rfl)) ?_
    refine w_val trivial rfl (fun a w hf hs => r_nilT Try.underlying22 (hf.ev rfl) (hf.ev rfl)) ?_
    refine w_nil (hK5 _ _ _ ?_)
    refine c_if rfl (fun hb => ?_) (fun hb => absurd (hb.symm.trans rfl) (by decide))
    refine c_seq ?_
    intro K6 hK6
    refine c_reg ?_
    refine w_val trivial rfl (fun a w hf hs => r_assign (hf.ev rfl)) ?_
    refine w_nil (hK6 _ _ _ ?_)
    obtain rfl := some_r H
    refine c_ret ?_
    intro a w' hf hs
    exact hret _ (.inl rfl) a w' hf.df ⟨_, _, Res.of1 rfl (RV.t hf rfl), hs.ext, ⟨_, rfl, RS.none⟩⟩
  · have hne : ∃ b n c, v1 = .slice (some b) n c := by obtain ⟨b, cp, _, _, _, _, e, _⟩ := h2; exact ⟨_, _, _, e⟩
    replace h2 : RS Key.F M v1 p0 := .inr h2
    refine enter 8 [(0, v1)] Try.func25 rfl rfl rfl hM ?_
    intro Q hret
    unfold slices_Clone_Key at H
    refine c_seq ?_
    intro K3 hK3
    refine c_reg ?_
    refine w_val trivial rfl (fun a w hf hs => r_assign (hf.ev rfl)) ?_
    refine w_nil (hK3 _ _ _ ?_)
    refine c_seq ?_
    intro K4 hK4
    refine c_seq ?_
    intro K5 hK5
    refine c_reg ?_
    refine w_val trivial rfl (fun a w hf hs => r_move (hf.ev rfl)) ?_
    refine w_val trivial rfl (fun a w hf hs => r_nilF Try.underlying22 (hf.ev rfl) (hf.ev rfl) hne) ?_
    refine w_nil (hK5 _ _ _ ?_)
    refine c_if rfl (fun hb => absurd (hb.symm.trans rfl) (by decide)) (fun hb => ?_)
    refine c_skip (hK4 _ _ _ ?_)
    refine c_seq ?_
    intro K6 hK6
    refine c_reg ?_
    refine w_bslW (F := Key.F) (es := ([] : List Key)) (xs := []) (vs := []) Try.underlying22 te30 trivial rfl rfl rfl rfl rfl (by decide) ?_
    intro v7
    refine w_val trivial rfl (fun a w hf hs => r_move (hf.ev rfl)) ?_
    obtain ⟨g8, H⟩ := grd_s H
    refine w_app (F := Key.F) (m2 := p0) (i := 0) Try.underlying22 te30 Try.underlying22 (.inl ⟨_, rfl⟩) trivial rfl rfl rfl rfl (Src.rs Key.F_one h2) g8 ?_
    intro v9
    refine w_val trivial rfl (fun a w hf hs => r_assign (hf.ev rfl)) ?_
    refine w_nil (hK6 _ _ _ ?_)
    obtain rfl := some_r H
    refine c_ret ?_
    refine n_give 0 rfl (fun _ h => h) ?_
    intro M10 l11 h12
    replace h2 := h2.mono l11
    intro a w' hf hs
    exact hret _ (.inl rfl) a w' hf.df ⟨_, _, Res.of1 rfl (RV.t hf rfl), hs.ext, ⟨_, rfl, h12⟩⟩
set_option maxRecDepth 20000 in
theorem restore_Twin_1.calls {M : Heap} {w : World} (hM : Sub M w) (p0 : Key) (c0_ : Key) (cb0_ : Nat) (ch0_ : M cb0_ = some (.cells (Key.C c0_).toArray 30 (0, 0))) (r : Bool) (H : restore_Twin_1 p0 c0_ = some r) :
    Calls Try.prog 29 [(.agg (Key.C p0).toArray), (ptr cb0_ 0)].toArray w (Post M w fun M' v => v = (.bool r)) := by
  refine enter 13 [(0, (.agg (Key.C p0).toArray)), (1, (ptr cb0_ 0))] Try.func29 rfl rfl rfl hM ?_
  intro Q hret
  unfold restore_Twin_1 at H
  refine c_seq ?_
  intro K1 hK1
  refine c_reg ?_
  refine w_boxL trivial rfl rfl rfl ?_
  intro b2
  refine w_val trivial rfl (fun a w hf hs => r_assign (hf.ev rfl)) ?_
  refine w_nil (hK1 _ _ _ ?_)
  refine c_seq ?_
  intro K3 hK3
  refine c_drawW [[5, 7]] [⟨[], [1], [], none⟩, ⟨[(0, 4)], [], [], none⟩, ⟨[], [1], [], none⟩, ⟨[(2, 6)], [], [], none⟩, ⟨[], [2], [], none⟩, ⟨[(4, 8), (1, 5)], [], [(0, 0)], some (0, 0)⟩, ⟨[], [2], [], none⟩, ⟨[(6, 9), (3, 7)], [], [(0, 1)], some (0, 1)⟩] [fun v M => v = (ptr cb0_ 0), fun v M => v = (.int .i64 c0_.Id), fun v M => v = (ptr cb0_ 7), fun v M => v = (.int .i64 c0_.Parent), fun v M => v = (ptr b2 0), fun _ _ => True, fun v M => v = (ptr b2 7), fun _ _ => True] [[fun y M => y = .blk b2 (.cells (Key.C p0).toArray 30 (0, 0)), fun y M => y = .blk b2 (.cells (Key.C ({ p0 with Id := c0_.Id } : Key)).toArray 30 (0, 0)), fun y M => y = .blk b2 (.cells (Key.C ({ ({ p0 with Id := c0_.Id } : Key) with Parent := c0_.Parent } : Key)).toArray 30 (0, 0))]] (by kernel_rfl) (by kernel_rfl) ?_ ?_ rfl ?_ (AllW.cons ?_ (AllW.cons ?_ (AllW.cons ?_ (AllW.cons ?_ (AllW.cons ?_ (AllW.cons ?_ (AllW.cons ?_ (AllW.cons ?_ AllW.nil)))))))) ?_
  · exact (MonoA.cons (fun _ _ _ _ h => h) (MonoA.cons (fun _ _ _ _ h => h) (MonoA.cons (fun _ _ _ _ h => h) (MonoA.cons (fun _ _ _ _ h => h) (MonoA.cons (fun _ _ _ _ h => h) (MonoA.cons (fun _ _ _ _ h => h) (MonoA.cons (fun _ _ _ _ h => h) (MonoA.cons (fun _ _ _ _ h => h) MonoA.nil))))))))
  · exact (MonoK.cons (mono_cons (fun _ _ _ _ h => h) (mono_cons (fun _ _ _ _ h => h) (mono_cons (fun _ _ _ _ h => h) mono_nil))) MonoK.nil)
  · exact (All0.cons rfl All0.nil)
  · intro a w' M4 L_ l5 hL hd hs
    replace ch0_ := l5 _ _ ch0_
    obtain ⟨x0_, L0_, rfl, hL0⟩ := lenS hL
    obtain rfl := len0 hL0
    refine OP.ofW (l := [(1, (ptr cb0_ 0))]) (hd.fr.add (hd.base 1 _ rfl rfl)) hs rfl ?_
    refine w_val trivial rfl (fun a w hf hs => r_fa fa30_0 (hf.ev rfl)) ?_
    refine w_nil ?_
    intro a w' hf hs
    exact ⟨rfl, hf.df, _, _, (HLe.refl _), hs, hf.get _ _ rfl, rfl⟩
  · intro a w' M6 L_ l7 hL hd hs
    have e8 := hd.val 0 4 _ rfl rfl
    replace ch0_ := l7 _ _ ch0_
    obtain ⟨x0_, L0_, rfl, hL0⟩ := lenS hL
    obtain rfl := len0 hL0
    refine OP.ofW (l := [(4, (ptr cb0_ 0))]) (hd.fr.add e8) hs rfl ?_
    refine w_val trivial rfl (fun a w hf hs => r_load1 ta3 (hf.ev rfl) (hs.sub _ _ ch0_) rfl) ?_
    refine w_nil ?_
    intro a w' hf hs
    exact ⟨rfl, hf.df, _, _, (HLe.refl _), hs, hf.get _ _ rfl, rfl⟩
  · intro a w' M9 L_ l10 hL hd hs
    replace ch0_ := l10 _ _ ch0_
    obtain ⟨x0_, L0_, rfl, hL0⟩ := lenS hL
    obtain rfl := len0 hL0
    refine OP.ofW (l := [(1, (ptr cb0_ 0))]) (hd.fr.add (hd.base 1 _ rfl rfl)) hs rfl ?_
    refine w_val trivial rfl (fun a w hf hs => r_fa fa30_7 (hf.ev rfl)) ?_
    refine w_nil ?_
    intro a w' hf hs
    exact ⟨rfl, hf.df, _, _, (HLe.refl _), hs, hf.get _ _ rfl, rfl⟩
  · intro a w' M11 L_ l12 hL hd hs
    have e13 := hd.val 2 6 _ rfl rfl
    replace ch0_ := l12 _ _ ch0_
    obtain ⟨x0_, L0_, rfl, hL0⟩ := lenS hL
    obtain rfl := len0 hL0
    refine OP.ofW (l := [(6, (ptr cb0_ 7))]) (hd.fr.add e13) hs rfl ?_
    refine w_val trivial rfl (fun a w hf hs => r_load1 ta3 (hf.ev rfl) (hs.sub _ _ ch0_) rfl) ?_
    refine w_nil ?_
    intro a w' hf hs
    exact ⟨rfl, hf.df, _, _, (HLe.refl _), hs, hf.get _ _ rfl, rfl⟩
  · intro a w' M14 L_ l15 hL hd hs
    obtain ⟨x0_, L0_, rfl, hL0⟩ := lenS hL
    obtain rfl := len0 hL0
    refine OP.ofW (l := [(2, (ptr b2 0))]) (hd.fr.add (hd.base 2 _ rfl rfl)) hs rfl ?_
    refine w_val trivial rfl (fun a w hf hs => r_fa fa30_0 (hf.ev rfl)) ?_
    refine w_nil ?_
    intro a w' hf hs
    exact ⟨rfl, hf.df, _, _, (HLe.refl _), hs, hf.get _ _ rfl, rfl⟩
  · intro a w' M16 L_ l17 hL hd hs
    have e18 := hd.val 4 8 _ rfl rfl
    have e19 := hd.val 1 5 _ rfl rfl
    obtain ⟨x0_, L0_, rfl, hL0⟩ := lenS hL
    obtain rfl := len0 hL0
    obtain ⟨_, hy, rfl⟩ := hd.item 0 0 _ rfl rfl
    obtain rfl := Option.some.inj hy
    refine OP.ofW (l := [(8, (ptr b2 0)), (5, (.int .i64 c0_.Id))]) ((hd.fr.add e19).add e18) hs rfl ?_
    refine w_store (i := 0) (vs := [(.int .i64 c0_.Id)]) (A' := Key.C ({ p0 with Id := c0_.Id } : Key)) trivial rfl rfl rfl rfl ts3 rfl (one1 rfl) (Nat.le_of_ble_eq_true rfl) rfl ?_
    refine w_nil ?_
    intro a w' hf hs
    exact ⟨rfl, hf.df, _, _, (HLe.refl _), hs, trivial, ⟨.blk b2 (.cells (Key.C ({ p0 with Id := c0_.Id } : Key)).toArray 30 (0, 0)), rfl, of_some (q := fun y M => y = .blk b2 (.cells (Key.C ({ p0 with Id := c0_.Id } : Key)).toArray 30 (0, 0))) rfl⟩⟩
  · intro a w' M20 L_ l21 hL hd hs
    obtain ⟨x0_, L0_, rfl, hL0⟩ := lenS hL
    obtain rfl := len0 hL0
    refine OP.ofW (l := [(2, (ptr b2 0))]) (hd.fr.add (hd.base 2 _ rfl rfl)) hs rfl ?_
    refine w_val trivial rfl (fun a w hf hs => r_fa fa30_7 (hf.ev rfl)) ?_
    refine w_nil ?_
    intro a w' hf hs
    exact ⟨rfl, hf.df, _, _, (HLe.refl _), hs, hf.get _ _ rfl, rfl⟩
  · intro a w' M22 L_ l23 hL hd hs
    have e24 := hd.val 6 9 _ rfl rfl
    have e25 := hd.val 3 7 _ rfl rfl
    obtain ⟨x0_, L0_, rfl, hL0⟩ := lenS hL
    obtain rfl := len0 hL0
    obtain ⟨_, hy, rfl⟩ := hd.item 0 1 _ rfl rfl
    obtain rfl := Option.some.inj hy
    refine OP.ofW (l := [(9, (ptr b2 7)), (7, (.int .i64 c0_.Parent))]) ((hd.fr.add e25).add e24) hs rfl ?_
    refine w_store (i := 0) (vs := [(.int .i64 c0_.Parent)]) (A' := Key.C ({ ({ p0 with Id := c0_.Id } : Key) with Parent := c0_.Parent } : Key)) trivial rfl rfl rfl rfl ts3 rfl (one1 rfl) (Nat.le_of_ble_eq_true rfl) rfl ?_
    refine w_nil ?_
    intro a w' hf hs
    exact ⟨rfl, hf.df, _, _, (HLe.refl _), hs, trivial, ⟨.blk b2 (.cells (Key.C ({ ({ p0 with Id := c0_.Id } : Key) with Parent := c0_.Parent } : Key)).toArray 30 (0, 0)), rfl, of_some (q := fun y M => y = .blk b2 (.cells (Key.C ({ ({ p0 with Id := c0_.Id } : Key) with Parent := c0_.Parent } : Key)).toArray 30 (0, 0))) rfl⟩⟩
  intro a w' M26 L_ l27 hL hdf hsz hb hv hi hs
  replace ch0_ := l27 _ _ ch0_
  obtain ⟨x0_, L0_, rfl, hL0⟩ := lenS hL
  obtain rfl := len0 hL0
  obtain ⟨_, hy, rfl⟩ := hi 0 _ rfl
  obtain rfl := Option.some.inj hy
  clear hi hy
  refine n_of (c := (Cx.mk Try.prog 13 none' M w)) (l := [(1, (ptr cb0_ 0)), (2, (ptr b2 0))]) ?_ (((Fr.start hdf hsz).add (hb 2 _ rfl rfl)).add (hb 1 _ rfl rfl)) hs
  clear hdf hsz hb hv hs
  refine n_id (hK3 _ _ _ ?_)
  refine c_seq ?_
  intro K28 hK28
  refine c_reg ?_
  refine w_val trivial rfl (fun a w hf hs => r_loadA ta30 ts30 (hf.ev rfl) (hs.blk (i := 0) rfl) rfl rfl) ?_
  refine w_val trivial rfl (fun a w hf hs => r_loadA ta30 ts30 (hf.ev rfl) (hs.sub _ _ ch0_) rfl rfl) ?_
  refine w_val trivial rfl (fun a w hf hs => r_eqS eq30 (hf.ev rfl) (hf.ev rfl)) ?_
  refine w_val trivial rfl (fun a w hf hs => r_assign (hf.ev rfl)) ?_
  refine w_nil (hK28 _ _ _ ?_)
  obtain rfl := some_r H
  refine c_ret ?_
  intro a w' hf hs
  exact hret _ (.inl rfl) a w' hf.df ⟨_, _, Res.of1 rfl (RV.t hf rfl), hs.ext, rfl⟩
set_option maxRecDepth 20000 in
theorem slices_IndexFunc_Key.calls {M : Heap} {w : World} (hM : Sub M w) (p0 : (List Key)) (v1 : Value) (h2 : RS Key.F M v1 p0) (p1 : (Key → Option Bool)) (p1v : Value) (p1h : FnS Try.prog M p1v (fun x => .agg (Key.C x).toArray) Value.bool p1) (r : Int) (H : slices_IndexFunc_Key p0 p1 = some r) :
    Calls Try.prog 28 [v1, p1v].toArray w (Post M w fun M' v => v = (.int .i64 r)) := by
  refine enter 19 [(0, v1), (1, p1v)] Try.func28 rfl rfl rfl hM ?_
  intro Q hret
  unfold slices_IndexFunc_Key at H
  refine c_seq ?_
  intro K3 hK3
  refine c_reg ?_
  refine w_val trivial rfl (fun a w hf hs => r_assign (hf.ev rfl)) ?_
  refine w_nil (hK3 _ _ _ ?_)
  refine c_cut (fun a' w' => ∃ (M4 : Heap), HLe M M4 ∧ Fr 19 [] a' ∧ St none' M w M4 (lt []) w' ∧ slices_IndexFunc_Key.j1  = some r) ?_ ?_
  · refine c_seq ?_
    intro K7 hK7
    refine c_reg ?_
    refine w_val trivial rfl (fun a w hf hs => r_move (hf.ev rfl)) ?_
    refine w_val trivial rfl (fun a w hf hs => r_lenR Try.underlying22 h2 (hf.ev rfl)) ?_
    refine w_val trivial rfl (fun a w hf hs => r_move (hf.ev rfl)) ?_
    refine w_nil (hK7 _ _ _ ?_)
    refine c_block ?_
    refine c_loop (fun (s8 : Int) a' w' => ∃ (M9 : Heap), HLe M M9 ∧ Fr 19 [(0, v1), (1, p1v), (7, (.int .i64 (p0.length : Int))), (8, (.int .i64 s8))] a' ∧ St none' M w M9 (lt []) w') (0 : Int) H ?_ ?_
    · intro a w' hf hs
      exact ⟨_, HLe.refl _, ((((hf.nil.add (hf.get _ _ rfl)).add (hf.get _ _ rfl)).add (hf.get _ _ rfl)).add (hf.get _ _ rfl)), hs.selD [] (by decide) rfl⟩
    · clear H
      intro s8 y12 H r11 a w' hJ
      obtain ⟨M9, l10, hf, hs⟩ := hJ
      refine c_of (c := (Cx.mk Try.prog 19 none' M w)) ?_ hf hs
      unfold slices_IndexFunc_Key.l2 at H
      clear hf hs
      replace h2 := h2.mono l10
      replace p1h := p1h.mono l10
      refine c_seq ?_
      intro K13 hK13
      refine c_reg ?_
      refine w_val trivial rfl (fun a w hf hs => r_lss (hf.ev rfl) (hf.ev rfl)) ?_
      refine w_nil (hK13 _ _ _ ?_)
      refine c_seq ?_
      intro K14 hK14
      refine c_if rfl (fun b15 => ?_) (fun b15 => ?_)
      · replace H := if_t b15 H
        refine c_skip (hK14 _ _ _ ?_)
        refine c_seq ?_
        intro K16 hK16
        refine c_block ?_
        refine c_seq ?_
        intro K17 hK17
        refine c_reg ?_
        refine w_val trivial rfl (fun a w hf hs => r_move (hf.ev rfl)) ?_
        refine w_val trivial rfl (fun a w hf hs => r_assign (hf.ev rfl)) ?_
        refine w_nil (hK17 _ _ _ ?_)
        refine c_seq ?_
        intro K18 hK18
        refine c_reg ?_
        refine w_val trivial rfl (fun a w hf hs => r_move (hf.ev rfl)) ?_
        refine w_val trivial rfl (fun a w hf hs => r_move (hf.ev rfl)) ?_
        refine w_val trivial rfl (fun a w hf hs => r_move (hf.ev rfl)) ?_
        obtain ⟨g19, H⟩ := grd_s H
        refine w_val trivial rfl (fun a w hf hs => r_iR Try.underlying22 ts30 h2 (hf.ev rfl) (hf.ev rfl) g19.1 g19.2) ?_
        refine w_val trivial rfl (fun a w hf hs => r_loadEA ta30 ts30 h2 hs.sub g19.1 g19.2 (hf.ev rfl) rfl rfl) ?_
        obtain ⟨t20, e25, H⟩ := bnd H
        refine w_callV trivial rfl rfl rfl (fun _ h => by cases h) (fun w hs => p1h _ w _ _ (HLe.refl _) hs e25) ?_
        rintro _ M22 l23 rfl
        replace h2 := h2.mono l23
        replace p1h := p1h.mono l23
        refine w_nil (hK18 _ _ _ ?_)
        refine c_if rfl (fun b26 => ?_) (fun b26 => ?_)
        · replace H := if_t b26 H
          refine c_seq ?_
          intro K27 hK27
          refine c_reg ?_
          refine w_val trivial rfl (fun a w hf hs => r_move (hf.ev rfl)) ?_
          refine w_val trivial rfl (fun a w hf hs => r_assign (hf.ev rfl)) ?_
          refine w_nil (hK27 _ _ _ ?_)
          obtain rfl := (r11 _ (Option.some.inj H).symm)
          refine c_ret ?_
          intro a w' hf hs
          exact hret _ (.inl rfl) a w' hf.df ⟨_, _, Res.of1 rfl (RV.t hf rfl), hs.ext, rfl⟩
        · replace H := if_f b26 H
          refine c_skip (hK16 _ _ _ ?_)
          refine c_reg ?_
          refine w_val trivial rfl (fun a w hf hs => r_add (hf.ev rfl) (hf.ev rfl)) ?_
          refine w_val trivial rfl (fun a w hf hs => r_move (hf.ev rfl)) ?_
          refine w_nil ?_
          intro a w' hf hs
          exact ⟨_, (some_r H).symm, _, l10.trans l23, ((((hf.nil.add (hf.get _ _ rfl)).add (hf.get _ _ rfl)).add (hf.get _ _ rfl)).add (hf.get _ _ rfl)), hs.selD [] (by decide) rfl⟩
      · replace H := if_f b15 H
        replace H := map_inr H r11
        refine c_exit ?_
        intro a w' hf hs
        exact ⟨_, l10, hf.nil, hs.selD [] (by decide) rfl, H⟩
  · rintro a w' ⟨M4, l5, hf, hs, H⟩
    refine c_of (c := (Cx.mk Try.prog 19 none' M w)) ?_ hf hs
    unfold slices_IndexFunc_Key.j1 at H
    clear hf hs
    replace h2 := h2.mono l5
    replace p1h := p1h.mono l5
    refine c_seq ?_
    intro K6 hK6
    refine c_reg ?_
    refine w_val trivial rfl (fun a w hf hs => r_assign (hf.ev rfl)) ?_
    refine w_nil (hK6 _ _ _ ?_)
    obtain rfl := some_r H
    refine c_ret ?_
    intro a w' hf hs
    exact hret _ (.inl rfl) a w' hf.df ⟨_, _, Res.of1 rfl (RV.t hf rfl), hs.ext, rfl⟩
set_option maxRecDepth 20000 in
theorem restore_Twin.calls {M : Heap} {w : World} (hM : Sub M w) (p0 : Table) (v1 : Value) (h2 : RS Key.F M v1 p0.Keys) (p1 : Key) (r : (Int × Bool)) (H : restore_Twin p0 p1 = some r) :
    Calls Try.prog 12 [(.agg (Table.C p0 v1).toArray), (.agg (Key.C p1).toArray)].toArray w (Post M w fun M' v => v = .tuple #[(.int .i64 r.1), (.bool r.2)]) := by
  refine enter 19 [(0, (.agg (Table.C p0 v1).toArray)), (1, (.agg (Key.C p1).toArray))] Try.func12 rfl rfl rfl hM ?_
  intro Q hret
  unfold restore_Twin at H
  refine c_seq ?_
  intro K3 hK3
  refine c_reg ?_
  refine w_boxM trivial rfl rfl rfl ?_
  intro b4 M5 l6 h7
  replace h2 := h2.mono l6
  refine w_boxM trivial rfl rfl rfl ?_
  intro b8 M9 l10 h11
  replace h2 := h2.mono l10
  replace h7 := l10 _ _ h7
  refine w_val trivial rfl (fun a w hf hs => r_assign (hf.ev rfl)) ?_
  refine w_val trivial rfl (fun a w hf hs => r_assign (hf.ev rfl)) ?_
  refine w_nil (hK3 _ _ _ ?_)
  refine c_seq ?_
  intro K12 hK12
  refine c_reg ?_
  refine w_val trivial rfl (fun a w hf hs => r_fa fa24_1 (hf.ev rfl)) ?_
  refine w_val trivial rfl (fun a w hf hs => r_load1 ta22 (hf.ev rfl) (hs.sub _ _ h7) rfl) ?_
  refine w_val trivial rfl (fun a w hf hs => r_makeFunc (hf.evs rfl)) ?_
  obtain ⟨t13, e18, H⟩ := bnd H
  refine w_call cf28 trivial rfl rfl (fun w hs => slices_IndexFunc_Key.calls hs p0.Keys v1 h2 (fun x => restore_Twin_1 x p1) (.func (.func 29) #[] #[(ptr b8 0)]) (FnS.of cf29 fun M' w x r hM hs hp => Calls.mono (restore_Twin_1.calls hs x p1 b8 (hM _ _ h11) _ hp) fun e w' q => q) _ e18) ?_
  rintro _ M15 l16 rfl
  replace h2 := h2.mono l16
  replace h7 := l16 _ _ h7
  replace h11 := l16 _ _ h11
  refine w_val trivial rfl (fun a w hf hs => r_assign (hf.ev rfl)) ?_
  refine w_nil (hK12 _ _ _ ?_)
  refine c_seq ?_
  intro K19 hK19
  refine c_seq ?_
  intro K20 hK20
  refine c_reg ?_
  refine w_val trivial rfl (fun a w hf hs => r_move (hf.ev rfl)) ?_
  refine w_val trivial rfl (fun a w hf hs => r_lss (hf.ev rfl) (hf.ev rfl)) ?_
  refine w_nil (hK20 _ _ _ ?_)
  refine c_if rfl (fun b21 => ?_) (fun b21 => ?_)
  · replace H := if_t b21 H
    refine c_seq ?_
    intro K22 hK22
    refine c_reg ?_
    refine w_val trivial rfl (fun a w hf hs => r_assign (hf.ev rfl)) ?_
    refine w_val trivial rfl (fun a w hf hs => r_assign (hf.ev rfl)) ?_
    refine w_nil (hK22 _ _ _ ?_)
    obtain rfl := some_r H
    refine c_ret ?_
    intro a w' hf hs
    exact hret _ (.inl rfl) a w' hf.df ⟨_, _, Res.of2 rfl (RV.t hf rfl) (RV.t hf rfl), hs.ext, rfl⟩
  · replace H := if_f b21 H
    refine c_skip (hK19 _ _ _ ?_)
    refine c_seq ?_
    intro K23 hK23
    refine c_reg ?_
    refine w_val trivial rfl (fun a w hf hs => r_fa fa24_1 (hf.ev rfl)) ?_
    refine w_val trivial rfl (fun a w hf hs => r_load1 ta22 (hf.ev rfl) (hs.sub _ _ h7) rfl) ?_
    refine w_val trivial rfl (fun a w hf hs => r_move (hf.ev rfl)) ?_
    obtain ⟨g24, H⟩ := grd_s H
    refine w_val trivial rfl (fun a w hf hs => r_iR Try.underlying22 ts30 h2 (hf.ev rfl) (hf.ev rfl) g24.1 g24.2) ?_
    refine w_val trivial rfl (fun a w hf hs => r_faE fa30_0 h2 g24.1 g24.2 (hf.ev rfl)) ?_
    refine w_val trivial rfl (fun a w hf hs => r_loadE1 ta3 h2 hs.sub g24.1 g24.2 (hf.ev rfl) rfl) ?_
    refine w_val trivial rfl (fun a w hf hs => r_assign (hf.ev rfl)) ?_
    refine w_val trivial rfl (fun a w hf hs => r_assign (hf.ev rfl)) ?_
    refine w_nil (hK23 _ _ _ ?_)
    obtain rfl := some_r H
    refine c_ret ?_
    intro a w' hf hs
    exact hret _ (.inl rfl) a w' hf.df ⟨_, _, Res.of2 rfl (RV.t hf rfl) (RV.t hf rfl), hs.ext, rfl⟩
set_option maxRecDepth 20000 in
theorem slices_Clip_Key.calls {M : Heap} {w : World} (hM : Sub M w) (p0 : (List Key)) (v1 : Value) (h2 : RS Key.F M v1 p0) (r : (List Key)) (H : slices_Clip_Key p0 = some r) :
    Calls Try.prog 42 [v1].toArray w (Post M w fun M' v => ∃ v8, v = v8 ∧ RS Key.F M' v8 r ∧ ∃ A, v8 = .slice A r.length r.length) := by
  refine enter 9 [(0, v1)] Try.func42 rfl rfl rfl hM ?_
  intro Q hret
  unfold slices_Clip_Key at H
  refine c_seq ?_
  intro K3 hK3
  refine c_reg ?_
  refine w_val trivial rfl (fun a w hf hs => r_assign (hf.ev rfl)) ?_
  refine w_nil (hK3 _ _ _ ?_)
  refine c_seq ?_
  intro K4 hK4
  refine c_reg ?_
  refine w_val trivial rfl (fun a w hf hs => r_move (hf.ev rfl)) ?_
  refine w_val trivial rfl (fun a w hf hs => r_move (hf.ev rfl)) ?_
  refine w_val trivial rfl (fun a w hf hs => r_lenR Try.underlying22 h2 (hf.ev rfl)) ?_
  refine w_val trivial rfl (fun a w hf hs => r_move (hf.ev rfl)) ?_
  refine w_val trivial rfl (fun a w hf hs => r_lenR Try.underlying22 h2 (hf.ev rfl)) ?_
  refine w_ex (Φ := fun v => RS Key.F M v p0 ∧ ∃ A, v = .slice A p0.length p0.length) trivial rfl (fun a w hf hs => r_clipR Try.underlying22 ts30 (hf.ev rfl) h2 (hf.ev rfl) (hf.ev rfl)) ?_
  rintro v5 ⟨h6, c7⟩
  refine w_val trivial rfl (fun a w hf hs => r_assign (hf.ev rfl)) ?_
  refine w_nil (hK4 _ _ _ ?_)
  obtain rfl := some_r H
  refine c_ret ?_
  intro a w' hf hs
  exact hret _ (.inl rfl) a w' hf.df ⟨_, _, Res.of1 rfl (RV.t hf rfl), hs.ext, ⟨_, rfl, h6, c7⟩⟩
set_option maxRecDepth 20000 in
theorem keys_Add.calls {M : Heap} {w : World} (hM : Sub M w) (p0 : Table) (v1 : Value) (h2 : RS Key.F M v1 p0.Keys) (p1 : Key) (r : (Table × Int × Int)) (H : keys_Add p0 p1 = some r) :
    Calls Try.prog 26 [(.agg (Table.C p0 v1).toArray), (.agg (Key.C p1).toArray)].toArray w (Post M w fun M' v => ∃ v111, v = .tuple #[(.agg (Table.C r.1 v111).toArray), (.int .i64 r.2.1), (.int .i64 r.2.2)] ∧ RS Key.F M' v111 r.1.Keys) := by
  refine enter 45 [(0, (.agg (Table.C p0 v1).toArray)), (1, (.agg (Key.C p1).toArray))] Try.func26 rfl rfl rfl hM ?_
  intro Q hret
  unfold keys_Add at H
  refine c_seq ?_
  intro K3 hK3
  refine c_reg ?_
  refine w_boxM trivial rfl rfl rfl ?_
  intro b4 M5 l6 h7
  replace h2 := h2.mono l6
  refine w_boxL trivial rfl rfl rfl ?_
  intro b8
  refine w_allocL (A := Table.C (⟨(0 : Int), ([] : (List Key))⟩ : Table) (.slice none 0 0)) tz24 trivial rfl rfl ?_
  intro b9
  refine w_val trivial rfl (fun a w hf hs => r_assign (hf.ev rfl)) ?_
  refine w_val trivial rfl (fun a w hf hs => r_assign (hf.ev rfl)) ?_
  refine w_nil (hK3 _ _ _ ?_)
  refine c_seq ?_
  intro K10 hK10
  refine c_block ?_
  obtain ⟨t11, H1, H⟩ := bnd H
  refine c_cut (fun a' w' => ∃ (M12 : Heap), HLe M5 M12 ∧ Fr 45 [(2, (ptr b4 0)), (3, (ptr b8 0)), (4, (ptr b9 0)), (7, (.bool t11))] a' ∧ St none' M w M12 (lt [.blk b8 (.cells (Key.C p1).toArray 30 (0, 0)), .blk b9 (.cells (Table.C (⟨(0 : Int), ([] : (List Key))⟩ : Table) (.slice none 0 0)).toArray 24 (0, 0))]) w') ?_ ?_
  · replace H := H1
    clear H1
    refine c_reg ?_
    refine w_val trivial rfl (fun a w hf hs => r_loadA ta30 ts30 (hf.ev rfl) (hs.blk (i := 0) rfl) rfl rfl) ?_
    obtain ⟨t14, e19, H⟩ := bnd H
    refine w_call cf40 trivial rfl rfl (fun w hs => keys_Valid.calls hs p1 _ e19) ?_
    rintro _ M16 l17 rfl
    replace h2 := h2.mono l17
    replace h7 := l17 _ _ h7
    refine w_val trivial rfl (fun a w hf hs => r_not (hf.ev rfl)) ?_
    refine w_val trivial rfl (fun a w hf hs => r_move (hf.ev rfl)) ?_
    by_cases b20 : (!t14) = true
    · replace H := if_t b20 H
      refine w_not (Nwt.of rfl rfl b20) rfl ?_
      refine w_not (Nwt.of rfl rfl b20) rfl ?_
      refine w_not (Nwt.of rfl rfl b20) rfl ?_
      refine w_not (Nwt.of rfl rfl b20) rfl ?_
      refine w_not (Nwt.of rfl rfl b20) rfl ?_
      refine w_val trivial rfl (fun a w hf hs => r_pickT (hf.ev rfl) b20 (hf.ev rfl)) ?_
      refine w_val trivial rfl (fun a w hf hs => r_assign (hf.ev rfl)) ?_
      obtain rfl := some_r H
      refine w_nil ?_
      intro a w' hf hs
      exact ⟨_, l17, ((((hf.nil.add (hf.get _ _ rfl)).add (hf.get _ _ rfl)).add (hf.get _ _ rfl)).add (hf.get _ _ rfl)), hs.sel [0, 1] (by decide) rfl⟩
    · replace b20 := Bool.eq_false_iff.2 b20
      replace H := if_f b20 H
      refine w_val (Wnt.of rfl rfl b20) rfl (fun a w hf hs => r_fa fa30_7 (hf.ev rfl)) ?_
      refine w_val (Wnt.of rfl rfl b20) rfl (fun a w hf hs => r_load1 ta3 (hf.ev rfl) (hs.blk (i := 0) rfl) rfl) ?_
      refine w_val (Wnt.of rfl rfl b20) rfl (fun a w hf hs => r_fa fa24_0 (hf.ev rfl)) ?_
      refine w_val (Wnt.of rfl rfl b20) rfl (fun a w hf hs => r_load1 ta3 (hf.ev rfl) (hs.sub _ _ h7) rfl) ?_
      refine w_val (Wnt.of rfl rfl b20) rfl (fun a w hf hs => r_geq (hf.ev rfl) (hf.ev rfl)) ?_
      refine w_val trivial rfl (fun a w hf hs => r_pickF (hf.ev rfl) b20 (hf.ev rfl)) ?_
      refine w_val trivial rfl (fun a w hf hs => r_assign (hf.ev rfl)) ?_
      obtain rfl := some_r H
      refine w_nil ?_
      intro a w' hf hs
      exact ⟨_, l17, ((((hf.nil.add (hf.get _ _ rfl)).add (hf.get _ _ rfl)).add (hf.get _ _ rfl)).add (hf.get _ _ rfl)), hs.sel [0, 1] (by decide) rfl⟩
  · clear H1
    rintro a w' ⟨M12, l13, hf, hs⟩
    refine c_of (c := (Cx.mk Try.prog 45 none' M w)) ?_ hf hs
    clear hf hs
    replace h2 := h2.mono l13
    replace h7 := l13 _ _ h7
    refine c_if rfl (fun b21 => ?_) (fun b21 => ?_)
    · replace H := if_t b21 H
      refine c_seq ?_
      intro K22 hK22
      refine c_reg ?_
      refine w_val trivial rfl (fun a w hf hs => r_build (is := []) (xs := []) (vs := []) (A := Table.C (⟨(0 : Int), ([] : (List Key))⟩ : Table) (.slice none 0 0)) rfl (hf.evs rfl) (built_of (pl := [(0, 1), (1, 1)]) (A0 := Table.C (⟨(0 : Int), ([] : (List Key))⟩ : Table) (.slice none 0 0)) tz24 Try.underlying24 (by kernel_rfl) rfl .nil)) ?_
      refine w_store (i := 1) (vs := Table.C (⟨(0 : Int), ([] : (List Key))⟩ : Table) (.slice none 0 0)) (A' := Table.C (⟨(0 : Int), ([] : (List Key))⟩ : Table) (.slice none 0 0)) trivial rfl rfl rfl rfl ts24 rfl (Table.C_one _ rfl) (Nat.le_of_ble_eq_true rfl) rfl ?_
      refine w_val trivial rfl (fun a w hf hs => r_assign (hf.ev rfl)) ?_
      refine w_val trivial rfl (fun a w hf hs => r_assign (hf.ev rfl)) ?_
      refine w_nil (hK22 _ _ _ ?_)
      obtain rfl := some_r H
      refine c_ret ?_
      intro a w' hf hs
      exact hret _ (.inl rfl) a w' hf.df ⟨_, _, Res.of3 rfl ⟨_, hf.get _ _ rfl, run_loadA (hs.blk (i := 1) rfl) ta24 ts24 rfl rfl⟩ (RV.t hf rfl) (RV.t hf rfl), hs.ext, ⟨_, rfl, RS.none⟩⟩
    · replace H := if_f b21 H
      obtain ⟨t23, H1, H⟩ := bnd H
      refine c_cut (fun a' w' => ∃ (M24 : Heap), HLe M12 M24 ∧ Fr 45 [(2, (ptr b4 0)), (3, (ptr b8 0)), (4, (ptr b9 0)), (19, (.bool t23))] a' ∧ St none' M w M24 (lt [.blk b8 (.cells (Key.C p1).toArray 30 (0, 0)), .blk b9 (.cells (Table.C (⟨(0 : Int), ([] : (List Key))⟩ : Table) (.slice none 0 0)).toArray 24 (0, 0))]) w') ?_ ?_
      · replace H := H1
        clear H1
        refine c_reg ?_
        refine w_val trivial rfl (fun a w hf hs => r_fa fa24_1 (hf.ev rfl)) ?_
        refine w_val trivial rfl (fun a w hf hs => r_load1 ta22 (hf.ev rfl) (hs.sub _ _ h7) rfl) ?_
        refine w_val trivial rfl (fun a w hf hs => r_lenR Try.underlying22 h2 (hf.ev rfl)) ?_
        refine w_val trivial rfl (fun a w hf hs => r_geq (hf.ev rfl) (hf.ev rfl)) ?_
        refine w_val trivial rfl (fun a w hf hs => r_move (hf.ev rfl)) ?_
        by_cases b26 : (decide ((4096 : Int) ≤ (p0.Keys.length : Int))) = true
        · replace H := if_t b26 H
          refine w_not (Nwt.of rfl rfl b26) rfl ?_
          refine w_not (Nwt.of rfl rfl b26) rfl ?_
          refine w_not (Nwt.of rfl rfl b26) rfl ?_
          refine w_val trivial rfl (fun a w hf hs => r_pickT (hf.ev rfl) b26 (hf.ev rfl)) ?_
          refine w_val trivial rfl (fun a w hf hs => r_assign (hf.ev rfl)) ?_
          obtain rfl := some_r H
          refine w_nil ?_
          intro a w' hf hs
          exact ⟨_, (HLe.refl _), ((((hf.nil.add (hf.get _ _ rfl)).add (hf.get _ _ rfl)).add (hf.get _ _ rfl)).add (hf.get _ _ rfl)), hs.sel [0, 1] (by decide) rfl⟩
        · replace b26 := Bool.eq_false_iff.2 b26
          replace H := if_f b26 H
          refine w_val (Wnt.of rfl rfl b26) rfl (fun a w hf hs => r_fa fa24_0 (hf.ev rfl)) ?_
          refine w_val (Wnt.of rfl rfl b26) rfl (fun a w hf hs => r_load1 ta3 (hf.ev rfl) (hs.sub _ _ h7) rfl) ?_
          refine w_val (Wnt.of rfl rfl b26) rfl (fun a w hf hs => r_geq (hf.ev rfl) (hf.ev rfl)) ?_
          refine w_val trivial rfl (fun a w hf hs => r_pickF (hf.ev rfl) b26 (hf.ev rfl)) ?_
          refine w_val trivial rfl (fun a w hf hs => r_assign (hf.ev rfl)) ?_
          obtain rfl := some_r H
          refine w_nil ?_
          intro a w' hf hs
          exact ⟨_, (HLe.refl _), ((((hf.nil.add (hf.get _ _ rfl)).add (hf.get _ _ rfl)).add (hf.get _ _ rfl)).add (hf.get _ _ rfl)), hs.sel [0, 1] (by decide) rfl⟩
      · clear H1
        rintro a w' ⟨M24, l25, hf, hs⟩
        refine c_of (c := (Cx.mk Try.prog 45 none' M w)) ?_ hf hs
        clear hf hs
        replace h2 := h2.mono l25
        replace h7 := l25 _ _ h7
        refine c_if rfl (fun b27 => ?_) (fun b27 => ?_)
        · replace H := if_t b27 H
          refine c_seq ?_
          intro K28 hK28
          refine c_reg ?_
          refine w_val trivial rfl (fun a w hf hs => r_build (is := []) (xs := []) (vs := []) (A := Table.C (⟨(0 : Int), ([] : (List Key))⟩ : Table) (.slice none 0 0)) rfl (hf.evs rfl) (built_of (pl := [(0, 1), (1, 1)]) (A0 := Table.C (⟨(0 : Int), ([] : (List Key))⟩ : Table) (.slice none 0 0)) tz24 Try.underlying24 (by kernel_rfl) rfl .nil)) ?_
          refine w_store (i := 1) (vs := Table.C (⟨(0 : Int), ([] : (List Key))⟩ : Table) (.slice none 0 0)) (A' := Table.C (⟨(0 : Int), ([] : (List Key))⟩ : Table) (.slice none 0 0)) trivial rfl rfl rfl rfl ts24 rfl (Table.C_one _ rfl) (Nat.le_of_ble_eq_true rfl) rfl ?_
          refine w_val trivial rfl (fun a w hf hs => r_assign (hf.ev rfl)) ?_
          refine w_val trivial rfl (fun a w hf hs => r_assign (hf.ev rfl)) ?_
          refine w_nil (hK28 _ _ _ ?_)
          obtain rfl := some_r H
          refine c_ret ?_
          intro a w' hf hs
          exact hret _ (.inl rfl) a w' hf.df ⟨_, _, Res.of3 rfl ⟨_, hf.get _ _ rfl, run_loadA (hs.blk (i := 1) rfl) ta24 ts24 rfl rfl⟩ (RV.t hf rfl) (RV.t hf rfl), hs.ext, ⟨_, rfl, RS.none⟩⟩
        · replace H := if_f b27 H
          refine c_skip (hK10 _ _ _ ?_)
          refine c_seq ?_
          intro K29 hK29
          refine c_reg ?_
          refine w_val trivial rfl (fun a w hf hs => r_fa fa24_0 (hf.ev rfl)) ?_
          refine w_val trivial rfl (fun a w hf hs => r_load1 ta3 (hf.ev rfl) (hs.sub _ _ h7) rfl) ?_
          refine w_val trivial rfl (fun a w hf hs => r_fa fa30_0 (hf.ev rfl)) ?_
          refine w_store (i := 0) (vs := [(.int .i64 p0.Next)]) (A' := Key.C ({ p1 with Id := p0.Next } : Key)) trivial rfl rfl rfl rfl ts3 rfl (one1 rfl) (Nat.le_of_ble_eq_true rfl) rfl ?_
          refine w_nil (hK29 _ _ _ ?_)
          refine c_seq ?_
          intro K30 hK30
          obtain ⟨t47, e52, H⟩ := bnd H
          obtain ⟨g79, H⟩ := grd_s H
          refine c_drawW [[], [12]] [⟨[], [2], [], none⟩, ⟨[(0, 33)], [], [], none⟩, ⟨[(1, 34)], [], [], none⟩, ⟨[], [2], [], none⟩, ⟨[(3, 36)], [], [], none⟩, ⟨[(4, 37)], [], [], none⟩, ⟨[], [3], [(0, 0)], none⟩, ⟨[(6, 39)], [], [], none⟩, ⟨[(5, 38), (7, 40)], [], [], none⟩, ⟨[(2, 35), (8, 41)], [], [], none⟩, ⟨[], [3], [], none⟩, ⟨[(10, 43)], [], [(0, 0)], none⟩, ⟨[(9, 42)], [4], [(1, 0)], some (1, 0)⟩, ⟨[(11, 44)], [], [], none⟩, ⟨[], [], [], none⟩] [fun v M => v = (ptr b4 0), fun v M => v = (.int .i64 p0.Next), fun v M => v = (.int .i64 (IntKind.i64.wrap (p0.Next + (1 : Int)))), fun v M => v = (ptr b4 1), fun v M => v = v1, fun v M => ∃ (v53 : Value), v = v53 ∧ RS Key.F M v53 t47 ∧ ∃ A, v53 = .slice A t47.length t47.length, fun v M => v = (.agg (Key.C ({ p1 with Id := p0.Next } : Key)).toArray), fun v M => ∃ (v62 : Value), v = v62 ∧ RS Key.F M v62 ([({ p1 with Id := p0.Next } : Key)] : List Key) ∧ ∃ A, v62 = .slice A ([({ p1 with Id := p0.Next } : Key)] : List Key).length ([({ p1 with Id := p0.Next } : Key)] : List Key).length, fun v M => ∃ (v80 : Value), v = v80 ∧ RS Key.F M v80 (t47 ++ ([({ p1 with Id := p0.Next } : Key)] : List Key)), fun v M => ∃ (v87 : Value), v = (.agg (Table.C (⟨(IntKind.i64.wrap (p0.Next + (1 : Int))), (t47 ++ ([({ p1 with Id := p0.Next } : Key)] : List Key))⟩ : Table) v87).toArray) ∧ RS Key.F M v87 (t47 ++ ([({ p1 with Id := p0.Next } : Key)] : List Key)), fun v M => v = (ptr b8 0), fun v M => v = (.int .i64 p0.Next), fun _ _ => True, fun v M => v = (.int .i64 p0.Next), fun v M => v = (.int .i64 (0 : Int))] [[fun y M => y = .blk b8 (.cells (Key.C ({ p1 with Id := p0.Next } : Key)).toArray 30 (0, 0))], [fun y M => y = .blk b9 (.cells (Table.C (⟨(0 : Int), ([] : (List Key))⟩ : Table) (.slice none 0 0)).toArray 24 (0, 0)), fun y M => ∃ (v97 : Value), y = .blk b9 (.cells (Table.C (⟨(IntKind.i64.wrap (p0.Next + (1 : Int))), (t47 ++ ([({ p1 with Id := p0.Next } : Key)] : List Key))⟩ : Table) v97).toArray 24 (0, 0)) ∧ RS Key.F M v97 (t47 ++ ([({ p1 with Id := p0.Next } : Key)] : List Key))]] (by kernel_rfl) (by kernel_rfl) ?_ ?_ rfl ?_ (AllW.cons ?_ (AllW.cons ?_ (AllW.cons ?_ (AllW.cons ?_ (AllW.cons ?_ (AllW.cons ?_ (AllW.cons ?_ (AllW.cons ?_ (AllW.cons ?_ (AllW.cons ?_ (AllW.cons ?_ (AllW.cons ?_ (AllW.cons ?_ (AllW.cons ?_ (AllW.cons ?_ AllW.nil))))))))))))))) ?_
          · exact (MonoA.cons (fun _ _ _ _ h => h) (MonoA.cons (fun _ _ _ _ h => h) (MonoA.cons (fun _ _ _ _ h => h) (MonoA.cons (fun _ _ _ _ h => h) (MonoA.cons (fun _ _ _ _ h => h) (MonoA.cons (fun _ _ _ hM h => by obtain ⟨v53, e_, q0, q1⟩ := h; exact ⟨v53, e_, q0.mono hM, q1⟩) (MonoA.cons (fun _ _ _ _ h => h) (MonoA.cons (fun _ _ _ hM h => by obtain ⟨v62, e_, q0, q1⟩ := h; exact ⟨v62, e_, q0.mono hM, q1⟩) (MonoA.cons (fun _ _ _ hM h => by obtain ⟨v80, e_, q0⟩ := h; exact ⟨v80, e_, q0.mono hM⟩) (MonoA.cons (fun _ _ _ hM h => by obtain ⟨v87, e_, q0⟩ := h; exact ⟨v87, e_, q0.mono hM⟩) (MonoA.cons (fun _ _ _ _ h => h) (MonoA.cons (fun _ _ _ _ h => h) (MonoA.cons (fun _ _ _ _ h => h) (MonoA.cons (fun _ _ _ _ h => h) (MonoA.cons (fun _ _ _ _ h => h) MonoA.nil)))))))))))))))
          · exact (MonoK.cons (mono_cons (fun _ _ _ _ h => h) mono_nil) (MonoK.cons (mono_cons (fun _ _ _ _ h => h) (mono_cons (fun _ _ _ hM h => by obtain ⟨v97, e_, q0⟩ := h; exact ⟨v97, e_, q0.mono hM⟩) mono_nil)) MonoK.nil))
          · exact (All0.cons rfl (All0.cons rfl All0.nil))
          · intro a w' M31 L_ l32 hL hd hs
            replace h7 := l32 _ _ h7
            replace h2 := h2.mono l32
            obtain ⟨x0_, L0_, rfl, hL0⟩ := lenS hL
            obtain ⟨x1_, L1_, rfl, hL1⟩ := lenS hL0
            obtain rfl := len0 hL1
            refine OP.ofW (l := [(2, (ptr b4 0))]) (hd.fr.add (hd.base 2 _ rfl rfl)) hs rfl ?_
            refine w_val trivial rfl (fun a w hf hs => r_fa fa24_0 (hf.ev rfl)) ?_
            refine w_nil ?_
            intro a w' hf hs
            exact ⟨rfl, hf.df, _, _, (HLe.refl _), hs, hf.get _ _ rfl, rfl⟩
          · intro a w' M33 L_ l34 hL hd hs
            have e35 := hd.val 0 33 _ rfl rfl
            replace h7 := l34 _ _ h7
            replace h2 := h2.mono l34
            obtain ⟨x0_, L0_, rfl, hL0⟩ := lenS hL
            obtain ⟨x1_, L1_, rfl, hL1⟩ := lenS hL0
            obtain rfl := len0 hL1
            refine OP.ofW (l := [(33, (ptr b4 0))]) (hd.fr.add e35) hs rfl ?_
            refine w_val trivial rfl (fun a w hf hs => r_load1 ta3 (hf.ev rfl) (hs.sub _ _ h7) rfl) ?_
            refine w_nil ?_
            intro a w' hf hs
            exact ⟨rfl, hf.df, _, _, (HLe.refl _), hs, hf.get _ _ rfl, rfl⟩
          · intro a w' M36 L_ l37 hL hd hs
            have e38 := hd.val 1 34 _ rfl rfl
            obtain ⟨x0_, L0_, rfl, hL0⟩ := lenS hL
            obtain ⟨x1_, L1_, rfl, hL1⟩ := lenS hL0
            obtain rfl := len0 hL1
            refine OP.ofW (l := [(34, (.int .i64 p0.Next))]) (hd.fr.add e38) hs rfl ?_
            refine w_val trivial rfl (fun a w hf hs => r_add (hf.ev rfl) (hf.ev rfl)) ?_
            refine w_nil ?_
            intro a w' hf hs
            exact ⟨rfl, hf.df, _, _, (HLe.refl _), hs, hf.get _ _ rfl, rfl⟩
          · intro a w' M39 L_ l40 hL hd hs
            replace h7 := l40 _ _ h7
            replace h2 := h2.mono l40
            obtain ⟨x0_, L0_, rfl, hL0⟩ := lenS hL
            obtain ⟨x1_, L1_, rfl, hL1⟩ := lenS hL0
            obtain rfl := len0 hL1
            refine OP.ofW (l := [(2, (ptr b4 0))]) (hd.fr.add (hd.base 2 _ rfl rfl)) hs rfl ?_
            refine w_val trivial rfl (fun a w hf hs => r_fa fa24_1 (hf.ev rfl)) ?_
            refine w_nil ?_
            intro a w' hf hs
            exact ⟨rfl, hf.df, _, _, (HLe.refl _), hs, hf.get _ _ rfl, rfl⟩
          · intro a w' M41 L_ l42 hL hd hs
            have e43 := hd.val 3 36 _ rfl rfl
            replace h7 := l42 _ _ h7
            replace h2 := h2.mono l42
            obtain ⟨x0_, L0_, rfl, hL0⟩ := lenS hL
            obtain ⟨x1_, L1_, rfl, hL1⟩ := lenS hL0
            obtain rfl := len0 hL1
            refine OP.ofW (l := [(36, (ptr b4 1))]) (hd.fr.add e43) hs rfl ?_
            refine w_val trivial rfl (fun a w hf hs => r_load1 ta22 (hf.ev rfl) (hs.sub _ _ h7) rfl) ?_
            refine w_nil ?_
            intro a w' hf hs
            exact ⟨rfl, hf.df, _, _, (HLe.refl _), hs, hf.get _ _ rfl, rfl⟩
          · intro a w' M44 L_ l45 hL hd hs
            have e46 := hd.val 4 37 _ rfl rfl
            replace h2 := h2.mono l45
            obtain ⟨x0_, L0_, rfl, hL0⟩ := lenS hL
            obtain ⟨x1_, L1_, rfl, hL1⟩ := lenS hL0
            obtain rfl := len0 hL1
            refine OP.ofW (l := [(37, v1)]) (hd.fr.add e46) hs rfl ?_
            refine w_call cf42 trivial rfl rfl (fun w hs => slices_Clip_Key.calls hs p0.Keys v1 h2 _ e52) ?_
            rintro v56 M49 l50 ⟨v53, hv_, h54, c55⟩
            replace hv_ := hv_.symm
            subst hv_
            replace h2 := h2.mono l50
            refine w_nil ?_
            intro a w' hf hs
            exact ⟨rfl, hf.df, _, _, l50, hs, ⟨v53, hf.get _ _ rfl, h54, c55⟩, rfl⟩
          · intro a w' M57 L_ l58 hL hd hs
            obtain ⟨x0_, L0_, rfl, hL0⟩ := lenS hL
            obtain ⟨x1_, L1_, rfl, hL1⟩ := lenS hL0
            obtain rfl := len0 hL1
            obtain ⟨_, hy, rfl⟩ := hd.item 0 0 _ rfl rfl
            obtain rfl := Option.some.inj hy
            refine OP.ofW (l := [(3, (ptr b8 0))]) (hd.fr.add (hd.base 3 _ rfl rfl)) hs rfl ?_
            refine w_val trivial rfl (fun a w hf hs => r_loadA ta30 ts30 (hf.ev rfl) (hs.blk (i := 0) rfl) rfl rfl) ?_
            refine w_nil ?_
            intro a w' hf hs
            exact ⟨rfl, hf.df, _, _, (HLe.refl _), hs, hf.get _ _ rfl, rfl⟩
          · intro a w' M59 L_ l60 hL hd hs
            have e61 := hd.val 6 39 _ rfl rfl
            obtain ⟨x0_, L0_, rfl, hL0⟩ := lenS hL
            obtain ⟨x1_, L1_, rfl, hL1⟩ := lenS hL0
            obtain rfl := len0 hL1
            refine OP.ofW (l := [(39, (.agg (Key.C ({ p1 with Id := p0.Next } : Key)).toArray))]) (hd.fr.add e61) hs rfl ?_
            refine w_bsl (F := Key.F) (es := ([({ p1 with Id := p0.Next } : Key)] : List Key)) (xs := [.tmp 39]) (vs := [(.agg (Key.C ({ p1 with Id := p0.Next } : Key)).toArray)]) Try.underlying22 te30 trivial rfl rfl rfl rfl rfl (by decide) ?_
            intro v62 M63 l64 h65 c66
            refine w_nil ?_
            intro a w' hf hs
            exact ⟨rfl, hf.df, _, _, l64, hs, ⟨v62, hf.get _ _ rfl, h65, c66⟩, rfl⟩
          · intro a w' M67 L_ l68 hL hd hs
            obtain ⟨v69, e73, h70, h72⟩ := hd.val 5 38 _ rfl rfl
            obtain ⟨v74, e78, h75, h77⟩ := hd.val 7 40 _ rfl rfl
            obtain ⟨x0_, L0_, rfl, hL0⟩ := lenS hL
            obtain ⟨x1_, L1_, rfl, hL1⟩ := lenS hL0
            obtain rfl := len0 hL1
            refine OP.ofW (l := [(38, v69), (40, v74)]) ((hd.fr.add e78).add e73) hs rfl ?_
            refine w_appC (F := Key.F) (m := t47) (m2 := ([({ p1 with Id := p0.Next } : Key)] : List Key)) Try.underlying22 te30 Try.underlying22 (.inl ⟨_, rfl⟩) trivial rfl rfl rfl h70 h72 (Src.rs Key.F_one h75) g79.1 g79.2 ?_
            intro v80
            refine w_give 2 rfl (fun _ h => h) ?_
            intro M81 l82 h83
            replace h70 := h70.mono l82
            replace h75 := h75.mono l82
            refine w_nil ?_
            intro a w' hf hs
            exact ⟨rfl, hf.df, _, _, l82, (hs.sel [0, 1] (by decide) rfl), ⟨v80, hf.get _ _ rfl, h83⟩, rfl⟩
          · intro a w' M84 L_ l85 hL hd hs
            have e86 := hd.val 2 35 _ rfl rfl
            obtain ⟨v87, e89, h88⟩ := hd.val 8 41 _ rfl rfl
            obtain ⟨x0_, L0_, rfl, hL0⟩ := lenS hL
            obtain ⟨x1_, L1_, rfl, hL1⟩ := lenS hL0
            obtain rfl := len0 hL1
            refine OP.ofW (l := [(35, (.int .i64 (IntKind.i64.wrap (p0.Next + (1 : Int))))), (41, v87)]) ((hd.fr.add e89).add e86) hs rfl ?_
            refine w_val trivial rfl (fun a w hf hs => r_build (is := [0, 1]) (xs := [.tmp 35, .tmp 41]) (vs := [(.int .i64 (IntKind.i64.wrap (p0.Next + (1 : Int)))), v87]) (A := Table.C (⟨(IntKind.i64.wrap (p0.Next + (1 : Int))), (t47 ++ ([({ p1 with Id := p0.Next } : Key)] : List Key))⟩ : Table) v87) rfl (hf.evs rfl) (built_of (pl := [(0, 1), (1, 1)]) (A0 := Table.C (⟨(0 : Int), ([] : (List Key))⟩ : Table) (.slice none 0 0)) tz24 Try.underlying24 (by kernel_rfl) rfl (.cons (vs := [(.int .i64 (IntKind.i64.wrap (p0.Next + (1 : Int))))]) (B := Table.C (⟨(IntKind.i64.wrap (p0.Next + (1 : Int))), ([] : (List Key))⟩ : Table) (.slice none 0 0)) rfl rfl rfl (by rw [Table.len]; decide) rfl (.cons (vs := [v87]) (B := Table.C (⟨(IntKind.i64.wrap (p0.Next + (1 : Int))), (t47 ++ ([({ p1 with Id := p0.Next } : Key)] : List Key))⟩ : Table) v87) rfl (h88.cells1) rfl (by rw [Table.len]; decide) rfl .nil)))) ?_
            refine w_nil ?_
            intro a w' hf hs
            exact ⟨rfl, hf.df, _, _, (HLe.refl _), hs, ⟨v87, hf.get _ _ rfl, h88⟩, rfl⟩
          · intro a w' M90 L_ l91 hL hd hs
            obtain ⟨x0_, L0_, rfl, hL0⟩ := lenS hL
            obtain ⟨x1_, L1_, rfl, hL1⟩ := lenS hL0
            obtain rfl := len0 hL1
            refine OP.ofW (l := [(3, (ptr b8 0))]) (hd.fr.add (hd.base 3 _ rfl rfl)) hs rfl ?_
            refine w_val trivial rfl (fun a w hf hs => r_fa fa30_0 (hf.ev rfl)) ?_
            refine w_nil ?_
            intro a w' hf hs
            exact ⟨rfl, hf.df, _, _, (HLe.refl _), hs, hf.get _ _ rfl, rfl⟩
          · intro a w' M92 L_ l93 hL hd hs
            have e94 := hd.val 10 43 _ rfl rfl
            obtain ⟨x0_, L0_, rfl, hL0⟩ := lenS hL
            obtain ⟨x1_, L1_, rfl, hL1⟩ := lenS hL0
            obtain rfl := len0 hL1
            obtain ⟨_, hy, rfl⟩ := hd.item 0 0 _ rfl rfl
            obtain rfl := Option.some.inj hy
            refine OP.ofW (l := [(43, (ptr b8 0))]) (hd.fr.add e94) hs rfl ?_
            refine w_val trivial rfl (fun a w hf hs => r_load1 ta3 (hf.ev rfl) (hs.blk (i := 0) rfl) rfl) ?_
            refine w_nil ?_
            intro a w' hf hs
            exact ⟨rfl, hf.df, _, _, (HLe.refl _), hs, hf.get _ _ rfl, rfl⟩
          · intro a w' M95 L_ l96 hL hd hs
            obtain ⟨v97, e99, h98⟩ := hd.val 9 42 _ rfl rfl
            obtain ⟨x0_, L0_, rfl, hL0⟩ := lenS hL
            obtain ⟨x1_, L1_, rfl, hL1⟩ := lenS hL0
            obtain rfl := len0 hL1
            obtain ⟨_, hy, rfl⟩ := hd.item 1 0 _ rfl rfl
            obtain rfl := Option.some.inj hy
            refine OP.ofW (l := [(4, (ptr b9 0)), (42, (.agg (Table.C (⟨(IntKind.i64.wrap (p0.Next + (1 : Int))), (t47 ++ ([({ p1 with Id := p0.Next } : Key)] : List Key))⟩ : Table) v97).toArray))]) ((hd.fr.add e99).add (hd.base 4 _ rfl rfl)) hs rfl ?_
            refine w_store (i := 1) (vs := Table.C (⟨(IntKind.i64.wrap (p0.Next + (1 : Int))), (t47 ++ ([({ p1 with Id := p0.Next } : Key)] : List Key))⟩ : Table) v97) (A' := Table.C (⟨(IntKind.i64.wrap (p0.Next + (1 : Int))), (t47 ++ ([({ p1 with Id := p0.Next } : Key)] : List Key))⟩ : Table) v97) trivial rfl rfl rfl rfl ts24 rfl (Table.C_one _ h98.one) (Nat.le_of_ble_eq_true rfl) rfl ?_
            refine w_nil ?_
            intro a w' hf hs
            exact ⟨rfl, hf.df, _, _, (HLe.refl _), hs, trivial, ⟨.blk b9 (.cells (Table.C (⟨(IntKind.i64.wrap (p0.Next + (1 : Int))), (t47 ++ ([({ p1 with Id := p0.Next } : Key)] : List Key))⟩ : Table) v97).toArray 24 (0, 0)), rfl, of_some (q := fun y M => ∃ (v97 : Value), y = .blk b9 (.cells (Table.C (⟨(IntKind.i64.wrap (p0.Next + (1 : Int))), (t47 ++ ([({ p1 with Id := p0.Next } : Key)] : List Key))⟩ : Table) v97).toArray 24 (0, 0)) ∧ RS Key.F M v97 (t47 ++ ([({ p1 with Id := p0.Next } : Key)] : List Key))) ⟨v97, rfl, h98⟩⟩⟩
          · intro a w' M100 L_ l101 hL hd hs
            have e102 := hd.val 11 44 _ rfl rfl
            obtain ⟨x0_, L0_, rfl, hL0⟩ := lenS hL
            obtain ⟨x1_, L1_, rfl, hL1⟩ := lenS hL0
            obtain rfl := len0 hL1
            refine OP.ofW (l := [(44, (.int .i64 p0.Next))]) (hd.fr.add e102) hs rfl ?_
            refine w_val trivial rfl (fun a w hf hs => r_assign (hf.ev rfl)) ?_
            refine w_nil ?_
            intro a w' hf hs
            exact ⟨rfl, hf.df, _, _, (HLe.refl _), hs, hf.get _ _ rfl, rfl⟩
          · intro a w' M103 L_ l104 hL hd hs
            obtain ⟨x0_, L0_, rfl, hL0⟩ := lenS hL
            obtain ⟨x1_, L1_, rfl, hL1⟩ := lenS hL0
            obtain rfl := len0 hL1
            refine OP.ofW (l := []) hd.fr hs rfl ?_
            refine w_val trivial rfl (fun a w hf hs => r_assign (hf.ev rfl)) ?_
            refine w_nil ?_
            intro a w' hf hs
            exact ⟨rfl, hf.df, _, _, (HLe.refl _), hs, hf.get _ _ rfl, rfl⟩
          intro a w' M105 L_ l106 hL hdf hsz hb hv hi hs
          replace h2 := h2.mono l106
          replace h7 := l106 _ _ h7
          have e107 := hv 13 5 _ rfl rfl
          have e108 := hv 14 6 _ rfl rfl
          obtain ⟨x0_, L0_, rfl, hL0⟩ := lenS hL
          obtain ⟨x1_, L1_, rfl, hL1⟩ := lenS hL0
          obtain rfl := len0 hL1
          obtain ⟨_, hy, rfl⟩ := hi 0 _ rfl
          obtain rfl := Option.some.inj hy
          obtain ⟨_, hy, v109, rfl, h110⟩ := hi 1 _ rfl
          obtain rfl := Option.some.inj hy
          clear hi hy
          refine n_of (c := (Cx.mk Try.prog 45 none' M w)) (l := [(4, (ptr b9 0)), (5, (.int .i64 p0.Next)), (6, (.int .i64 (0 : Int)))]) ?_ ((((Fr.start hdf hsz).add e108).add e107).add (hb 4 _ rfl rfl)) hs
          clear hdf hsz hb hv hs e107 e108
          refine n_id (hK30 _ _ _ ?_)
          obtain rfl := some_r H
          refine c_ret ?_
          intro a w' hf hs
          exact hret _ (.inl rfl) a w' hf.df ⟨_, _, Res.of3 rfl ⟨_, hf.get _ _ rfl, run_loadA (hs.blk (i := 1) rfl) ta24 ts24 rfl rfl⟩ (RV.t hf rfl) (RV.t hf rfl), hs.ext, ⟨_, rfl, h110⟩⟩
set_option maxRecDepth 20000 in
theorem restore_Plan.calls {M : Heap} {w : World} (hM : Sub M w) (p0 : Table) (v1 : Value) (h2 : RS Key.F M v1 p0.Keys) (p1 : Backup) (v3 : Value) (h4 : RS Key.F M v3 p1.Keys) (p2 : Int) (r : (Table × (List Int) × Int)) (H : restore_Plan p0 p1 p2 = some r) :
    Calls Try.prog 10 [(.agg (Table.C p0 v1).toArray), (.agg (Backup.C p1 v3).toArray), (.int .i64 p2)].toArray w (Post M w fun M' v => ∃ v112 v114, v = .tuple #[(.agg (Table.C r.1 v112).toArray), v114, (.int .i64 r.2.2)] ∧ RS Key.F M' v112 r.1.Keys ∧ RS (FI .i64) M' v114 r.2.1) := by
  refine enter 87 [(0, (.agg (Table.C p0 v1).toArray)), (1, (.agg (Backup.C p1 v3).toArray)), (2, (.int .i64 p2))] Try.func10 rfl rfl rfl hM ?_
  intro Q hret
  unfold restore_Plan at H
  refine c_seq ?_
  intro K5 hK5
  refine c_reg ?_
  refine w_boxL trivial rfl rfl rfl ?_
  intro b6
  refine w_boxM trivial rfl rfl rfl ?_
  intro b7 M8 l9 h10
  replace h2 := h2.mono l9
  replace h4 := h4.mono l9
  refine w_allocL (A := Table.C (⟨(0 : Int), ([] : (List Key))⟩ : Table) (.slice none 0 0)) tz24 trivial rfl rfl ?_
  intro b11
  refine w_val trivial rfl (fun a w hf hs => r_assign (hf.ev rfl)) ?_
  refine w_val trivial rfl (fun a w hf hs => r_assign (hf.ev rfl)) ?_
  refine w_nil (hK5 _ _ _ ?_)
  refine c_seq ?_
  intro K12 hK12
  obtain ⟨t13, H1, H⟩ := bnd H
  refine c_cut (fun a' w' => ∃ (M14 : Heap), HLe M8 M14 ∧ Fr 87 [(2, (.int .i64 p2)), (3, (ptr b6 0)), (4, (ptr b7 0)), (6, (ptr b11 0)), (29, (.bool t13))] a' ∧ St none' M w M14 (lt [.blk b6 (.cells (Table.C p0 v1).toArray 24 (0, 0)), .blk b11 (.cells (Table.C (⟨(0 : Int), ([] : (List Key))⟩ : Table) (.slice none 0 0)).toArray 24 (0, 0))]) w') ?_ ?_
  · replace H := H1
    clear H1
    refine c_reg ?_
    refine w_val trivial rfl (fun a w hf hs => r_loadA ta28 ts28 (hf.ev rfl) (hs.sub _ _ h10) (Backup.d0_38 _ _) (Backup.len _ _)) ?_
    obtain ⟨t16, e21, H⟩ := bnd H
    refine w_call cf24 trivial rfl rfl (fun w hs => backup_Valid.calls hs p1 v3 h4 _ e21) ?_
    rintro _ M18 l19 rfl
    replace h2 := h2.mono l19
    replace h4 := h4.mono l19
    replace h10 := l19 _ _ h10
    refine w_val trivial rfl (fun a w hf hs => r_not (hf.ev rfl)) ?_
    refine w_val trivial rfl (fun a w hf hs => r_move (hf.ev rfl)) ?_
    by_cases b22 : (!t16) = true
    · replace H := if_t b22 H
      refine w_not (Nwt.of rfl rfl b22) rfl ?_
      refine w_not (Nwt.of rfl rfl b22) rfl ?_
      refine w_val trivial rfl (fun a w hf hs => r_pickT (hf.ev rfl) b22 (hf.ev rfl)) ?_
      refine w_val trivial rfl (fun a w hf hs => r_move (hf.ev rfl)) ?_
      refine w_not (Nwt.of rfl rfl rfl) rfl ?_
      refine w_not (Nwt.of rfl rfl rfl) rfl ?_
      refine w_val trivial rfl (fun a w hf hs => r_pickT (hf.ev rfl) rfl (hf.ev rfl)) ?_
      obtain rfl := some_r H
      refine w_nil ?_
      intro a w' hf hs
      exact ⟨_, l19, (((((hf.nil.add (hf.get _ _ rfl)).add (hf.get _ _ rfl)).add (hf.get _ _ rfl)).add (hf.get _ _ rfl)).add (hf.get _ _ rfl)), hs.sel [0, 1] (by decide) rfl⟩
    · replace b22 := Bool.eq_false_iff.2 b22
      replace H := if_f b22 H
      refine w_val (Wnt.of rfl rfl b22) rfl (fun a w hf hs => r_move (hf.ev rfl)) ?_
      refine w_val (Wnt.of rfl rfl b22) rfl (fun a w hf hs => r_lss (hf.ev rfl) (hf.ev rfl)) ?_
      refine w_val trivial rfl (fun a w hf hs => r_pickF (hf.ev rfl) b22 (hf.ev rfl)) ?_
      refine w_val trivial rfl (fun a w hf hs => r_move (hf.ev rfl)) ?_
      by_cases b23 : (decide (p2 < (0 : Int))) = true
      · replace H := if_t b23 H
        refine w_not (Nwt.of rfl rfl b23) rfl ?_
        refine w_not (Nwt.of rfl rfl b23) rfl ?_
        refine w_val trivial rfl (fun a w hf hs => r_pickT (hf.ev rfl) b23 (hf.ev rfl)) ?_
        obtain rfl := some_r H
        refine w_nil ?_
        intro a w' hf hs
        exact ⟨_, l19, (((((hf.nil.add (hf.get _ _ rfl)).add (hf.get _ _ rfl)).add (hf.get _ _ rfl)).add (hf.get _ _ rfl)).add (hf.get _ _ rfl)), hs.sel [0, 1] (by decide) rfl⟩
      · replace b23 := Bool.eq_false_iff.2 b23
        replace H := if_f b23 H
        refine w_val (Wnt.of rfl rfl b23) rfl (fun a w hf hs => r_move (hf.ev rfl)) ?_
        refine w_val (Wnt.of rfl rfl b23) rfl (fun a w hf hs => r_gtr (hf.ev rfl) (hf.ev rfl)) ?_
        refine w_val trivial rfl (fun a w hf hs => r_pickF (hf.ev rfl) b23 (hf.ev rfl)) ?_
        obtain rfl := some_r H
        refine w_nil ?_
        intro a w' hf hs
        exact ⟨_, l19, (((((hf.nil.add (hf.get _ _ rfl)).add (hf.get _ _ rfl)).add (hf.get _ _ rfl)).add (hf.get _ _ rfl)).add (hf.get _ _ rfl)), hs.sel [0, 1] (by decide) rfl⟩
  · clear H1
    rintro a w' ⟨M14, l15, hf, hs⟩
    refine c_of (c := (Cx.mk Try.prog 87 none' M w)) ?_ hf hs
    clear hf hs
    replace h2 := h2.mono l15
    replace h4 := h4.mono l15
    replace h10 := l15 _ _ h10
    refine c_if rfl (fun b24 => ?_) (fun b24 => ?_)
    · replace H := if_t b24 H
      refine c_seq ?_
      intro K25 hK25
      refine c_reg ?_
      refine w_val trivial rfl (fun a w hf hs => r_build (is := []) (xs := []) (vs := []) (A := Table.C (⟨(0 : Int), ([] : (List Key))⟩ : Table) (.slice none 0 0)) rfl (hf.evs rfl) (built_of (pl := [(0, 1), (1, 1)]) (A0 := Table.C (⟨(0 : Int), ([] : (List Key))⟩ : Table) (.slice none 0 0)) tz24 Try.underlying24 (by kernel_rfl) rfl .nil)) ?_
      refine w_store (i := 1) (vs := Table.C (⟨(0 : Int), ([] : (List Key))⟩ : Table) (.slice none 0 0)) (A' := Table.C (⟨(0 : Int), ([] : (List Key))⟩ : Table) (.slice none 0 0)) trivial rfl rfl rfl rfl ts24 rfl (Table.C_one _ rfl) (Nat.le_of_ble_eq_true rfl) rfl ?_
      refine w_val trivial rfl (fun a w hf hs => r_assign (hf.ev rfl)) ?_
      refine w_val trivial rfl (fun a w hf hs => r_assign (hf.ev rfl)) ?_
      refine w_nil (hK25 _ _ _ ?_)
      obtain rfl := some_r H
      refine c_ret ?_
      intro a w' hf hs
      exact hret _ (.inl rfl) a w' hf.df ⟨_, _, Res.of3 rfl ⟨_, hf.get _ _ rfl, run_loadA (hs.blk (i := 1) rfl) ta24 ts24 rfl rfl⟩ (RV.t hf rfl) (RV.t hf rfl), hs.ext, ⟨_, _, rfl, RS.none, RS.none⟩⟩
    · replace H := if_f b24 H
      refine c_skip (hK12 _ _ _ ?_)
      refine c_seq ?_
      intro K26 hK26
      refine c_reg ?_
      refine w_val trivial rfl (fun a w hf hs => r_fa fa24_1 (hf.ev rfl)) ?_
      refine w_val trivial rfl (fun a w hf hs => r_load1 ta22 (hf.ev rfl) (hs.blk (i := 0) rfl) rfl) ?_
      obtain ⟨t27, e32, H⟩ := bnd H
      refine w_call cf25 trivial rfl rfl (fun w hs => slices_Clone_Key.calls hs p0.Keys v1 h2 _ e32) ?_
      rintro v111 M29 l30 ⟨v33, hv_, h34⟩
      replace hv_ := hv_.symm
      subst hv_
      replace h2 := h2.mono l30
      replace h4 := h4.mono l30
      replace h10 := l30 _ _ h10
      refine w_val trivial rfl (fun a w hf hs => r_fa fa24_1 (hf.ev rfl)) ?_
      refine w_store (i := 0) (vs := [v33]) (A' := Table.C ({ p0 with Keys := t27 } : Table) v33) trivial rfl rfl rfl h34.cells1 ts22 rfl (one1 h34.one) (Nat.le_of_ble_eq_true rfl) rfl ?_
      refine w_nil (hK26 _ _ _ ?_)
      refine c_seq ?_
      intro K35 hK35
      refine c_reg ?_
      refine w_makeMap trivial rfl ?_
      intro b36
      refine w_val trivial rfl (fun a w hf hs => r_assign (hf.ev rfl)) ?_
      refine w_nil (hK35 _ _ _ ?_)
      refine c_seq ?_
      intro K37 hK37
      refine c_reg ?_
      refine w_val trivial rfl (fun a w hf hs => r_assign (hf.ev rfl)) ?_
      refine w_nil (hK37 _ _ _ ?_)
      refine c_row0 3 1 ?_
      refine c_cut (fun a' w' => ∃ (x38 : Table) (v39 : Value) (x41 : (List Int)) (v42 : Value) (M43 : Heap), HLe M29 M43 ∧ RS Key.F M43 v39 x38.Keys ∧ Fr 87 [(3, (ptr b6 0)), (6, (ptr b11 0)), (10, v42)] a' ∧ St none' M w M43 (lt [.blk b6 (.cells (Table.C x38 v39).toArray 24 (0, 0)), .blk b11 (.cells (Table.C (⟨(0 : Int), ([] : (List Key))⟩ : Table) (.slice none 0 0)).toArray 24 (0, 0)), dead, rowI (FI .i64) v42 3 x41]) w' ∧ restore_Plan.j1 x38 x41 = some r) ?_ ?_
      · refine c_seq ?_
        intro K49 hK49
        refine c_reg ?_
        refine w_val trivial rfl (fun a w hf hs => r_fa fa28_7 (hf.ev rfl)) ?_
        refine w_val trivial rfl (fun a w hf hs => r_load1 ta22 (hf.ev rfl) (hs.sub _ _ h10) (Backup.g37 _ _)) ?_
        refine w_val trivial rfl (fun a w hf hs => r_lenR Try.underlying22 h4 (hf.ev rfl)) ?_
        refine w_val trivial rfl (fun a w hf hs => r_move (hf.ev rfl)) ?_
        refine w_nil (hK49 _ _ _ ?_)
        refine c_block ?_
        refine c_loop (fun (s50 : (Table × (List (Int × Int)) × (List Int) × Int)) a' w' => ∃ (v51 : Value) (v53 : Value) (M54 : Heap), HLe M29 M54 ∧ RS Key.F M54 v51 s50.1.Keys ∧ Fr 87 [(2, (.int .i64 p2)), (3, (ptr b6 0)), (6, (ptr b11 0)), (9, (.map (some b36))), (10, v53), (37, v3), (38, (.int .i64 (p1.Keys.length : Int))), (39, (.int .i64 s50.2.2.2))] a' ∧ St none' M w M54 (lt [.blk b6 (.cells (Table.C s50.1 v51).toArray 24 (0, 0)), .blk b11 (.cells (Table.C (⟨(0 : Int), ([] : (List Key))⟩ : Table) (.slice none 0 0)).toArray 24 (0, 0)), .blk b36 (mapO s50.2.1), rowI (FI .i64) v53 3 s50.2.2.1]) w') (({ p0 with Keys := t27 } : Table), ([] : List (Int × Int)), ([] : (List Int)), (0 : Int)) H ?_ ?_
        · intro a w' hf hs
          exact ⟨v33, (.slice none 0 0), _, HLe.refl _, h34, ((((((((hf.nil.add (hf.get _ _ rfl)).add (hf.get _ _ rfl)).add (hf.get _ _ rfl)).add (hf.get _ _ rfl)).add (hf.get _ _ rfl)).add (hf.get _ _ rfl)).add (hf.get _ _ rfl)).add (hf.get _ _ rfl)), hs.selD [some 0, some 1, some 2, some 3] (by decide) rfl⟩
        · clear H
          intro s50 y57 H r56 a w' hJ
          obtain ⟨v51, v53, M54, l55, h52, hf, hs⟩ := hJ
          refine c_of (c := (Cx.mk Try.prog 87 none' M w)) ?_ hf hs
          unfold restore_Plan.l3 at H
          clear hf hs
          replace h2 := h2.mono l55
          replace h4 := h4.mono l55
          replace h10 := l55 _ _ h10
          replace h34 := h34.mono l55
          refine c_seq ?_
          intro K58 hK58
          refine c_reg ?_
          refine w_val trivial rfl (fun a w hf hs => r_lss (hf.ev rfl) (hf.ev rfl)) ?_
          refine w_nil (hK58 _ _ _ ?_)
          refine c_seq ?_
          intro K59 hK59
          refine c_if rfl (fun b60 => ?_) (fun b60 => ?_)
          · replace H := if_t b60 H
            refine c_skip (hK59 _ _ _ ?_)
            refine c_cut (fun a' w' => ∃ (x61 : Table) (v62 : Value) (x64 : (List (Int × Int))) (x65 : (List Int)) (v66 : Value) (M67 : Heap), HLe M54 M67 ∧ RS Key.F M67 v62 x61.Keys ∧ Fr 87 [(2, (.int .i64 p2)), (3, (ptr b6 0)), (6, (ptr b11 0)), (9, (.map (some b36))), (10, v66), (37, v3), (38, (.int .i64 (p1.Keys.length : Int))), (39, (.int .i64 s50.2.2.2))] a' ∧ St none' M w M67 (lt [.blk b6 (.cells (Table.C x61 v62).toArray 24 (0, 0)), .blk b11 (.cells (Table.C (⟨(0 : Int), ([] : (List Key))⟩ : Table) (.slice none 0 0)).toArray 24 (0, 0)), .blk b36 (mapO x64), rowI (FI .i64) v66 3 x65]) w' ∧ restore_Plan.j2 x61 x64 x65 s50 = some y57) ?_ ?_
            · refine c_block ?_
              refine c_seq ?_
              intro K69 hK69
              refine c_reg ?_
              obtain ⟨g70, H⟩ := grd_s H
              refine w_val trivial rfl (fun a w hf hs => r_iR Try.underlying22 ts30 h4 (hf.ev rfl) (hf.ev rfl) g70.1 g70.2) ?_
              refine w_val trivial rfl (fun a w hf hs => r_loadEA ta30 ts30 h4 hs.sub g70.1 g70.2 (hf.ev rfl) rfl rfl) ?_
              refine w_allocL (A := Key.C (⟨(0 : Int), (0 : Int), ([] : List UInt8), (0 : Int), (0 : Int), (0 : Int), (0 : Int), (0 : Int), false⟩ : Key)) tz30 trivial rfl rfl ?_
              intro b71
              refine w_L [.blk b6 (.cells (Table.C s50.1 v51).toArray 24 (0, 0)), .blk b11 (.cells (Table.C (⟨(0 : Int), ([] : (List Key))⟩ : Table) (.slice none 0 0)).toArray 24 (0, 0)), .blk b36 (mapO s50.2.1), rowI (FI .i64) v53 3 s50.2.2.1, .blk b71 (.cells (Key.C (⟨(0 : Int), (0 : Int), ([] : List UInt8), (0 : Int), (0 : Int), (0 : Int), (0 : Int), (0 : Int), false⟩ : Key)).toArray 30 (0, 0))] rfl ?_
              refine w_store (i := 4) (vs := Key.C (rd p1.Keys s50.2.2.2)) (A' := Key.C (rd p1.Keys s50.2.2.2)) trivial rfl rfl rfl rfl ts30 rfl (Key.F_one _) (Nat.le_of_ble_eq_true rfl) rfl ?_
              refine w_L [.blk b6 (.cells (Table.C s50.1 v51).toArray 24 (0, 0)), .blk b11 (.cells (Table.C (⟨(0 : Int), ([] : (List Key))⟩ : Table) (.slice none 0 0)).toArray 24 (0, 0)), .blk b36 (mapO s50.2.1), rowI (FI .i64) v53 3 s50.2.2.1, .blk b71 (.cells (Key.C (rd p1.Keys s50.2.2.2)).toArray 30 (0, 0))] rfl ?_
              refine w_nil (hK69 _ _ _ ?_)
              refine c_seq ?_
              intro K72 hK72
              refine c_seq ?_
              intro K73 hK73
              refine c_reg ?_
              refine w_val trivial rfl (fun a w hf hs => r_fa fa30_5 (hf.ev rfl)) ?_
              refine w_val trivial rfl (fun a w hf hs => r_load1 ta3 (hf.ev rfl) (hs.blk (i := 4) rfl) rfl) ?_
              refine w_val trivial rfl (fun a w hf hs => r_move (hf.ev rfl)) ?_
              refine w_val trivial rfl (fun a w hf hs => r_leq (hf.ev rfl) (hf.ev rfl)) ?_
              refine w_nil (hK73 _ _ _ ?_)
              refine c_if rfl (fun b74 => ?_) (fun b74 => ?_)
              · replace H := if_t b74 H
                refine c_exit ?_
                intro a w' hf hs
                exact ⟨s50.1, v51, s50.2.1, s50.2.2.1, v53, _, (HLe.refl _), h52, ((((((((hf.nil.add (hf.get _ _ rfl)).add (hf.get _ _ rfl)).add (hf.get _ _ rfl)).add (hf.get _ _ rfl)).add (hf.get _ _ rfl)).add (hf.get _ _ rfl)).add (hf.get _ _ rfl)).add (hf.get _ _ rfl)), hs.selD [some 0, some 1, some 2, some 3] (by decide) rfl, H⟩
              · replace H := if_f b74 H
                refine c_skip (hK72 _ _ _ ?_)
                refine c_seq ?_
                intro K75 hK75
                refine c_seq ?_
                intro K76 hK76
                refine c_reg ?_
                refine w_val trivial rfl (fun a w hf hs => r_loadA ta24 ts24 (hf.ev rfl) (hs.blk (i := 0) rfl) rfl rfl) ?_
                refine w_val trivial rfl (fun a w hf hs => r_loadA ta30 ts30 (hf.ev rfl) (hs.blk (i := 4) rfl) rfl rfl) ?_
                obtain ⟨t77, e82, H⟩ := bnd H
                refine w_call cf12 trivial rfl rfl (fun w hs => restore_Twin.calls hs s50.1 v51 h52 (rd p1.Keys s50.2.2.2) _ e82) ?_
                rintro _ M79 l80 rfl
                replace h2 := h2.mono l80
                replace h4 := h4.mono l80
                replace h10 := l80 _ _ h10
                replace h34 := h34.mono l80
                replace h52 := h52.mono l80
                refine w_val trivial rfl (fun a w hf hs => r_move (hf.ev rfl)) ?_
                refine w_val trivial rfl (fun a w hf hs => r_extract (hf.ev rfl) rfl) ?_
                refine w_val trivial rfl (fun a w hf hs => r_extract (hf.ev rfl) rfl) ?_
                refine w_val trivial rfl (fun a w hf hs => r_assign (hf.ev rfl)) ?_
                refine w_val trivial rfl (fun a w hf hs => r_assign (hf.ev rfl)) ?_
                refine w_nil (hK76 _ _ _ ?_)
                refine c_seq ?_
                intro K83 hK83
                refine c_reg ?_
                refine w_val trivial rfl (fun a w hf hs => r_move (hf.ev rfl)) ?_
                refine w_nil (hK83 _ _ _ ?_)
                refine c_if rfl (fun b84 => ?_) (fun b84 => ?_)
                · replace H := if_t b84 H
                  refine c_seq ?_
                  intro K85 hK85
                  refine c_reg ?_
                  refine w_val trivial rfl (fun a w hf hs => r_move (hf.ev rfl)) ?_
                  refine w_val trivial rfl (fun a w hf hs => r_fa fa30_0 (hf.ev rfl)) ?_
                  refine w_val trivial rfl (fun a w hf hs => r_load1 ta3 (hf.ev rfl) (hs.blk (i := 4) rfl) rfl) ?_
                  refine w_val trivial rfl (fun a w hf hs => r_move (hf.ev rfl)) ?_
                  refine w_mapUpd (m := s50.2.1) (i := 2) Try.underlying59 Try.underlying3 trivial rfl rfl rfl rfl ?_
                  refine w_nil (hK85 _ _ _ ?_)
                  refine c_exit ?_
                  intro a w' hf hs
                  exact ⟨s50.1, v51, (mput s50.2.1 ((rd p1.Keys s50.2.2.2).Id) t77.1), s50.2.2.1, v53, _, l80, h52, ((((((((hf.nil.add (hf.get _ _ rfl)).add (hf.get _ _ rfl)).add (hf.get _ _ rfl)).add (hf.get _ _ rfl)).add (hf.get _ _ rfl)).add (hf.get _ _ rfl)).add (hf.get _ _ rfl)).add (hf.get _ _ rfl)), hs.selD [some 0, some 1, some 2, some 3] (by decide) rfl, H⟩
                · replace H := if_f b84 H
                  refine c_skip (hK75 _ _ _ ?_)
                  refine c_seq ?_
                  intro K86 hK86
                  refine c_reg ?_
                  refine w_val trivial rfl (fun a w hf hs => r_fa fa30_0 (hf.ev rfl)) ?_
                  refine w_val trivial rfl (fun a w hf hs => r_load1 ta3 (hf.ev rfl) (hs.blk (i := 4) rfl) rfl) ?_
                  refine w_val trivial rfl (fun a w hf hs => r_assign (hf.ev rfl)) ?_
                  refine w_nil (hK86 _ _ _ ?_)
                  refine c_seq ?_
                  intro K87 hK87
                  refine c_reg ?_
                  refine w_val trivial rfl (fun a w hf hs => r_move (hf.ev rfl)) ?_
                  refine w_val trivial rfl (fun a w hf hs => r_fa fa30_7 (hf.ev rfl)) ?_
                  refine w_val trivial rfl (fun a w hf hs => r_load1 ta3 (hf.ev rfl) (hs.blk (i := 4) rfl) rfl) ?_
                  refine w_val trivial rfl (fun a w hf hs => r_lookup 2 hs rfl Try.underlying59 Try.underlying3 tz3 (hf.ev rfl) (hf.ev rfl)) ?_
                  refine w_val trivial rfl (fun a w hf hs => r_fa fa30_7 (hf.ev rfl)) ?_
                  refine w_store (i := 4) (vs := [(.int .i64 (mget s50.2.1 ((rd p1.Keys s50.2.2.2).Parent)))]) (A' := Key.C ({ (rd p1.Keys s50.2.2.2) with Parent := (mget s50.2.1 ((rd p1.Keys s50.2.2.2).Parent)) } : Key)) trivial rfl rfl rfl rfl ts3 rfl (one1 rfl) (Nat.le_of_ble_eq_true rfl) rfl ?_
                  refine w_L [.blk b6 (.cells (Table.C s50.1 v51).toArray 24 (0, 0)), .blk b11 (.cells (Table.C (⟨(0 : Int), ([] : (List Key))⟩ : Table) (.slice none 0 0)).toArray 24 (0, 0)), .blk b36 (mapO s50.2.1), rowI (FI .i64) v53 3 s50.2.2.1, .blk b71 (.cells (Key.C ({ (rd p1.Keys s50.2.2.2) with Parent := (mget s50.2.1 ((rd p1.Keys s50.2.2.2).Parent)) } : Key)).toArray 30 (0, 0))] rfl ?_
                  refine w_nil (hK87 _ _ _ ?_)
                  refine c_seq ?_
                  intro K88 hK88
                  refine c_reg ?_
                  refine w_val trivial rfl (fun a w hf hs => r_loadA ta24 ts24 (hf.ev rfl) (hs.blk (i := 0) rfl) rfl rfl) ?_
                  refine w_val trivial rfl (fun a w hf hs => r_loadA ta30 ts30 (hf.ev rfl) (hs.blk (i := 4) rfl) rfl rfl) ?_
                  obtain ⟨t89, e94, H⟩ := bnd H
                  refine w_call cf26 trivial rfl rfl (fun w hs => keys_Add.calls hs s50.1 v51 h52 ({ (rd p1.Keys s50.2.2.2) with Parent := (mget s50.2.1 ((rd p1.Keys s50.2.2.2).Parent)) } : Key) _ e94) ?_
                  rintro v110 M91 l92 ⟨v95, hv_, h96⟩
                  replace hv_ := hv_.symm
                  subst hv_
                  replace h2 := h2.mono l92
                  replace h4 := h4.mono l92
                  replace h10 := l92 _ _ h10
                  replace h34 := h34.mono l92
                  replace h52 := h52.mono l92
                  refine w_val trivial rfl (fun a w hf hs => r_move (hf.ev rfl)) ?_
                  refine w_val trivial rfl (fun a w hf hs => r_extract (hf.ev rfl) rfl) ?_
                  refine w_val trivial rfl (fun a w hf hs => r_extract (hf.ev rfl) rfl) ?_
                  refine w_val trivial rfl (fun a w hf hs => r_extract (hf.ev rfl) rfl) ?_
                  refine w_allocL (A := Table.C (⟨(0 : Int), ([] : (List Key))⟩ : Table) (.slice none 0 0)) tz24 trivial rfl rfl ?_
                  intro b97
                  refine w_L [.blk b6 (.cells (Table.C s50.1 v51).toArray 24 (0, 0)), .blk b11 (.cells (Table.C (⟨(0 : Int), ([] : (List Key))⟩ : Table) (.slice none 0 0)).toArray 24 (0, 0)), .blk b36 (mapO s50.2.1), rowI (FI .i64) v53 3 s50.2.2.1, .blk b71 (.cells (Key.C ({ (rd p1.Keys s50.2.2.2) with Parent := (mget s50.2.1 ((rd p1.Keys s50.2.2.2).Parent)) } : Key)).toArray 30 (0, 0)), .blk b97 (.cells (Table.C (⟨(0 : Int), ([] : (List Key))⟩ : Table) (.slice none 0 0)).toArray 24 (0, 0))] rfl ?_
                  refine w_store (i := 5) (vs := Table.C t89.1 v95) (A' := Table.C t89.1 v95) trivial rfl rfl rfl rfl ts24 rfl (Table.C_one _ h96.one) (Nat.le_of_ble_eq_true rfl) rfl ?_
                  refine w_L [.blk b6 (.cells (Table.C s50.1 v51).toArray 24 (0, 0)), .blk b11 (.cells (Table.C (⟨(0 : Int), ([] : (List Key))⟩ : Table) (.slice none 0 0)).toArray 24 (0, 0)), .blk b36 (mapO s50.2.1), rowI (FI .i64) v53 3 s50.2.2.1, .blk b71 (.cells (Key.C ({ (rd p1.Keys s50.2.2.2) with Parent := (mget s50.2.1 ((rd p1.Keys s50.2.2.2).Parent)) } : Key)).toArray 30 (0, 0)), .blk b97 (.cells (Table.C t89.1 v95).toArray 24 (0, 0))] rfl ?_
                  refine w_val trivial rfl (fun a w hf hs => r_assign (hf.ev rfl)) ?_
                  refine w_val trivial rfl (fun a w hf hs => r_assign (hf.ev rfl)) ?_
                  refine w_nil (hK88 _ _ _ ?_)
                  refine c_seq ?_
                  intro K98 hK98
                  refine c_seq ?_
                  intro K99 hK99
                  refine c_reg ?_
                  refine w_val trivial rfl (fun a w hf hs => r_move (hf.ev rfl)) ?_
                  refine w_val trivial rfl (fun a w hf hs => r_neq (hf.ev rfl) (hf.ev rfl)) ?_
                  refine w_nil (hK99 _ _ _ ?_)
                  refine c_if rfl (fun b100 => ?_) (fun b100 => ?_)
                  · replace H := if_t b100 H
                    refine c_seq ?_
                    intro K101 hK101
                    refine c_reg ?_
                    refine w_val trivial rfl (fun a w hf hs => r_build (is := []) (xs := []) (vs := []) (A := Table.C (⟨(0 : Int), ([] : (List Key))⟩ : Table) (.slice none 0 0)) rfl (hf.evs rfl) (built_of (pl := [(0, 1), (1, 1)]) (A0 := Table.C (⟨(0 : Int), ([] : (List Key))⟩ : Table) (.slice none 0 0)) tz24 Try.underlying24 (by kernel_rfl) rfl .nil)) ?_
                    refine w_val trivial rfl (fun a w hf hs => r_move (hf.ev rfl)) ?_
                    refine w_store (i := 1) (vs := Table.C (⟨(0 : Int), ([] : (List Key))⟩ : Table) (.slice none 0 0)) (A' := Table.C (⟨(0 : Int), ([] : (List Key))⟩ : Table) (.slice none 0 0)) trivial rfl rfl rfl rfl ts24 rfl (Table.C_one _ rfl) (Nat.le_of_ble_eq_true rfl) rfl ?_
                    refine w_L [.blk b6 (.cells (Table.C s50.1 v51).toArray 24 (0, 0)), .blk b11 (.cells (Table.C (⟨(0 : Int), ([] : (List Key))⟩ : Table) (.slice none 0 0)).toArray 24 (0, 0)), .blk b36 (mapO s50.2.1), rowI (FI .i64) v53 3 s50.2.2.1, .blk b71 (.cells (Key.C ({ (rd p1.Keys s50.2.2.2) with Parent := (mget s50.2.1 ((rd p1.Keys s50.2.2.2).Parent)) } : Key)).toArray 30 (0, 0)), .blk b97 (.cells (Table.C t89.1 v95).toArray 24 (0, 0))] rfl ?_
                    refine w_val trivial rfl (fun a w hf hs => r_assign (hf.ev rfl)) ?_
                    refine w_val trivial rfl (fun a w hf hs => r_assign (hf.ev rfl)) ?_
                    refine w_nil (hK101 _ _ _ ?_)
                    obtain rfl := (r56 _ (Option.some.inj H).symm)
                    refine c_ret ?_
                    intro a w' hf hs
                    exact hret _ (.inl rfl) a w' hf.df ⟨_, _, Res.of3 rfl ⟨_, hf.get _ _ rfl, run_loadA (hs.blk (i := 1) rfl) ta24 ts24 rfl rfl⟩ (RV.t hf rfl) (RV.t hf rfl), hs.ext, ⟨_, _, rfl, RS.none, RS.none⟩⟩
                  · replace H := if_f b100 H
                    refine c_skip (hK98 _ _ _ ?_)
                    refine c_seq ?_
                    intro K102 hK102
                    refine c_reg ?_
                    refine w_val trivial rfl (fun a w hf hs => r_move (hf.ev rfl)) ?_
                    refine w_val trivial rfl (fun a w hf hs => r_move (hf.ev rfl)) ?_
                    refine w_val trivial rfl (fun a w hf hs => r_loadA ta24 ts24 (hf.ev rfl) (hs.blk (i := 5) rfl) rfl rfl) ?_
                    refine w_val trivial rfl (fun a w hf hs => r_move (hf.ev rfl)) ?_
                    refine w_store (i := 0) (vs := Table.C t89.1 v95) (A' := Table.C t89.1 v95) trivial rfl rfl rfl rfl ts24 rfl (Table.C_one _ h96.one) (Nat.le_of_ble_eq_true rfl) rfl ?_
                    refine w_L [.blk b6 (.cells (Table.C t89.1 v95).toArray 24 (0, 0)), .blk b11 (.cells (Table.C (⟨(0 : Int), ([] : (List Key))⟩ : Table) (.slice none 0 0)).toArray 24 (0, 0)), .blk b36 (mapO s50.2.1), rowI (FI .i64) v53 3 s50.2.2.1, .blk b71 (.cells (Key.C ({ (rd p1.Keys s50.2.2.2) with Parent := (mget s50.2.1 ((rd p1.Keys s50.2.2.2).Parent)) } : Key)).toArray 30 (0, 0)), .blk b97 (.cells (Table.C t89.1 v95).toArray 24 (0, 0))] rfl ?_
                    refine w_mapUpd (m := s50.2.1) (i := 2) Try.underlying59 Try.underlying3 trivial rfl rfl rfl rfl ?_
                    refine w_nil (hK102 _ _ _ ?_)
                    refine c_reg ?_
                    refine w_val trivial rfl (fun a w hf hs => r_move (hf.ev rfl)) ?_
                    refine w_val trivial rfl (fun a w hf hs => r_move (hf.ev rfl)) ?_
                    refine w_bsl (F := (FI .i64)) (es := ([t89.2.1] : List Int)) (xs := [.tmp 81]) (vs := [(.int .i64 t89.2.1)]) Try.underlying36 te3 trivial rfl rfl rfl rfl rfl (by decide) ?_
                    intro v103 M104 l105 h106 c107
                    replace h2 := h2.mono l105
                    replace h4 := h4.mono l105
                    replace h10 := l105 _ _ h10
                    replace h34 := h34.mono l105
                    replace h52 := h52.mono l105
                    replace h96 := h96.mono l105
                    obtain ⟨g108, H⟩ := grd_s H
                    refine w_app (F := (FI .i64)) (m2 := ([t89.2.1] : List Int)) (i := 3) Try.underlying36 te3 Try.underlying36 (.inl ⟨_, rfl⟩) trivial rfl rfl rfl rfl (Src.rs (FI.one _) h106) g108 ?_
                    intro v109
                    refine w_val trivial rfl (fun a w hf hs => r_assign (hf.ev rfl)) ?_
                    refine w_nil ?_
                    intro a w' hf hs
                    exact ⟨t89.1, v95, (mput s50.2.1 ((rd p1.Keys s50.2.2.2).Id) t89.2.1), (s50.2.2.1 ++ ([t89.2.1] : List Int)), v109, _, (l80.trans (l92.trans l105)), h96, ((((((((hf.nil.add (hf.get _ _ rfl)).add (hf.get _ _ rfl)).add (hf.get _ _ rfl)).add (hf.get _ _ rfl)).add (hf.get _ _ rfl)).add (hf.get _ _ rfl)).add (hf.get _ _ rfl)).add (hf.get _ _ rfl)), hs.selD [some 0, some 1, some 2, some 3] (by decide) rfl, H⟩
            · rintro a w' ⟨x61, v62, x64, x65, v66, M67, l68, h63, hf, hs, H⟩
              refine c_of (c := (Cx.mk Try.prog 87 none' M w)) ?_ hf hs
              unfold restore_Plan.j2 at H
              clear hf hs
              replace h2 := h2.mono l68
              replace h4 := h4.mono l68
              replace h10 := l68 _ _ h10
              replace h34 := h34.mono l68
              replace h52 := h52.mono l68
              refine c_reg ?_
              refine w_val trivial rfl (fun a w hf hs => r_add (hf.ev rfl) (hf.ev rfl)) ?_
              refine w_val trivial rfl (fun a w hf hs => r_move (hf.ev rfl)) ?_
              refine w_nil ?_
              intro a w' hf hs
              exact ⟨_, (some_r H).symm, v62, v66, _, l55.trans l68, h63, ((((((((hf.nil.add (hf.get _ _ rfl)).add (hf.get _ _ rfl)).add (hf.get _ _ rfl)).add (hf.get _ _ rfl)).add (hf.get _ _ rfl)).add (hf.get _ _ rfl)).add (hf.get _ _ rfl)).add (hf.get _ _ rfl)), hs.selD [some 0, some 1, some 2, some 3] (by decide) rfl⟩
          · replace H := if_f b60 H
            replace H := map_inr H r56
            refine c_exit ?_
            intro a w' hf hs
            exact ⟨s50.1, v51, s50.2.2.1, v53, _, l55, h52, (((hf.nil.add (hf.get _ _ rfl)).add (hf.get _ _ rfl)).add (hf.get _ _ rfl)), hs.selD [some 0, some 1, none, some 3] (by decide) rfl, H⟩
      · rintro a w' ⟨x38, v39, x41, v42, M43, l44, h40, hf, hs, H⟩
        refine c_of (c := (Cx.mk Try.prog 87 none' M w)) ?_ hf hs
        unfold restore_Plan.j1 at H
        clear hf hs
        replace h2 := h2.mono l44
        replace h4 := h4.mono l44
        replace h10 := l44 _ _ h10
        replace h34 := h34.mono l44
        refine c_seq ?_
        intro K45 hK45
        refine c_reg ?_
        refine w_val trivial rfl (fun a w hf hs => r_loadA ta24 ts24 (hf.ev rfl) (hs.blk (i := 0) rfl) rfl rfl) ?_
        refine w_val trivial rfl (fun a w hf hs => r_move (hf.ev rfl)) ?_
        refine w_store (i := 1) (vs := Table.C x38 v39) (A' := Table.C x38 v39) trivial rfl rfl rfl rfl ts24 rfl (Table.C_one _ h40.one) (Nat.le_of_ble_eq_true rfl) rfl ?_
        refine w_L [.blk b6 (.cells (Table.C x38 v39).toArray 24 (0, 0)), .blk b11 (.cells (Table.C x38 v39).toArray 24 (0, 0)), dead, rowI (FI .i64) v42 3 x41] rfl ?_
        refine w_val trivial rfl (fun a w hf hs => r_assign (hf.ev rfl)) ?_
        refine w_val trivial rfl (fun a w hf hs => r_assign (hf.ev rfl)) ?_
        refine w_nil (hK45 _ _ _ ?_)
        obtain rfl := some_r H
        refine c_ret ?_
        refine n_give 3 rfl (fun _ h => h) ?_
        intro M46 l47 h48
        replace h2 := h2.mono l47
        replace h4 := h4.mono l47
        replace h10 := l47 _ _ h10
        replace h34 := h34.mono l47
        replace h40 := h40.mono l47
        intro a w' hf hs
        exact hret _ (.inl rfl) a w' hf.df ⟨_, _, Res.of3 rfl ⟨_, hf.get _ _ rfl, run_loadA (hs.blk (i := 1) rfl) ta24 ts24 rfl rfl⟩ (RV.t hf rfl) (RV.t hf rfl), hs.ext, ⟨_, _, rfl, h40, h48⟩⟩
set_option maxRecDepth 20000 in
theorem restore_Admit.calls {M : Heap} {w : World} (hM : Sub M w) (p0 : restore_Place) (p1 : Backup) (v1 : Value) (h2 : RS Key.F M v1 p1.Keys) (r : Int) (H : restore_Admit p0 p1 = some r) :
    Calls Try.prog 18 [(.agg (restore_Place.C p0).toArray), (.agg (Backup.C p1 v1).toArray)].toArray w (Post M w fun M' v => v = (.int .i64 r)) := by
  refine enter 34 [(0, (.agg (restore_Place.C p0).toArray)), (1, (.agg (Backup.C p1 v1).toArray))] Try.func18 rfl rfl rfl hM ?_
  intro Q hret
  unfold restore_Admit at H
  refine c_seq ?_
  intro K3 hK3
  refine c_reg ?_
  refine w_boxM trivial rfl rfl rfl ?_
  intro b4 M5 l6 h7
  replace h2 := h2.mono l6
  refine w_boxM trivial rfl rfl rfl ?_
  intro b8 M9 l10 h11
  replace h2 := h2.mono l10
  replace h7 := l10 _ _ h7
  refine w_val trivial rfl (fun a w hf hs => r_assign (hf.ev rfl)) ?_
  refine w_nil (hK3 _ _ _ ?_)
  refine c_seq ?_
  intro K12 hK12
  refine c_block ?_
  refine c_seq ?_
  intro K13 hK13
  refine c_reg ?_
  refine w_val trivial rfl (fun a w hf hs => r_loadA ta28 ts28 (hf.ev rfl) (hs.sub _ _ h11) (Backup.d0_38 _ _) (Backup.len _ _)) ?_
  obtain ⟨t14, e19, H⟩ := bnd H
  refine w_call cf24 trivial rfl rfl (fun w hs => backup_Valid.calls hs p1 v1 h2 _ e19) ?_
  rintro _ M16 l17 rfl
  replace h2 := h2.mono l17
  replace h7 := l17 _ _ h7
  replace h11 := l17 _ _ h11
  refine w_val trivial rfl (fun a w hf hs => r_not (hf.ev rfl)) ?_
  refine w_val trivial rfl (fun a w hf hs => r_assign (hf.ev rfl)) ?_
  refine w_nil (hK13 _ _ _ ?_)
  refine c_if rfl (fun b20 => ?_) (fun b20 => ?_)
  · replace H := if_t b20 H
    refine c_seq ?_
    intro K21 hK21
    refine c_reg ?_
    refine w_val trivial rfl (fun a w hf hs => r_assign (hf.ev rfl)) ?_
    refine w_nil (hK21 _ _ _ ?_)
    obtain rfl := some_r H
    refine c_ret ?_
    intro a w' hf hs
    exact hret _ (.inl rfl) a w' hf.df ⟨_, _, Res.of1 rfl (RV.t hf rfl), hs.ext, rfl⟩
  · replace H := if_f b20 H
    refine c_seq ?_
    intro K22 hK22
    refine c_reg ?_
    refine w_val trivial rfl (fun a w hf hs => r_loadA ta32 ts32 (hf.ev rfl) (hs.sub _ _ h7) (restore_Place.d0_34 _) (restore_Place.len _)) ?_
    refine w_val trivial rfl (fun a w hf hs => r_fa fa28_0 (hf.ev rfl)) ?_
    refine w_val trivial rfl (fun a w hf hs => r_loadA ta26 ts26 (hf.ev rfl) (hs.sub _ _ h11) (Backup.d0_16 _ _) (by simp)) ?_
    refine w_val trivial rfl (fun a w hf hs => r_fa fa28_5 (hf.ev rfl)) ?_
    refine w_val trivial rfl (fun a w hf hs => r_loadA ta26 ts26 (hf.ev rfl) (hs.sub _ _ h11) (Backup.d20_16 _ _) (by simp)) ?_
    refine w_val trivial rfl (fun a w hf hs => r_fa fa32_2 (hf.ev rfl)) ?_
    refine w_val trivial rfl (fun a w hf hs => r_load1 ta3 (hf.ev rfl) (hs.sub _ _ h7) (restore_Place.g32 _)) ?_
    refine w_val trivial rfl (fun a w hf hs => r_fa fa32_3 (hf.ev rfl)) ?_
    refine w_val trivial rfl (fun a w hf hs => r_load1 ta3 (hf.ev rfl) (hs.sub _ _ h7) (restore_Place.g33 _)) ?_
    refine w_val trivial rfl (fun a w hf hs => r_build (is := [0, 1, 2, 3]) (xs := [.tmp 12, .tmp 14, .tmp 16, .tmp 18]) (vs := [(.agg (vI .u8 p1.Domain).toArray), (.agg (vI .u8 p1.Policy).toArray), (.int .i64 p0.Firmware), (.int .i64 p0.Number)]) (A := restore_Place.C ({ ({ ({ ({ (default : restore_Place) with Domain := p1.Domain } : restore_Place) with Policy := p1.Policy } : restore_Place) with Firmware := p0.Firmware } : restore_Place) with Number := p0.Number } : restore_Place)) rfl (hf.evs rfl) (built_of (pl := [(0, 16), (16, 16), (32, 1), (33, 1)]) (A0 := restore_Place.C ({ ({ ({ ({ (default : restore_Place) with Domain := (Vector.replicate 16 (0 : Int)) } : restore_Place) with Policy := (Vector.replicate 16 (0 : Int)) } : restore_Place) with Firmware := (0 : Int) } : restore_Place) with Number := (0 : Int) } : restore_Place)) tz32 Try.underlying32 (by kernel_rfl) rfl (.cons (vs := vI .u8 p1.Domain) (B := restore_Place.C ({ ({ ({ ({ (default : restore_Place) with Policy := (Vector.replicate 16 (0 : Int)) } : restore_Place) with Firmware := (0 : Int) } : restore_Place) with Number := (0 : Int) } : restore_Place) with Domain := p1.Domain } : restore_Place)) rfl rfl (by simp) (by rw [restore_Place.len]; decide) (restore_Place.s0_16 _) (.cons (vs := vI .u8 p1.Policy) (B := restore_Place.C ({ ({ ({ ({ (default : restore_Place) with Firmware := (0 : Int) } : restore_Place) with Number := (0 : Int) } : restore_Place) with Domain := p1.Domain } : restore_Place) with Policy := p1.Policy } : restore_Place)) rfl rfl (by simp) (by rw [restore_Place.len]; decide) (restore_Place.s16_16 _) (.cons (vs := [(.int .i64 p0.Firmware)]) (B := restore_Place.C ({ ({ ({ ({ (default : restore_Place) with Number := (0 : Int) } : restore_Place) with Domain := p1.Domain } : restore_Place) with Policy := p1.Policy } : restore_Place) with Firmware := p0.Firmware } : restore_Place)) rfl rfl rfl (by rw [restore_Place.len]; decide) (restore_Place.s32_1 _) (.cons (vs := [(.int .i64 p0.Number)]) (B := restore_Place.C ({ ({ ({ ({ (default : restore_Place) with Domain := p1.Domain } : restore_Place) with Policy := p1.Policy } : restore_Place) with Firmware := p0.Firmware } : restore_Place) with Number := p0.Number } : restore_Place)) rfl rfl rfl (by rw [restore_Place.len]; decide) (restore_Place.s33_1 _) .nil)))))) ?_
    refine w_val trivial rfl (fun a w hf hs => r_neS eq32 (hf.ev rfl) (hf.ev rfl)) ?_
    refine w_val trivial rfl (fun a w hf hs => r_assign (hf.ev rfl)) ?_
    refine w_nil (hK22 _ _ _ ?_)
    refine c_if rfl (fun b23 => ?_) (fun b23 => ?_)
    · replace H := if_t b23 H
      refine c_seq ?_
      intro K24 hK24
      refine c_reg ?_
      refine w_val trivial rfl (fun a w hf hs => r_assign (hf.ev rfl)) ?_
      refine w_nil (hK24 _ _ _ ?_)
      obtain rfl := some_r H
      refine c_ret ?_
      intro a w' hf hs
      exact hret _ (.inl rfl) a w' hf.df ⟨_, _, Res.of1 rfl (RV.t hf rfl), hs.ext, rfl⟩
    · replace H := if_f b23 H
      obtain ⟨t25, H1, H⟩ := bnd H
      refine c_cut (fun a' w' => ∃ (M26 : Heap), HLe M16 M26 ∧ Fr 34 [(21, (.bool t25))] a' ∧ St none' M w M26 (lt []) w') ?_ ?_
      · replace H := H1
        clear H1
        refine c_reg ?_
        refine w_val trivial rfl (fun a w hf hs => r_fa fa28_3 (hf.ev rfl)) ?_
        refine w_val trivial rfl (fun a w hf hs => r_load1 ta3 (hf.ev rfl) (hs.sub _ _ h11) (Backup.g18 _ _)) ?_
        refine w_val trivial rfl (fun a w hf hs => r_fa fa32_2 (hf.ev rfl)) ?_
        refine w_val trivial rfl (fun a w hf hs => r_load1 ta3 (hf.ev rfl) (hs.sub _ _ h7) (restore_Place.g32 _)) ?_
        refine w_val trivial rfl (fun a w hf hs => r_gtr (hf.ev rfl) (hf.ev rfl)) ?_
        refine w_val trivial rfl (fun a w hf hs => r_move (hf.ev rfl)) ?_
        by_cases b28 : (decide (p0.Firmware < p1.Firmware)) = true
        · replace H := if_t b28 H
          refine w_not (Nwt.of rfl rfl b28) rfl ?_
          refine w_not (Nwt.of rfl rfl b28) rfl ?_
          refine w_not (Nwt.of rfl rfl b28) rfl ?_
          refine w_not (Nwt.of rfl rfl b28) rfl ?_
          refine w_not (Nwt.of rfl rfl b28) rfl ?_
          refine w_val trivial rfl (fun a w hf hs => r_pickT (hf.ev rfl) b28 (hf.ev rfl)) ?_
          refine w_val trivial rfl (fun a w hf hs => r_assign (hf.ev rfl)) ?_
          obtain rfl := some_r H
          refine w_nil ?_
          intro a w' hf hs
          exact ⟨_, (HLe.refl _), (hf.nil.add (hf.get _ _ rfl)), hs.sel [] (by decide) rfl⟩
        · replace b28 := Bool.eq_false_iff.2 b28
          replace H := if_f b28 H
          refine w_val (Wnt.of rfl rfl b28) rfl (fun a w hf hs => r_fa fa28_2 (hf.ev rfl)) ?_
          refine w_val (Wnt.of rfl rfl b28) rfl (fun a w hf hs => r_load1 ta3 (hf.ev rfl) (hs.sub _ _ h11) (Backup.g17 _ _)) ?_
          refine w_val (Wnt.of rfl rfl b28) rfl (fun a w hf hs => r_fa fa32_3 (hf.ev rfl)) ?_
          refine w_val (Wnt.of rfl rfl b28) rfl (fun a w hf hs => r_load1 ta3 (hf.ev rfl) (hs.sub _ _ h7) (restore_Place.g33 _)) ?_
          refine w_val (Wnt.of rfl rfl b28) rfl (fun a w hf hs => r_lss (hf.ev rfl) (hf.ev rfl)) ?_
          refine w_val trivial rfl (fun a w hf hs => r_pickF (hf.ev rfl) b28 (hf.ev rfl)) ?_
          refine w_val trivial rfl (fun a w hf hs => r_assign (hf.ev rfl)) ?_
          obtain rfl := some_r H
          refine w_nil ?_
          intro a w' hf hs
          exact ⟨_, (HLe.refl _), (hf.nil.add (hf.get _ _ rfl)), hs.sel [] (by decide) rfl⟩
      · clear H1
        rintro a w' ⟨M26, l27, hf, hs⟩
        refine c_of (c := (Cx.mk Try.prog 34 none' M w)) ?_ hf hs
        clear hf hs
        replace h2 := h2.mono l27
        replace h7 := l27 _ _ h7
        replace h11 := l27 _ _ h11
        refine c_if rfl (fun b29 => ?_) (fun b29 => ?_)
        · replace H := if_t b29 H
          refine c_seq ?_
          intro K30 hK30
          refine c_reg ?_
          refine w_val trivial rfl (fun a w hf hs => r_assign (hf.ev rfl)) ?_
          refine w_nil (hK30 _ _ _ ?_)
          obtain rfl := some_r H
          refine c_ret ?_
          intro a w' hf hs
          exact hret _ (.inl rfl) a w' hf.df ⟨_, _, Res.of1 rfl (RV.t hf rfl), hs.ext, rfl⟩
        · replace H := if_f b29 H
          refine c_skip (hK12 _ _ _ ?_)
          refine c_seq ?_
          intro K31 hK31
          refine c_reg ?_
          refine w_val trivial rfl (fun a w hf hs => r_assign (hf.ev rfl)) ?_
          refine w_nil (hK31 _ _ _ ?_)
          obtain rfl := some_r H
          refine c_ret ?_
          intro a w' hf hs
          exact hret _ (.inl rfl) a w' hf.df ⟨_, _, Res.of1 rfl (RV.t hf rfl), hs.ext, rfl⟩
set_option maxRecDepth 20000 in
theorem ref27_Same.calls {M : Heap} {w : World} (hM : Sub M w) (p0 : Table) (v1 : Value) (h2 : RS Key.F M v1 p0.Keys) (p1 : Table) (v3 : Value) (h4 : RS Key.F M v3 p1.Keys) (r : Bool) (H : ref27_Same p0 p1 = some r) :
    Calls Try.prog 14 [(.agg (Table.C p0 v1).toArray), (.agg (Table.C p1 v3).toArray)].toArray w (Post M w fun M' v => v = (.bool r)) := by
  refine enter 38 [(0, (.agg (Table.C p0 v1).toArray)), (1, (.agg (Table.C p1 v3).toArray))] Try.func14 rfl rfl rfl hM ?_
  intro Q hret
  unfold ref27_Same at H
  refine c_seq ?_
  intro K5 hK5
  refine c_reg ?_
  refine w_boxM trivial rfl rfl rfl ?_
  intro b6 M7 l8 h9
  replace h2 := h2.mono l8
  replace h4 := h4.mono l8
  refine w_boxM trivial rfl rfl rfl ?_
  intro b10 M11 l12 h13
  replace h2 := h2.mono l12
  replace h4 := h4.mono l12
  replace h9 := l12 _ _ h9
  refine w_val trivial rfl (fun a w hf hs => r_assign (hf.ev rfl)) ?_
  refine w_nil (hK5 _ _ _ ?_)
  refine c_seq ?_
  intro K14 hK14
  obtain ⟨t15, H1, H⟩ := bnd H
  refine c_cut (fun a' w' => ∃ (M16 : Heap), HLe M11 M16 ∧ Fr 38 [(2, (ptr b6 0)), (3, (ptr b10 0)), (19, (.bool t15))] a' ∧ St none' M w M16 (lt []) w') ?_ ?_
  · replace H := H1
    clear H1
    refine c_reg ?_
    refine w_val trivial rfl (fun a w hf hs => r_fa fa24_0 (hf.ev rfl)) ?_
    refine w_val trivial rfl (fun a w hf hs => r_load1 ta3 (hf.ev rfl) (hs.sub _ _ h9) rfl) ?_
    refine w_val trivial rfl (fun a w hf hs => r_fa fa24_0 (hf.ev rfl)) ?_
    refine w_val trivial rfl (fun a w hf hs => r_load1 ta3 (hf.ev rfl) (hs.sub _ _ h13) rfl) ?_
    refine w_val trivial rfl (fun a w hf hs => r_neq (hf.ev rfl) (hf.ev rfl)) ?_
    refine w_val trivial rfl (fun a w hf hs => r_move (hf.ev rfl)) ?_
    by_cases b18 : (p0.Next != p1.Next) = true
    · replace H := if_t b18 H
      refine w_not (Nwt.of rfl rfl b18) rfl ?_
      refine w_not (Nwt.of rfl rfl b18) rfl ?_
      refine w_not (Nwt.of rfl rfl b18) rfl ?_
      refine w_not (Nwt.of rfl rfl b18) rfl ?_
      refine w_not (Nwt.of rfl rfl b18) rfl ?_
      refine w_not (Nwt.of rfl rfl b18) rfl ?_
      refine w_not (Nwt.of rfl rfl b18) rfl ?_
      refine w_val trivial rfl (fun a w hf hs => r_pickT (hf.ev rfl) b18 (hf.ev rfl)) ?_
      obtain rfl := some_r H
      refine w_nil ?_
      intro a w' hf hs
      exact ⟨_, (HLe.refl _), (((hf.nil.add (hf.get _ _ rfl)).add (hf.get _ _ rfl)).add (hf.get _ _ rfl)), hs.sel [] (by decide) rfl⟩
    · replace b18 := Bool.eq_false_iff.2 b18
      replace H := if_f b18 H
      refine w_val (Wnt.of rfl rfl b18) rfl (fun a w hf hs => r_fa fa24_1 (hf.ev rfl)) ?_
      refine w_val (Wnt.of rfl rfl b18) rfl (fun a w hf hs => r_load1 ta22 (hf.ev rfl) (hs.sub _ _ h9) rfl) ?_
      refine w_val (Wnt.of rfl rfl b18) rfl (fun a w hf hs => r_lenR Try.underlying22 h2 (hf.ev rfl)) ?_
      refine w_val (Wnt.of rfl rfl b18) rfl (fun a w hf hs => r_fa fa24_1 (hf.ev rfl)) ?_
      refine w_val (Wnt.of rfl rfl b18) rfl (fun a w hf hs => r_load1 ta22 (hf.ev rfl) (hs.sub _ _ h13) rfl) ?_
      refine w_val (Wnt.of rfl rfl b18) rfl (fun a w hf hs => r_lenR Try.underlying22 h4 (hf.ev rfl)) ?_
      refine w_val (Wnt.of rfl rfl b18) rfl (fun a w hf hs => r_neq (hf.ev rfl) (hf.ev rfl)) ?_
      refine w_val trivial rfl (fun a w hf hs => r_pickF (hf.ev rfl) b18 (hf.ev rfl)) ?_
      obtain rfl := some_r H
      refine w_nil ?_
      intro a w' hf hs
      exact ⟨_, (HLe.refl _), (((hf.nil.add (hf.get _ _ rfl)).add (hf.get _ _ rfl)).add (hf.get _ _ rfl)), hs.sel [] (by decide) rfl⟩
  · clear H1
    rintro a w' ⟨M16, l17, hf, hs⟩
    refine c_of (c := (Cx.mk Try.prog 38 none' M w)) ?_ hf hs
    clear hf hs
    replace h2 := h2.mono l17
    replace h4 := h4.mono l17
    replace h9 := l17 _ _ h9
    replace h13 := l17 _ _ h13
    refine c_if rfl (fun b19 => ?_) (fun b19 => ?_)
    · replace H := if_t b19 H
      refine c_seq ?_
      intro K20 hK20
      refine c_reg ?_
      refine w_val trivial rfl (fun a w hf hs => r_assign (hf.ev rfl)) ?_
      refine w_nil (hK20 _ _ _ ?_)
      obtain rfl := some_r H
      refine c_ret ?_
      intro a w' hf hs
      exact hret _ (.inl rfl) a w' hf.df ⟨_, _, Res.of1 rfl (RV.t hf rfl), hs.ext, rfl⟩
    · replace H := if_f b19 H
      refine c_skip (hK14 _ _ _ ?_)
      refine c_cut (fun a' w' => ∃ (M21 : Heap), HLe M16 M21 ∧ Fr 38 [] a' ∧ St none' M w M21 (lt []) w' ∧ ref27_Same.j1  = some r) ?_ ?_
      · refine c_seq ?_
        intro K24 hK24
        refine c_reg ?_
        refine w_val trivial rfl (fun a w hf hs => r_assign (hf.ev rfl)) ?_
        refine w_nil (hK24 _ _ _ ?_)
        refine c_block ?_
        refine c_loop (fun (s25 : Int) a' w' => ∃ (M26 : Heap), HLe M16 M26 ∧ Fr 38 [(2, (ptr b6 0)), (3, (ptr b10 0)), (5, (.int .i64 s25))] a' ∧ St none' M w M26 (lt []) w') (0 : Int) H ?_ ?_
        · intro a w' hf hs
          exact ⟨_, HLe.refl _, (((hf.nil.add (hf.get _ _ rfl)).add (hf.get _ _ rfl)).add (hf.get _ _ rfl)), hs.selD [] (by decide) rfl⟩
        · clear H
          intro s25 y29 H r28 a w' hJ
          obtain ⟨M26, l27, hf, hs⟩ := hJ
          refine c_of (c := (Cx.mk Try.prog 38 none' M w)) ?_ hf hs
          unfold ref27_Same.l2 at H
          clear hf hs
          replace h2 := h2.mono l27
          replace h4 := h4.mono l27
          replace h9 := l27 _ _ h9
          replace h13 := l27 _ _ h13
          refine c_seq ?_
          intro K30 hK30
          refine c_seq ?_
          intro K31 hK31
          refine c_reg ?_
          refine w_val trivial rfl (fun a w hf hs => r_move (hf.ev rfl)) ?_
          refine w_val trivial rfl (fun a w hf hs => r_fa fa24_1 (hf.ev rfl)) ?_
          refine w_val trivial rfl (fun a w hf hs => r_load1 ta22 (hf.ev rfl) (hs.sub _ _ h9) rfl) ?_
          refine w_val trivial rfl (fun a w hf hs => r_lenR Try.underlying22 h2 (hf.ev rfl)) ?_
          refine w_val trivial rfl (fun a w hf hs => r_lss (hf.ev rfl) (hf.ev rfl)) ?_
          refine w_nil (hK31 _ _ _ ?_)
          refine c_if rfl (fun b32 => ?_) (fun b32 => ?_)
          · replace H := if_t b32 H
            refine c_skip (hK30 _ _ _ ?_)
            refine c_seq ?_
            intro K33 hK33
            refine c_block ?_
            refine c_seq ?_
            intro K34 hK34
            obtain ⟨g46, H⟩ := grd_s H
            obtain ⟨g61, H⟩ := grd_s H
            refine c_drawP [([], [2]), ([(0, 27)], []), ([], [5]), ([(1, 28), (2, 29)], []), ([(3, 30)], []), ([], [3]), ([(5, 32)], []), ([], [5]), ([(6, 33), (7, 34)], []), ([(8, 35)], []), ([(4, 31), (9, 36)], [])] [fun v M => v = (ptr b6 1), fun v M => v = v1, fun v M => v = (.int .i64 s25), fun v M => v = (eP v1 s25 9 0), fun v M => v = (.agg (Key.C (rd p0.Keys s25)).toArray), fun v M => v = (ptr b10 1), fun v M => v = v3, fun v M => v = (.int .i64 s25), fun v M => v = (eP v3 s25 9 0), fun v M => v = (.agg (Key.C (rd p1.Keys s25)).toArray), fun v M => v = (.bool (!(decide ((rd p0.Keys s25) = (rd p1.Keys s25)))))] (by kernel_rfl) (by kernel_rfl) ?_ (AllT.cons ?_ (AllT.cons ?_ (AllT.cons ?_ (AllT.cons ?_ (AllT.cons ?_ (AllT.cons ?_ (AllT.cons ?_ (AllT.cons ?_ (AllT.cons ?_ (AllT.cons ?_ (AllT.cons ?_ AllT.nil))))))))))) ?_
            · exact (MonoA.cons (fun _ _ _ _ h => h) (MonoA.cons (fun _ _ _ _ h => h) (MonoA.cons (fun _ _ _ _ h => h) (MonoA.cons (fun _ _ _ _ h => h) (MonoA.cons (fun _ _ _ _ h => h) (MonoA.cons (fun _ _ _ _ h => h) (MonoA.cons (fun _ _ _ _ h => h) (MonoA.cons (fun _ _ _ _ h => h) (MonoA.cons (fun _ _ _ _ h => h) (MonoA.cons (fun _ _ _ _ h => h) (MonoA.cons (fun _ _ _ _ h => h) MonoA.nil)))))))))))
            · intro a w' M35 l36 hd hs
              replace h9 := l36 _ _ h9
              replace h2 := h2.mono l36
              refine OP.ofW (l := [(2, (ptr b6 0))]) (hd.fr.add (hd.base 2 _ rfl rfl)) hs rfl ?_
              refine w_val trivial rfl (fun a w hf hs => r_fa fa24_1 (hf.ev rfl)) ?_
              refine w_nil ?_
              intro a w' hf hs
              exact ⟨rfl, hf.df, _, (HLe.refl _), hs, hf.get _ _ rfl⟩
            · intro a w' M37 l38 hd hs
              have e39 := hd.val 0 27 _ rfl rfl
              replace h9 := l38 _ _ h9
              replace h2 := h2.mono l38
              refine OP.ofW (l := [(27, (ptr b6 1))]) (hd.fr.add e39) hs rfl ?_
              refine w_val trivial rfl (fun a w hf hs => r_load1 ta22 (hf.ev rfl) (hs.sub _ _ h9) rfl) ?_
              refine w_nil ?_
              intro a w' hf hs
              exact ⟨rfl, hf.df, _, (HLe.refl _), hs, hf.get _ _ rfl⟩
            · intro a w' M40 l41 hd hs
              refine OP.ofW (l := [(5, (.int .i64 s25))]) (hd.fr.add (hd.base 5 _ rfl rfl)) hs rfl ?_
              refine w_val trivial rfl (fun a w hf hs => r_move (hf.ev rfl)) ?_
              refine w_nil ?_
              intro a w' hf hs
              exact ⟨rfl, hf.df, _, (HLe.refl _), hs, hf.get _ _ rfl⟩
            · intro a w' M42 l43 hd hs
              have e44 := hd.val 1 28 _ rfl rfl
              replace h2 := h2.mono l43
              have e45 := hd.val 2 29 _ rfl rfl
              refine OP.ofW (l := [(28, v1), (29, (.int .i64 s25))]) ((hd.fr.add e45).add e44) hs rfl ?_
              refine w_val trivial rfl (fun a w hf hs => r_iR Try.underlying22 ts30 h2 (hf.ev rfl) (hf.ev rfl) g46.1 g46.2) ?_
              refine w_nil ?_
              intro a w' hf hs
              exact ⟨rfl, hf.df, _, (HLe.refl _), hs, hf.get _ _ rfl⟩
            · intro a w' M47 l48 hd hs
              have e49 := hd.val 3 30 _ rfl rfl
              replace h2 := h2.mono l48
              refine OP.ofW (l := [(30, (eP v1 s25 9 0))]) (hd.fr.add e49) hs rfl ?_
              refine w_val trivial rfl (fun a w hf hs => r_loadEA ta30 ts30 h2 hs.sub g46.1 g46.2 (hf.ev rfl) rfl rfl) ?_
              refine w_nil ?_
              intro a w' hf hs
              exact ⟨rfl, hf.df, _, (HLe.refl _), hs, hf.get _ _ rfl⟩
            · intro a w' M50 l51 hd hs
              replace h13 := l51 _ _ h13
              replace h4 := h4.mono l51
              refine OP.ofW (l := [(3, (ptr b10 0))]) (hd.fr.add (hd.base 3 _ rfl rfl)) hs rfl ?_
              refine w_val trivial rfl (fun a w hf hs => r_fa fa24_1 (hf.ev rfl)) ?_
              refine w_nil ?_
              intro a w' hf hs
              exact ⟨rfl, hf.df, _, (HLe.refl _), hs, hf.get _ _ rfl⟩
            · intro a w' M52 l53 hd hs
              have e54 := hd.val 5 32 _ rfl rfl
              replace h13 := l53 _ _ h13
              replace h4 := h4.mono l53
              refine OP.ofW (l := [(32, (ptr b10 1))]) (hd.fr.add e54) hs rfl ?_
              refine w_val trivial rfl (fun a w hf hs => r_load1 ta22 (hf.ev rfl) (hs.sub _ _ h13) rfl) ?_
              refine w_nil ?_
              intro a w' hf hs
              exact ⟨rfl, hf.df, _, (HLe.refl _), hs, hf.get _ _ rfl⟩
            · intro a w' M55 l56 hd hs
              refine OP.ofW (l := [(5, (.int .i64 s25))]) (hd.fr.add (hd.base 5 _ rfl rfl)) hs rfl ?_
              refine w_val trivial rfl (fun a w hf hs => r_move (hf.ev rfl)) ?_
              refine w_nil ?_
              intro a w' hf hs
              exact ⟨rfl, hf.df, _, (HLe.refl _), hs, hf.get _ _ rfl⟩
            · intro a w' M57 l58 hd hs
              have e59 := hd.val 6 33 _ rfl rfl
              replace h4 := h4.mono l58
              have e60 := hd.val 7 34 _ rfl rfl
              refine OP.ofW (l := [(33, v3), (34, (.int .i64 s25))]) ((hd.fr.add e60).add e59) hs rfl ?_
              refine w_val trivial rfl (fun a w hf hs => r_iR Try.underlying22 ts30 h4 (hf.ev rfl) (hf.ev rfl) g61.1 g61.2) ?_
              refine w_nil ?_
              intro a w' hf hs
              exact ⟨rfl, hf.df, _, (HLe.refl _), hs, hf.get _ _ rfl⟩
            · intro a w' M62 l63 hd hs
              have e64 := hd.val 8 35 _ rfl rfl
              replace h4 := h4.mono l63
              refine OP.ofW (l := [(35, (eP v3 s25 9 0))]) (hd.fr.add e64) hs rfl ?_
              refine w_val trivial rfl (fun a w hf hs => r_loadEA ta30 ts30 h4 hs.sub g61.1 g61.2 (hf.ev rfl) rfl rfl) ?_
              refine w_nil ?_
              intro a w' hf hs
              exact ⟨rfl, hf.df, _, (HLe.refl _), hs, hf.get _ _ rfl⟩
            · intro a w' M65 l66 hd hs
              have e67 := hd.val 4 31 _ rfl rfl
              have e68 := hd.val 9 36 _ rfl rfl
              refine OP.ofW (l := [(31, (.agg (Key.C (rd p0.Keys s25)).toArray)), (36, (.agg (Key.C (rd p1.Keys s25)).toArray))]) ((hd.fr.add e68).add e67) hs rfl ?_
              refine w_val trivial rfl (fun a w hf hs => r_neS eq30 (hf.ev rfl) (hf.ev rfl)) ?_
              refine w_nil ?_
              intro a w' hf hs
              exact ⟨rfl, hf.df, _, (HLe.refl _), hs, hf.get _ _ rfl⟩
            intro a w' M69 l70 hdf hsz hb hv hs
            replace h2 := h2.mono l70
            replace h4 := h4.mono l70
            replace h9 := l70 _ _ h9
            replace h13 := l70 _ _ h13
            have e71 := hv 10 37 _ rfl rfl
            refine n_of (c := (Cx.mk Try.prog 38 none' M w)) (l := [(2, (ptr b6 0)), (3, (ptr b10 0)), (5, (.int .i64 s25)), (37, (.bool (!(decide ((rd p0.Keys s25) = (rd p1.Keys s25))))))]) ?_ (((((Fr.start hdf hsz).add e71).add (hb 5 _ rfl rfl)).add (hb 3 _ rfl rfl)).add (hb 2 _ rfl rfl)) hs
            clear hdf hsz hb hv hs e71
            refine n_id (hK34 _ _ _ ?_)
            refine c_if rfl (fun b72 => ?_) (fun b72 => ?_)
            · replace H := if_t b72 H
              refine c_seq ?_
              intro K73 hK73
              refine c_reg ?_
              refine w_val trivial rfl (fun a w hf hs => r_assign (hf.ev rfl)) ?_
              refine w_nil (hK73 _ _ _ ?_)
              obtain rfl := (r28 _ (Option.some.inj H).symm)
              refine c_ret ?_
              intro a w' hf hs
              exact hret _ (.inl rfl) a w' hf.df ⟨_, _, Res.of1 rfl (RV.t hf rfl), hs.ext, rfl⟩
            · replace H := if_f b72 H
              refine c_skip (hK33 _ _ _ ?_)
              refine c_reg ?_
              refine w_val trivial rfl (fun a w hf hs => r_move (hf.ev rfl)) ?_
              refine w_val trivial rfl (fun a w hf hs => r_add (hf.ev rfl) (hf.ev rfl)) ?_
              refine w_val trivial rfl (fun a w hf hs => r_assign (hf.ev rfl)) ?_
              refine w_nil ?_
              intro a w' hf hs
              exact ⟨_, (some_r H).symm, _, l27.trans l70, (((hf.nil.add (hf.get _ _ rfl)).add (hf.get _ _ rfl)).add (hf.get _ _ rfl)), hs.selD [] (by decide) rfl⟩
          · replace H := if_f b32 H
            replace H := map_inr H r28
            refine c_exit ?_
            intro a w' hf hs
            exact ⟨_, l27, hf.nil, hs.selD [] (by decide) rfl, H⟩
      · rintro a w' ⟨M21, l22, hf, hs, H⟩
        refine c_of (c := (Cx.mk Try.prog 38 none' M w)) ?_ hf hs
        unfold ref27_Same.j1 at H
        clear hf hs
        replace h2 := h2.mono l22
        replace h4 := h4.mono l22
        replace h9 := l22 _ _ h9
        replace h13 := l22 _ _ h13
        refine c_seq ?_
        intro K23 hK23
        refine c_reg ?_
        refine w_val trivial rfl (fun a w hf hs => r_assign (hf.ev rfl)) ?_
        refine w_nil (hK23 _ _ _ ?_)
        obtain rfl := some_r H
        refine c_ret ?_
        intro a w' hf hs
        exact hret _ (.inl rfl) a w' hf.df ⟨_, _, Res.of1 rfl (RV.t hf rfl), hs.ext, rfl⟩
set_option maxRecDepth 20000 in
theorem restore_Holds_1.calls {M : Heap} {w : World} (hM : Sub M w) (p0 : Key) (c0_ : Table) (cb0_ : Nat) (v1 : Value) (h2 : RS Key.F M v1 c0_.Keys) (ch0_ : M cb0_ = some (.cells (Table.C c0_ v1).toArray 24 (0, 0))) (c1_ : Int) (cb1_ : Nat) (ch1_ : M cb1_ = some (.cells ([(.int .i64 c1_)]).toArray 3 (0, 0))) (r : Bool) (H : restore_Holds_1 p0 c0_ c1_ = some r) :
    Calls Try.prog 32 [(.agg (Key.C p0).toArray), (ptr cb0_ 0), (ptr cb1_ 0)].toArray w (Post M w fun M' v => v = (.bool r)) := by
  refine enter 21 [(0, (.agg (Key.C p0).toArray)), (1, (ptr cb0_ 0)), (2, (ptr cb1_ 0))] Try.func32 rfl rfl rfl hM ?_
  intro Q hret
  unfold restore_Holds_1 at H
  refine c_seq ?_
  intro K3 hK3
  refine c_reg ?_
  refine w_boxM trivial rfl rfl rfl ?_
  intro b4 M5 l6 h7
  replace h2 := h2.mono l6
  replace ch0_ := l6 _ _ ch0_
  replace ch1_ := l6 _ _ ch1_
  refine w_val trivial rfl (fun a w hf hs => r_assign (hf.ev rfl)) ?_
  refine w_nil (hK3 _ _ _ ?_)
  refine c_seq ?_
  intro K8 hK8
  refine c_reg ?_
  refine w_val trivial rfl (fun a w hf hs => r_loadA ta24 ts24 (hf.ev rfl) (hs.sub _ _ ch0_) rfl rfl) ?_
  refine w_val trivial rfl (fun a w hf hs => r_loadA ta30 ts30 (hf.ev rfl) (hs.sub _ _ h7) rfl rfl) ?_
  obtain ⟨t9, e14, H⟩ := bnd H
  refine w_call cf12 trivial rfl rfl (fun w hs => restore_Twin.calls hs c0_ v1 h2 p0 _ e14) ?_
  rintro _ M11 l12 rfl
  replace h2 := h2.mono l12
  replace ch0_ := l12 _ _ ch0_
  replace ch1_ := l12 _ _ ch1_
  replace h7 := l12 _ _ h7
  refine w_val trivial rfl (fun a w hf hs => r_move (hf.ev rfl)) ?_
  refine w_val trivial rfl (fun a w hf hs => r_extract (hf.ev rfl) rfl) ?_
  refine w_val trivial rfl (fun a w hf hs => r_extract (hf.ev rfl) rfl) ?_
  refine w_val trivial rfl (fun a w hf hs => r_assign (hf.ev rfl)) ?_
  refine w_val trivial rfl (fun a w hf hs => r_assign (hf.ev rfl)) ?_
  refine w_nil (hK8 _ _ _ ?_)
  obtain ⟨t15, H1, H⟩ := bnd H
  refine c_cut (fun a' w' => ∃ (M16 : Heap), HLe M11 M16 ∧ Fr 21 [(4, (.bool t15))] a' ∧ St none' M w M16 (lt []) w') ?_ ?_
  · replace H := H1
    clear H1
    refine c_reg ?_
    refine w_val trivial rfl (fun a w hf hs => r_fa fa30_5 (hf.ev rfl)) ?_
    refine w_val trivial rfl (fun a w hf hs => r_load1 ta3 (hf.ev rfl) (hs.sub _ _ h7) rfl) ?_
    refine w_val trivial rfl (fun a w hf hs => r_load1 ta3 (hf.ev rfl) (hs.sub _ _ ch1_) rfl) ?_
    refine w_val trivial rfl (fun a w hf hs => r_gtr (hf.ev rfl) (hf.ev rfl)) ?_
    refine w_val trivial rfl (fun a w hf hs => r_move (hf.ev rfl)) ?_
    by_cases b18 : (decide (c1_ < p0.End)) = true
    · replace H := if_t b18 H
      refine w_val (Wnt.of rfl rfl b18) rfl (fun a w hf hs => r_move (hf.ev rfl)) ?_
      refine w_val (Wnt.of rfl rfl b18) rfl (fun a w hf hs => r_not (hf.ev rfl)) ?_
      refine w_val trivial rfl (fun a w hf hs => r_pickT (hf.ev rfl) b18 (hf.ev rfl)) ?_
      refine w_val trivial rfl (fun a w hf hs => r_assign (hf.ev rfl)) ?_
      obtain rfl := some_r H
      refine w_nil ?_
      intro a w' hf hs
      exact ⟨_, (HLe.refl _), (hf.nil.add (hf.get _ _ rfl)), hs.sel [] (by decide) rfl⟩
    · replace b18 := Bool.eq_false_iff.2 b18
      replace H := if_f b18 H
      refine w_not (Nwt.of rfl rfl b18) rfl ?_
      refine w_not (Nwt.of rfl rfl b18) rfl ?_
      refine w_val trivial rfl (fun a w hf hs => r_pickF (hf.ev rfl) b18 (hf.ev rfl)) ?_
      refine w_val trivial rfl (fun a w hf hs => r_assign (hf.ev rfl)) ?_
      obtain rfl := some_r H
      refine w_nil ?_
      intro a w' hf hs
      exact ⟨_, (HLe.refl _), (hf.nil.add (hf.get _ _ rfl)), hs.sel [] (by decide) rfl⟩
  · clear H1
    rintro a w' ⟨M16, l17, hf, hs⟩
    refine c_of (c := (Cx.mk Try.prog 21 none' M w)) ?_ hf hs
    clear hf hs
    replace h2 := h2.mono l17
    replace ch0_ := l17 _ _ ch0_
    replace ch1_ := l17 _ _ ch1_
    replace h7 := l17 _ _ h7
    obtain rfl := some_r H
    refine c_ret ?_
    intro a w' hf hs
    exact hret _ (.inl rfl) a w' hf.df ⟨_, _, Res.of1 rfl (RV.t hf rfl), hs.ext, rfl⟩
set_option maxRecDepth 20000 in
theorem slices_ContainsFunc_Key.calls {M : Heap} {w : World} (hM : Sub M w) (p0 : (List Key)) (v1 : Value) (h2 : RS Key.F M v1 p0) (p1 : (Key → Option Bool)) (p1v : Value) (p1h : FnS Try.prog M p1v (fun x => .agg (Key.C x).toArray) Value.bool p1) (r : Bool) (H : slices_ContainsFunc_Key p0 p1 = some r) :
    Calls Try.prog 31 [v1, p1v].toArray w (Post M w fun M' v => v = (.bool r)) := by
  refine enter 9 [(0, v1), (1, p1v)] Try.func31 rfl rfl rfl hM ?_
  intro Q hret
  unfold slices_ContainsFunc_Key at H
  refine c_seq ?_
  intro K3 hK3
  refine c_reg ?_
  refine w_val trivial rfl (fun a w hf hs => r_assign (hf.ev rfl)) ?_
  refine w_nil (hK3 _ _ _ ?_)
  refine c_seq ?_
  intro K4 hK4
  refine c_reg ?_
  refine w_val trivial rfl (fun a w hf hs => r_move (hf.ev rfl)) ?_
  refine w_val trivial rfl (fun a w hf hs => r_move (hf.ev rfl)) ?_
  obtain ⟨t5, e10, H⟩ := bnd H
  refine w_call cf28 trivial rfl rfl (fun w hs => slices_IndexFunc_Key.calls hs p0 v1 h2 p1 p1v p1h _ e10) ?_
  rintro _ M7 l8 rfl
  replace h2 := h2.mono l8
  replace p1h := p1h.mono l8
  refine w_val trivial rfl (fun a w hf hs => r_geq (hf.ev rfl) (hf.ev rfl)) ?_
  refine w_val trivial rfl (fun a w hf hs => r_assign (hf.ev rfl)) ?_
  refine w_nil (hK4 _ _ _ ?_)
  obtain rfl := some_r H
  refine c_ret ?_
  intro a w' hf hs
  exact hret _ (.inl rfl) a w' hf.df ⟨_, _, Res.of1 rfl (RV.t hf rfl), hs.ext, rfl⟩
set_option maxRecDepth 20000 in
theorem restore_Holds.calls {M : Heap} {w : World} (hM : Sub M w) (p0 : Table) (v1 : Value) (h2 : RS Key.F M v1 p0.Keys) (p1 : Backup) (v3 : Value) (h4 : RS Key.F M v3 p1.Keys) (p2 : Int) (r : Bool) (H : restore_Holds p0 p1 p2 = some r) :
    Calls Try.prog 16 [(.agg (Table.C p0 v1).toArray), (.agg (Backup.C p1 v3).toArray), (.int .i64 p2)].toArray w (Post M w fun M' v => v = (.bool r)) := by
  refine enter 12 [(0, (.agg (Table.C p0 v1).toArray)), (1, (.agg (Backup.C p1 v3).toArray)), (2, (.int .i64 p2))] Try.func16 rfl rfl rfl hM ?_
  intro Q hret
  unfold restore_Holds at H
  refine c_seq ?_
  intro K5 hK5
  refine c_reg ?_
  refine w_boxM trivial rfl rfl rfl ?_
  intro b6 M7 l8 h9
  replace h2 := h2.mono l8
  replace h4 := h4.mono l8
  refine w_boxM trivial rfl rfl rfl ?_
  intro b10 M11 l12 h13
  replace h2 := h2.mono l12
  replace h4 := h4.mono l12
  replace h9 := l12 _ _ h9
  refine w_boxM trivial rfl rfl rfl ?_
  intro b14 M15 l16 h17
  replace h2 := h2.mono l16
  replace h4 := h4.mono l16
  replace h9 := l16 _ _ h9
  replace h13 := l16 _ _ h13
  refine w_val trivial rfl (fun a w hf hs => r_assign (hf.ev rfl)) ?_
  refine w_nil (hK5 _ _ _ ?_)
  refine c_seq ?_
  intro K18 hK18
  refine c_reg ?_
  refine w_val trivial rfl (fun a w hf hs => r_fa fa28_7 (hf.ev rfl)) ?_
  refine w_val trivial rfl (fun a w hf hs => r_load1 ta22 (hf.ev rfl) (hs.sub _ _ h13) (Backup.g37 _ _)) ?_
  refine w_val trivial rfl (fun a w hf hs => r_makeFunc (hf.evs rfl)) ?_
  obtain ⟨t19, e24, H⟩ := bnd H
  refine w_call cf31 trivial rfl rfl (fun w hs => slices_ContainsFunc_Key.calls hs p1.Keys v3 h4 (fun x => restore_Holds_1 x p0 p2) (.func (.func 32) #[] #[(ptr b6 0), (ptr b14 0)]) (FnS.of cf32 fun M' w x r hM hs hp => Calls.mono (restore_Holds_1.calls hs x p0 b6 v1 (h2.mono hM) (hM _ _ h9) p2 b14 (hM _ _ h17) _ hp) fun e w' q => q) _ e24) ?_
  rintro _ M21 l22 rfl
  replace h2 := h2.mono l22
  replace h4 := h4.mono l22
  replace h9 := l22 _ _ h9
  replace h13 := l22 _ _ h13
  replace h17 := l22 _ _ h17
  refine w_val trivial rfl (fun a w hf hs => r_not (hf.ev rfl)) ?_
  refine w_val trivial rfl (fun a w hf hs => r_assign (hf.ev rfl)) ?_
  refine w_nil (hK18 _ _ _ ?_)
  obtain rfl := some_r H
  refine c_ret ?_
  intro a w' hf hs
  exact hret _ (.inl rfl) a w' hf.df ⟨_, _, Res.of1 rfl (RV.t hf rfl), hs.ext, rfl⟩
end Go.Cu
