/- Each Go function comes to its pure function; condition: that one is defined there. -/
import Derived.Test.Ytakfalfggmgcfaa1Wx1
import Derived.Test.Ytakfalfggmgcfaa1P
import Derived.Test.Ytakfalfggmgcfaa1S
import Derived.Shelf.Strings.Repeat
import Derived.Ground.NamesProg
import Derived.Lib.Agree
import Derived.Test.YtakfalfggmgcfaaProg
import Derived.KernelRfl
import Derived.Test.YtakfalfggmgcfaaCu18
set_option linter.unusedVariables false
set_option linter.unusedSimpArgs false
set_option maxHeartbeats 4000000
/-! The walks. -/
namespace Go.Cu
open Go.Proofs Go.Proofs.Try Go.Shelf
set_option maxRecDepth 20000 in
theorem ref37_Plan.calls {M : Heap} {w : World} (hM : Sub M w) (p0 : Table) (v1 : Value) (h2 : RS Key.F M v1 p0.Keys) (p1 : Backup) (v3 : Value) (h4 : RS Key.F M v3 p1.Keys) (p2 : Int) (r : ref37_Planned) (H : ref37_Plan p0 p1 p2 = some r) :
    Calls Try.prog 11 [(.agg (Table.C p0 v1).toArray), (.agg (Backup.C p1 v3).toArray), (.int .i64 p2)].toArray w (Post M w fun M' v => ∃ v175 v177, v = (.agg (ref37_Planned.C r v175 v177).toArray) ∧ RS Key.F M' v175 r.T.Keys ∧ RS (FI .i64) M' v177 r.Ids) := by
  refine enter 124 [(0, (.agg (Table.C p0 v1).toArray)), (1, (.agg (Backup.C p1 v3).toArray)), (2, (.int .i64 p2))] Try.func11 rfl rfl rfl hM ?_
  intro Q hret
  unfold ref37_Plan at H
  refine c_seq ?_
  intro K5 hK5
  refine c_reg ?_
  refine w_boxM trivial rfl rfl rfl ?_
  intro b6 M7 l8 h9
  replace h2 := h2.mono l8
  replace h4 := h4.mono l8
  refine w_boxM trivial rfl rfl rfl ?_
  intro b10 M11 l12 h13
  replace h2 := h2.mono l12
  replace h4 := h4.mono l12
  replace h9 := l12 _ _ h9
  refine w_allocL (A := ref37_Planned.C (⟨(⟨(0 : Int), ([] : (List Key))⟩ : Table), ([] : (List Int)), (0 : Int)⟩ : ref37_Planned) (.slice none 0 0) (.slice none 0 0)) tz41 trivial rfl rfl ?_
  intro b14
  refine w_nil (hK5 _ _ _ ?_)
  refine c_seq ?_
  intro K15 hK15
  refine c_reg ?_
  refine w_val trivial rfl (fun a w hf hs => r_loadA ta28 ts28 (hf.ev rfl) (hs.sub _ _ h13) (Backup.d0_38 _ _) (Backup.len _ _)) ?_
  obtain ⟨t16, e21, H⟩ := bnd H
  refine w_call cf20 trivial rfl rfl (fun w hs => ref36_Valid.calls hs p1 v3 h4 _ e21) ?_
  rintro _ M18 l19 rfl
  replace h2 := h2.mono l19
  replace h4 := h4.mono l19
  replace h9 := l19 _ _ h9
  replace h13 := l19 _ _ h13
  refine w_val trivial rfl (fun a w hf hs => r_assign (hf.ev rfl)) ?_
  refine w_nil (hK15 _ _ _ ?_)
  refine c_seq ?_
  intro K22 hK22
  obtain ⟨t23, H1, H⟩ := bnd H
  refine c_cut (fun a' w' => ∃ (M24 : Heap), HLe M18 M24 ∧ Fr 124 [(2, (.int .i64 p2)), (3, (ptr b6 0)), (4, (ptr b10 0)), (6, (ptr b14 0)), (28, (.bool t23))] a' ∧ St none' M w M24 (lt [.blk b14 (.cells (ref37_Planned.C (⟨(⟨(0 : Int), ([] : (List Key))⟩ : Table), ([] : (List Int)), (0 : Int)⟩ : ref37_Planned) (.slice none 0 0) (.slice none 0 0)).toArray 41 (0, 0))]) w') ?_ ?_
  · replace H := H1
    clear H1
    refine c_reg ?_
    refine w_val trivial rfl (fun a w hf hs => r_move (hf.ev rfl)) ?_
    refine w_val trivial rfl (fun a w hf hs => r_not (hf.ev rfl)) ?_
    refine w_val trivial rfl (fun a w hf hs => r_move (hf.ev rfl)) ?_
    by_cases b26 : (!t16) = true
    · replace H := if_t b26 H
      refine w_not (Nwt.of rfl rfl b26) rfl ?_
      refine w_not (Nwt.of rfl rfl b26) rfl ?_
      refine w_val trivial rfl (fun a w hf hs => r_pickT (hf.ev rfl) b26 (hf.ev rfl)) ?_
      refine w_val trivial rfl (fun a w hf hs => r_move (hf.ev rfl)) ?_
      refine w_not (Nwt.of rfl rfl rfl) rfl ?_
      refine w_not (Nwt.of rfl rfl rfl) rfl ?_
      refine w_val trivial rfl (fun a w hf hs => r_pickT (hf.ev rfl) rfl (hf.ev rfl)) ?_
      obtain rfl := some_r H
      refine w_nil ?_
      intro a w' hf hs
      exact ⟨_, (HLe.refl _), (((((hf.nil.add (hf.get _ _ rfl)).add (hf.get _ _ rfl)).add (hf.get _ _ rfl)).add (hf.get _ _ rfl)).add (hf.get _ _ rfl)), hs.sel [0] (by decide) rfl⟩
    · replace b26 := Bool.eq_false_iff.2 b26
      replace H := if_f b26 H
      refine w_val (Wnt.of rfl rfl b26) rfl (fun a w hf hs => r_move (hf.ev rfl)) ?_
      refine w_val (Wnt.of rfl rfl b26) rfl (fun a w hf hs => r_lss (hf.ev rfl) (hf.ev rfl)) ?_
      refine w_val trivial rfl (fun a w hf hs => r_pickF (hf.ev rfl) b26 (hf.ev rfl)) ?_
      refine w_val trivial rfl (fun a w hf hs => r_move (hf.ev rfl)) ?_
      by_cases b27 : (decide (p2 < (0 : Int))) = true
      · replace H := if_t b27 H
        refine w_not (Nwt.of rfl rfl b27) rfl ?_
        refine w_not (Nwt.of rfl rfl b27) rfl ?_
        refine w_val trivial rfl (fun a w hf hs => r_pickT (hf.ev rfl) b27 (hf.ev rfl)) ?_
        obtain rfl := some_r H
        refine w_nil ?_
        intro a w' hf hs
        exact ⟨_, (HLe.refl _), (((((hf.nil.add (hf.get _ _ rfl)).add (hf.get _ _ rfl)).add (hf.get _ _ rfl)).add (hf.get _ _ rfl)).add (hf.get _ _ rfl)), hs.sel [0] (by decide) rfl⟩
      · replace b27 := Bool.eq_false_iff.2 b27
        replace H := if_f b27 H
        refine w_val (Wnt.of rfl rfl b27) rfl (fun a w hf hs => r_move (hf.ev rfl)) ?_
        refine w_val (Wnt.of rfl rfl b27) rfl (fun a w hf hs => r_gtr (hf.ev rfl) (hf.ev rfl)) ?_
        refine w_val trivial rfl (fun a w hf hs => r_pickF (hf.ev rfl) b27 (hf.ev rfl)) ?_
        obtain rfl := some_r H
        refine w_nil ?_
        intro a w' hf hs
        exact ⟨_, (HLe.refl _), (((((hf.nil.add (hf.get _ _ rfl)).add (hf.get _ _ rfl)).add (hf.get _ _ rfl)).add (hf.get _ _ rfl)).add (hf.get _ _ rfl)), hs.sel [0] (by decide) rfl⟩
  · clear H1
    rintro a w' ⟨M24, l25, hf, hs⟩
    refine c_of (c := (Cx.mk Try.prog 124 none' M w)) ?_ hf hs
    clear hf hs
    replace h2 := h2.mono l25
    replace h4 := h4.mono l25
    replace h9 := l25 _ _ h9
    replace h13 := l25 _ _ h13
    refine c_if rfl (fun b28 => ?_) (fun b28 => ?_)
    · replace H := if_t b28 H
      refine c_seq ?_
      intro K29 hK29
      refine c_reg ?_
      refine w_val trivial rfl (fun a w hf hs => r_build (is := [2]) (xs := [.const (.int .i64 (1 : Int))]) (vs := [(.int .i64 (1 : Int))]) (A := ref37_Planned.C (⟨(⟨(0 : Int), ([] : (List Key))⟩ : Table), ([] : (List Int)), (1 : Int)⟩ : ref37_Planned) (.slice none 0 0) (.slice none 0 0)) rfl (hf.evs rfl) (built_of (pl := [(0, 2), (2, 1), (3, 1)]) (A0 := ref37_Planned.C (⟨(⟨(0 : Int), ([] : (List Key))⟩ : Table), ([] : (List Int)), (0 : Int)⟩ : ref37_Planned) (.slice none 0 0) (.slice none 0 0)) tz41 Try.underlying41 (by kernel_rfl) rfl (.cons (vs := [(.int .i64 (1 : Int))]) (B := ref37_Planned.C (⟨(⟨(0 : Int), ([] : (List Key))⟩ : Table), ([] : (List Int)), (1 : Int)⟩ : ref37_Planned) (.slice none 0 0) (.slice none 0 0)) rfl rfl rfl (by rw [ref37_Planned.len]; decide) rfl .nil))) ?_
      refine w_store (i := 0) (vs := ref37_Planned.C (⟨(⟨(0 : Int), ([] : (List Key))⟩ : Table), ([] : (List Int)), (1 : Int)⟩ : ref37_Planned) (.slice none 0 0) (.slice none 0 0)) (A' := ref37_Planned.C (⟨(⟨(0 : Int), ([] : (List Key))⟩ : Table), ([] : (List Int)), (1 : Int)⟩ : ref37_Planned) (.slice none 0 0) (.slice none 0 0)) trivial rfl rfl rfl rfl ts41 rfl (ref37_Planned.C_one _ rfl rfl) (Nat.le_of_ble_eq_true rfl) rfl ?_
      refine w_nil (hK29 _ _ _ ?_)
      obtain rfl := some_r H
      refine c_ret ?_
      intro a w' hf hs
      exact hret _ (.inl rfl) a w' hf.df ⟨_, _, Res.of1 rfl ⟨_, hf.get _ _ rfl, run_loadA (hs.blk (i := 0) rfl) ta41 ts41 rfl rfl⟩, hs.ext, ⟨_, _, rfl, RS.none, RS.none⟩⟩
    · replace H := if_f b28 H
      refine c_skip (hK22 _ _ _ ?_)
      refine c_seq ?_
      intro K30 hK30
      refine c_reg ?_
      refine w_val trivial rfl (fun a w hf hs => r_fa fa24_0 (hf.ev rfl)) ?_
      refine w_val trivial rfl (fun a w hf hs => r_load1 ta3 (hf.ev rfl) (hs.sub _ _ h9) rfl) ?_
      refine w_val trivial rfl (fun a w hf hs => r_build (is := [0]) (xs := [.tmp 31]) (vs := [(.int .i64 p0.Next)]) (A := Table.C (⟨p0.Next, ([] : (List Key))⟩ : Table) (.slice none 0 0)) rfl (hf.evs rfl) (built_of (pl := [(0, 1), (1, 1)]) (A0 := Table.C (⟨(0 : Int), ([] : (List Key))⟩ : Table) (.slice none 0 0)) tz24 Try.underlying24 (by kernel_rfl) rfl (.cons (vs := [(.int .i64 p0.Next)]) (B := Table.C (⟨p0.Next, ([] : (List Key))⟩ : Table) (.slice none 0 0)) rfl rfl rfl (by rw [Table.len]; decide) rfl .nil))) ?_
      refine w_val trivial rfl (fun a w hf hs => r_build (is := [0]) (xs := [.tmp 32]) (vs := [(.agg (Table.C (⟨p0.Next, ([] : (List Key))⟩ : Table) (.slice none 0 0)).toArray)]) (A := ref37_Planned.C (⟨(⟨p0.Next, ([] : (List Key))⟩ : Table), ([] : (List Int)), (0 : Int)⟩ : ref37_Planned) (.slice none 0 0) (.slice none 0 0)) rfl (hf.evs rfl) (built_of (pl := [(0, 2), (2, 1), (3, 1)]) (A0 := ref37_Planned.C (⟨(⟨(0 : Int), ([] : (List Key))⟩ : Table), ([] : (List Int)), (0 : Int)⟩ : ref37_Planned) (.slice none 0 0) (.slice none 0 0)) tz41 Try.underlying41 (by kernel_rfl) rfl (.cons (vs := Table.C (⟨p0.Next, ([] : (List Key))⟩ : Table) (.slice none 0 0)) (B := ref37_Planned.C (⟨(⟨p0.Next, ([] : (List Key))⟩ : Table), ([] : (List Int)), (0 : Int)⟩ : ref37_Planned) (.slice none 0 0) (.slice none 0 0)) rfl rfl (Table.len _ _) (by rw [ref37_Planned.len]; decide) rfl .nil))) ?_
      refine w_allocL (A := ref37_Planned.C (⟨(⟨(0 : Int), ([] : (List Key))⟩ : Table), ([] : (List Int)), (0 : Int)⟩ : ref37_Planned) (.slice none 0 0) (.slice none 0 0)) tz41 trivial rfl rfl ?_
      intro b31
      refine w_store (i := 1) (vs := ref37_Planned.C (⟨(⟨p0.Next, ([] : (List Key))⟩ : Table), ([] : (List Int)), (0 : Int)⟩ : ref37_Planned) (.slice none 0 0) (.slice none 0 0)) (A' := ref37_Planned.C (⟨(⟨p0.Next, ([] : (List Key))⟩ : Table), ([] : (List Int)), (0 : Int)⟩ : ref37_Planned) (.slice none 0 0) (.slice none 0 0)) trivial rfl rfl rfl rfl ts41 rfl (ref37_Planned.C_one _ rfl rfl) (Nat.le_of_ble_eq_true rfl) rfl ?_
      refine w_nil (hK30 _ _ _ ?_)
      refine c_seq ?_
      intro K32 hK32
      refine c_reg ?_
      refine w_val trivial rfl (fun a w hf hs => r_fa fa41_0 (hf.ev rfl)) ?_
      refine w_val trivial rfl (fun a w hf hs => r_fa fa24_1 (hf.ev rfl)) ?_
      refine w_val trivial rfl (fun a w hf hs => r_load1 ta22 (hf.ev rfl) (hs.blk (i := 1) rfl) rfl) ?_
      refine w_val trivial rfl (fun a w hf hs => r_fa fa24_1 (hf.ev rfl)) ?_
      refine w_val trivial rfl (fun a w hf hs => r_load1 ta22 (hf.ev rfl) (hs.sub _ _ h9) rfl) ?_
      obtain ⟨g33, H⟩ := grd_s H
      refine w_row0 30 9 ?_
      refine w_app (F := Key.F) (m2 := p0.Keys) (i := 2) Try.underlying22 te30 Try.underlying22 (.inl ⟨_, rfl⟩) trivial rfl rfl rfl rfl (Src.rs Key.F_one h2) g33 ?_
      intro v34
      refine w_val trivial rfl (fun a w hf hs => r_fa fa41_0 (hf.ev rfl)) ?_
      refine w_val trivial rfl (fun a w hf hs => r_fa fa24_1 (hf.ev rfl)) ?_
      refine w_rcell 2 rfl ?_
      intro q35
      refine w_store (i := 1) (vs := [v34]) (A' := ref37_Planned.C (⟨(⟨p0.Next, (([] : (List Key)) ++ p0.Keys)⟩ : Table), ([] : (List Int)), (0 : Int)⟩ : ref37_Planned) v34 (.slice none 0 0)) trivial rfl rfl rfl q35.1 ts22 rfl (one1 q35.2) (Nat.le_of_ble_eq_true rfl) rfl ?_
      refine w_L [.blk b14 (.cells (ref37_Planned.C (⟨(⟨(0 : Int), ([] : (List Key))⟩ : Table), ([] : (List Int)), (0 : Int)⟩ : ref37_Planned) (.slice none 0 0) (.slice none 0 0)).toArray 41 (0, 0)), .blk b31 (.cells (ref37_Planned.C (⟨(⟨p0.Next, (([] : (List Key)) ++ p0.Keys)⟩ : Table), ([] : (List Int)), (0 : Int)⟩ : ref37_Planned) v34 (.slice none 0 0)).toArray 41 (0, 0)), rowI Key.F v34 30 (([] : (List Key)) ++ p0.Keys)] rfl ?_
      refine w_nil (hK32 _ _ _ ?_)
      refine c_seq ?_
      intro K36 hK36
      refine c_reg ?_
      refine w_val trivial rfl (fun a w hf hs => r_assign (hf.ev rfl)) ?_
      refine w_nil (hK36 _ _ _ ?_)
      refine c_row0 3 1 ?_
      refine c_cut (fun a' w' => ∃ (x37 : ref37_Planned) (v38 : Value) (v40 : Value) (M41 : Heap), HLe M24 M41 ∧ RS Key.F M41 v38 x37.T.Keys ∧ Fr 124 [(6, (ptr b14 0)), (8, (ptr b31 0))] a' ∧ St none' M w M41 (lt [.blk b14 (.cells (ref37_Planned.C (⟨(⟨(0 : Int), ([] : (List Key))⟩ : Table), ([] : (List Int)), (0 : Int)⟩ : ref37_Planned) (.slice none 0 0) (.slice none 0 0)).toArray 41 (0, 0)), .blk b31 (.cells (ref37_Planned.C x37 v38 v40).toArray 41 (0, 0)), dead, rowI (FI .i64) v40 3 x37.Ids]) w' ∧ ref37_Plan.j1 x37 = some r) ?_ ?_
      · refine c_seq ?_
        intro K48 hK48
        refine c_reg ?_
        refine w_val trivial rfl (fun a w hf hs => r_assign (hf.ev rfl)) ?_
        refine w_nil (hK48 _ _ _ ?_)
        refine c_block ?_
        refine c_give 2 rfl (fun _ h => h) ?_
        intro M49 l50 h51
        replace h2 := h2.mono l50
        replace h4 := h4.mono l50
        replace h9 := l50 _ _ h9
        replace h13 := l50 _ _ h13
        refine c_row0 64 2 ?_
        refine c_loop (fun (s52 : (ref37_Planned × (List ref37_pair) × Int)) a' w' => ∃ (v53 : Value) (v55 : Value) (v56 : Value) (M57 : Heap), HLe M49 M57 ∧ RS Key.F M57 v53 s52.1.T.Keys ∧ Fr 124 [(2, (.int .i64 p2)), (4, (ptr b10 0)), (6, (ptr b14 0)), (8, (ptr b31 0)), (9, v56), (10, (.int .i64 s52.2.2))] a' ∧ St none' M w M57 (lt [.blk b14 (.cells (ref37_Planned.C (⟨(⟨(0 : Int), ([] : (List Key))⟩ : Table), ([] : (List Int)), (0 : Int)⟩ : ref37_Planned) (.slice none 0 0) (.slice none 0 0)).toArray 41 (0, 0)), .blk b31 (.cells (ref37_Planned.C s52.1 v53 v55).toArray 41 (0, 0)), dead, rowI (FI .i64) v55 3 s52.1.Ids, rowI ref37_pair.F v56 64 s52.2.1]) w') ((⟨(⟨p0.Next, (([] : (List Key)) ++ p0.Keys)⟩ : Table), ([] : (List Int)), (0 : Int)⟩ : ref37_Planned), ([] : (List ref37_pair)), (0 : Int)) H ?_ ?_
        · intro a w' hf hs
          exact ⟨v34, (.slice none 0 0), (.slice none 0 0), _, HLe.refl _, h51, ((((((hf.nil.add (hf.get _ _ rfl)).add (hf.get _ _ rfl)).add (hf.get _ _ rfl)).add (hf.get _ _ rfl)).add (hf.get _ _ rfl)).add (hf.get _ _ rfl)), hs.selD [some 0, some 1, none, some 3, some 4] (by decide) rfl⟩
        · clear H
          intro s52 y60 H r59 a w' hJ
          obtain ⟨v53, v55, v56, M57, l58, h54, hf, hs⟩ := hJ
          refine c_of (c := (Cx.mk Try.prog 124 none' M w)) ?_ hf hs
          unfold ref37_Plan.l6 at H
          clear hf hs
          replace h2 := h2.mono l58
          replace h4 := h4.mono l58
          replace h9 := l58 _ _ h9
          replace h13 := l58 _ _ h13
          replace h51 := h51.mono l58
          refine c_seq ?_
          intro K61 hK61
          refine c_seq ?_
          intro K62 hK62
          refine c_reg ?_
          refine w_val trivial rfl (fun a w hf hs => r_move (hf.ev rfl)) ?_
          refine w_val trivial rfl (fun a w hf hs => r_fa fa28_7 (hf.ev rfl)) ?_
          refine w_val trivial rfl (fun a w hf hs => r_load1 ta22 (hf.ev rfl) (hs.sub _ _ h13) (Backup.g37 _ _)) ?_
          refine w_val trivial rfl (fun a w hf hs => r_lenR Try.underlying22 h4 (hf.ev rfl)) ?_
          refine w_val trivial rfl (fun a w hf hs => r_lss (hf.ev rfl) (hf.ev rfl)) ?_
          refine w_nil (hK62 _ _ _ ?_)
          refine c_if rfl (fun b63 => ?_) (fun b63 => ?_)
          · replace H := if_t b63 H
            refine c_skip (hK61 _ _ _ ?_)
            refine c_cut (fun a' w' => ∃ (x64 : ref37_Planned) (v65 : Value) (v67 : Value) (x68 : (List ref37_pair)) (v69 : Value) (M70 : Heap), HLe M57 M70 ∧ RS Key.F M70 v65 x64.T.Keys ∧ Fr 124 [(2, (.int .i64 p2)), (4, (ptr b10 0)), (6, (ptr b14 0)), (8, (ptr b31 0)), (9, v69), (10, (.int .i64 s52.2.2))] a' ∧ St none' M w M70 (lt [.blk b14 (.cells (ref37_Planned.C (⟨(⟨(0 : Int), ([] : (List Key))⟩ : Table), ([] : (List Int)), (0 : Int)⟩ : ref37_Planned) (.slice none 0 0) (.slice none 0 0)).toArray 41 (0, 0)), .blk b31 (.cells (ref37_Planned.C x64 v65 v67).toArray 41 (0, 0)), dead, rowI (FI .i64) v67 3 x64.Ids, rowI ref37_pair.F v69 64 x68]) w' ∧ ref37_Plan.j2 x64 x68 s52 = some y60) ?_ ?_
            · refine c_block ?_
              refine c_seq ?_
              intro K72 hK72
              refine c_reg ?_
              refine w_val trivial rfl (fun a w hf hs => r_fa fa28_7 (hf.ev rfl)) ?_
              refine w_val trivial rfl (fun a w hf hs => r_load1 ta22 (hf.ev rfl) (hs.sub _ _ h13) (Backup.g37 _ _)) ?_
              refine w_val trivial rfl (fun a w hf hs => r_move (hf.ev rfl)) ?_
              obtain ⟨g73, H⟩ := grd_s H
              refine w_val trivial rfl (fun a w hf hs => r_iR Try.underlying22 ts30 h4 (hf.ev rfl) (hf.ev rfl) g73.1 g73.2) ?_
              refine w_val trivial rfl (fun a w hf hs => r_loadEA ta30 ts30 h4 hs.sub g73.1 g73.2 (hf.ev rfl) rfl rfl) ?_
              refine w_allocL (A := Key.C (⟨(0 : Int), (0 : Int), ([] : List UInt8), (0 : Int), (0 : Int), (0 : Int), (0 : Int), (0 : Int), false⟩ : Key)) tz30 trivial rfl rfl ?_
              intro b74
              refine w_L [.blk b14 (.cells (ref37_Planned.C (⟨(⟨(0 : Int), ([] : (List Key))⟩ : Table), ([] : (List Int)), (0 : Int)⟩ : ref37_Planned) (.slice none 0 0) (.slice none 0 0)).toArray 41 (0, 0)), .blk b31 (.cells (ref37_Planned.C s52.1 v53 v55).toArray 41 (0, 0)), dead, rowI (FI .i64) v55 3 s52.1.Ids, rowI ref37_pair.F v56 64 s52.2.1, .blk b74 (.cells (Key.C (⟨(0 : Int), (0 : Int), ([] : List UInt8), (0 : Int), (0 : Int), (0 : Int), (0 : Int), (0 : Int), false⟩ : Key)).toArray 30 (0, 0))] rfl ?_
              refine w_store (i := 5) (vs := Key.C (rd p1.Keys s52.2.2)) (A' := Key.C (rd p1.Keys s52.2.2)) trivial rfl rfl rfl rfl ts30 rfl (Key.F_one _) (Nat.le_of_ble_eq_true rfl) rfl ?_
              refine w_L [.blk b14 (.cells (ref37_Planned.C (⟨(⟨(0 : Int), ([] : (List Key))⟩ : Table), ([] : (List Int)), (0 : Int)⟩ : ref37_Planned) (.slice none 0 0) (.slice none 0 0)).toArray 41 (0, 0)), .blk b31 (.cells (ref37_Planned.C s52.1 v53 v55).toArray 41 (0, 0)), dead, rowI (FI .i64) v55 3 s52.1.Ids, rowI ref37_pair.F v56 64 s52.2.1, .blk b74 (.cells (Key.C (rd p1.Keys s52.2.2)).toArray 30 (0, 0))] rfl ?_
              refine w_nil (hK72 _ _ _ ?_)
              refine c_seq ?_
              intro K75 hK75
              refine c_seq ?_
              intro K76 hK76
              refine c_reg ?_
              refine w_val trivial rfl (fun a w hf hs => r_fa fa30_5 (hf.ev rfl)) ?_
              refine w_val trivial rfl (fun a w hf hs => r_load1 ta3 (hf.ev rfl) (hs.blk (i := 5) rfl) rfl) ?_
              refine w_val trivial rfl (fun a w hf hs => r_move (hf.ev rfl)) ?_
              refine w_val trivial rfl (fun a w hf hs => r_leq (hf.ev rfl) (hf.ev rfl)) ?_
              refine w_nil (hK76 _ _ _ ?_)
              refine c_if rfl (fun b77 => ?_) (fun b77 => ?_)
              · replace H := if_t b77 H
                refine c_exit ?_
                intro a w' hf hs
                exact ⟨s52.1, v53, v55, s52.2.1, v56, _, (HLe.refl _), h54, ((((((hf.nil.add (hf.get _ _ rfl)).add (hf.get _ _ rfl)).add (hf.get _ _ rfl)).add (hf.get _ _ rfl)).add (hf.get _ _ rfl)).add (hf.get _ _ rfl)), hs.selD [some 0, some 1, none, some 3, some 4] (by decide) rfl, H⟩
              · replace H := if_f b77 H
                refine c_skip (hK75 _ _ _ ?_)
                refine c_seq ?_
                intro K78 hK78
                refine c_reg ?_
                refine w_val trivial rfl (fun a w hf hs => r_fa fa41_0 (hf.ev rfl)) ?_
                refine w_val trivial rfl (fun a w hf hs => r_loadA ta24 ts24 (hf.ev rfl) (hs.blk (i := 1) rfl) rfl rfl) ?_
                refine w_val trivial rfl (fun a w hf hs => r_loadA ta30 ts30 (hf.ev rfl) (hs.blk (i := 5) rfl) rfl rfl) ?_
                obtain ⟨t79, e84, H⟩ := bnd H
                refine w_call cf13 trivial rfl rfl (fun w hs => ref37_Twin.calls hs s52.1.T v53 h54 (rd p1.Keys s52.2.2) _ e84) ?_
                rintro _ M81 l82 rfl
                replace h2 := h2.mono l82
                replace h4 := h4.mono l82
                replace h9 := l82 _ _ h9
                replace h13 := l82 _ _ h13
                replace h51 := h51.mono l82
                replace h54 := h54.mono l82
                refine w_val trivial rfl (fun a w hf hs => r_move (hf.ev rfl)) ?_
                refine w_val trivial rfl (fun a w hf hs => r_extract (hf.ev rfl) rfl) ?_
                refine w_val trivial rfl (fun a w hf hs => r_extract (hf.ev rfl) rfl) ?_
                refine w_val trivial rfl (fun a w hf hs => r_assign (hf.ev rfl)) ?_
                refine w_val trivial rfl (fun a w hf hs => r_assign (hf.ev rfl)) ?_
                refine w_nil (hK78 _ _ _ ?_)
                refine c_seq ?_
                intro K85 hK85
                refine c_seq ?_
                intro K86 hK86
                refine c_reg ?_
                refine w_val trivial rfl (fun a w hf hs => r_move (hf.ev rfl)) ?_
                refine w_nil (hK86 _ _ _ ?_)
                refine c_if rfl (fun b87 => ?_) (fun b87 => ?_)
                · replace H := if_t b87 H
                  refine c_seq ?_
                  intro K88 hK88
                  refine c_reg ?_
                  refine w_val trivial rfl (fun a w hf hs => r_move (hf.ev rfl)) ?_
                  refine w_val trivial rfl (fun a w hf hs => r_fa fa30_0 (hf.ev rfl)) ?_
                  refine w_val trivial rfl (fun a w hf hs => r_load1 ta3 (hf.ev rfl) (hs.blk (i := 5) rfl) rfl) ?_
                  refine w_val trivial rfl (fun a w hf hs => r_move (hf.ev rfl)) ?_
                  refine w_val trivial rfl (fun a w hf hs => r_build (is := [0, 1]) (xs := [.tmp 68, .tmp 69]) (vs := [(.int .i64 ((rd p1.Keys s52.2.2).Id)), (.int .i64 t79.1)]) (A := ref37_pair.C (⟨(rd p1.Keys s52.2.2).Id, t79.1⟩ : ref37_pair)) rfl (hf.evs rfl) (by kernel_rfl)) ?_
                  refine w_bsl (F := ref37_pair.F) (es := ([(⟨(rd p1.Keys s52.2.2).Id, t79.1⟩ : ref37_pair)] : List ref37_pair)) (xs := [.tmp 70]) (vs := [(.agg (ref37_pair.C (⟨(rd p1.Keys s52.2.2).Id, t79.1⟩ : ref37_pair)).toArray)]) Try.underlying62 te64 trivial rfl rfl rfl rfl rfl (by decide) ?_
                  intro v89 M90 l91 h92 c93
                  replace h2 := h2.mono l91
                  replace h4 := h4.mono l91
                  replace h9 := l91 _ _ h9
                  replace h13 := l91 _ _ h13
                  replace h51 := h51.mono l91
                  replace h54 := h54.mono l91
                  obtain ⟨g94, H⟩ := grd_s H
                  refine w_app (F := ref37_pair.F) (m2 := ([(⟨(rd p1.Keys s52.2.2).Id, t79.1⟩ : ref37_pair)] : List ref37_pair)) (i := 4) Try.underlying62 te64 Try.underlying62 (.inl ⟨_, rfl⟩) trivial rfl rfl rfl rfl (Src.rs ref37_pair.F_one h92) g94 ?_
                  intro v95
                  refine w_val trivial rfl (fun a w hf hs => r_assign (hf.ev rfl)) ?_
                  refine w_nil (hK88 _ _ _ ?_)
                  refine c_exit ?_
                  intro a w' hf hs
                  exact ⟨s52.1, v53, v55, (s52.2.1 ++ ([(⟨(rd p1.Keys s52.2.2).Id, t79.1⟩ : ref37_pair)] : List ref37_pair)), v95, _, (l82.trans l91), h54, ((((((hf.nil.add (hf.get _ _ rfl)).add (hf.get _ _ rfl)).add (hf.get _ _ rfl)).add (hf.get _ _ rfl)).add (hf.get _ _ rfl)).add (hf.get _ _ rfl)), hs.selD [some 0, some 1, none, some 3, some 4] (by decide) rfl, H⟩
                · replace H := if_f b87 H
                  refine c_skip (hK85 _ _ _ ?_)
                  refine c_seq ?_
                  intro K96 hK96
                  refine c_reg ?_
                  refine w_val trivial rfl (fun a w hf hs => r_assign (hf.ev rfl)) ?_
                  refine w_nil (hK96 _ _ _ ?_)
                  refine c_cut (fun a' w' => ∃ (x97 : Int) (M98 : Heap), HLe M81 M98 ∧ Fr 124 [(2, (.int .i64 p2)), (4, (ptr b10 0)), (6, (ptr b14 0)), (8, (ptr b31 0)), (9, v56), (10, (.int .i64 s52.2.2)), (11, (ptr b74 0)), (14, (.int .i64 x97))] a' ∧ St none' M w M98 (lt [.blk b14 (.cells (ref37_Planned.C (⟨(⟨(0 : Int), ([] : (List Key))⟩ : Table), ([] : (List Int)), (0 : Int)⟩ : ref37_Planned) (.slice none 0 0) (.slice none 0 0)).toArray 41 (0, 0)), .blk b31 (.cells (ref37_Planned.C s52.1 v53 v55).toArray 41 (0, 0)), dead, rowI (FI .i64) v55 3 s52.1.Ids, rowI ref37_pair.F v56 64 s52.2.1, .blk b74 (.cells (Key.C (rd p1.Keys s52.2.2)).toArray 30 (0, 0))]) w' ∧ ref37_Plan.j3 s52 p1 x97 = some y60) ?_ ?_
                  · refine c_seq ?_
                    intro K133 hK133
                    refine c_reg ?_
                    refine w_val trivial rfl (fun a w hf hs => r_assign (hf.ev rfl)) ?_
                    refine w_nil (hK133 _ _ _ ?_)
                    refine c_block ?_
                    refine c_loop (fun (s134 : (Int × Int)) a' w' => ∃ (M135 : Heap), HLe M81 M135 ∧ Fr 124 [(2, (.int .i64 p2)), (4, (ptr b10 0)), (6, (ptr b14 0)), (8, (ptr b31 0)), (9, v56), (10, (.int .i64 s52.2.2)), (11, (ptr b74 0)), (14, (.int .i64 s134.1)), (15, (.int .i64 s134.2))] a' ∧ St none' M w M135 (lt [.blk b14 (.cells (ref37_Planned.C (⟨(⟨(0 : Int), ([] : (List Key))⟩ : Table), ([] : (List Int)), (0 : Int)⟩ : ref37_Planned) (.slice none 0 0) (.slice none 0 0)).toArray 41 (0, 0)), .blk b31 (.cells (ref37_Planned.C s52.1 v53 v55).toArray 41 (0, 0)), dead, rowI (FI .i64) v55 3 s52.1.Ids, rowI ref37_pair.F v56 64 s52.2.1, .blk b74 (.cells (Key.C (rd p1.Keys s52.2.2)).toArray 30 (0, 0))]) w') ((0 : Int), (0 : Int)) H ?_ ?_
                    · intro a w' hf hs
                      exact ⟨_, HLe.refl _, (((((((((hf.nil.add (hf.get _ _ rfl)).add (hf.get _ _ rfl)).add (hf.get _ _ rfl)).add (hf.get _ _ rfl)).add (hf.get _ _ rfl)).add (hf.get _ _ rfl)).add (hf.get _ _ rfl)).add (hf.get _ _ rfl)).add (hf.get _ _ rfl)), hs.selD [some 0, some 1, none, some 3, some 4, some 5] (by decide) rfl⟩
                    · clear H
                      intro s134 y138 H r137 a w' hJ
                      obtain ⟨M135, l136, hf, hs⟩ := hJ
                      refine c_of (c := (Cx.mk Try.prog 124 none' M w)) ?_ hf hs
                      unfold ref37_Plan.l5 at H
                      clear hf hs
                      replace h2 := h2.mono l136
                      replace h4 := h4.mono l136
                      replace h9 := l136 _ _ h9
                      replace h13 := l136 _ _ h13
                      replace h51 := h51.mono l136
                      replace h54 := h54.mono l136
                      refine c_seq ?_
                      intro K139 hK139
                      refine c_seq ?_
                      intro K140 hK140
                      refine c_reg ?_
                      refine w_val trivial rfl (fun a w hf hs => r_move (hf.ev rfl)) ?_
                      refine w_val trivial rfl (fun a w hf hs => r_move (hf.ev rfl)) ?_
                      refine w_val trivial rfl (fun a w hf hs => r_lenW 4 hs rfl Try.underlying62 (hf.ev rfl)) ?_
                      refine w_val trivial rfl (fun a w hf hs => r_lss (hf.ev rfl) (hf.ev rfl)) ?_
                      refine w_nil (hK140 _ _ _ ?_)
                      refine c_if rfl (fun b141 => ?_) (fun b141 => ?_)
                      · replace H := if_t b141 H
                        refine c_skip (hK139 _ _ _ ?_)
                        refine c_cut (fun a' w' => ∃ (x142 : Int) (M143 : Heap), HLe M135 M143 ∧ Fr 124 [(2, (.int .i64 p2)), (4, (ptr b10 0)), (6, (ptr b14 0)), (8, (ptr b31 0)), (9, v56), (10, (.int .i64 s52.2.2)), (11, (ptr b74 0)), (14, (.int .i64 x142)), (15, (.int .i64 s134.2))] a' ∧ St none' M w M143 (lt [.blk b14 (.cells (ref37_Planned.C (⟨(⟨(0 : Int), ([] : (List Key))⟩ : Table), ([] : (List Int)), (0 : Int)⟩ : ref37_Planned) (.slice none 0 0) (.slice none 0 0)).toArray 41 (0, 0)), .blk b31 (.cells (ref37_Planned.C s52.1 v53 v55).toArray 41 (0, 0)), dead, rowI (FI .i64) v55 3 s52.1.Ids, rowI ref37_pair.F v56 64 s52.2.1, .blk b74 (.cells (Key.C (rd p1.Keys s52.2.2)).toArray 30 (0, 0))]) w' ∧ ref37_Plan.j4 x142 s134 = some y138) ?_ ?_
                        · refine c_block ?_
                          refine c_seq ?_
                          intro K145 hK145
                          obtain ⟨g154, H⟩ := grd_s H
                          refine c_drawP [([], [9]), ([], [15]), ([(0, 79), (1, 80)], []), ([(2, 81)], []), ([(3, 82)], []), ([], [11]), ([(5, 84)], []), ([(4, 83), (6, 85)], [])] [fun v M => v = v56, fun v M => v = (.int .i64 s134.2), fun v M => v = (eP v56 s134.2 2 0), fun v M => v = (eP v56 s134.2 2 0), fun v M => v = (.int .i64 ((rd s52.2.1 s134.2).of_)), fun v M => v = (ptr b74 7), fun v M => v = (.int .i64 ((rd p1.Keys s52.2.2).Parent)), fun v M => v = (.bool (((rd s52.2.1 s134.2).of_) == ((rd p1.Keys s52.2.2).Parent)))] (by kernel_rfl) (by kernel_rfl) ?_ (AllT.cons ?_ (AllT.cons ?_ (AllT.cons ?_ (AllT.cons ?_ (AllT.cons ?_ (AllT.cons ?_ (AllT.cons ?_ (AllT.cons ?_ AllT.nil)))))))) ?_
                          · exact (MonoA.cons (fun _ _ _ _ h => h) (MonoA.cons (fun _ _ _ _ h => h) (MonoA.cons (fun _ _ _ _ h => h) (MonoA.cons (fun _ _ _ _ h => h) (MonoA.cons (fun _ _ _ _ h => h) (MonoA.cons (fun _ _ _ _ h => h) (MonoA.cons (fun _ _ _ _ h => h) (MonoA.cons (fun _ _ _ _ h => h) MonoA.nil))))))))
                          · intro a w' M146 l147 hd hs
                            refine OP.ofW (l := [(9, v56)]) (hd.fr.add (hd.base 9 _ rfl rfl)) hs rfl ?_
                            refine w_val trivial rfl (fun a w hf hs => r_move (hf.ev rfl)) ?_
                            refine w_nil ?_
                            intro a w' hf hs
                            exact ⟨rfl, hf.df, _, (HLe.refl _), hs, hf.get _ _ rfl⟩
                          · intro a w' M148 l149 hd hs
                            refine OP.ofW (l := [(15, (.int .i64 s134.2))]) (hd.fr.add (hd.base 15 _ rfl rfl)) hs rfl ?_
                            refine w_val trivial rfl (fun a w hf hs => r_move (hf.ev rfl)) ?_
                            refine w_nil ?_
                            intro a w' hf hs
                            exact ⟨rfl, hf.df, _, (HLe.refl _), hs, hf.get _ _ rfl⟩
                          · intro a w' M150 l151 hd hs
                            have e152 := hd.val 0 79 _ rfl rfl
                            have e153 := hd.val 1 80 _ rfl rfl
                            refine OP.ofW (l := [(79, v56), (80, (.int .i64 s134.2))]) ((hd.fr.add e153).add e152) hs rfl ?_
                            refine w_val trivial rfl (fun a w hf hs => r_iW 4 hs rfl Try.underlying62 ts64 (hf.ev rfl) (hf.ev rfl) g154.1 g154.2) ?_
                            refine w_nil ?_
                            intro a w' hf hs
                            exact ⟨rfl, hf.df, _, (HLe.refl _), hs, hf.get _ _ rfl⟩
                          · intro a w' M155 l156 hd hs
                            have e157 := hd.val 2 81 _ rfl rfl
                            refine OP.ofW (l := [(81, (eP v56 s134.2 2 0))]) (hd.fr.add e157) hs rfl ?_
                            refine w_val trivial rfl (fun a w hf hs => r_faW 4 fa64_0 hs rfl g154.1 g154.2 (hf.ev rfl)) ?_
                            refine w_nil ?_
                            intro a w' hf hs
                            exact ⟨rfl, hf.df, _, (HLe.refl _), hs, hf.get _ _ rfl⟩
                          · intro a w' M158 l159 hd hs
                            have e160 := hd.val 3 82 _ rfl rfl
                            refine OP.ofW (l := [(82, (eP v56 s134.2 2 0))]) (hd.fr.add e160) hs rfl ?_
                            refine w_val trivial rfl (fun a w hf hs => r_loadW1 4 ta3 hs rfl g154.1 g154.2 (hf.ev rfl) rfl) ?_
                            refine w_nil ?_
                            intro a w' hf hs
                            exact ⟨rfl, hf.df, _, (HLe.refl _), hs, hf.get _ _ rfl⟩
                          · intro a w' M161 l162 hd hs
                            refine OP.ofW (l := [(11, (ptr b74 0))]) (hd.fr.add (hd.base 11 _ rfl rfl)) hs rfl ?_
                            refine w_val trivial rfl (fun a w hf hs => r_fa fa30_7 (hf.ev rfl)) ?_
                            refine w_nil ?_
                            intro a w' hf hs
                            exact ⟨rfl, hf.df, _, (HLe.refl _), hs, hf.get _ _ rfl⟩
                          · intro a w' M163 l164 hd hs
                            have e165 := hd.val 5 84 _ rfl rfl
                            refine OP.ofW (l := [(84, (ptr b74 7))]) (hd.fr.add e165) hs rfl ?_
                            refine w_val trivial rfl (fun a w hf hs => r_load1 ta3 (hf.ev rfl) (hs.blk (i := 5) rfl) rfl) ?_
                            refine w_nil ?_
                            intro a w' hf hs
                            exact ⟨rfl, hf.df, _, (HLe.refl _), hs, hf.get _ _ rfl⟩
                          · intro a w' M166 l167 hd hs
                            have e168 := hd.val 4 83 _ rfl rfl
                            have e169 := hd.val 6 85 _ rfl rfl
                            refine OP.ofW (l := [(83, (.int .i64 ((rd s52.2.1 s134.2).of_))), (85, (.int .i64 ((rd p1.Keys s52.2.2).Parent)))]) ((hd.fr.add e169).add e168) hs rfl ?_
                            refine w_val trivial rfl (fun a w hf hs => r_eql (hf.ev rfl) (hf.ev rfl)) ?_
                            refine w_nil ?_
                            intro a w' hf hs
                            exact ⟨rfl, hf.df, _, (HLe.refl _), hs, hf.get _ _ rfl⟩
                          intro a w' M170 l171 hdf hsz hb hv hs
                          replace h2 := h2.mono l171
                          replace h4 := h4.mono l171
                          replace h9 := l171 _ _ h9
                          replace h13 := l171 _ _ h13
                          replace h51 := h51.mono l171
                          replace h54 := h54.mono l171
                          have e172 := hv 7 86 _ rfl rfl
                          refine n_of (c := (Cx.mk Try.prog 124 none' M w)) (l := [(2, (.int .i64 p2)), (4, (ptr b10 0)), (6, (ptr b14 0)), (8, (ptr b31 0)), (9, v56), (10, (.int .i64 s52.2.2)), (11, (ptr b74 0)), (14, (.int .i64 s134.1)), (15, (.int .i64 s134.2)), (86, (.bool (((rd s52.2.1 s134.2).of_) == ((rd p1.Keys s52.2.2).Parent))))]) ?_ (((((((((((Fr.start hdf hsz).add e172).add (hb 15 _ rfl rfl)).add (hb 14 _ rfl rfl)).add (hb 11 _ rfl rfl)).add (hb 10 _ rfl rfl)).add (hb 9 _ rfl rfl)).add (hb 8 _ rfl rfl)).add (hb 6 _ rfl rfl)).add (hb 4 _ rfl rfl)).add (hb 2 _ rfl rfl)) hs
                          clear hdf hsz hb hv hs e172
                          refine n_id (hK145 _ _ _ ?_)
                          refine c_if rfl (fun b173 => ?_) (fun b173 => ?_)
                          · replace H := if_t b173 H
                            refine c_reg ?_
                            refine w_val trivial rfl (fun a w hf hs => r_move (hf.ev rfl)) ?_
                            refine w_val trivial rfl (fun a w hf hs => r_move (hf.ev rfl)) ?_
                            obtain ⟨g174, H⟩ := grd_s H
                            refine w_val trivial rfl (fun a w hf hs => r_iW 4 hs rfl Try.underlying62 ts64 (hf.ev rfl) (hf.ev rfl) g174.1 g174.2) ?_
                            refine w_val trivial rfl (fun a w hf hs => r_faW 4 fa64_1 hs rfl g174.1 g174.2 (hf.ev rfl)) ?_
                            refine w_val trivial rfl (fun a w hf hs => r_loadW1 4 ta3 hs rfl g174.1 g174.2 (hf.ev rfl) rfl) ?_
                            refine w_val trivial rfl (fun a w hf hs => r_assign (hf.ev rfl)) ?_
                            refine w_nil ?_
                            intro a w' hf hs
                            exact ⟨((rd s52.2.1 s134.2).to_), _, l171, (((((((((hf.nil.add (hf.get _ _ rfl)).add (hf.get _ _ rfl)).add (hf.get _ _ rfl)).add (hf.get _ _ rfl)).add (hf.get _ _ rfl)).add (hf.get _ _ rfl)).add (hf.get _ _ rfl)).add (hf.get _ _ rfl)).add (hf.get _ _ rfl)), hs.selD [some 0, some 1, none, some 3, some 4, some 5] (by decide) rfl, H⟩
                          · replace H := if_f b173 H
                            refine c_skip ?_
                            intro a w' hf hs
                            exact ⟨s134.1, _, l171, (((((((((hf.nil.add (hf.get _ _ rfl)).add (hf.get _ _ rfl)).add (hf.get _ _ rfl)).add (hf.get _ _ rfl)).add (hf.get _ _ rfl)).add (hf.get _ _ rfl)).add (hf.get _ _ rfl)).add (hf.get _ _ rfl)).add (hf.get _ _ rfl)), hs.selD [some 0, some 1, none, some 3, some 4, some 5] (by decide) rfl, H⟩
                        · rintro a w' ⟨x142, M143, l144, hf, hs, H⟩
                          refine c_of (c := (Cx.mk Try.prog 124 none' M w)) ?_ hf hs
                          unfold ref37_Plan.j4 at H
                          clear hf hs
                          replace h2 := h2.mono l144
                          replace h4 := h4.mono l144
                          replace h9 := l144 _ _ h9
                          replace h13 := l144 _ _ h13
                          replace h51 := h51.mono l144
                          replace h54 := h54.mono l144
                          refine c_reg ?_
                          refine w_val trivial rfl (fun a w hf hs => r_move (hf.ev rfl)) ?_
                          refine w_val trivial rfl (fun a w hf hs => r_add (hf.ev rfl) (hf.ev rfl)) ?_
                          refine w_val trivial rfl (fun a w hf hs => r_assign (hf.ev rfl)) ?_
                          refine w_nil ?_
                          intro a w' hf hs
                          exact ⟨_, (some_r H).symm, _, l136.trans l144, (((((((((hf.nil.add (hf.get _ _ rfl)).add (hf.get _ _ rfl)).add (hf.get _ _ rfl)).add (hf.get _ _ rfl)).add (hf.get _ _ rfl)).add (hf.get _ _ rfl)).add (hf.get _ _ rfl)).add (hf.get _ _ rfl)).add (hf.get _ _ rfl)), hs.selD [some 0, some 1, none, some 3, some 4, some 5] (by decide) rfl⟩
                      · replace H := if_f b141 H
                        replace H := map_inr H r137
                        refine c_exit ?_
                        intro a w' hf hs
                        exact ⟨s134.1, _, l136, ((((((((hf.nil.add (hf.get _ _ rfl)).add (hf.get _ _ rfl)).add (hf.get _ _ rfl)).add (hf.get _ _ rfl)).add (hf.get _ _ rfl)).add (hf.get _ _ rfl)).add (hf.get _ _ rfl)).add (hf.get _ _ rfl)), hs.selD [some 0, some 1, none, some 3, some 4, some 5] (by decide) rfl, H⟩
                  · rintro a w' ⟨x97, M98, l99, hf, hs, H⟩
                    refine c_of (c := (Cx.mk Try.prog 124 none' M w)) ?_ hf hs
                    unfold ref37_Plan.j3 at H
                    clear hf hs
                    replace h2 := h2.mono l99
                    replace h4 := h4.mono l99
                    replace h9 := l99 _ _ h9
                    replace h13 := l99 _ _ h13
                    replace h51 := h51.mono l99
                    replace h54 := h54.mono l99
                    refine c_seq ?_
                    intro K100 hK100
                    refine c_reg ?_
                    refine w_val trivial rfl (fun a w hf hs => r_move (hf.ev rfl)) ?_
                    refine w_val trivial rfl (fun a w hf hs => r_fa fa30_0 (hf.ev rfl)) ?_
                    refine w_val trivial rfl (fun a w hf hs => r_load1 ta3 (hf.ev rfl) (hs.blk (i := 5) rfl) rfl) ?_
                    refine w_val trivial rfl (fun a w hf hs => r_fa fa41_0 (hf.ev rfl)) ?_
                    refine w_val trivial rfl (fun a w hf hs => r_fa fa24_0 (hf.ev rfl)) ?_
                    refine w_val trivial rfl (fun a w hf hs => r_load1 ta3 (hf.ev rfl) (hs.blk (i := 1) rfl) rfl) ?_
                    refine w_val trivial rfl (fun a w hf hs => r_build (is := [0, 1]) (xs := [.tmp 94, .tmp 97]) (vs := [(.int .i64 ((rd p1.Keys s52.2.2).Id)), (.int .i64 s52.1.T.Next)]) (A := ref37_pair.C (⟨(rd p1.Keys s52.2.2).Id, s52.1.T.Next⟩ : ref37_pair)) rfl (hf.evs rfl) (by kernel_rfl)) ?_
                    refine w_bsl (F := ref37_pair.F) (es := ([(⟨(rd p1.Keys s52.2.2).Id, s52.1.T.Next⟩ : ref37_pair)] : List ref37_pair)) (xs := [.tmp 98]) (vs := [(.agg (ref37_pair.C (⟨(rd p1.Keys s52.2.2).Id, s52.1.T.Next⟩ : ref37_pair)).toArray)]) Try.underlying62 te64 trivial rfl rfl rfl rfl rfl (by decide) ?_
                    intro v101 M102 l103 h104 c105
                    replace h2 := h2.mono l103
                    replace h4 := h4.mono l103
                    replace h9 := l103 _ _ h9
                    replace h13 := l103 _ _ h13
                    replace h51 := h51.mono l103
                    replace h54 := h54.mono l103
                    obtain ⟨g106, H⟩ := grd_s H
                    refine w_app (F := ref37_pair.F) (m2 := ([(⟨(rd p1.Keys s52.2.2).Id, s52.1.T.Next⟩ : ref37_pair)] : List ref37_pair)) (i := 4) Try.underlying62 te64 Try.underlying62 (.inl ⟨_, rfl⟩) trivial rfl rfl rfl rfl (Src.rs ref37_pair.F_one h104) g106 ?_
                    intro v107
                    refine w_val trivial rfl (fun a w hf hs => r_assign (hf.ev rfl)) ?_
                    refine w_nil (hK100 _ _ _ ?_)
                    refine c_seq ?_
                    intro K108 hK108
                    refine c_reg ?_
                    refine w_val trivial rfl (fun a w hf hs => r_move (hf.ev rfl)) ?_
                    refine w_val trivial rfl (fun a w hf hs => r_fa fa30_7 (hf.ev rfl)) ?_
                    refine w_store (i := 5) (vs := [(.int .i64 x97)]) (A' := Key.C ({ (rd p1.Keys s52.2.2) with Parent := x97 } : Key)) trivial rfl rfl rfl rfl ts3 rfl (one1 rfl) (Nat.le_of_ble_eq_true rfl) rfl ?_
                    refine w_L [.blk b14 (.cells (ref37_Planned.C (⟨(⟨(0 : Int), ([] : (List Key))⟩ : Table), ([] : (List Int)), (0 : Int)⟩ : ref37_Planned) (.slice none 0 0) (.slice none 0 0)).toArray 41 (0, 0)), .blk b31 (.cells (ref37_Planned.C s52.1 v53 v55).toArray 41 (0, 0)), dead, rowI (FI .i64) v55 3 s52.1.Ids, rowI ref37_pair.F v107 64 (s52.2.1 ++ ([(⟨(rd p1.Keys s52.2.2).Id, s52.1.T.Next⟩ : ref37_pair)] : List ref37_pair)), .blk b74 (.cells (Key.C ({ (rd p1.Keys s52.2.2) with Parent := x97 } : Key)).toArray 30 (0, 0))] rfl ?_
                    refine w_nil (hK108 _ _ _ ?_)
                    refine c_seq ?_
                    intro K109 hK109
                    refine c_reg ?_
                    refine w_val trivial rfl (fun a w hf hs => r_fa fa41_0 (hf.ev rfl)) ?_
                    refine w_val trivial rfl (fun a w hf hs => r_loadA ta24 ts24 (hf.ev rfl) (hs.blk (i := 1) rfl) rfl rfl) ?_
                    refine w_val trivial rfl (fun a w hf hs => r_loadA ta30 ts30 (hf.ev rfl) (hs.blk (i := 5) rfl) rfl rfl) ?_
                    obtain ⟨t110, e115, H⟩ := bnd H
                    refine w_call cf27 trivial rfl rfl (fun w hs => ref27_Add.calls hs s52.1.T v53 h54 ({ (rd p1.Keys s52.2.2) with Parent := x97 } : Key) _ e115) ?_
                    rintro v132 M112 l113 ⟨v116, hv_, h117⟩
                    replace hv_ := hv_.symm
                    subst hv_
                    replace h2 := h2.mono l113
                    replace h4 := h4.mono l113
                    replace h9 := l113 _ _ h9
                    replace h13 := l113 _ _ h13
                    replace h51 := h51.mono l113
                    replace h54 := h54.mono l113
                    replace h104 := h104.mono l113
                    refine w_allocL (A := ref27_Added.C (⟨(⟨(0 : Int), ([] : (List Key))⟩ : Table), (0 : Int), (0 : Int)⟩ : ref27_Added) (.slice none 0 0)) tz66 trivial rfl rfl ?_
                    intro b118
                    refine w_L [.blk b14 (.cells (ref37_Planned.C (⟨(⟨(0 : Int), ([] : (List Key))⟩ : Table), ([] : (List Int)), (0 : Int)⟩ : ref37_Planned) (.slice none 0 0) (.slice none 0 0)).toArray 41 (0, 0)), .blk b31 (.cells (ref37_Planned.C s52.1 v53 v55).toArray 41 (0, 0)), dead, rowI (FI .i64) v55 3 s52.1.Ids, rowI ref37_pair.F v107 64 (s52.2.1 ++ ([(⟨(rd p1.Keys s52.2.2).Id, s52.1.T.Next⟩ : ref37_pair)] : List ref37_pair)), .blk b74 (.cells (Key.C ({ (rd p1.Keys s52.2.2) with Parent := x97 } : Key)).toArray 30 (0, 0)), .blk b118 (.cells (ref27_Added.C (⟨(⟨(0 : Int), ([] : (List Key))⟩ : Table), (0 : Int), (0 : Int)⟩ : ref27_Added) (.slice none 0 0)).toArray 66 (0, 0))] rfl ?_
                    refine w_store (i := 6) (vs := ref27_Added.C t110 v116) (A' := ref27_Added.C t110 v116) trivial rfl rfl rfl rfl ts66 rfl (ref27_Added.C_one _ h117.one) (Nat.le_of_ble_eq_true rfl) rfl ?_
                    refine w_L [.blk b14 (.cells (ref37_Planned.C (⟨(⟨(0 : Int), ([] : (List Key))⟩ : Table), ([] : (List Int)), (0 : Int)⟩ : ref37_Planned) (.slice none 0 0) (.slice none 0 0)).toArray 41 (0, 0)), .blk b31 (.cells (ref37_Planned.C s52.1 v53 v55).toArray 41 (0, 0)), dead, rowI (FI .i64) v55 3 s52.1.Ids, rowI ref37_pair.F v107 64 (s52.2.1 ++ ([(⟨(rd p1.Keys s52.2.2).Id, s52.1.T.Next⟩ : ref37_pair)] : List ref37_pair)), .blk b74 (.cells (Key.C ({ (rd p1.Keys s52.2.2) with Parent := x97 } : Key)).toArray 30 (0, 0)), .blk b118 (.cells (ref27_Added.C t110 v116).toArray 66 (0, 0))] rfl ?_
                    refine w_nil (hK109 _ _ _ ?_)
                    refine c_seq ?_
                    intro K119 hK119
                    refine c_seq ?_
                    intro K120 hK120
                    refine c_reg ?_
                    refine w_val trivial rfl (fun a w hf hs => r_fa fa66_2 (hf.ev rfl)) ?_
                    refine w_val trivial rfl (fun a w hf hs => r_load1 ta37 (hf.ev rfl) (hs.blk (i := 6) rfl) rfl) ?_
                    refine w_val trivial rfl (fun a w hf hs => r_neq (hf.ev rfl) (hf.ev rfl)) ?_
                    refine w_nil (hK120 _ _ _ ?_)
                    refine c_if rfl (fun b121 => ?_) (fun b121 => ?_)
                    · replace H := if_t b121 H
                      refine c_seq ?_
                      intro K122 hK122
                      refine c_reg ?_
                      refine w_val trivial rfl (fun a w hf hs => r_fa fa66_2 (hf.ev rfl)) ?_
                      refine w_val trivial rfl (fun a w hf hs => r_load1 ta37 (hf.ev rfl) (hs.blk (i := 6) rfl) rfl) ?_
                      refine w_val trivial rfl (fun a w hf hs => r_build (is := [2]) (xs := [.tmp 111]) (vs := [(.int .i64 t110.E_)]) (A := ref37_Planned.C (⟨(⟨(0 : Int), ([] : (List Key))⟩ : Table), ([] : (List Int)), t110.E_⟩ : ref37_Planned) (.slice none 0 0) (.slice none 0 0)) rfl (hf.evs rfl) (built_of (pl := [(0, 2), (2, 1), (3, 1)]) (A0 := ref37_Planned.C (⟨(⟨(0 : Int), ([] : (List Key))⟩ : Table), ([] : (List Int)), (0 : Int)⟩ : ref37_Planned) (.slice none 0 0) (.slice none 0 0)) tz41 Try.underlying41 (by kernel_rfl) rfl (.cons (vs := [(.int .i64 t110.E_)]) (B := ref37_Planned.C (⟨(⟨(0 : Int), ([] : (List Key))⟩ : Table), ([] : (List Int)), t110.E_⟩ : ref37_Planned) (.slice none 0 0) (.slice none 0 0)) rfl rfl rfl (by rw [ref37_Planned.len]; decide) rfl .nil))) ?_
                      refine w_store (i := 0) (vs := ref37_Planned.C (⟨(⟨(0 : Int), ([] : (List Key))⟩ : Table), ([] : (List Int)), t110.E_⟩ : ref37_Planned) (.slice none 0 0) (.slice none 0 0)) (A' := ref37_Planned.C (⟨(⟨(0 : Int), ([] : (List Key))⟩ : Table), ([] : (List Int)), t110.E_⟩ : ref37_Planned) (.slice none 0 0) (.slice none 0 0)) trivial rfl rfl rfl rfl ts41 rfl (ref37_Planned.C_one _ rfl rfl) (Nat.le_of_ble_eq_true rfl) rfl ?_
                      refine w_L [.blk b14 (.cells (ref37_Planned.C (⟨(⟨(0 : Int), ([] : (List Key))⟩ : Table), ([] : (List Int)), t110.E_⟩ : ref37_Planned) (.slice none 0 0) (.slice none 0 0)).toArray 41 (0, 0)), .blk b31 (.cells (ref37_Planned.C s52.1 v53 v55).toArray 41 (0, 0)), dead, rowI (FI .i64) v55 3 s52.1.Ids, rowI ref37_pair.F v107 64 (s52.2.1 ++ ([(⟨(rd p1.Keys s52.2.2).Id, s52.1.T.Next⟩ : ref37_pair)] : List ref37_pair)), .blk b74 (.cells (Key.C ({ (rd p1.Keys s52.2.2) with Parent := x97 } : Key)).toArray 30 (0, 0)), .blk b118 (.cells (ref27_Added.C t110 v116).toArray 66 (0, 0))] rfl ?_
                      refine w_nil (hK122 _ _ _ ?_)
                      obtain rfl := (r59 _ (Option.some.inj H).symm)
                      refine c_ret ?_
                      intro a w' hf hs
                      exact hret _ (.inl rfl) a w' hf.df ⟨_, _, Res.of1 rfl ⟨_, hf.get _ _ rfl, run_loadA (hs.blk (i := 0) rfl) ta41 ts41 rfl rfl⟩, hs.ext, ⟨_, _, rfl, RS.none, RS.none⟩⟩
                    · replace H := if_f b121 H
                      refine c_skip (hK119 _ _ _ ?_)
                      refine c_seq ?_
                      intro K123 hK123
                      refine c_reg ?_
                      refine w_val trivial rfl (fun a w hf hs => r_fa fa66_0 (hf.ev rfl)) ?_
                      refine w_val trivial rfl (fun a w hf hs => r_loadA ta24 ts24 (hf.ev rfl) (hs.blk (i := 6) rfl) rfl rfl) ?_
                      refine w_val trivial rfl (fun a w hf hs => r_fa fa41_0 (hf.ev rfl)) ?_
                      refine w_store (i := 1) (vs := Table.C t110.T v116) (A' := ref37_Planned.C ({ s52.1 with T := t110.T } : ref37_Planned) v116 v55) trivial rfl rfl rfl rfl ts24 rfl (Table.C_one _ h117.one) (Nat.le_of_ble_eq_true rfl) rfl ?_
                      refine w_L [.blk b14 (.cells (ref37_Planned.C (⟨(⟨(0 : Int), ([] : (List Key))⟩ : Table), ([] : (List Int)), (0 : Int)⟩ : ref37_Planned) (.slice none 0 0) (.slice none 0 0)).toArray 41 (0, 0)), .blk b31 (.cells (ref37_Planned.C ({ s52.1 with T := t110.T } : ref37_Planned) v116 v55).toArray 41 (0, 0)), dead, rowI (FI .i64) v55 3 s52.1.Ids, rowI ref37_pair.F v107 64 (s52.2.1 ++ ([(⟨(rd p1.Keys s52.2.2).Id, s52.1.T.Next⟩ : ref37_pair)] : List ref37_pair)), .blk b74 (.cells (Key.C ({ (rd p1.Keys s52.2.2) with Parent := x97 } : Key)).toArray 30 (0, 0)), .blk b118 (.cells (ref27_Added.C t110 v116).toArray 66 (0, 0))] rfl ?_
                      refine w_nil (hK123 _ _ _ ?_)
                      refine c_reg ?_
                      refine w_val trivial rfl (fun a w hf hs => r_fa fa41_1 (hf.ev rfl)) ?_
                      refine w_val trivial rfl (fun a w hf hs => r_load1 ta36 (hf.ev rfl) (hs.blk (i := 1) rfl) rfl) ?_
                      refine w_val trivial rfl (fun a w hf hs => r_fa fa66_1 (hf.ev rfl)) ?_
                      refine w_val trivial rfl (fun a w hf hs => r_load1 ta3 (hf.ev rfl) (hs.blk (i := 6) rfl) rfl) ?_
                      refine w_bsl (F := (FI .i64)) (es := ([t110.Id] : List Int)) (xs := [.tmp 119]) (vs := [(.int .i64 t110.Id)]) Try.underlying36 te3 trivial rfl rfl rfl rfl rfl (by decide) ?_
                      intro v124 M125 l126 h127 c128
                      replace h2 := h2.mono l126
                      replace h4 := h4.mono l126
                      replace h9 := l126 _ _ h9
                      replace h13 := l126 _ _ h13
                      replace h51 := h51.mono l126
                      replace h54 := h54.mono l126
                      replace h104 := h104.mono l126
                      replace h117 := h117.mono l126
                      obtain ⟨g129, H⟩ := grd_s H
                      refine w_app (F := (FI .i64)) (m2 := ([t110.Id] : List Int)) (i := 3) Try.underlying36 te3 Try.underlying36 (.inl ⟨_, rfl⟩) trivial rfl rfl rfl rfl (Src.rs (FI.one _) h127) g129 ?_
                      intro v130
                      refine w_val trivial rfl (fun a w hf hs => r_fa fa41_1 (hf.ev rfl)) ?_
                      refine w_rcell 3 rfl ?_
                      intro q131
                      refine w_store (i := 1) (vs := [v130]) (A' := ref37_Planned.C ({ ({ s52.1 with T := t110.T } : ref37_Planned) with Ids := (s52.1.Ids ++ ([t110.Id] : List Int)) } : ref37_Planned) v116 v130) trivial rfl rfl rfl q131.1 ts36 rfl (one1 q131.2) (Nat.le_of_ble_eq_true rfl) rfl ?_
                      refine w_L [.blk b14 (.cells (ref37_Planned.C (⟨(⟨(0 : Int), ([] : (List Key))⟩ : Table), ([] : (List Int)), (0 : Int)⟩ : ref37_Planned) (.slice none 0 0) (.slice none 0 0)).toArray 41 (0, 0)), .blk b31 (.cells (ref37_Planned.C ({ ({ s52.1 with T := t110.T } : ref37_Planned) with Ids := (s52.1.Ids ++ ([t110.Id] : List Int)) } : ref37_Planned) v116 v130).toArray 41 (0, 0)), dead, rowI (FI .i64) v130 3 (s52.1.Ids ++ ([t110.Id] : List Int)), rowI ref37_pair.F v107 64 (s52.2.1 ++ ([(⟨(rd p1.Keys s52.2.2).Id, s52.1.T.Next⟩ : ref37_pair)] : List ref37_pair)), .blk b74 (.cells (Key.C ({ (rd p1.Keys s52.2.2) with Parent := x97 } : Key)).toArray 30 (0, 0)), .blk b118 (.cells (ref27_Added.C t110 v116).toArray 66 (0, 0))] rfl ?_
                      refine w_nil ?_
                      intro a w' hf hs
                      exact ⟨({ ({ s52.1 with T := t110.T } : ref37_Planned) with Ids := (s52.1.Ids ++ ([t110.Id] : List Int)) } : ref37_Planned), v116, v130, (s52.2.1 ++ ([(⟨(rd p1.Keys s52.2.2).Id, s52.1.T.Next⟩ : ref37_pair)] : List ref37_pair)), v107, _, (l82.trans (l99.trans (l103.trans (l113.trans l126)))), h117, ((((((hf.nil.add (hf.get _ _ rfl)).add (hf.get _ _ rfl)).add (hf.get _ _ rfl)).add (hf.get _ _ rfl)).add (hf.get _ _ rfl)).add (hf.get _ _ rfl)), hs.selD [some 0, some 1, none, some 3, some 4] (by decide) rfl, H⟩
            · rintro a w' ⟨x64, v65, v67, x68, v69, M70, l71, h66, hf, hs, H⟩
              refine c_of (c := (Cx.mk Try.prog 124 none' M w)) ?_ hf hs
              unfold ref37_Plan.j2 at H
              clear hf hs
              replace h2 := h2.mono l71
              replace h4 := h4.mono l71
              replace h9 := l71 _ _ h9
              replace h13 := l71 _ _ h13
              replace h51 := h51.mono l71
              replace h54 := h54.mono l71
              refine c_reg ?_
              refine w_val trivial rfl (fun a w hf hs => r_move (hf.ev rfl)) ?_
              refine w_val trivial rfl (fun a w hf hs => r_add (hf.ev rfl) (hf.ev rfl)) ?_
              refine w_val trivial rfl (fun a w hf hs => r_assign (hf.ev rfl)) ?_
              refine w_nil ?_
              intro a w' hf hs
              exact ⟨_, (some_r H).symm, v65, v67, v69, _, l58.trans l71, h66, ((((((hf.nil.add (hf.get _ _ rfl)).add (hf.get _ _ rfl)).add (hf.get _ _ rfl)).add (hf.get _ _ rfl)).add (hf.get _ _ rfl)).add (hf.get _ _ rfl)), hs.selD [some 0, some 1, none, some 3, some 4] (by decide) rfl⟩
          · replace H := if_f b63 H
            replace H := map_inr H r59
            refine c_exit ?_
            intro a w' hf hs
            exact ⟨s52.1, v53, v55, _, (l50.trans l58), h54, ((hf.nil.add (hf.get _ _ rfl)).add (hf.get _ _ rfl)), hs.selD [some 0, some 1, none, some 3] (by decide) rfl, H⟩
      · rintro a w' ⟨x37, v38, v40, M41, l42, h39, hf, hs, H⟩
        refine c_of (c := (Cx.mk Try.prog 124 none' M w)) ?_ hf hs
        unfold ref37_Plan.j1 at H
        clear hf hs
        replace h2 := h2.mono l42
        replace h4 := h4.mono l42
        replace h9 := l42 _ _ h9
        replace h13 := l42 _ _ h13
        refine c_seq ?_
        intro K43 hK43
        refine c_reg ?_
        refine w_val trivial rfl (fun a w hf hs => r_loadA ta41 ts41 (hf.ev rfl) (hs.blk (i := 1) rfl) rfl rfl) ?_
        refine w_rcell 3 rfl ?_
        intro q44
        refine w_store (i := 0) (vs := ref37_Planned.C x37 v38 v40) (A' := ref37_Planned.C x37 v38 v40) trivial rfl rfl rfl rfl ts41 rfl (ref37_Planned.C_one _ h39.one q44.2) (Nat.le_of_ble_eq_true rfl) rfl ?_
        refine w_L [.blk b14 (.cells (ref37_Planned.C x37 v38 v40).toArray 41 (0, 0)), .blk b31 (.cells (ref37_Planned.C x37 v38 v40).toArray 41 (0, 0)), dead, rowI (FI .i64) v40 3 x37.Ids] rfl ?_
        refine w_nil (hK43 _ _ _ ?_)
        obtain rfl := some_r H
        refine c_ret ?_
        refine n_give 3 rfl (fun _ h => h) ?_
        intro M45 l46 h47
        replace h2 := h2.mono l46
        replace h4 := h4.mono l46
        replace h9 := l46 _ _ h9
        replace h13 := l46 _ _ h13
        replace h39 := h39.mono l46
        intro a w' hf hs
        exact hret _ (.inl rfl) a w' hf.df ⟨_, _, Res.of1 rfl ⟨_, hf.get _ _ rfl, run_loadA (hs.blk (i := 0) rfl) ta41 ts41 rfl rfl⟩, hs.ext, ⟨_, _, rfl, h39, h47⟩⟩
set_option maxRecDepth 20000 in
theorem ref01_SameInts.calls {M : Heap} {w : World} (hM : Sub M w) (p0 : (List Int)) (v1 : Value) (h2 : RS (FI .i64) M v1 p0) (p1 : (List Int)) (v3 : Value) (h4 : RS (FI .i64) M v3 p1) (r : Bool) (H : ref01_SameInts p0 p1 = some r) :
    Calls Try.prog 15 [v1, v3].toArray w (Post M w fun M' v => v = (.bool r)) := by
  refine enter 26 [(0, v1), (1, v3)] Try.func15 rfl rfl rfl hM ?_
  intro Q hret
  unfold ref01_SameInts at H
  refine c_seq ?_
  intro K5 hK5
  refine c_reg ?_
  refine w_val trivial rfl (fun a w hf hs => r_assign (hf.ev rfl)) ?_
  refine w_nil (hK5 _ _ _ ?_)
  refine c_seq ?_
  intro K6 hK6
  refine c_seq ?_
  intro K7 hK7
  refine c_reg ?_
  refine w_val trivial rfl (fun a w hf hs => r_move (hf.ev rfl)) ?_
  refine w_val trivial rfl (fun a w hf hs => r_lenR Try.underlying36 h2 (hf.ev rfl)) ?_
  refine w_val trivial rfl (fun a w hf hs => r_move (hf.ev rfl)) ?_
  refine w_val trivial rfl (fun a w hf hs => r_lenR Try.underlying36 h4 (hf.ev rfl)) ?_
  refine w_val trivial rfl (fun a w hf hs => r_neq (hf.ev rfl) (hf.ev rfl)) ?_
  refine w_nil (hK7 _ _ _ ?_)
  refine c_if rfl (fun b8 => ?_) (fun b8 => ?_)
  · replace H := if_t b8 H
    refine c_seq ?_
    intro K9 hK9
    refine c_reg ?_
    refine w_val trivial rfl (fun a w hf hs => r_assign (hf.ev rfl)) ?_
    refine w_nil (hK9 _ _ _ ?_)
    obtain rfl := some_r H
    refine c_ret ?_
    intro a w' hf hs
    exact hret _ (.inl rfl) a w' hf.df ⟨_, _, Res.of1 rfl (RV.t hf rfl), hs.ext, rfl⟩
  · replace H := if_f b8 H
    refine c_skip (hK6 _ _ _ ?_)
    refine c_cut (fun a' w' => ∃ (M10 : Heap), HLe M M10 ∧ Fr 26 [] a' ∧ St none' M w M10 (lt []) w' ∧ ref01_SameInts.j1  = some r) ?_ ?_
    · refine c_seq ?_
      intro K13 hK13
      refine c_reg ?_
      refine w_val trivial rfl (fun a w hf hs => r_assign (hf.ev rfl)) ?_
      refine w_nil (hK13 _ _ _ ?_)
      refine c_block ?_
      refine c_loop (fun (s14 : Int) a' w' => ∃ (M15 : Heap), HLe M M15 ∧ Fr 26 [(0, v1), (1, v3), (5, (.int .i64 s14))] a' ∧ St none' M w M15 (lt []) w') (0 : Int) H ?_ ?_
      · intro a w' hf hs
        exact ⟨_, HLe.refl _, (((hf.nil.add (hf.get _ _ rfl)).add (hf.get _ _ rfl)).add (hf.get _ _ rfl)), hs.selD [] (by decide) rfl⟩
      · clear H
        intro s14 y18 H r17 a w' hJ
        obtain ⟨M15, l16, hf, hs⟩ := hJ
        refine c_of (c := (Cx.mk Try.prog 26 none' M w)) ?_ hf hs
        unfold ref01_SameInts.l2 at H
        clear hf hs
        replace h2 := h2.mono l16
        replace h4 := h4.mono l16
        refine c_seq ?_
        intro K19 hK19
        refine c_seq ?_
        intro K20 hK20
        refine c_reg ?_
        refine w_val trivial rfl (fun a w hf hs => r_move (hf.ev rfl)) ?_
        refine w_val trivial rfl (fun a w hf hs => r_move (hf.ev rfl)) ?_
        refine w_val trivial rfl (fun a w hf hs => r_lenR Try.underlying36 h2 (hf.ev rfl)) ?_
        refine w_val trivial rfl (fun a w hf hs => r_lss (hf.ev rfl) (hf.ev rfl)) ?_
        refine w_nil (hK20 _ _ _ ?_)
        refine c_if rfl (fun b21 => ?_) (fun b21 => ?_)
        · replace H := if_t b21 H
          refine c_skip (hK19 _ _ _ ?_)
          refine c_seq ?_
          intro K22 hK22
          refine c_block ?_
          refine c_seq ?_
          intro K23 hK23
          obtain ⟨g32, H⟩ := grd_s H
          obtain ⟨g44, H⟩ := grd_s H
          refine c_drawP [([], [0]), ([], [5]), ([(0, 17), (1, 18)], []), ([(2, 19)], []), ([], [1]), ([], [5]), ([(4, 21), (5, 22)], []), ([(6, 23)], []), ([(3, 20), (7, 24)], [])] [fun v M => v = v1, fun v M => v = (.int .i64 s14), fun v M => v = (eP v1 s14 1 0), fun v M => v = (.int .i64 (rd p0 s14)), fun v M => v = v3, fun v M => v = (.int .i64 s14), fun v M => v = (eP v3 s14 1 0), fun v M => v = (.int .i64 (rd p1 s14)), fun v M => v = (.bool ((rd p0 s14) != (rd p1 s14)))] (by kernel_rfl) (by kernel_rfl) ?_ (AllT.cons ?_ (AllT.cons ?_ (AllT.cons ?_ (AllT.cons ?_ (AllT.cons ?_ (AllT.cons ?_ (AllT.cons ?_ (AllT.cons ?_ (AllT.cons ?_ AllT.nil))))))))) ?_
          · exact (MonoA.cons (fun _ _ _ _ h => h) (MonoA.cons (fun _ _ _ _ h => h) (MonoA.cons (fun _ _ _ _ h => h) (MonoA.cons (fun _ _ _ _ h => h) (MonoA.cons (fun _ _ _ _ h => h) (MonoA.cons (fun _ _ _ _ h => h) (MonoA.cons (fun _ _ _ _ h => h) (MonoA.cons (fun _ _ _ _ h => h) (MonoA.cons (fun _ _ _ _ h => h) MonoA.nil)))))))))
          · intro a w' M24 l25 hd hs
            replace h2 := h2.mono l25
            refine OP.ofW (l := [(0, v1)]) (hd.fr.add (hd.base 0 _ rfl rfl)) hs rfl ?_
            refine w_val trivial rfl (fun a w hf hs => r_move (hf.ev rfl)) ?_
            refine w_nil ?_
            intro a w' hf hs
            exact ⟨rfl, hf.df, _, (HLe.refl _), hs, hf.get _ _ rfl⟩
          · intro a w' M26 l27 hd hs
            refine OP.ofW (l := [(5, (.int .i64 s14))]) (hd.fr.add (hd.base 5 _ rfl rfl)) hs rfl ?_
            refine w_val trivial rfl (fun a w hf hs => r_move (hf.ev rfl)) ?_
            refine w_nil ?_
            intro a w' hf hs
            exact ⟨rfl, hf.df, _, (HLe.refl _), hs, hf.get _ _ rfl⟩
          · intro a w' M28 l29 hd hs
            have e30 := hd.val 0 17 _ rfl rfl
            replace h2 := h2.mono l29
            have e31 := hd.val 1 18 _ rfl rfl
            refine OP.ofW (l := [(17, v1), (18, (.int .i64 s14))]) ((hd.fr.add e31).add e30) hs rfl ?_
            refine w_val trivial rfl (fun a w hf hs => r_iR Try.underlying36 ts3 h2 (hf.ev rfl) (hf.ev rfl) g32.1 g32.2) ?_
            refine w_nil ?_
            intro a w' hf hs
            exact ⟨rfl, hf.df, _, (HLe.refl _), hs, hf.get _ _ rfl⟩
          · intro a w' M33 l34 hd hs
            have e35 := hd.val 2 19 _ rfl rfl
            replace h2 := h2.mono l34
            refine OP.ofW (l := [(19, (eP v1 s14 1 0))]) (hd.fr.add e35) hs rfl ?_
            refine w_val trivial rfl (fun a w hf hs => r_loadE1 ta3 h2 hs.sub g32.1 g32.2 (hf.ev rfl) rfl) ?_
            refine w_nil ?_
            intro a w' hf hs
            exact ⟨rfl, hf.df, _, (HLe.refl _), hs, hf.get _ _ rfl⟩
          · intro a w' M36 l37 hd hs
            replace h4 := h4.mono l37
            refine OP.ofW (l := [(1, v3)]) (hd.fr.add (hd.base 1 _ rfl rfl)) hs rfl ?_
            refine w_val trivial rfl (fun a w hf hs => r_move (hf.ev rfl)) ?_
            refine w_nil ?_
            intro a w' hf hs
            exact ⟨rfl, hf.df, _, (HLe.refl _), hs, hf.get _ _ rfl⟩
          · intro a w' M38 l39 hd hs
            refine OP.ofW (l := [(5, (.int .i64 s14))]) (hd.fr.add (hd.base 5 _ rfl rfl)) hs rfl ?_
            refine w_val trivial rfl (fun a w hf hs => r_move (hf.ev rfl)) ?_
            refine w_nil ?_
            intro a w' hf hs
            exact ⟨rfl, hf.df, _, (HLe.refl _), hs, hf.get _ _ rfl⟩
          · intro a w' M40 l41 hd hs
            have e42 := hd.val 4 21 _ rfl rfl
            replace h4 := h4.mono l41
            have e43 := hd.val 5 22 _ rfl rfl
            refine OP.ofW (l := [(21, v3), (22, (.int .i64 s14))]) ((hd.fr.add e43).add e42) hs rfl ?_
            refine w_val trivial rfl (fun a w hf hs => r_iR Try.underlying36 ts3 h4 (hf.ev rfl) (hf.ev rfl) g44.1 g44.2) ?_
            refine w_nil ?_
            intro a w' hf hs
            exact ⟨rfl, hf.df, _, (HLe.refl _), hs, hf.get _ _ rfl⟩
          · intro a w' M45 l46 hd hs
            have e47 := hd.val 6 23 _ rfl rfl
            replace h4 := h4.mono l46
            refine OP.ofW (l := [(23, (eP v3 s14 1 0))]) (hd.fr.add e47) hs rfl ?_
            refine w_val trivial rfl (fun a w hf hs => r_loadE1 ta3 h4 hs.sub g44.1 g44.2 (hf.ev rfl) rfl) ?_
            refine w_nil ?_
            intro a w' hf hs
            exact ⟨rfl, hf.df, _, (HLe.refl _), hs, hf.get _ _ rfl⟩
          · intro a w' M48 l49 hd hs
            have e50 := hd.val 3 20 _ rfl rfl
            have e51 := hd.val 7 24 _ rfl rfl
            refine OP.ofW (l := [(20, (.int .i64 (rd p0 s14))), (24, (.int .i64 (rd p1 s14)))]) ((hd.fr.add e51).add e50) hs rfl ?_
            refine w_val trivial rfl (fun a w hf hs => r_neq (hf.ev rfl) (hf.ev rfl)) ?_
            refine w_nil ?_
            intro a w' hf hs
            exact ⟨rfl, hf.df, _, (HLe.refl _), hs, hf.get _ _ rfl⟩
          intro a w' M52 l53 hdf hsz hb hv hs
          replace h2 := h2.mono l53
          replace h4 := h4.mono l53
          have e54 := hv 8 25 _ rfl rfl
          refine n_of (c := (Cx.mk Try.prog 26 none' M w)) (l := [(0, v1), (1, v3), (5, (.int .i64 s14)), (25, (.bool ((rd p0 s14) != (rd p1 s14))))]) ?_ (((((Fr.start hdf hsz).add e54).add (hb 5 _ rfl rfl)).add (hb 1 _ rfl rfl)).add (hb 0 _ rfl rfl)) hs
          clear hdf hsz hb hv hs e54
          refine n_id (hK23 _ _ _ ?_)
          refine c_if rfl (fun b55 => ?_) (fun b55 => ?_)
          · replace H := if_t b55 H
            refine c_seq ?_
            intro K56 hK56
            refine c_reg ?_
            refine w_val trivial rfl (fun a w hf hs => r_assign (hf.ev rfl)) ?_
            refine w_nil (hK56 _ _ _ ?_)
            obtain rfl := (r17 _ (Option.some.inj H).symm)
            refine c_ret ?_
            intro a w' hf hs
            exact hret _ (.inl rfl) a w' hf.df ⟨_, _, Res.of1 rfl (RV.t hf rfl), hs.ext, rfl⟩
          · replace H := if_f b55 H
            refine c_skip (hK22 _ _ _ ?_)
            refine c_reg ?_
            refine w_val trivial rfl (fun a w hf hs => r_move (hf.ev rfl)) ?_
            refine w_val trivial rfl (fun a w hf hs => r_add (hf.ev rfl) (hf.ev rfl)) ?_
            refine w_val trivial rfl (fun a w hf hs => r_assign (hf.ev rfl)) ?_
            refine w_nil ?_
            intro a w' hf hs
            exact ⟨_, (some_r H).symm, _, l16.trans l53, (((hf.nil.add (hf.get _ _ rfl)).add (hf.get _ _ rfl)).add (hf.get _ _ rfl)), hs.selD [] (by decide) rfl⟩
        · replace H := if_f b21 H
          replace H := map_inr H r17
          refine c_exit ?_
          intro a w' hf hs
          exact ⟨_, l16, hf.nil, hs.selD [] (by decide) rfl, H⟩
    · rintro a w' ⟨M10, l11, hf, hs, H⟩
      refine c_of (c := (Cx.mk Try.prog 26 none' M w)) ?_ hf hs
      unfold ref01_SameInts.j1 at H
      clear hf hs
      replace h2 := h2.mono l11
      replace h4 := h4.mono l11
      refine c_seq ?_
      intro K12 hK12
      refine c_reg ?_
      refine w_val trivial rfl (fun a w hf hs => r_assign (hf.ev rfl)) ?_
      refine w_nil (hK12 _ _ _ ?_)
      obtain rfl := some_r H
      refine c_ret ?_
      intro a w' hf hs
      exact hret _ (.inl rfl) a w' hf.df ⟨_, _, Res.of1 rfl (RV.t hf rfl), hs.ext, rfl⟩
set_option maxRecDepth 20000 in
theorem ref37_Holds.calls {M : Heap} {w : World} (hM : Sub M w) (p0 : Table) (v1 : Value) (h2 : RS Key.F M v1 p0.Keys) (p1 : Backup) (v3 : Value) (h4 : RS Key.F M v3 p1.Keys) (p2 : Int) (r : Bool) (H : ref37_Holds p0 p1 p2 = some r) :
    Calls Try.prog 17 [(.agg (Table.C p0 v1).toArray), (.agg (Backup.C p1 v3).toArray), (.int .i64 p2)].toArray w (Post M w fun M' v => v = (.bool r)) := by
  refine enter 39 [(0, (.agg (Table.C p0 v1).toArray)), (1, (.agg (Backup.C p1 v3).toArray)), (2, (.int .i64 p2))] Try.func17 rfl rfl rfl hM ?_
  intro Q hret
  unfold ref37_Holds at H
  refine c_seq ?_
  intro K5 hK5
  refine c_reg ?_
  refine w_boxM trivial rfl rfl rfl ?_
  intro b6 M7 l8 h9
  replace h2 := h2.mono l8
  replace h4 := h4.mono l8
  refine w_boxM trivial rfl rfl rfl ?_
  intro b10 M11 l12 h13
  replace h2 := h2.mono l12
  replace h4 := h4.mono l12
  replace h9 := l12 _ _ h9
  refine w_val trivial rfl (fun a w hf hs => r_assign (hf.ev rfl)) ?_
  refine w_nil (hK5 _ _ _ ?_)
  refine c_cut (fun a' w' => ∃ (M14 : Heap), HLe M11 M14 ∧ Fr 39 [] a' ∧ St none' M w M14 (lt []) w' ∧ ref37_Holds.j1  = some r) ?_ ?_
  · refine c_seq ?_
    intro K17 hK17
    refine c_reg ?_
    refine w_val trivial rfl (fun a w hf hs => r_assign (hf.ev rfl)) ?_
    refine w_nil (hK17 _ _ _ ?_)
    refine c_block ?_
    refine c_loop (fun (s18 : Int) a' w' => ∃ (M19 : Heap), HLe M11 M19 ∧ Fr 39 [(2, (.int .i64 p2)), (3, (ptr b6 0)), (4, (ptr b10 0)), (7, (.int .i64 s18))] a' ∧ St none' M w M19 (lt []) w') (0 : Int) H ?_ ?_
    · intro a w' hf hs
      exact ⟨_, HLe.refl _, ((((hf.nil.add (hf.get _ _ rfl)).add (hf.get _ _ rfl)).add (hf.get _ _ rfl)).add (hf.get _ _ rfl)), hs.selD [] (by decide) rfl⟩
    · clear H
      intro s18 y22 H r21 a w' hJ
      obtain ⟨M19, l20, hf, hs⟩ := hJ
      refine c_of (c := (Cx.mk Try.prog 39 none' M w)) ?_ hf hs
      unfold ref37_Holds.l2 at H
      clear hf hs
      replace h2 := h2.mono l20
      replace h4 := h4.mono l20
      replace h9 := l20 _ _ h9
      replace h13 := l20 _ _ h13
      refine c_seq ?_
      intro K23 hK23
      refine c_seq ?_
      intro K24 hK24
      refine c_reg ?_
      refine w_val trivial rfl (fun a w hf hs => r_move (hf.ev rfl)) ?_
      refine w_val trivial rfl (fun a w hf hs => r_fa fa28_7 (hf.ev rfl)) ?_
      refine w_val trivial rfl (fun a w hf hs => r_load1 ta22 (hf.ev rfl) (hs.sub _ _ h13) (Backup.g37 _ _)) ?_
      refine w_val trivial rfl (fun a w hf hs => r_lenR Try.underlying22 h4 (hf.ev rfl)) ?_
      refine w_val trivial rfl (fun a w hf hs => r_lss (hf.ev rfl) (hf.ev rfl)) ?_
      refine w_nil (hK24 _ _ _ ?_)
      refine c_if rfl (fun b25 => ?_) (fun b25 => ?_)
      · replace H := if_t b25 H
        refine c_skip (hK23 _ _ _ ?_)
        refine c_seq ?_
        intro K26 hK26
        refine c_block ?_
        refine c_seq ?_
        intro K27 hK27
        obtain ⟨g41, H⟩ := grd_s H
        obtain ⟨t49, e54, H⟩ := bnd H
        refine c_drawP [([], [3]), ([], [4]), ([(1, 19)], []), ([], [7]), ([(2, 20), (3, 21)], []), ([(4, 22)], []), ([(0, 18), (5, 23)], []), ([(6, 24)], []), ([(7, 17)], []), ([(7, 17)], []), ([(8, 25)], []), ([(9, 26)], [])] [fun v M => v = (.agg (Table.C p0 v1).toArray), fun v M => v = (ptr b10 37), fun v M => v = v3, fun v M => v = (.int .i64 s18), fun v M => v = (eP v3 s18 9 0), fun v M => v = (.agg (Key.C (rd p1.Keys s18)).toArray), fun v M => v = (.tuple #[(.int .i64 t49.1), (.bool t49.2)]), fun v M => v = (.tuple #[(.int .i64 t49.1), (.bool t49.2)]), fun v M => v = (.int .i64 t49.1), fun v M => v = (.bool t49.2), fun v M => v = (.int .i64 t49.1), fun v M => v = (.bool t49.2)] (by kernel_rfl) (by kernel_rfl) ?_ (AllT.cons ?_ (AllT.cons ?_ (AllT.cons ?_ (AllT.cons ?_ (AllT.cons ?_ (AllT.cons ?_ (AllT.cons ?_ (AllT.cons ?_ (AllT.cons ?_ (AllT.cons ?_ (AllT.cons ?_ (AllT.cons ?_ AllT.nil)))))))))))) ?_
        · exact (MonoA.cons (fun _ _ _ _ h => h) (MonoA.cons (fun _ _ _ _ h => h) (MonoA.cons (fun _ _ _ _ h => h) (MonoA.cons (fun _ _ _ _ h => h) (MonoA.cons (fun _ _ _ _ h => h) (MonoA.cons (fun _ _ _ _ h => h) (MonoA.cons (fun _ _ _ _ h => h) (MonoA.cons (fun _ _ _ _ h => h) (MonoA.cons (fun _ _ _ _ h => h) (MonoA.cons (fun _ _ _ _ h => h) (MonoA.cons (fun _ _ _ _ h => h) (MonoA.cons (fun _ _ _ _ h => h) MonoA.nil))))))))))))
        · intro a w' M28 l29 hd hs
          replace h9 := l29 _ _ h9
          replace h2 := h2.mono l29
          refine OP.ofW (l := [(3, (ptr b6 0))]) (hd.fr.add (hd.base 3 _ rfl rfl)) hs rfl ?_
          refine w_val trivial rfl (fun a w hf hs => r_loadA ta24 ts24 (hf.ev rfl) (hs.sub _ _ h9) rfl rfl) ?_
          refine w_nil ?_
          intro a w' hf hs
          exact ⟨rfl, hf.df, _, (HLe.refl _), hs, hf.get _ _ rfl⟩
        · intro a w' M30 l31 hd hs
          replace h13 := l31 _ _ h13
          replace h4 := h4.mono l31
          refine OP.ofW (l := [(4, (ptr b10 0))]) (hd.fr.add (hd.base 4 _ rfl rfl)) hs rfl ?_
          refine w_val trivial rfl (fun a w hf hs => r_fa fa28_7 (hf.ev rfl)) ?_
          refine w_nil ?_
          intro a w' hf hs
          exact ⟨rfl, hf.df, _, (HLe.refl _), hs, hf.get _ _ rfl⟩
        · intro a w' M32 l33 hd hs
          have e34 := hd.val 1 19 _ rfl rfl
          replace h13 := l33 _ _ h13
          replace h4 := h4.mono l33
          refine OP.ofW (l := [(19, (ptr b10 37))]) (hd.fr.add e34) hs rfl ?_
          refine w_val trivial rfl (fun a w hf hs => r_load1 ta22 (hf.ev rfl) (hs.sub _ _ h13) (Backup.g37 _ _)) ?_
          refine w_nil ?_
          intro a w' hf hs
          exact ⟨rfl, hf.df, _, (HLe.refl _), hs, hf.get _ _ rfl⟩
        · intro a w' M35 l36 hd hs
          refine OP.ofW (l := [(7, (.int .i64 s18))]) (hd.fr.add (hd.base 7 _ rfl rfl)) hs rfl ?_
          refine w_val trivial rfl (fun a w hf hs => r_move (hf.ev rfl)) ?_
          refine w_nil ?_
          intro a w' hf hs
          exact ⟨rfl, hf.df, _, (HLe.refl _), hs, hf.get _ _ rfl⟩
        · intro a w' M37 l38 hd hs
          have e39 := hd.val 2 20 _ rfl rfl
          replace h4 := h4.mono l38
          have e40 := hd.val 3 21 _ rfl rfl
          refine OP.ofW (l := [(20, v3), (21, (.int .i64 s18))]) ((hd.fr.add e40).add e39) hs rfl ?_
          refine w_val trivial rfl (fun a w hf hs => r_iR Try.underlying22 ts30 h4 (hf.ev rfl) (hf.ev rfl) g41.1 g41.2) ?_
          refine w_nil ?_
          intro a w' hf hs
          exact ⟨rfl, hf.df, _, (HLe.refl _), hs, hf.get _ _ rfl⟩
        · intro a w' M42 l43 hd hs
          have e44 := hd.val 4 22 _ rfl rfl
          replace h4 := h4.mono l43
          refine OP.ofW (l := [(22, (eP v3 s18 9 0))]) (hd.fr.add e44) hs rfl ?_
          refine w_val trivial rfl (fun a w hf hs => r_loadEA ta30 ts30 h4 hs.sub g41.1 g41.2 (hf.ev rfl) rfl rfl) ?_
          refine w_nil ?_
          intro a w' hf hs
          exact ⟨rfl, hf.df, _, (HLe.refl _), hs, hf.get _ _ rfl⟩
        · intro a w' M45 l46 hd hs
          have e47 := hd.val 0 18 _ rfl rfl
          replace h2 := h2.mono l46
          have e48 := hd.val 5 23 _ rfl rfl
          refine OP.ofW (l := [(18, (.agg (Table.C p0 v1).toArray)), (23, (.agg (Key.C (rd p1.Keys s18)).toArray))]) ((hd.fr.add e48).add e47) hs rfl ?_
          refine w_call cf13 trivial rfl rfl (fun w hs => ref37_Twin.calls hs p0 v1 h2 (rd p1.Keys s18) _ e54) ?_
          rintro _ M51 l52 rfl
          replace h2 := h2.mono l52
          refine w_nil ?_
          intro a w' hf hs
          exact ⟨rfl, hf.df, _, l52, hs, hf.get _ _ rfl⟩
        · intro a w' M55 l56 hd hs
          have e57 := hd.val 6 24 _ rfl rfl
          refine OP.ofW (l := [(24, (.tuple #[(.int .i64 t49.1), (.bool t49.2)]))]) (hd.fr.add e57) hs rfl ?_
          refine w_val trivial rfl (fun a w hf hs => r_move (hf.ev rfl)) ?_
          refine w_nil ?_
          intro a w' hf hs
          exact ⟨rfl, hf.df, _, (HLe.refl _), hs, hf.get _ _ rfl⟩
        · intro a w' M58 l59 hd hs
          have e60 := hd.val 7 17 _ rfl rfl
          refine OP.ofW (l := [(17, (.tuple #[(.int .i64 t49.1), (.bool t49.2)]))]) (hd.fr.add e60) hs rfl ?_
          refine w_val trivial rfl (fun a w hf hs => r_extract (hf.ev rfl) rfl) ?_
          refine w_nil ?_
          intro a w' hf hs
          exact ⟨rfl, hf.df, _, (HLe.refl _), hs, hf.get _ _ rfl⟩
        · intro a w' M61 l62 hd hs
          have e63 := hd.val 7 17 _ rfl rfl
          refine OP.ofW (l := [(17, (.tuple #[(.int .i64 t49.1), (.bool t49.2)]))]) (hd.fr.add e63) hs rfl ?_
          refine w_val trivial rfl (fun a w hf hs => r_extract (hf.ev rfl) rfl) ?_
          refine w_nil ?_
          intro a w' hf hs
          exact ⟨rfl, hf.df, _, (HLe.refl _), hs, hf.get _ _ rfl⟩
        · intro a w' M64 l65 hd hs
          have e66 := hd.val 8 25 _ rfl rfl
          refine OP.ofW (l := [(25, (.int .i64 t49.1))]) (hd.fr.add e66) hs rfl ?_
          refine w_val trivial rfl (fun a w hf hs => r_assign (hf.ev rfl)) ?_
          refine w_nil ?_
          intro a w' hf hs
          exact ⟨rfl, hf.df, _, (HLe.refl _), hs, hf.get _ _ rfl⟩
        · intro a w' M67 l68 hd hs
          have e69 := hd.val 9 26 _ rfl rfl
          refine OP.ofW (l := [(26, (.bool t49.2))]) (hd.fr.add e69) hs rfl ?_
          refine w_val trivial rfl (fun a w hf hs => r_assign (hf.ev rfl)) ?_
          refine w_nil ?_
          intro a w' hf hs
          exact ⟨rfl, hf.df, _, (HLe.refl _), hs, hf.get _ _ rfl⟩
        intro a w' M70 l71 hdf hsz hb hv hs
        replace h2 := h2.mono l71
        replace h4 := h4.mono l71
        replace h9 := l71 _ _ h9
        replace h13 := l71 _ _ h13
        have e72 := hv 11 9 _ rfl rfl
        refine n_of (c := (Cx.mk Try.prog 39 none' M w)) (l := [(2, (.int .i64 p2)), (3, (ptr b6 0)), (4, (ptr b10 0)), (7, (.int .i64 s18)), (9, (.bool t49.2))]) ?_ ((((((Fr.start hdf hsz).add e72).add (hb 7 _ rfl rfl)).add (hb 4 _ rfl rfl)).add (hb 3 _ rfl rfl)).add (hb 2 _ rfl rfl)) hs
        clear hdf hsz hb hv hs e72
        refine n_id (hK27 _ _ _ ?_)
        obtain ⟨t73, H1, H⟩ := bnd H
        refine c_cut (fun a' w' => ∃ (M74 : Heap), HLe M70 M74 ∧ Fr 39 [(2, (.int .i64 p2)), (3, (ptr b6 0)), (4, (ptr b10 0)), (7, (.int .i64 s18)), (38, (.bool t73))] a' ∧ St none' M w M74 (lt []) w') ?_ ?_
        · replace H := H1
          clear H1
          refine c_reg ?_
          refine w_val trivial rfl (fun a w hf hs => r_fa fa28_7 (hf.ev rfl)) ?_
          refine w_val trivial rfl (fun a w hf hs => r_load1 ta22 (hf.ev rfl) (hs.sub _ _ h13) (Backup.g37 _ _)) ?_
          refine w_val trivial rfl (fun a w hf hs => r_move (hf.ev rfl)) ?_
          obtain ⟨g76, H⟩ := grd_s H
          refine w_val trivial rfl (fun a w hf hs => r_iR Try.underlying22 ts30 h4 (hf.ev rfl) (hf.ev rfl) g76.1 g76.2) ?_
          refine w_val trivial rfl (fun a w hf hs => r_faE fa30_5 h4 g76.1 g76.2 (hf.ev rfl)) ?_
          refine w_val trivial rfl (fun a w hf hs => r_loadE1 ta3 h4 hs.sub g76.1 g76.2 (hf.ev rfl) rfl) ?_
          refine w_val trivial rfl (fun a w hf hs => r_move (hf.ev rfl)) ?_
          refine w_val trivial rfl (fun a w hf hs => r_gtr (hf.ev rfl) (hf.ev rfl)) ?_
          refine w_val trivial rfl (fun a w hf hs => r_move (hf.ev rfl)) ?_
          by_cases b77 : (decide (p2 < ((rd p1.Keys s18).End))) = true
          · replace H := if_t b77 H
            refine w_val (Wnt.of rfl rfl b77) rfl (fun a w hf hs => r_move (hf.ev rfl)) ?_
            refine w_val (Wnt.of rfl rfl b77) rfl (fun a w hf hs => r_not (hf.ev rfl)) ?_
            refine w_val trivial rfl (fun a w hf hs => r_pickT (hf.ev rfl) b77 (hf.ev rfl)) ?_
            obtain rfl := some_r H
            refine w_nil ?_
            intro a w' hf hs
            exact ⟨_, (HLe.refl _), (((((hf.nil.add (hf.get _ _ rfl)).add (hf.get _ _ rfl)).add (hf.get _ _ rfl)).add (hf.get _ _ rfl)).add (hf.get _ _ rfl)), hs.sel [] (by decide) rfl⟩
          · replace b77 := Bool.eq_false_iff.2 b77
            replace H := if_f b77 H
            refine w_not (Nwt.of rfl rfl b77) rfl ?_
            refine w_not (Nwt.of rfl rfl b77) rfl ?_
            refine w_val trivial rfl (fun a w hf hs => r_pickF (hf.ev rfl) b77 (hf.ev rfl)) ?_
            obtain rfl := some_r H
            refine w_nil ?_
            intro a w' hf hs
            exact ⟨_, (HLe.refl _), (((((hf.nil.add (hf.get _ _ rfl)).add (hf.get _ _ rfl)).add (hf.get _ _ rfl)).add (hf.get _ _ rfl)).add (hf.get _ _ rfl)), hs.sel [] (by decide) rfl⟩
        · clear H1
          rintro a w' ⟨M74, l75, hf, hs⟩
          refine c_of (c := (Cx.mk Try.prog 39 none' M w)) ?_ hf hs
          clear hf hs
          replace h2 := h2.mono l75
          replace h4 := h4.mono l75
          replace h9 := l75 _ _ h9
          replace h13 := l75 _ _ h13
          refine c_if rfl (fun b78 => ?_) (fun b78 => ?_)
          · replace H := if_t b78 H
            refine c_seq ?_
            intro K79 hK79
            refine c_reg ?_
            refine w_val trivial rfl (fun a w hf hs => r_assign (hf.ev rfl)) ?_
            refine w_nil (hK79 _ _ _ ?_)
            obtain rfl := (r21 _ (Option.some.inj H).symm)
            refine c_ret ?_
            intro a w' hf hs
            exact hret _ (.inl rfl) a w' hf.df ⟨_, _, Res.of1 rfl (RV.t hf rfl), hs.ext, rfl⟩
          · replace H := if_f b78 H
            refine c_skip (hK26 _ _ _ ?_)
            refine c_reg ?_
            refine w_val trivial rfl (fun a w hf hs => r_move (hf.ev rfl)) ?_
            refine w_val trivial rfl (fun a w hf hs => r_add (hf.ev rfl) (hf.ev rfl)) ?_
            refine w_val trivial rfl (fun a w hf hs => r_assign (hf.ev rfl)) ?_
            refine w_nil ?_
            intro a w' hf hs
            exact ⟨_, (some_r H).symm, _, l20.trans (l71.trans l75), ((((hf.nil.add (hf.get _ _ rfl)).add (hf.get _ _ rfl)).add (hf.get _ _ rfl)).add (hf.get _ _ rfl)), hs.selD [] (by decide) rfl⟩
      · replace H := if_f b25 H
        replace H := map_inr H r21
        refine c_exit ?_
        intro a w' hf hs
        exact ⟨_, l20, hf.nil, hs.selD [] (by decide) rfl, H⟩
  · rintro a w' ⟨M14, l15, hf, hs, H⟩
    refine c_of (c := (Cx.mk Try.prog 39 none' M w)) ?_ hf hs
    unfold ref37_Holds.j1 at H
    clear hf hs
    replace h2 := h2.mono l15
    replace h4 := h4.mono l15
    replace h9 := l15 _ _ h9
    replace h13 := l15 _ _ h13
    refine c_seq ?_
    intro K16 hK16
    refine c_reg ?_
    refine w_val trivial rfl (fun a w hf hs => r_assign (hf.ev rfl)) ?_
    refine w_nil (hK16 _ _ _ ?_)
    obtain rfl := some_r H
    refine c_ret ?_
    intro a w' hf hs
    exact hret _ (.inl rfl) a w' hf.df ⟨_, _, Res.of1 rfl (RV.t hf rfl), hs.ext, rfl⟩
set_option maxRecDepth 20000 in
theorem ref37_Admit.calls {M : Heap} {w : World} (hM : Sub M w) (p0 : ref37_Place) (p1 : Backup) (v1 : Value) (h2 : RS Key.F M v1 p1.Keys) (r : Int) (H : ref37_Admit p0 p1 = some r) :
    Calls Try.prog 19 [(.agg (ref37_Place.C p0).toArray), (.agg (Backup.C p1 v1).toArray)].toArray w (Post M w fun M' v => v = (.int .i64 r)) := by
  refine enter 34 [(0, (.agg (ref37_Place.C p0).toArray)), (1, (.agg (Backup.C p1 v1).toArray))] Try.func19 rfl rfl rfl hM ?_
  intro Q hret
  unfold ref37_Admit at H
  refine c_seq ?_
  intro K3 hK3
  refine c_reg ?_
  refine w_boxM trivial rfl rfl rfl ?_
  intro b4 M5 l6 h7
  replace h2 := h2.mono l6
  refine w_boxM trivial rfl rfl rfl ?_
  intro b8 M9 l10 h11
  replace h2 := h2.mono l10
  replace h7 := l10 _ _ h7
  refine w_val trivial rfl (fun a w hf hs => r_assign (hf.ev rfl)) ?_
  refine w_nil (hK3 _ _ _ ?_)
  refine c_seq ?_
  intro K12 hK12
  refine c_reg ?_
  refine w_val trivial rfl (fun a w hf hs => r_loadA ta28 ts28 (hf.ev rfl) (hs.sub _ _ h11) (Backup.d0_38 _ _) (Backup.len _ _)) ?_
  obtain ⟨t13, e18, H⟩ := bnd H
  refine w_call cf20 trivial rfl rfl (fun w hs => ref36_Valid.calls hs p1 v1 h2 _ e18) ?_
  rintro _ M15 l16 rfl
  replace h2 := h2.mono l16
  replace h7 := l16 _ _ h7
  replace h11 := l16 _ _ h11
  refine w_val trivial rfl (fun a w hf hs => r_assign (hf.ev rfl)) ?_
  refine w_nil (hK12 _ _ _ ?_)
  refine c_seq ?_
  intro K19 hK19
  refine c_seq ?_
  intro K20 hK20
  refine c_reg ?_
  refine w_val trivial rfl (fun a w hf hs => r_move (hf.ev rfl)) ?_
  refine w_val trivial rfl (fun a w hf hs => r_not (hf.ev rfl)) ?_
  refine w_nil (hK20 _ _ _ ?_)
  refine c_if rfl (fun b21 => ?_) (fun b21 => ?_)
  · replace H := if_t b21 H
    refine c_seq ?_
    intro K22 hK22
    refine c_reg ?_
    refine w_val trivial rfl (fun a w hf hs => r_assign (hf.ev rfl)) ?_
    refine w_nil (hK22 _ _ _ ?_)
    obtain rfl := some_r H
    refine c_ret ?_
    intro a w' hf hs
    exact hret _ (.inl rfl) a w' hf.df ⟨_, _, Res.of1 rfl (RV.t hf rfl), hs.ext, rfl⟩
  · replace H := if_f b21 H
    refine c_skip (hK19 _ _ _ ?_)
    refine c_seq ?_
    intro K23 hK23
    obtain ⟨t24, H1, H⟩ := bnd H
    refine c_cut (fun a' w' => ∃ (M25 : Heap), HLe M15 M25 ∧ Fr 34 [(2, (ptr b4 0)), (3, (ptr b8 0)), (21, (.bool t24))] a' ∧ St none' M w M25 (lt []) w') ?_ ?_
    · replace H := H1
      clear H1
      refine c_reg ?_
      refine w_val trivial rfl (fun a w hf hs => r_fa fa28_0 (hf.ev rfl)) ?_
      refine w_val trivial rfl (fun a w hf hs => r_loadA ta26 ts26 (hf.ev rfl) (hs.sub _ _ h11) (Backup.d0_16 _ _) (by simp)) ?_
      refine w_val trivial rfl (fun a w hf hs => r_fa fa50_0 (hf.ev rfl)) ?_
      refine w_val trivial rfl (fun a w hf hs => r_loadA ta26 ts26 (hf.ev rfl) (hs.sub _ _ h7) (ref37_Place.d0_16 _) (by simp)) ?_
      refine w_val trivial rfl (fun a w hf hs => r_neS eq26 (hf.ev rfl) (hf.ev rfl)) ?_
      refine w_val trivial rfl (fun a w hf hs => r_move (hf.ev rfl)) ?_
      by_cases b27 : (!(decide (p1.Domain = p0.Domain))) = true
      · replace H := if_t b27 H
        refine w_not (Nwt.of rfl rfl b27) rfl ?_
        refine w_not (Nwt.of rfl rfl b27) rfl ?_
        refine w_not (Nwt.of rfl rfl b27) rfl ?_
        refine w_not (Nwt.of rfl rfl b27) rfl ?_
        refine w_not (Nwt.of rfl rfl b27) rfl ?_
        refine w_val trivial rfl (fun a w hf hs => r_pickT (hf.ev rfl) b27 (hf.ev rfl)) ?_
        obtain rfl := some_r H
        refine w_nil ?_
        intro a w' hf hs
        exact ⟨_, (HLe.refl _), (((hf.nil.add (hf.get _ _ rfl)).add (hf.get _ _ rfl)).add (hf.get _ _ rfl)), hs.sel [] (by decide) rfl⟩
      · replace b27 := Bool.eq_false_iff.2 b27
        replace H := if_f b27 H
        refine w_val (Wnt.of rfl rfl b27) rfl (fun a w hf hs => r_fa fa28_5 (hf.ev rfl)) ?_
        refine w_val (Wnt.of rfl rfl b27) rfl (fun a w hf hs => r_loadA ta26 ts26 (hf.ev rfl) (hs.sub _ _ h11) (Backup.d20_16 _ _) (by simp)) ?_
        refine w_val (Wnt.of rfl rfl b27) rfl (fun a w hf hs => r_fa fa50_1 (hf.ev rfl)) ?_
        refine w_val (Wnt.of rfl rfl b27) rfl (fun a w hf hs => r_loadA ta26 ts26 (hf.ev rfl) (hs.sub _ _ h7) (ref37_Place.d16_16 _) (by simp)) ?_
        refine w_val (Wnt.of rfl rfl b27) rfl (fun a w hf hs => r_neS eq26 (hf.ev rfl) (hf.ev rfl)) ?_
        refine w_val trivial rfl (fun a w hf hs => r_pickF (hf.ev rfl) b27 (hf.ev rfl)) ?_
        obtain rfl := some_r H
        refine w_nil ?_
        intro a w' hf hs
        exact ⟨_, (HLe.refl _), (((hf.nil.add (hf.get _ _ rfl)).add (hf.get _ _ rfl)).add (hf.get _ _ rfl)), hs.sel [] (by decide) rfl⟩
    · clear H1
      rintro a w' ⟨M25, l26, hf, hs⟩
      refine c_of (c := (Cx.mk Try.prog 34 none' M w)) ?_ hf hs
      clear hf hs
      replace h2 := h2.mono l26
      replace h7 := l26 _ _ h7
      replace h11 := l26 _ _ h11
      refine c_if rfl (fun b28 => ?_) (fun b28 => ?_)
      · replace H := if_t b28 H
        refine c_seq ?_
        intro K29 hK29
        refine c_reg ?_
        refine w_val trivial rfl (fun a w hf hs => r_assign (hf.ev rfl)) ?_
        refine w_nil (hK29 _ _ _ ?_)
        obtain rfl := some_r H
        refine c_ret ?_
        intro a w' hf hs
        exact hret _ (.inl rfl) a w' hf.df ⟨_, _, Res.of1 rfl (RV.t hf rfl), hs.ext, rfl⟩
      · replace H := if_f b28 H
        refine c_skip (hK23 _ _ _ ?_)
        refine c_seq ?_
        intro K30 hK30
        obtain ⟨t31, H1, H⟩ := bnd H
        refine c_cut (fun a' w' => ∃ (M32 : Heap), HLe M25 M32 ∧ Fr 34 [(33, (.bool t31))] a' ∧ St none' M w M32 (lt []) w') ?_ ?_
        · replace H := H1
          clear H1
          refine c_reg ?_
          refine w_val trivial rfl (fun a w hf hs => r_fa fa28_3 (hf.ev rfl)) ?_
          refine w_val trivial rfl (fun a w hf hs => r_load1 ta3 (hf.ev rfl) (hs.sub _ _ h11) (Backup.g18 _ _)) ?_
          refine w_val trivial rfl (fun a w hf hs => r_fa fa50_2 (hf.ev rfl)) ?_
          refine w_val trivial rfl (fun a w hf hs => r_load1 ta3 (hf.ev rfl) (hs.sub _ _ h7) (ref37_Place.g32 _)) ?_
          refine w_val trivial rfl (fun a w hf hs => r_gtr (hf.ev rfl) (hf.ev rfl)) ?_
          refine w_val trivial rfl (fun a w hf hs => r_move (hf.ev rfl)) ?_
          by_cases b34 : (decide (p0.Firmware < p1.Firmware)) = true
          · replace H := if_t b34 H
            refine w_not (Nwt.of rfl rfl b34) rfl ?_
            refine w_not (Nwt.of rfl rfl b34) rfl ?_
            refine w_not (Nwt.of rfl rfl b34) rfl ?_
            refine w_not (Nwt.of rfl rfl b34) rfl ?_
            refine w_not (Nwt.of rfl rfl b34) rfl ?_
            refine w_val trivial rfl (fun a w hf hs => r_pickT (hf.ev rfl) b34 (hf.ev rfl)) ?_
            obtain rfl := some_r H
            refine w_nil ?_
            intro a w' hf hs
            exact ⟨_, (HLe.refl _), (hf.nil.add (hf.get _ _ rfl)), hs.sel [] (by decide) rfl⟩
          · replace b34 := Bool.eq_false_iff.2 b34
            replace H := if_f b34 H
            refine w_val (Wnt.of rfl rfl b34) rfl (fun a w hf hs => r_fa fa28_2 (hf.ev rfl)) ?_
            refine w_val (Wnt.of rfl rfl b34) rfl (fun a w hf hs => r_load1 ta3 (hf.ev rfl) (hs.sub _ _ h11) (Backup.g17 _ _)) ?_
            refine w_val (Wnt.of rfl rfl b34) rfl (fun a w hf hs => r_fa fa50_3 (hf.ev rfl)) ?_
            refine w_val (Wnt.of rfl rfl b34) rfl (fun a w hf hs => r_load1 ta3 (hf.ev rfl) (hs.sub _ _ h7) (ref37_Place.g33 _)) ?_
            refine w_val (Wnt.of rfl rfl b34) rfl (fun a w hf hs => r_lss (hf.ev rfl) (hf.ev rfl)) ?_
            refine w_val trivial rfl (fun a w hf hs => r_pickF (hf.ev rfl) b34 (hf.ev rfl)) ?_
            obtain rfl := some_r H
            refine w_nil ?_
            intro a w' hf hs
            exact ⟨_, (HLe.refl _), (hf.nil.add (hf.get _ _ rfl)), hs.sel [] (by decide) rfl⟩
        · clear H1
          rintro a w' ⟨M32, l33, hf, hs⟩
          refine c_of (c := (Cx.mk Try.prog 34 none' M w)) ?_ hf hs
          clear hf hs
          replace h2 := h2.mono l33
          replace h7 := l33 _ _ h7
          replace h11 := l33 _ _ h11
          refine c_if rfl (fun b35 => ?_) (fun b35 => ?_)
          · replace H := if_t b35 H
            refine c_seq ?_
            intro K36 hK36
            refine c_reg ?_
            refine w_val trivial rfl (fun a w hf hs => r_assign (hf.ev rfl)) ?_
            refine w_nil (hK36 _ _ _ ?_)
            obtain rfl := some_r H
            refine c_ret ?_
            intro a w' hf hs
            exact hret _ (.inl rfl) a w' hf.df ⟨_, _, Res.of1 rfl (RV.t hf rfl), hs.ext, rfl⟩
          · replace H := if_f b35 H
            refine c_skip (hK30 _ _ _ ?_)
            refine c_seq ?_
            intro K37 hK37
            refine c_reg ?_
            refine w_val trivial rfl (fun a w hf hs => r_assign (hf.ev rfl)) ?_
            refine w_nil (hK37 _ _ _ ?_)
            obtain rfl := some_r H
            refine c_ret ?_
            intro a w' hf hs
            exact hret _ (.inl rfl) a w' hf.df ⟨_, _, Res.of1 rfl (RV.t hf rfl), hs.ext, rfl⟩
set_option maxRecDepth 20000 in
theorem law37_RestoreMatchesSpec.calls {M : Heap} {w : World} (hM : Sub M w) (hs_law37_sanity : ∀ t, law37_sanity = some t → t = true) (p0 : Table) (v1 : Value) (h2 : RS Key.F M v1 p0.Keys) (p1 : Backup) (v3 : Value) (h4 : RS Key.F M v3 p1.Keys) (p2 : Key) (p3 : Int) (p4 : restore_Place) (r : Bool) (hr_ : r = true) (H : law37_RestoreMatchesSpec p0 p1 p2 p3 p4 = some r) :
    Calls Try.prog 3 [(.agg (Table.C p0 v1).toArray), (.agg (Backup.C p1 v3).toArray), (.agg (Key.C p2).toArray), (.int .i64 p3), (.agg (restore_Place.C p4).toArray)].toArray w (Post M w fun M' v => v = (.bool r)) := by
  refine enter 120 [(0, (.agg (Table.C p0 v1).toArray)), (1, (.agg (Backup.C p1 v3).toArray)), (2, (.agg (Key.C p2).toArray)), (3, (.int .i64 p3)), (4, (.agg (restore_Place.C p4).toArray))] Try.func3 rfl rfl rfl hM ?_
  intro Q hret
  unfold law37_RestoreMatchesSpec at H
  refine c_seq ?_
  intro K5 hK5
  refine c_reg ?_
  refine w_boxM trivial rfl rfl rfl ?_
  intro b6 M7 l8 h9
  replace h2 := h2.mono l8
  replace h4 := h4.mono l8
  refine w_boxM trivial rfl rfl rfl ?_
  intro b10 M11 l12 h13
  replace h2 := h2.mono l12
  replace h4 := h4.mono l12
  replace h9 := l12 _ _ h9
  refine w_boxM trivial rfl rfl rfl ?_
  intro b14 M15 l16 h17
  replace h2 := h2.mono l16
  replace h4 := h4.mono l16
  replace h9 := l16 _ _ h9
  replace h13 := l16 _ _ h13
  refine w_boxM trivial rfl rfl rfl ?_
  intro b18 M19 l20 h21
  replace h2 := h2.mono l20
  replace h4 := h4.mono l20
  replace h9 := l20 _ _ h9
  replace h13 := l20 _ _ h13
  replace h17 := l20 _ _ h17
  refine w_val trivial rfl (fun a w hf hs => r_assign (hf.ev rfl)) ?_
  refine w_nil (hK5 _ _ _ ?_)
  refine c_seq ?_
  intro K22 hK22
  obtain ⟨t23, H1, H⟩ := bnd H
  refine c_cut (fun a' w' => ∃ (M24 : Heap), HLe M19 M24 ∧ Fr 120 [(3, (.int .i64 p3)), (5, (ptr b6 0)), (6, (ptr b10 0)), (7, (ptr b14 0)), (9, (ptr b18 0)), (28, (.bool t23))] a' ∧ St none' M w M24 (lt []) w') ?_ ?_
  · replace H := H1
    clear H1
    refine c_reg ?_
    refine w_val trivial rfl (fun a w hf hs => r_loadA ta24 ts24 (hf.ev rfl) (hs.sub _ _ h9) rfl rfl) ?_
    refine w_val trivial rfl (fun a w hf hs => r_loadA ta28 ts28 (hf.ev rfl) (hs.sub _ _ h13) (Backup.d0_38 _ _) (Backup.len _ _)) ?_
    obtain ⟨t26, e31, H⟩ := bnd H
    refine w_call cf7 trivial rfl rfl (fun w hs => law37_few.calls hs p0 v1 h2 p1 v3 h4 _ e31) ?_
    rintro _ M28 l29 rfl
    replace h2 := h2.mono l29
    replace h4 := h4.mono l29
    replace h9 := l29 _ _ h9
    replace h13 := l29 _ _ h13
    replace h17 := l29 _ _ h17
    replace h21 := l29 _ _ h21
    refine w_val trivial rfl (fun a w hf hs => r_not (hf.ev rfl)) ?_
    refine w_val trivial rfl (fun a w hf hs => r_move (hf.ev rfl)) ?_
    by_cases b32 : (!t26) = true
    · replace H := if_t b32 H
      refine w_not (Nwt.of rfl rfl b32) rfl ?_
      refine w_not (Nwt.of rfl rfl b32) rfl ?_
      refine w_not (Nwt.of rfl rfl b32) rfl ?_
      refine w_val trivial rfl (fun a w hf hs => r_pickT (hf.ev rfl) b32 (hf.ev rfl)) ?_
      obtain rfl := some_r H
      refine w_nil ?_
      intro a w' hf hs
      exact ⟨_, l29, ((((((hf.nil.add (hf.get _ _ rfl)).add (hf.get _ _ rfl)).add (hf.get _ _ rfl)).add (hf.get _ _ rfl)).add (hf.get _ _ rfl)).add (hf.get _ _ rfl)), hs.sel [] (by decide) rfl⟩
    · replace b32 := Bool.eq_false_iff.2 b32
      replace H := if_f b32 H
      refine w_val (Wnt.of rfl rfl b32) rfl (fun a w hf hs => r_loadA ta24 ts24 (hf.ev rfl) (hs.sub _ _ h9) rfl rfl) ?_
      obtain ⟨t33, e38, H⟩ := bnd H
      refine w_call cf8 (Wnt.of rfl rfl b32) rfl rfl (fun w hs => ref27_ValidTable.calls hs p0 v1 h2 _ e38) ?_
      rintro _ M35 l36 rfl
      replace h2 := h2.mono l36
      replace h4 := h4.mono l36
      replace h9 := l36 _ _ h9
      replace h13 := l36 _ _ h13
      replace h17 := l36 _ _ h17
      replace h21 := l36 _ _ h21
      refine w_val (Wnt.of rfl rfl b32) rfl (fun a w hf hs => r_not (hf.ev rfl)) ?_
      refine w_val trivial rfl (fun a w hf hs => r_pickF (hf.ev rfl) b32 (hf.ev rfl)) ?_
      obtain rfl := some_r H
      refine w_nil ?_
      intro a w' hf hs
      exact ⟨_, (l29.trans l36), ((((((hf.nil.add (hf.get _ _ rfl)).add (hf.get _ _ rfl)).add (hf.get _ _ rfl)).add (hf.get _ _ rfl)).add (hf.get _ _ rfl)).add (hf.get _ _ rfl)), hs.sel [] (by decide) rfl⟩
  · clear H1
    rintro a w' ⟨M24, l25, hf, hs⟩
    refine c_of (c := (Cx.mk Try.prog 120 none' M w)) ?_ hf hs
    clear hf hs
    replace h2 := h2.mono l25
    replace h4 := h4.mono l25
    replace h9 := l25 _ _ h9
    replace h13 := l25 _ _ h13
    replace h17 := l25 _ _ h17
    replace h21 := l25 _ _ h21
    refine c_if rfl (fun b39 => ?_) (fun b39 => ?_)
    · replace H := if_t b39 H
      refine c_seq ?_
      intro K40 hK40
      refine c_reg ?_
      obtain ⟨t41, e46, H⟩ := bnd H
      refine w_call cf9 trivial rfl rfl (fun w hs => law37_sanity.calls hs  _ (hs_law37_sanity _ e46) e46) ?_
      rintro _ M43 l44 rfl
      replace h2 := h2.mono l44
      replace h4 := h4.mono l44
      replace h9 := l44 _ _ h9
      replace h13 := l44 _ _ h13
      replace h17 := l44 _ _ h17
      replace h21 := l44 _ _ h21
      refine w_val trivial rfl (fun a w hf hs => r_assign (hf.ev rfl)) ?_
      refine w_nil (hK40 _ _ _ ?_)
      obtain rfl := some_r H
      refine c_ret ?_
      intro a w' hf hs
      exact hret _ (.inl rfl) a w' hf.df ⟨_, _, Res.of1 rfl (RV.t hf rfl), hs.ext, rfl⟩
    · replace H := if_f b39 H
      refine c_skip (hK22 _ _ _ ?_)
      refine c_seq ?_
      intro K47 hK47
      refine c_reg ?_
      refine w_val trivial rfl (fun a w hf hs => r_loadA ta24 ts24 (hf.ev rfl) (hs.sub _ _ h9) rfl rfl) ?_
      refine w_val trivial rfl (fun a w hf hs => r_loadA ta28 ts28 (hf.ev rfl) (hs.sub _ _ h13) (Backup.d0_38 _ _) (Backup.len _ _)) ?_
      refine w_val trivial rfl (fun a w hf hs => r_move (hf.ev rfl)) ?_
      obtain ⟨t48, e53, H⟩ := bnd H
      refine w_call cf10 trivial rfl rfl (fun w hs => restore_Plan.calls hs p0 v1 h2 p1 v3 h4 p3 _ e53) ?_
      rintro v1727 M50 l51 ⟨v54, v56, hv_, h55, h57⟩
      replace hv_ := hv_.symm
      subst hv_
      replace h2 := h2.mono l51
      replace h4 := h4.mono l51
      replace h9 := l51 _ _ h9
      replace h13 := l51 _ _ h13
      replace h17 := l51 _ _ h17
      replace h21 := l51 _ _ h21
      refine w_val trivial rfl (fun a w hf hs => r_move (hf.ev rfl)) ?_
      refine w_val trivial rfl (fun a w hf hs => r_extract (hf.ev rfl) rfl) ?_
      refine w_val trivial rfl (fun a w hf hs => r_extract (hf.ev rfl) rfl) ?_
      refine w_val trivial rfl (fun a w hf hs => r_extract (hf.ev rfl) rfl) ?_
      refine w_allocL (A := Table.C (⟨(0 : Int), ([] : (List Key))⟩ : Table) (.slice none 0 0)) tz24 trivial rfl rfl ?_
      intro b58
      refine w_store (i := 0) (vs := Table.C t48.1 v54) (A' := Table.C t48.1 v54) trivial rfl rfl rfl rfl ts24 rfl (Table.C_one _ h55.one) (Nat.le_of_ble_eq_true rfl) rfl ?_
      refine w_val trivial rfl (fun a w hf hs => r_assign (hf.ev rfl)) ?_
      refine w_val trivial rfl (fun a w hf hs => r_assign (hf.ev rfl)) ?_
      refine w_nil (hK47 _ _ _ ?_)
      refine c_seq ?_
      intro K59 hK59
      refine c_reg ?_
      refine w_val trivial rfl (fun a w hf hs => r_loadA ta24 ts24 (hf.ev rfl) (hs.sub _ _ h9) rfl rfl) ?_
      refine w_val trivial rfl (fun a w hf hs => r_loadA ta28 ts28 (hf.ev rfl) (hs.sub _ _ h13) (Backup.d0_38 _ _) (Backup.len _ _)) ?_
      refine w_val trivial rfl (fun a w hf hs => r_move (hf.ev rfl)) ?_
      obtain ⟨t60, e65, H⟩ := bnd H
      refine w_call cf11 trivial rfl rfl (fun w hs => ref37_Plan.calls hs p0 v1 h2 p1 v3 h4 p3 _ e65) ?_
      rintro v1726 M62 l63 ⟨v66, v68, hv_, h67, h69⟩
      replace hv_ := hv_.symm
      subst hv_
      replace h2 := h2.mono l63
      replace h4 := h4.mono l63
      replace h9 := l63 _ _ h9
      replace h13 := l63 _ _ h13
      replace h17 := l63 _ _ h17
      replace h21 := l63 _ _ h21
      replace h55 := h55.mono l63
      replace h57 := h57.mono l63
      refine w_allocL (A := ref37_Planned.C (⟨(⟨(0 : Int), ([] : (List Key))⟩ : Table), ([] : (List Int)), (0 : Int)⟩ : ref37_Planned) (.slice none 0 0) (.slice none 0 0)) tz41 trivial rfl rfl ?_
      intro b70
      refine w_store (i := 1) (vs := ref37_Planned.C t60 v66 v68) (A' := ref37_Planned.C t60 v66 v68) trivial rfl rfl rfl rfl ts41 rfl (ref37_Planned.C_one _ h67.one h69.one) (Nat.le_of_ble_eq_true rfl) rfl ?_
      refine w_nil (hK59 _ _ _ ?_)
      refine c_seq ?_
      intro K71 hK71
      refine c_reg ?_
      refine w_val trivial rfl (fun a w hf hs => r_loadA ta24 ts24 (hf.ev rfl) (hs.sub _ _ h9) rfl rfl) ?_
      refine w_val trivial rfl (fun a w hf hs => r_loadA ta30 ts30 (hf.ev rfl) (hs.sub _ _ h17) rfl rfl) ?_
      obtain ⟨t72, e77, H⟩ := bnd H
      refine w_call cf12 trivial rfl rfl (fun w hs => restore_Twin.calls hs p0 v1 h2 p2 _ e77) ?_
      rintro _ M74 l75 rfl
      replace h2 := h2.mono l75
      replace h4 := h4.mono l75
      replace h9 := l75 _ _ h9
      replace h13 := l75 _ _ h13
      replace h17 := l75 _ _ h17
      replace h21 := l75 _ _ h21
      replace h55 := h55.mono l75
      replace h57 := h57.mono l75
      replace h67 := h67.mono l75
      replace h69 := h69.mono l75
      refine w_val trivial rfl (fun a w hf hs => r_move (hf.ev rfl)) ?_
      refine w_val trivial rfl (fun a w hf hs => r_extract (hf.ev rfl) rfl) ?_
      refine w_val trivial rfl (fun a w hf hs => r_extract (hf.ev rfl) rfl) ?_
      refine w_val trivial rfl (fun a w hf hs => r_assign (hf.ev rfl)) ?_
      refine w_val trivial rfl (fun a w hf hs => r_assign (hf.ev rfl)) ?_
      refine w_nil (hK71 _ _ _ ?_)
      refine c_seq ?_
      intro K78 hK78
      refine c_reg ?_
      refine w_val trivial rfl (fun a w hf hs => r_loadA ta24 ts24 (hf.ev rfl) (hs.sub _ _ h9) rfl rfl) ?_
      refine w_val trivial rfl (fun a w hf hs => r_loadA ta30 ts30 (hf.ev rfl) (hs.sub _ _ h17) rfl rfl) ?_
      obtain ⟨t79, e84, H⟩ := bnd H
      refine w_call cf13 trivial rfl rfl (fun w hs => ref37_Twin.calls hs p0 v1 h2 p2 _ e84) ?_
      rintro _ M81 l82 rfl
      replace h2 := h2.mono l82
      replace h4 := h4.mono l82
      replace h9 := l82 _ _ h9
      replace h13 := l82 _ _ h13
      replace h17 := l82 _ _ h17
      replace h21 := l82 _ _ h21
      replace h55 := h55.mono l82
      replace h57 := h57.mono l82
      replace h67 := h67.mono l82
      replace h69 := h69.mono l82
      refine w_val trivial rfl (fun a w hf hs => r_move (hf.ev rfl)) ?_
      refine w_val trivial rfl (fun a w hf hs => r_extract (hf.ev rfl) rfl) ?_
      refine w_val trivial rfl (fun a w hf hs => r_extract (hf.ev rfl) rfl) ?_
      refine w_val trivial rfl (fun a w hf hs => r_assign (hf.ev rfl)) ?_
      refine w_val trivial rfl (fun a w hf hs => r_assign (hf.ev rfl)) ?_
      refine w_nil (hK78 _ _ _ ?_)
      obtain ⟨t85, H1, H⟩ := bnd H
      refine c_cut (fun a' w' => ∃ (M86 : Heap), HLe M81 M86 ∧ Fr 120 [(3, (.int .i64 p3)), (5, (ptr b6 0)), (6, (ptr b10 0)), (9, (ptr b18 0)), (15, (.int .i64 t72.1)), (16, (.bool t72.2)), (17, (.int .i64 t79.1)), (18, (.bool t79.2)), (19, (.bool t85))] a' ∧ St none' M w M86 (lt [.blk b58 (.cells (Table.C t48.1 v54).toArray 24 (0, 0)), .blk b70 (.cells (ref37_Planned.C t60 v66 v68).toArray 41 (0, 0))]) w') ?_ ?_
      · replace H := H1
        clear H1
        refine c_reg ?_
        refine w_val trivial rfl (fun a w hf hs => r_loadA ta24 ts24 (hf.ev rfl) (hs.blk (i := 0) rfl) rfl rfl) ?_
        refine w_val trivial rfl (fun a w hf hs => r_fa fa41_0 (hf.ev rfl)) ?_
        refine w_val trivial rfl (fun a w hf hs => r_loadA ta24 ts24 (hf.ev rfl) (hs.blk (i := 1) rfl) rfl rfl) ?_
        obtain ⟨t88, e93, H⟩ := bnd H
        refine w_call cf14 trivial rfl rfl (fun w hs => ref27_Same.calls hs t48.1 v54 h55 t60.T v66 h67 _ e93) ?_
        rintro _ M90 l91 rfl
        replace h2 := h2.mono l91
        replace h4 := h4.mono l91
        replace h9 := l91 _ _ h9
        replace h13 := l91 _ _ h13
        replace h17 := l91 _ _ h17
        replace h21 := l91 _ _ h21
        replace h55 := h55.mono l91
        replace h57 := h57.mono l91
        replace h67 := h67.mono l91
        replace h69 := h69.mono l91
        refine w_val trivial rfl (fun a w hf hs => r_move (hf.ev rfl)) ?_
        by_cases b94 : t88 = true
        · replace H := if_t b94 H
          refine w_val (Wnt.of rfl rfl b94) rfl (fun a w hf hs => r_fa fa24_0 (hf.ev rfl)) ?_
          refine w_val (Wnt.of rfl rfl b94) rfl (fun a w hf hs => r_load1 ta3 (hf.ev rfl) (hs.blk (i := 0) rfl) rfl) ?_
          refine w_val (Wnt.of rfl rfl b94) rfl (fun a w hf hs => r_fa fa41_0 (hf.ev rfl)) ?_
          refine w_val (Wnt.of rfl rfl b94) rfl (fun a w hf hs => r_fa fa24_0 (hf.ev rfl)) ?_
          refine w_val (Wnt.of rfl rfl b94) rfl (fun a w hf hs => r_load1 ta3 (hf.ev rfl) (hs.blk (i := 1) rfl) rfl) ?_
          refine w_val (Wnt.of rfl rfl b94) rfl (fun a w hf hs => r_eql (hf.ev rfl) (hf.ev rfl)) ?_
          refine w_val trivial rfl (fun a w hf hs => r_pickT (hf.ev rfl) b94 (hf.ev rfl)) ?_
          refine w_val trivial rfl (fun a w hf hs => r_move (hf.ev rfl)) ?_
          by_cases b95 : (t48.1.Next == t60.T.Next) = true
          · replace H := if_t b95 H
            refine w_val (Wnt.of rfl rfl b95) rfl (fun a w hf hs => r_move (hf.ev rfl)) ?_
            refine w_val (Wnt.of rfl rfl b95) rfl (fun a w hf hs => r_fa fa41_1 (hf.ev rfl)) ?_
            refine w_val (Wnt.of rfl rfl b95) rfl (fun a w hf hs => r_load1 ta36 (hf.ev rfl) (hs.blk (i := 1) rfl) rfl) ?_
            obtain ⟨t96, e101, H⟩ := bnd H
            refine w_call cf15 (Wnt.of rfl rfl b95) rfl rfl (fun w hs => ref01_SameInts.calls hs t48.2.1 v56 h57 t60.Ids v68 h69 _ e101) ?_
            rintro _ M98 l99 rfl
            replace h2 := h2.mono l99
            replace h4 := h4.mono l99
            replace h9 := l99 _ _ h9
            replace h13 := l99 _ _ h13
            replace h17 := l99 _ _ h17
            replace h21 := l99 _ _ h21
            replace h55 := h55.mono l99
            replace h57 := h57.mono l99
            replace h67 := h67.mono l99
            replace h69 := h69.mono l99
            refine w_val trivial rfl (fun a w hf hs => r_pickT (hf.ev rfl) b95 (hf.ev rfl)) ?_
            refine w_val trivial rfl (fun a w hf hs => r_move (hf.ev rfl)) ?_
            by_cases b102 : t96 = true
            · replace H := if_t b102 H
              refine w_val (Wnt.of rfl rfl b102) rfl (fun a w hf hs => r_move (hf.ev rfl)) ?_
              refine w_val (Wnt.of rfl rfl b102) rfl (fun a w hf hs => r_fa fa41_2 (hf.ev rfl)) ?_
              refine w_val (Wnt.of rfl rfl b102) rfl (fun a w hf hs => r_load1 ta37 (hf.ev rfl) (hs.blk (i := 1) rfl) rfl) ?_
              refine w_val (Wnt.of rfl rfl b102) rfl (fun a w hf hs => r_eql (hf.ev rfl) (hf.ev rfl)) ?_
              refine w_val trivial rfl (fun a w hf hs => r_pickT (hf.ev rfl) b102 (hf.ev rfl)) ?_
              refine w_val trivial rfl (fun a w hf hs => r_assign (hf.ev rfl)) ?_
              obtain rfl := some_r H
              refine w_nil ?_
              intro a w' hf hs
              exact ⟨_, (l91.trans l99), (((((((((hf.nil.add (hf.get _ _ rfl)).add (hf.get _ _ rfl)).add (hf.get _ _ rfl)).add (hf.get _ _ rfl)).add (hf.get _ _ rfl)).add (hf.get _ _ rfl)).add (hf.get _ _ rfl)).add (hf.get _ _ rfl)).add (hf.get _ _ rfl)), hs.sel [0, 1] (by decide) rfl⟩
            · replace b102 := Bool.eq_false_iff.2 b102
              replace H := if_f b102 H
              refine w_not (Nwt.of rfl rfl b102) rfl ?_
              refine w_not (Nwt.of rfl rfl b102) rfl ?_
              refine w_not (Nwt.of rfl rfl b102) rfl ?_
              refine w_not (Nwt.of rfl rfl b102) rfl ?_
              refine w_val trivial rfl (fun a w hf hs => r_pickF (hf.ev rfl) b102 (hf.ev rfl)) ?_
              refine w_val trivial rfl (fun a w hf hs => r_assign (hf.ev rfl)) ?_
              obtain rfl := some_r H
              refine w_nil ?_
              intro a w' hf hs
              exact ⟨_, (l91.trans l99), (((((((((hf.nil.add (hf.get _ _ rfl)).add (hf.get _ _ rfl)).add (hf.get _ _ rfl)).add (hf.get _ _ rfl)).add (hf.get _ _ rfl)).add (hf.get _ _ rfl)).add (hf.get _ _ rfl)).add (hf.get _ _ rfl)).add (hf.get _ _ rfl)), hs.sel [0, 1] (by decide) rfl⟩
          · replace b95 := Bool.eq_false_iff.2 b95
            replace H := if_f b95 H
            refine w_not (Nwt.of rfl rfl b95) rfl ?_
            refine w_not (Nwt.of rfl rfl b95) rfl ?_
            refine w_not (Nwt.of rfl rfl b95) rfl ?_
            refine w_not (Nwt.of rfl rfl b95) rfl ?_
            refine w_val trivial rfl (fun a w hf hs => r_pickF (hf.ev rfl) b95 (hf.ev rfl)) ?_
            refine w_val trivial rfl (fun a w hf hs => r_move (hf.ev rfl)) ?_
            refine w_not (Nwt.of rfl rfl rfl) rfl ?_
            refine w_not (Nwt.of rfl rfl rfl) rfl ?_
            refine w_not (Nwt.of rfl rfl rfl) rfl ?_
            refine w_not (Nwt.of rfl rfl rfl) rfl ?_
            refine w_val trivial rfl (fun a w hf hs => r_pickF (hf.ev rfl) rfl (hf.ev rfl)) ?_
            refine w_val trivial rfl (fun a w hf hs => r_assign (hf.ev rfl)) ?_
            obtain rfl := some_r H
            refine w_nil ?_
            intro a w' hf hs
            exact ⟨_, l91, (((((((((hf.nil.add (hf.get _ _ rfl)).add (hf.get _ _ rfl)).add (hf.get _ _ rfl)).add (hf.get _ _ rfl)).add (hf.get _ _ rfl)).add (hf.get _ _ rfl)).add (hf.get _ _ rfl)).add (hf.get _ _ rfl)).add (hf.get _ _ rfl)), hs.sel [0, 1] (by decide) rfl⟩
        · replace b94 := Bool.eq_false_iff.2 b94
          replace H := if_f b94 H
          refine w_not (Nwt.of rfl rfl b94) rfl ?_
          refine w_not (Nwt.of rfl rfl b94) rfl ?_
          refine w_not (Nwt.of rfl rfl b94) rfl ?_
          refine w_not (Nwt.of rfl rfl b94) rfl ?_
          refine w_not (Nwt.of rfl rfl b94) rfl ?_
          refine w_not (Nwt.of rfl rfl b94) rfl ?_
          refine w_val trivial rfl (fun a w hf hs => r_pickF (hf.ev rfl) b94 (hf.ev rfl)) ?_
          refine w_val trivial rfl (fun a w hf hs => r_move (hf.ev rfl)) ?_
          refine w_not (Nwt.of rfl rfl rfl) rfl ?_
          refine w_not (Nwt.of rfl rfl rfl) rfl ?_
          refine w_not (Nwt.of rfl rfl rfl) rfl ?_
          refine w_not (Nwt.of rfl rfl rfl) rfl ?_
          refine w_val trivial rfl (fun a w hf hs => r_pickF (hf.ev rfl) rfl (hf.ev rfl)) ?_
          refine w_val trivial rfl (fun a w hf hs => r_move (hf.ev rfl)) ?_
          refine w_not (Nwt.of rfl rfl rfl) rfl ?_
          refine w_not (Nwt.of rfl rfl rfl) rfl ?_
          refine w_not (Nwt.of rfl rfl rfl) rfl ?_
          refine w_not (Nwt.of rfl rfl rfl) rfl ?_
          refine w_val trivial rfl (fun a w hf hs => r_pickF (hf.ev rfl) rfl (hf.ev rfl)) ?_
          refine w_val trivial rfl (fun a w hf hs => r_assign (hf.ev rfl)) ?_
          obtain rfl := some_r H
          refine w_nil ?_
          intro a w' hf hs
          exact ⟨_, l91, (((((((((hf.nil.add (hf.get _ _ rfl)).add (hf.get _ _ rfl)).add (hf.get _ _ rfl)).add (hf.get _ _ rfl)).add (hf.get _ _ rfl)).add (hf.get _ _ rfl)).add (hf.get _ _ rfl)).add (hf.get _ _ rfl)).add (hf.get _ _ rfl)), hs.sel [0, 1] (by decide) rfl⟩
      · clear H1
        rintro a w' ⟨M86, l87, hf, hs⟩
        refine c_of (c := (Cx.mk Try.prog 120 none' M w)) ?_ hf hs
        clear hf hs
        replace h2 := h2.mono l87
        replace h4 := h4.mono l87
        replace h9 := l87 _ _ h9
        replace h13 := l87 _ _ h13
        replace h17 := l87 _ _ h17
        replace h21 := l87 _ _ h21
        replace h55 := h55.mono l87
        replace h57 := h57.mono l87
        replace h67 := h67.mono l87
        replace h69 := h69.mono l87
        obtain ⟨t103, H1, H⟩ := bnd H
        have ht_ := (some_r H).trans hr_
        refine c_cut (fun a' w' => ∃ (M104 : Heap), HLe M86 M104 ∧ Fr 120 [(10, (.bool t103))] a' ∧ St none' M w M104 (lt [.blk b58 (.cells (Table.C t48.1 v54).toArray 24 (0, 0)), .blk b70 (.cells (ref37_Planned.C t60 v66 v68).toArray 41 (0, 0))]) w') ?_ ?_
        · replace H := H1
          clear H1
          obtain ⟨t918, e923, H⟩ := bnd H
          by_cases b927 : t918 = true
          · replace H := if_t b927 H
            by_cases b938 : t85 = true
            · replace H := if_t b938 H
              by_cases b957 : (t72.1 == t79.1) = true
              · replace H := if_t b957 H
                by_cases b976 : (t72.2 == t79.2) = true
                · replace H := if_t b976 H
                  obtain ⟨t992, e997, H⟩ := bnd H
                  obtain ⟨t1013, e1018, H⟩ := bnd H
                  by_cases b1031 : (t992 == t1013) = true
                  · replace H := if_t b1031 H
                    obtain ⟨t1043, e1048, H⟩ := bnd H
                    obtain ⟨t1092, e1097, H⟩ := bnd H
                    refine c_drawP [([], []), ([(0, 78)], []), ([(1, 79)], [19]), ([(1, 79), (2, 80)], []), ([(3, 81)], []), ([(4, 82)], [15]), ([(4, 82)], [17]), ([(5, 83), (6, 84), (4, 82)], []), ([(4, 82), (7, 85)], []), ([(8, 86)], []), ([(9, 87)], [16]), ([(9, 87)], [18]), ([(10, 88), (11, 89), (9, 87)], []), ([(9, 87), (12, 90)], []), ([(13, 91)], []), ([(14, 92)], [5]), ([(14, 92)], [6]), ([(14, 92)], [3]), ([(15, 93), (16, 94), (17, 95), (14, 92)], []), ([(14, 92)], [5]), ([(14, 92)], [6]), ([(14, 92)], [3]), ([(19, 97), (20, 98), (21, 99), (14, 92)], []), ([(18, 96), (22, 100), (14, 92)], []), ([(14, 92), (23, 101)], []), ([(24, 102)], []), ([(25, 103)], [9]), ([(25, 103)], [6]), ([(26, 104), (27, 105), (25, 103)], []), ([(25, 103)], [9]), ([(29, 107), (25, 103)], []), ([(25, 103)], [9]), ([(31, 109), (25, 103)], []), ([(25, 103)], [9]), ([(33, 111), (25, 103)], []), ([(25, 103)], [9]), ([(35, 113), (25, 103)], []), ([(30, 108), (32, 110), (34, 112), (36, 114), (25, 103)], []), ([(25, 103)], [6]), ([(37, 115), (38, 116), (25, 103)], []), ([(28, 106), (39, 117), (25, 103)], []), ([(25, 103), (40, 118)], []), ([(41, 119)], [])] [fun v M => v = (.bool t918), fun v M => v = (.bool t918), fun v M => v = (.bool t85), fun v M => v = (.bool t85), fun v M => v = (.bool t85), fun v M => v = (.int .i64 t72.1), fun v M => v = (.int .i64 t79.1), fun v M => v = (.bool (t72.1 == t79.1)), fun v M => v = (.bool (t72.1 == t79.1)), fun v M => v = (.bool (t72.1 == t79.1)), fun v M => v = (.bool t72.2), fun v M => v = (.bool t79.2), fun v M => v = (.bool (t72.2 == t79.2)), fun v M => v = (.bool (t72.2 == t79.2)), fun v M => v = (.bool (t72.2 == t79.2)), fun v M => v = (.agg (Table.C p0 v1).toArray), fun v M => v = (.agg (Backup.C p1 v3).toArray), fun v M => v = (.int .i64 p3), fun v M => v = (.bool t992), fun v M => v = (.agg (Table.C p0 v1).toArray), fun v M => v = (.agg (Backup.C p1 v3).toArray), fun v M => v = (.int .i64 p3), fun v M => v = (.bool t1013), fun v M => v = (.bool (t992 == t1013)), fun v M => v = (.bool (t992 == t1013)), fun v M => v = (.bool (t992 == t1013)), fun v M => v = (.agg (restore_Place.C p4).toArray), fun v M => v = (.agg (Backup.C p1 v3).toArray), fun v M => v = (.int .i64 t1043), fun v M => v = (ptr b18 0), fun v M => v = (.agg (vI .u8 p4.Domain).toArray), fun v M => v = (ptr b18 16), fun v M => v = (.agg (vI .u8 p4.Policy).toArray), fun v M => v = (ptr b18 32), fun v M => v = (.int .i64 p4.Firmware), fun v M => v = (ptr b18 33), fun v M => v = (.int .i64 p4.Number), fun v M => v = (.agg (ref37_Place.C ({ ({ ({ ({ (default : ref37_Place) with Domain := p4.Domain } : ref37_Place) with Policy := p4.Policy } : ref37_Place) with Firmware := p4.Firmware } : ref37_Place) with Number := p4.Number } : ref37_Place)).toArray), fun v M => v = (.agg (Backup.C p1 v3).toArray), fun v M => v = (.int .i64 t1092), fun v M => v = (.bool (t1043 == t1092)), fun v M => v = (.bool (t1043 == t1092)), fun v M => v = (.bool (t1043 == t1092))] (by kernel_rfl) (by kernel_rfl) ?_ (AllT.cons ?_ (AllT.cons ?_ (AllT.cons ?_ (AllT.cons ?_ (AllT.cons ?_ (AllT.cons ?_ (AllT.cons ?_ (AllT.cons ?_ (AllT.cons ?_ (AllT.cons ?_ (AllT.cons ?_ (AllT.cons ?_ (AllT.cons ?_ (AllT.cons ?_ (AllT.cons ?_ (AllT.cons ?_ (AllT.cons ?_ (AllT.cons ?_ (AllT.cons ?_ (AllT.cons ?_ (AllT.cons ?_ (AllT.cons ?_ (AllT.cons ?_ (AllT.cons ?_ (AllT.cons ?_ (AllT.cons ?_ (AllT.cons ?_ (AllT.cons ?_ (AllT.cons ?_ (AllT.cons ?_ (AllT.cons ?_ (AllT.cons ?_ (AllT.cons ?_ (AllT.cons ?_ (AllT.cons ?_ (AllT.cons ?_ (AllT.cons ?_ (AllT.cons ?_ (AllT.cons ?_ (AllT.cons ?_ (AllT.cons ?_ (AllT.cons ?_ (AllT.cons ?_ AllT.nil))))))))))))))))))))))))))))))))))))))))))) ?_
                    · exact (MonoA.cons (fun _ _ _ _ h => h) (MonoA.cons (fun _ _ _ _ h => h) (MonoA.cons (fun _ _ _ _ h => h) (MonoA.cons (fun _ _ _ _ h => h) (MonoA.cons (fun _ _ _ _ h => h) (MonoA.cons (fun _ _ _ _ h => h) (MonoA.cons (fun _ _ _ _ h => h) (MonoA.cons (fun _ _ _ _ h => h) (MonoA.cons (fun _ _ _ _ h => h) (MonoA.cons (fun _ _ _ _ h => h) (MonoA.cons (fun _ _ _ _ h => h) (MonoA.cons (fun _ _ _ _ h => h) (MonoA.cons (fun _ _ _ _ h => h) (MonoA.cons (fun _ _ _ _ h => h) (MonoA.cons (fun _ _ _ _ h => h) (MonoA.cons (fun _ _ _ _ h => h) (MonoA.cons (fun _ _ _ _ h => h) (MonoA.cons (fun _ _ _ _ h => h) (MonoA.cons (fun _ _ _ _ h => h) (MonoA.cons (fun _ _ _ _ h => h) (MonoA.cons (fun _ _ _ _ h => h) (MonoA.cons (fun _ _ _ _ h => h) (MonoA.cons (fun _ _ _ _ h => h) (MonoA.cons (fun _ _ _ _ h => h) (MonoA.cons (fun _ _ _ _ h => h) (MonoA.cons (fun _ _ _ _ h => h) (MonoA.cons (fun _ _ _ _ h => h) (MonoA.cons (fun _ _ _ _ h => h) (MonoA.cons (fun _ _ _ _ h => h) (MonoA.cons (fun _ _ _ _ h => h) (MonoA.cons (fun _ _ _ _ h => h) (MonoA.cons (fun _ _ _ _ h => h) (MonoA.cons (fun _ _ _ _ h => h) (MonoA.cons (fun _ _ _ _ h => h) (MonoA.cons (fun _ _ _ _ h => h) (MonoA.cons (fun _ _ _ _ h => h) (MonoA.cons (fun _ _ _ _ h => h) (MonoA.cons (fun _ _ _ _ h => h) (MonoA.cons (fun _ _ _ _ h => h) (MonoA.cons (fun _ _ _ _ h => h) (MonoA.cons (fun _ _ _ _ h => h) (MonoA.cons (fun _ _ _ _ h => h) (MonoA.cons (fun _ _ _ _ h => h) MonoA.nil)))))))))))))))))))))))))))))))))))))))))))
                    · intro a w' M916 l917 hd hs
                      refine OP.ofW (l := []) hd.fr hs rfl ?_
                      refine w_call cf9 trivial rfl rfl (fun w hs => law37_sanity.calls hs  _ (hs_law37_sanity _ e923) e923) ?_
                      rintro _ M920 l921 rfl
                      refine w_nil ?_
                      intro a w' hf hs
                      exact ⟨rfl, hf.df, _, l921, hs, hf.get _ _ rfl⟩
                    · intro a w' M924 l925 hd hs
                      have e926 := hd.val 0 78 _ rfl rfl
                      refine OP.ofW (l := [(78, (.bool t918))]) (hd.fr.add e926) hs rfl ?_
                      refine w_val trivial rfl (fun a w hf hs => r_move (hf.ev rfl)) ?_
                      refine w_nil ?_
                      intro a w' hf hs
                      exact ⟨rfl, hf.df, _, (HLe.refl _), hs, hf.get _ _ rfl⟩
                    · intro a w' M928 l929 hd hs
                      have e930 := hd.val 1 79 _ rfl rfl
                      refine OP.ofW (l := [(19, (.bool t85)), (79, (.bool t918))]) ((hd.fr.add e930).add (hd.base 19 _ rfl rfl)) hs rfl ?_
                      refine w_val (Wnt.of rfl rfl b927) rfl (fun a w hf hs => r_move (hf.ev rfl)) ?_
                      refine w_nil ?_
                      intro a w' hf hs
                      exact ⟨rfl, hf.df, _, (HLe.refl _), hs, hf.get _ _ rfl⟩
                    · intro a w' M931 l932 hd hs
                      have e933 := hd.val 1 79 _ rfl rfl
                      have e934 := hd.val 2 80 _ rfl rfl
                      refine OP.ofW (l := [(79, (.bool t918)), (80, (.bool t85))]) ((hd.fr.add e934).add e933) hs rfl ?_
                      refine w_val trivial rfl (fun a w hf hs => r_pickT (hf.ev rfl) b927 (hf.ev rfl)) ?_
                      refine w_nil ?_
                      intro a w' hf hs
                      exact ⟨rfl, hf.df, _, (HLe.refl _), hs, hf.get _ _ rfl⟩
                    · intro a w' M935 l936 hd hs
                      have e937 := hd.val 3 81 _ rfl rfl
                      refine OP.ofW (l := [(81, (.bool t85))]) (hd.fr.add e937) hs rfl ?_
                      refine w_val trivial rfl (fun a w hf hs => r_move (hf.ev rfl)) ?_
                      refine w_nil ?_
                      intro a w' hf hs
                      exact ⟨rfl, hf.df, _, (HLe.refl _), hs, hf.get _ _ rfl⟩
                    · intro a w' M939 l940 hd hs
                      have e941 := hd.val 4 82 _ rfl rfl
                      refine OP.ofW (l := [(15, (.int .i64 t72.1)), (82, (.bool t85))]) ((hd.fr.add e941).add (hd.base 15 _ rfl rfl)) hs rfl ?_
                      refine w_val (Wnt.of rfl rfl b938) rfl (fun a w hf hs => r_move (hf.ev rfl)) ?_
                      refine w_nil ?_
                      intro a w' hf hs
                      exact ⟨rfl, hf.df, _, (HLe.refl _), hs, hf.get _ _ rfl⟩
                    · intro a w' M942 l943 hd hs
                      have e944 := hd.val 4 82 _ rfl rfl
                      refine OP.ofW (l := [(17, (.int .i64 t79.1)), (82, (.bool t85))]) ((hd.fr.add e944).add (hd.base 17 _ rfl rfl)) hs rfl ?_
                      refine w_val (Wnt.of rfl rfl b938) rfl (fun a w hf hs => r_move (hf.ev rfl)) ?_
                      refine w_nil ?_
                      intro a w' hf hs
                      exact ⟨rfl, hf.df, _, (HLe.refl _), hs, hf.get _ _ rfl⟩
                    · intro a w' M945 l946 hd hs
                      have e947 := hd.val 5 83 _ rfl rfl
                      have e948 := hd.val 6 84 _ rfl rfl
                      have e949 := hd.val 4 82 _ rfl rfl
                      refine OP.ofW (l := [(83, (.int .i64 t72.1)), (84, (.int .i64 t79.1)), (82, (.bool t85))]) (((hd.fr.add e949).add e948).add e947) hs rfl ?_
                      refine w_val (Wnt.of rfl rfl b938) rfl (fun a w hf hs => r_eql (hf.ev rfl) (hf.ev rfl)) ?_
                      refine w_nil ?_
                      intro a w' hf hs
                      exact ⟨rfl, hf.df, _, (HLe.refl _), hs, hf.get _ _ rfl⟩
                    · intro a w' M950 l951 hd hs
                      have e952 := hd.val 4 82 _ rfl rfl
                      have e953 := hd.val 7 85 _ rfl rfl
                      refine OP.ofW (l := [(82, (.bool t85)), (85, (.bool (t72.1 == t79.1)))]) ((hd.fr.add e953).add e952) hs rfl ?_
                      refine w_val trivial rfl (fun a w hf hs => r_pickT (hf.ev rfl) b938 (hf.ev rfl)) ?_
                      refine w_nil ?_
                      intro a w' hf hs
                      exact ⟨rfl, hf.df, _, (HLe.refl _), hs, hf.get _ _ rfl⟩
                    · intro a w' M954 l955 hd hs
                      have e956 := hd.val 8 86 _ rfl rfl
                      refine OP.ofW (l := [(86, (.bool (t72.1 == t79.1)))]) (hd.fr.add e956) hs rfl ?_
                      refine w_val trivial rfl (fun a w hf hs => r_move (hf.ev rfl)) ?_
                      refine w_nil ?_
                      intro a w' hf hs
                      exact ⟨rfl, hf.df, _, (HLe.refl _), hs, hf.get _ _ rfl⟩
                    · intro a w' M958 l959 hd hs
                      have e960 := hd.val 9 87 _ rfl rfl
                      refine OP.ofW (l := [(16, (.bool t72.2)), (87, (.bool (t72.1 == t79.1)))]) ((hd.fr.add e960).add (hd.base 16 _ rfl rfl)) hs rfl ?_
                      refine w_val (Wnt.of rfl rfl b957) rfl (fun a w hf hs => r_move (hf.ev rfl)) ?_
                      refine w_nil ?_
                      intro a w' hf hs
                      exact ⟨rfl, hf.df, _, (HLe.refl _), hs, hf.get _ _ rfl⟩
                    · intro a w' M961 l962 hd hs
                      have e963 := hd.val 9 87 _ rfl rfl
                      refine OP.ofW (l := [(18, (.bool t79.2)), (87, (.bool (t72.1 == t79.1)))]) ((hd.fr.add e963).add (hd.base 18 _ rfl rfl)) hs rfl ?_
                      refine w_val (Wnt.of rfl rfl b957) rfl (fun a w hf hs => r_move (hf.ev rfl)) ?_
                      refine w_nil ?_
                      intro a w' hf hs
                      exact ⟨rfl, hf.df, _, (HLe.refl _), hs, hf.get _ _ rfl⟩
                    · intro a w' M964 l965 hd hs
                      have e966 := hd.val 10 88 _ rfl rfl
                      have e967 := hd.val 11 89 _ rfl rfl
                      have e968 := hd.val 9 87 _ rfl rfl
                      refine OP.ofW (l := [(88, (.bool t72.2)), (89, (.bool t79.2)), (87, (.bool (t72.1 == t79.1)))]) (((hd.fr.add e968).add e967).add e966) hs rfl ?_
                      refine w_val (Wnt.of rfl rfl b957) rfl (fun a w hf hs => r_eqlb Try.underlying4 (hf.ev rfl) (hf.ev rfl)) ?_
                      refine w_nil ?_
                      intro a w' hf hs
                      exact ⟨rfl, hf.df, _, (HLe.refl _), hs, hf.get _ _ rfl⟩
                    · intro a w' M969 l970 hd hs
                      have e971 := hd.val 9 87 _ rfl rfl
                      have e972 := hd.val 12 90 _ rfl rfl
                      refine OP.ofW (l := [(87, (.bool (t72.1 == t79.1))), (90, (.bool (t72.2 == t79.2)))]) ((hd.fr.add e972).add e971) hs rfl ?_
                      refine w_val trivial rfl (fun a w hf hs => r_pickT (hf.ev rfl) b957 (hf.ev rfl)) ?_
                      refine w_nil ?_
                      intro a w' hf hs
                      exact ⟨rfl, hf.df, _, (HLe.refl _), hs, hf.get _ _ rfl⟩
                    · intro a w' M973 l974 hd hs
                      have e975 := hd.val 13 91 _ rfl rfl
                      refine OP.ofW (l := [(91, (.bool (t72.2 == t79.2)))]) (hd.fr.add e975) hs rfl ?_
                      refine w_val trivial rfl (fun a w hf hs => r_move (hf.ev rfl)) ?_
                      refine w_nil ?_
                      intro a w' hf hs
                      exact ⟨rfl, hf.df, _, (HLe.refl _), hs, hf.get _ _ rfl⟩
                    · intro a w' M977 l978 hd hs
                      replace h9 := l978 _ _ h9
                      replace h2 := h2.mono l978
                      have e979 := hd.val 14 92 _ rfl rfl
                      refine OP.ofW (l := [(5, (ptr b6 0)), (92, (.bool (t72.2 == t79.2)))]) ((hd.fr.add e979).add (hd.base 5 _ rfl rfl)) hs rfl ?_
                      refine w_val (Wnt.of rfl rfl b976) rfl (fun a w hf hs => r_loadA ta24 ts24 (hf.ev rfl) (hs.sub _ _ h9) rfl rfl) ?_
                      refine w_nil ?_
                      intro a w' hf hs
                      exact ⟨rfl, hf.df, _, (HLe.refl _), hs, hf.get _ _ rfl⟩
                    · intro a w' M980 l981 hd hs
                      replace h13 := l981 _ _ h13
                      replace h4 := h4.mono l981
                      have e982 := hd.val 14 92 _ rfl rfl
                      refine OP.ofW (l := [(6, (ptr b10 0)), (92, (.bool (t72.2 == t79.2)))]) ((hd.fr.add e982).add (hd.base 6 _ rfl rfl)) hs rfl ?_
                      refine w_val (Wnt.of rfl rfl b976) rfl (fun a w hf hs => r_loadA ta28 ts28 (hf.ev rfl) (hs.sub _ _ h13) (Backup.d0_38 _ _) (Backup.len _ _)) ?_
                      refine w_nil ?_
                      intro a w' hf hs
                      exact ⟨rfl, hf.df, _, (HLe.refl _), hs, hf.get _ _ rfl⟩
                    · intro a w' M983 l984 hd hs
                      have e985 := hd.val 14 92 _ rfl rfl
                      refine OP.ofW (l := [(3, (.int .i64 p3)), (92, (.bool (t72.2 == t79.2)))]) ((hd.fr.add e985).add (hd.base 3 _ rfl rfl)) hs rfl ?_
                      refine w_val (Wnt.of rfl rfl b976) rfl (fun a w hf hs => r_move (hf.ev rfl)) ?_
                      refine w_nil ?_
                      intro a w' hf hs
                      exact ⟨rfl, hf.df, _, (HLe.refl _), hs, hf.get _ _ rfl⟩
                    · intro a w' M986 l987 hd hs
                      have e988 := hd.val 15 93 _ rfl rfl
                      replace h2 := h2.mono l987
                      have e989 := hd.val 16 94 _ rfl rfl
                      replace h4 := h4.mono l987
                      have e990 := hd.val 17 95 _ rfl rfl
                      have e991 := hd.val 14 92 _ rfl rfl
                      refine OP.ofW (l := [(93, (.agg (Table.C p0 v1).toArray)), (94, (.agg (Backup.C p1 v3).toArray)), (95, (.int .i64 p3)), (92, (.bool (t72.2 == t79.2)))]) ((((hd.fr.add e991).add e990).add e989).add e988) hs rfl ?_
                      refine w_call cf16 (Wnt.of rfl rfl b976) rfl rfl (fun w hs => restore_Holds.calls hs p0 v1 h2 p1 v3 h4 p3 _ e997) ?_
                      rintro _ M994 l995 rfl
                      replace h2 := h2.mono l995
                      replace h4 := h4.mono l995
                      refine w_nil ?_
                      intro a w' hf hs
                      exact ⟨rfl, hf.df, _, l995, hs, hf.get _ _ rfl⟩
                    · intro a w' M998 l999 hd hs
                      replace h9 := l999 _ _ h9
                      replace h2 := h2.mono l999
                      have e1000 := hd.val 14 92 _ rfl rfl
                      refine OP.ofW (l := [(5, (ptr b6 0)), (92, (.bool (t72.2 == t79.2)))]) ((hd.fr.add e1000).add (hd.base 5 _ rfl rfl)) hs rfl ?_
                      refine w_val (Wnt.of rfl rfl b976) rfl (fun a w hf hs => r_loadA ta24 ts24 (hf.ev rfl) (hs.sub _ _ h9) rfl rfl) ?_
                      refine w_nil ?_
                      intro a w' hf hs
                      exact ⟨rfl, hf.df, _, (HLe.refl _), hs, hf.get _ _ rfl⟩
                    · intro a w' M1001 l1002 hd hs
                      replace h13 := l1002 _ _ h13
                      replace h4 := h4.mono l1002
                      have e1003 := hd.val 14 92 _ rfl rfl
                      refine OP.ofW (l := [(6, (ptr b10 0)), (92, (.bool (t72.2 == t79.2)))]) ((hd.fr.add e1003).add (hd.base 6 _ rfl rfl)) hs rfl ?_
                      refine w_val (Wnt.of rfl rfl b976) rfl (fun a w hf hs => r_loadA ta28 ts28 (hf.ev rfl) (hs.sub _ _ h13) (Backup.d0_38 _ _) (Backup.len _ _)) ?_
                      refine w_nil ?_
                      intro a w' hf hs
                      exact ⟨rfl, hf.df, _, (HLe.refl _), hs, hf.get _ _ rfl⟩
                    · intro a w' M1004 l1005 hd hs
                      have e1006 := hd.val 14 92 _ rfl rfl
                      refine OP.ofW (l := [(3, (.int .i64 p3)), (92, (.bool (t72.2 == t79.2)))]) ((hd.fr.add e1006).add (hd.base 3 _ rfl rfl)) hs rfl ?_
                      refine w_val (Wnt.of rfl rfl b976) rfl (fun a w hf hs => r_move (hf.ev rfl)) ?_
                      refine w_nil ?_
                      intro a w' hf hs
                      exact ⟨rfl, hf.df, _, (HLe.refl _), hs, hf.get _ _ rfl⟩
                    · intro a w' M1007 l1008 hd hs
                      have e1009 := hd.val 19 97 _ rfl rfl
                      replace h2 := h2.mono l1008
                      have e1010 := hd.val 20 98 _ rfl rfl
                      replace h4 := h4.mono l1008
                      have e1011 := hd.val 21 99 _ rfl rfl
                      have e1012 := hd.val 14 92 _ rfl rfl
                      refine OP.ofW (l := [(97, (.agg (Table.C p0 v1).toArray)), (98, (.agg (Backup.C p1 v3).toArray)), (99, (.int .i64 p3)), (92, (.bool (t72.2 == t79.2)))]) ((((hd.fr.add e1012).add e1011).add e1010).add e1009) hs rfl ?_
                      refine w_call cf17 (Wnt.of rfl rfl b976) rfl rfl (fun w hs => ref37_Holds.calls hs p0 v1 h2 p1 v3 h4 p3 _ e1018) ?_
                      rintro _ M1015 l1016 rfl
                      replace h2 := h2.mono l1016
                      replace h4 := h4.mono l1016
                      refine w_nil ?_
                      intro a w' hf hs
                      exact ⟨rfl, hf.df, _, l1016, hs, hf.get _ _ rfl⟩
                    · intro a w' M1019 l1020 hd hs
                      have e1021 := hd.val 18 96 _ rfl rfl
                      have e1022 := hd.val 22 100 _ rfl rfl
                      have e1023 := hd.val 14 92 _ rfl rfl
                      refine OP.ofW (l := [(96, (.bool t992)), (100, (.bool t1013)), (92, (.bool (t72.2 == t79.2)))]) (((hd.fr.add e1023).add e1022).add e1021) hs rfl ?_
                      refine w_val (Wnt.of rfl rfl b976) rfl (fun a w hf hs => r_eqlb Try.underlying4 (hf.ev rfl) (hf.ev rfl)) ?_
                      refine w_nil ?_
                      intro a w' hf hs
                      exact ⟨rfl, hf.df, _, (HLe.refl _), hs, hf.get _ _ rfl⟩
                    · intro a w' M1024 l1025 hd hs
                      have e1026 := hd.val 14 92 _ rfl rfl
                      have e1027 := hd.val 23 101 _ rfl rfl
                      refine OP.ofW (l := [(92, (.bool (t72.2 == t79.2))), (101, (.bool (t992 == t1013)))]) ((hd.fr.add e1027).add e1026) hs rfl ?_
                      refine w_val trivial rfl (fun a w hf hs => r_pickT (hf.ev rfl) b976 (hf.ev rfl)) ?_
                      refine w_nil ?_
                      intro a w' hf hs
                      exact ⟨rfl, hf.df, _, (HLe.refl _), hs, hf.get _ _ rfl⟩
                    · intro a w' M1028 l1029 hd hs
                      have e1030 := hd.val 24 102 _ rfl rfl
                      refine OP.ofW (l := [(102, (.bool (t992 == t1013)))]) (hd.fr.add e1030) hs rfl ?_
                      refine w_val trivial rfl (fun a w hf hs => r_move (hf.ev rfl)) ?_
                      refine w_nil ?_
                      intro a w' hf hs
                      exact ⟨rfl, hf.df, _, (HLe.refl _), hs, hf.get _ _ rfl⟩
                    · intro a w' M1032 l1033 hd hs
                      replace h21 := l1033 _ _ h21
                      have e1034 := hd.val 25 103 _ rfl rfl
                      refine OP.ofW (l := [(9, (ptr b18 0)), (103, (.bool (t992 == t1013)))]) ((hd.fr.add e1034).add (hd.base 9 _ rfl rfl)) hs rfl ?_
                      refine w_val (Wnt.of rfl rfl b1031) rfl (fun a w hf hs => r_loadA ta32 ts32 (hf.ev rfl) (hs.sub _ _ h21) (restore_Place.d0_34 _) (restore_Place.len _)) ?_
                      refine w_nil ?_
                      intro a w' hf hs
                      exact ⟨rfl, hf.df, _, (HLe.refl _), hs, hf.get _ _ rfl⟩
                    · intro a w' M1035 l1036 hd hs
                      replace h13 := l1036 _ _ h13
                      replace h4 := h4.mono l1036
                      have e1037 := hd.val 25 103 _ rfl rfl
                      refine OP.ofW (l := [(6, (ptr b10 0)), (103, (.bool (t992 == t1013)))]) ((hd.fr.add e1037).add (hd.base 6 _ rfl rfl)) hs rfl ?_
                      refine w_val (Wnt.of rfl rfl b1031) rfl (fun a w hf hs => r_loadA ta28 ts28 (hf.ev rfl) (hs.sub _ _ h13) (Backup.d0_38 _ _) (Backup.len _ _)) ?_
                      refine w_nil ?_
                      intro a w' hf hs
                      exact ⟨rfl, hf.df, _, (HLe.refl _), hs, hf.get _ _ rfl⟩
                    · intro a w' M1038 l1039 hd hs
                      have e1040 := hd.val 26 104 _ rfl rfl
                      have e1041 := hd.val 27 105 _ rfl rfl
                      replace h4 := h4.mono l1039
                      have e1042 := hd.val 25 103 _ rfl rfl
                      refine OP.ofW (l := [(104, (.agg (restore_Place.C p4).toArray)), (105, (.agg (Backup.C p1 v3).toArray)), (103, (.bool (t992 == t1013)))]) (((hd.fr.add e1042).add e1041).add e1040) hs rfl ?_
                      refine w_call cf18 (Wnt.of rfl rfl b1031) rfl rfl (fun w hs => restore_Admit.calls hs p4 p1 v3 h4 _ e1048) ?_
                      rintro _ M1045 l1046 rfl
                      replace h4 := h4.mono l1046
                      refine w_nil ?_
                      intro a w' hf hs
                      exact ⟨rfl, hf.df, _, l1046, hs, hf.get _ _ rfl⟩
                    · intro a w' M1049 l1050 hd hs
                      replace h21 := l1050 _ _ h21
                      have e1051 := hd.val 25 103 _ rfl rfl
                      refine OP.ofW (l := [(9, (ptr b18 0)), (103, (.bool (t992 == t1013)))]) ((hd.fr.add e1051).add (hd.base 9 _ rfl rfl)) hs rfl ?_
                      refine w_val (Wnt.of rfl rfl b1031) rfl (fun a w hf hs => r_fa fa32_0 (hf.ev rfl)) ?_
                      refine w_nil ?_
                      intro a w' hf hs
                      exact ⟨rfl, hf.df, _, (HLe.refl _), hs, hf.get _ _ rfl⟩
                    · intro a w' M1052 l1053 hd hs
                      have e1054 := hd.val 29 107 _ rfl rfl
                      replace h21 := l1053 _ _ h21
                      have e1055 := hd.val 25 103 _ rfl rfl
                      refine OP.ofW (l := [(107, (ptr b18 0)), (103, (.bool (t992 == t1013)))]) ((hd.fr.add e1055).add e1054) hs rfl ?_
                      refine w_val (Wnt.of rfl rfl b1031) rfl (fun a w hf hs => r_loadA ta26 ts26 (hf.ev rfl) (hs.sub _ _ h21) (restore_Place.d0_16 _) (by simp)) ?_
                      refine w_nil ?_
                      intro a w' hf hs
                      exact ⟨rfl, hf.df, _, (HLe.refl _), hs, hf.get _ _ rfl⟩
                    · intro a w' M1056 l1057 hd hs
                      replace h21 := l1057 _ _ h21
                      have e1058 := hd.val 25 103 _ rfl rfl
                      refine OP.ofW (l := [(9, (ptr b18 0)), (103, (.bool (t992 == t1013)))]) ((hd.fr.add e1058).add (hd.base 9 _ rfl rfl)) hs rfl ?_
                      refine w_val (Wnt.of rfl rfl b1031) rfl (fun a w hf hs => r_fa fa32_1 (hf.ev rfl)) ?_
                      refine w_nil ?_
                      intro a w' hf hs
                      exact ⟨rfl, hf.df, _, (HLe.refl _), hs, hf.get _ _ rfl⟩
                    · intro a w' M1059 l1060 hd hs
                      have e1061 := hd.val 31 109 _ rfl rfl
                      replace h21 := l1060 _ _ h21
                      have e1062 := hd.val 25 103 _ rfl rfl
                      refine OP.ofW (l := [(109, (ptr b18 16)), (103, (.bool (t992 == t1013)))]) ((hd.fr.add e1062).add e1061) hs rfl ?_
                      refine w_val (Wnt.of rfl rfl b1031) rfl (fun a w hf hs => r_loadA ta26 ts26 (hf.ev rfl) (hs.sub _ _ h21) (restore_Place.d16_16 _) (by simp)) ?_
                      refine w_nil ?_
                      intro a w' hf hs
                      exact ⟨rfl, hf.df, _, (HLe.refl _), hs, hf.get _ _ rfl⟩
                    · intro a w' M1063 l1064 hd hs
                      replace h21 := l1064 _ _ h21
                      have e1065 := hd.val 25 103 _ rfl rfl
                      refine OP.ofW (l := [(9, (ptr b18 0)), (103, (.bool (t992 == t1013)))]) ((hd.fr.add e1065).add (hd.base 9 _ rfl rfl)) hs rfl ?_
                      refine w_val (Wnt.of rfl rfl b1031) rfl (fun a w hf hs => r_fa fa32_2 (hf.ev rfl)) ?_
                      refine w_nil ?_
                      intro a w' hf hs
                      exact ⟨rfl, hf.df, _, (HLe.refl _), hs, hf.get _ _ rfl⟩
                    · intro a w' M1066 l1067 hd hs
                      have e1068 := hd.val 33 111 _ rfl rfl
                      replace h21 := l1067 _ _ h21
                      have e1069 := hd.val 25 103 _ rfl rfl
                      refine OP.ofW (l := [(111, (ptr b18 32)), (103, (.bool (t992 == t1013)))]) ((hd.fr.add e1069).add e1068) hs rfl ?_
                      refine w_val (Wnt.of rfl rfl b1031) rfl (fun a w hf hs => r_load1 ta3 (hf.ev rfl) (hs.sub _ _ h21) (restore_Place.g32 _)) ?_
                      refine w_nil ?_
                      intro a w' hf hs
                      exact ⟨rfl, hf.df, _, (HLe.refl _), hs, hf.get _ _ rfl⟩
                    · intro a w' M1070 l1071 hd hs
                      replace h21 := l1071 _ _ h21
                      have e1072 := hd.val 25 103 _ rfl rfl
                      refine OP.ofW (l := [(9, (ptr b18 0)), (103, (.bool (t992 == t1013)))]) ((hd.fr.add e1072).add (hd.base 9 _ rfl rfl)) hs rfl ?_
                      refine w_val (Wnt.of rfl rfl b1031) rfl (fun a w hf hs => r_fa fa32_3 (hf.ev rfl)) ?_
                      refine w_nil ?_
                      intro a w' hf hs
                      exact ⟨rfl, hf.df, _, (HLe.refl _), hs, hf.get _ _ rfl⟩
                    · intro a w' M1073 l1074 hd hs
                      have e1075 := hd.val 35 113 _ rfl rfl
                      replace h21 := l1074 _ _ h21
                      have e1076 := hd.val 25 103 _ rfl rfl
                      refine OP.ofW (l := [(113, (ptr b18 33)), (103, (.bool (t992 == t1013)))]) ((hd.fr.add e1076).add e1075) hs rfl ?_
                      refine w_val (Wnt.of rfl rfl b1031) rfl (fun a w hf hs => r_load1 ta3 (hf.ev rfl) (hs.sub _ _ h21) (restore_Place.g33 _)) ?_
                      refine w_nil ?_
                      intro a w' hf hs
                      exact ⟨rfl, hf.df, _, (HLe.refl _), hs, hf.get _ _ rfl⟩
                    · intro a w' M1077 l1078 hd hs
                      have e1079 := hd.val 30 108 _ rfl rfl
                      have e1080 := hd.val 32 110 _ rfl rfl
                      have e1081 := hd.val 34 112 _ rfl rfl
                      have e1082 := hd.val 36 114 _ rfl rfl
                      have e1083 := hd.val 25 103 _ rfl rfl
                      refine OP.ofW (l := [(108, (.agg (vI .u8 p4.Domain).toArray)), (110, (.agg (vI .u8 p4.Policy).toArray)), (112, (.int .i64 p4.Firmware)), (114, (.int .i64 p4.Number)), (103, (.bool (t992 == t1013)))]) (((((hd.fr.add e1083).add e1082).add e1081).add e1080).add e1079) hs rfl ?_
                      refine w_val (Wnt.of rfl rfl b1031) rfl (fun a w hf hs => r_build (is := [0, 1, 2, 3]) (xs := [.tmp 108, .tmp 110, .tmp 112, .tmp 114]) (vs := [(.agg (vI .u8 p4.Domain).toArray), (.agg (vI .u8 p4.Policy).toArray), (.int .i64 p4.Firmware), (.int .i64 p4.Number)]) (A := ref37_Place.C ({ ({ ({ ({ (default : ref37_Place) with Domain := p4.Domain } : ref37_Place) with Policy := p4.Policy } : ref37_Place) with Firmware := p4.Firmware } : ref37_Place) with Number := p4.Number } : ref37_Place)) rfl (hf.evs rfl) (built_of (pl := [(0, 16), (16, 16), (32, 1), (33, 1)]) (A0 := ref37_Place.C ({ ({ ({ ({ (default : ref37_Place) with Domain := (Vector.replicate 16 (0 : Int)) } : ref37_Place) with Policy := (Vector.replicate 16 (0 : Int)) } : ref37_Place) with Firmware := (0 : Int) } : ref37_Place) with Number := (0 : Int) } : ref37_Place)) tz50 Try.underlying50 (by kernel_rfl) rfl (.cons (vs := vI .u8 p4.Domain) (B := ref37_Place.C ({ ({ ({ ({ (default : ref37_Place) with Policy := (Vector.replicate 16 (0 : Int)) } : ref37_Place) with Firmware := (0 : Int) } : ref37_Place) with Number := (0 : Int) } : ref37_Place) with Domain := p4.Domain } : ref37_Place)) rfl rfl (by simp) (by rw [ref37_Place.len]; decide) (ref37_Place.s0_16 _) (.cons (vs := vI .u8 p4.Policy) (B := ref37_Place.C ({ ({ ({ ({ (default : ref37_Place) with Firmware := (0 : Int) } : ref37_Place) with Number := (0 : Int) } : ref37_Place) with Domain := p4.Domain } : ref37_Place) with Policy := p4.Policy } : ref37_Place)) rfl rfl (by simp) (by rw [ref37_Place.len]; decide) (ref37_Place.s16_16 _) (.cons (vs := [(.int .i64 p4.Firmware)]) (B := ref37_Place.C ({ ({ ({ ({ (default : ref37_Place) with Number := (0 : Int) } : ref37_Place) with Domain := p4.Domain } : ref37_Place) with Policy := p4.Policy } : ref37_Place) with Firmware := p4.Firmware } : ref37_Place)) rfl rfl rfl (by rw [ref37_Place.len]; decide) (ref37_Place.s32_1 _) (.cons (vs := [(.int .i64 p4.Number)]) (B := ref37_Place.C ({ ({ ({ ({ (default : ref37_Place) with Domain := p4.Domain } : ref37_Place) with Policy := p4.Policy } : ref37_Place) with Firmware := p4.Firmware } : ref37_Place) with Number := p4.Number } : ref37_Place)) rfl rfl rfl (by rw [ref37_Place.len]; decide) (ref37_Place.s33_1 _) .nil)))))) ?_
                      refine w_nil ?_
                      intro a w' hf hs
                      exact ⟨rfl, hf.df, _, (HLe.refl _), hs, hf.get _ _ rfl⟩
                    · intro a w' M1084 l1085 hd hs
                      replace h13 := l1085 _ _ h13
                      replace h4 := h4.mono l1085
                      have e1086 := hd.val 25 103 _ rfl rfl
                      refine OP.ofW (l := [(6, (ptr b10 0)), (103, (.bool (t992 == t1013)))]) ((hd.fr.add e1086).add (hd.base 6 _ rfl rfl)) hs rfl ?_
                      refine w_val (Wnt.of rfl rfl b1031) rfl (fun a w hf hs => r_loadA ta28 ts28 (hf.ev rfl) (hs.sub _ _ h13) (Backup.d0_38 _ _) (Backup.len _ _)) ?_
                      refine w_nil ?_
                      intro a w' hf hs
                      exact ⟨rfl, hf.df, _, (HLe.refl _), hs, hf.get _ _ rfl⟩
                    · intro a w' M1087 l1088 hd hs
                      have e1089 := hd.val 37 115 _ rfl rfl
                      have e1090 := hd.val 38 116 _ rfl rfl
                      replace h4 := h4.mono l1088
                      have e1091 := hd.val 25 103 _ rfl rfl
                      refine OP.ofW (l := [(115, (.agg (ref37_Place.C ({ ({ ({ ({ (default : ref37_Place) with Domain := p4.Domain } : ref37_Place) with Policy := p4.Policy } : ref37_Place) with Firmware := p4.Firmware } : ref37_Place) with Number := p4.Number } : ref37_Place)).toArray)), (116, (.agg (Backup.C p1 v3).toArray)), (103, (.bool (t992 == t1013)))]) (((hd.fr.add e1091).add e1090).add e1089) hs rfl ?_
                      refine w_call cf19 (Wnt.of rfl rfl b1031) rfl rfl (fun w hs => ref37_Admit.calls hs ({ ({ ({ ({ (default : ref37_Place) with Domain := p4.Domain } : ref37_Place) with Policy := p4.Policy } : ref37_Place) with Firmware := p4.Firmware } : ref37_Place) with Number := p4.Number } : ref37_Place) p1 v3 h4 _ e1097) ?_
                      rintro _ M1094 l1095 rfl
                      replace h4 := h4.mono l1095
                      refine w_nil ?_
                      intro a w' hf hs
                      exact ⟨rfl, hf.df, _, l1095, hs, hf.get _ _ rfl⟩
                    · intro a w' M1098 l1099 hd hs
                      have e1100 := hd.val 28 106 _ rfl rfl
                      have e1101 := hd.val 39 117 _ rfl rfl
                      have e1102 := hd.val 25 103 _ rfl rfl
                      refine OP.ofW (l := [(106, (.int .i64 t1043)), (117, (.int .i64 t1092)), (103, (.bool (t992 == t1013)))]) (((hd.fr.add e1102).add e1101).add e1100) hs rfl ?_
                      refine w_val (Wnt.of rfl rfl b1031) rfl (fun a w hf hs => r_eql (hf.ev rfl) (hf.ev rfl)) ?_
                      refine w_nil ?_
                      intro a w' hf hs
                      exact ⟨rfl, hf.df, _, (HLe.refl _), hs, hf.get _ _ rfl⟩
                    · intro a w' M1103 l1104 hd hs
                      have e1105 := hd.val 25 103 _ rfl rfl
                      have e1106 := hd.val 40 118 _ rfl rfl
                      refine OP.ofW (l := [(103, (.bool (t992 == t1013))), (118, (.bool (t1043 == t1092)))]) ((hd.fr.add e1106).add e1105) hs rfl ?_
                      refine w_val trivial rfl (fun a w hf hs => r_pickT (hf.ev rfl) b1031 (hf.ev rfl)) ?_
                      refine w_nil ?_
                      intro a w' hf hs
                      exact ⟨rfl, hf.df, _, (HLe.refl _), hs, hf.get _ _ rfl⟩
                    · intro a w' M1107 l1108 hd hs
                      have e1109 := hd.val 41 119 _ rfl rfl
                      refine OP.ofW (l := [(119, (.bool (t1043 == t1092)))]) (hd.fr.add e1109) hs rfl ?_
                      refine w_val trivial rfl (fun a w hf hs => r_assign (hf.ev rfl)) ?_
                      refine w_nil ?_
                      intro a w' hf hs
                      exact ⟨rfl, hf.df, _, (HLe.refl _), hs, hf.get _ _ rfl⟩
                    intro a w' M1110 l1111 hdf hsz hb hv hs
                    replace h2 := h2.mono l1111
                    replace h4 := h4.mono l1111
                    replace h9 := l1111 _ _ h9
                    replace h13 := l1111 _ _ h13
                    replace h17 := l1111 _ _ h17
                    replace h21 := l1111 _ _ h21
                    replace h55 := h55.mono l1111
                    replace h57 := h57.mono l1111
                    replace h67 := h67.mono l1111
                    replace h69 := h69.mono l1111
                    have e1112 := hv 42 10 _ rfl rfl
                    refine n_of (c := (Cx.mk Try.prog 120 none' M w)) (l := [(10, (.bool (t1043 == t1092)))]) ?_ ((Fr.start hdf hsz).add e1112) hs
                    clear hdf hsz hb hv hs e1112
                    obtain rfl := some_r H
                    refine n_id ?_
                    intro a w' hf hs
                    exact ⟨_, l1111, (hf.nil.add (hf.get _ _ rfl)), hs.sel [0, 1] (by decide) rfl⟩
                  · replace b1031 := Bool.eq_false_iff.2 b1031
                    replace H := if_f b1031 H
                    exact absurd ((some_r H).trans ht_) (by decide)
                · replace b976 := Bool.eq_false_iff.2 b976
                  replace H := if_f b976 H
                  exact absurd ((some_r H).trans ht_) (by decide)
              · replace b957 := Bool.eq_false_iff.2 b957
                replace H := if_f b957 H
                exact absurd ((some_r H).trans ht_) (by decide)
            · replace b938 := Bool.eq_false_iff.2 b938
              replace H := if_f b938 H
              exact absurd ((some_r H).trans ht_) (by decide)
          · replace b927 := Bool.eq_false_iff.2 b927
            replace H := if_f b927 H
            exact absurd ((some_r H).trans ht_) (by decide)
        · clear H1 ht_
          rintro a w' ⟨M104, l105, hf, hs⟩
          refine c_of (c := (Cx.mk Try.prog 120 none' M w)) ?_ hf hs
          clear hf hs
          replace h2 := h2.mono l105
          replace h4 := h4.mono l105
          replace h9 := l105 _ _ h9
          replace h13 := l105 _ _ h13
          replace h17 := l105 _ _ h17
          replace h21 := l105 _ _ h21
          replace h55 := h55.mono l105
          replace h57 := h57.mono l105
          replace h67 := h67.mono l105
          replace h69 := h69.mono l105
          obtain rfl := some_r H
          refine c_ret ?_
          intro a w' hf hs
          exact hret _ (.inl rfl) a w' hf.df ⟨_, _, Res.of1 rfl (RV.t hf rfl), hs.ext, rfl⟩
set_option maxRecDepth 20000 in
theorem law37_RestoreHolds.calls {M : Heap} {w : World} (hM : Sub M w) (hs_law37_sanity : ∀ t, law37_sanity = some t → t = true) (p0 : Table) (v1 : Value) (h2 : RS Key.F M v1 p0.Keys) (p1 : Backup) (v3 : Value) (h4 : RS Key.F M v3 p1.Keys) (p2 : Int) (p3 : Int) (r : Bool) (hr_ : r = true) (H : law37_RestoreHolds p0 p1 p2 p3 = some r) :
    Calls Try.prog 4 [(.agg (Table.C p0 v1).toArray), (.agg (Backup.C p1 v3).toArray), (.int .i64 p2), (.int .i64 p3)].toArray w (Post M w fun M' v => v = (.bool r)) := by
  refine enter 126 [(0, (.agg (Table.C p0 v1).toArray)), (1, (.agg (Backup.C p1 v3).toArray)), (2, (.int .i64 p2)), (3, (.int .i64 p3))] Try.func4 rfl rfl rfl hM ?_
  intro Q hret
  unfold law37_RestoreHolds at H
  refine c_seq ?_
  intro K5 hK5
  refine c_reg ?_
  refine w_boxM trivial rfl rfl rfl ?_
  intro b6 M7 l8 h9
  replace h2 := h2.mono l8
  replace h4 := h4.mono l8
  refine w_boxM trivial rfl rfl rfl ?_
  intro b10 M11 l12 h13
  replace h2 := h2.mono l12
  replace h4 := h4.mono l12
  replace h9 := l12 _ _ h9
  refine w_val trivial rfl (fun a w hf hs => r_assign (hf.ev rfl)) ?_
  refine w_nil (hK5 _ _ _ ?_)
  refine c_seq ?_
  intro K14 hK14
  obtain ⟨t15, H1, H⟩ := bnd H
  refine c_cut (fun a' w' => ∃ (M16 : Heap), HLe M11 M16 ∧ Fr 126 [(2, (.int .i64 p2)), (3, (.int .i64 p3)), (4, (ptr b6 0)), (5, (ptr b10 0)), (23, (.bool t15))] a' ∧ St none' M w M16 (lt []) w') ?_ ?_
  · replace H := H1
    clear H1
    refine c_reg ?_
    refine w_val trivial rfl (fun a w hf hs => r_loadA ta24 ts24 (hf.ev rfl) (hs.sub _ _ h9) rfl rfl) ?_
    refine w_val trivial rfl (fun a w hf hs => r_loadA ta28 ts28 (hf.ev rfl) (hs.sub _ _ h13) (Backup.d0_38 _ _) (Backup.len _ _)) ?_
    obtain ⟨t18, e23, H⟩ := bnd H
    refine w_call cf7 trivial rfl rfl (fun w hs => law37_few.calls hs p0 v1 h2 p1 v3 h4 _ e23) ?_
    rintro _ M20 l21 rfl
    replace h2 := h2.mono l21
    replace h4 := h4.mono l21
    replace h9 := l21 _ _ h9
    replace h13 := l21 _ _ h13
    refine w_val trivial rfl (fun a w hf hs => r_not (hf.ev rfl)) ?_
    refine w_val trivial rfl (fun a w hf hs => r_move (hf.ev rfl)) ?_
    by_cases b24 : (!t18) = true
    · replace H := if_t b24 H
      refine w_not (Nwt.of rfl rfl b24) rfl ?_
      refine w_not (Nwt.of rfl rfl b24) rfl ?_
      refine w_not (Nwt.of rfl rfl b24) rfl ?_
      refine w_val trivial rfl (fun a w hf hs => r_pickT (hf.ev rfl) b24 (hf.ev rfl)) ?_
      obtain rfl := some_r H
      refine w_nil ?_
      intro a w' hf hs
      exact ⟨_, l21, (((((hf.nil.add (hf.get _ _ rfl)).add (hf.get _ _ rfl)).add (hf.get _ _ rfl)).add (hf.get _ _ rfl)).add (hf.get _ _ rfl)), hs.sel [] (by decide) rfl⟩
    · replace b24 := Bool.eq_false_iff.2 b24
      replace H := if_f b24 H
      refine w_val (Wnt.of rfl rfl b24) rfl (fun a w hf hs => r_loadA ta24 ts24 (hf.ev rfl) (hs.sub _ _ h9) rfl rfl) ?_
      obtain ⟨t25, e30, H⟩ := bnd H
      refine w_call cf8 (Wnt.of rfl rfl b24) rfl rfl (fun w hs => ref27_ValidTable.calls hs p0 v1 h2 _ e30) ?_
      rintro _ M27 l28 rfl
      replace h2 := h2.mono l28
      replace h4 := h4.mono l28
      replace h9 := l28 _ _ h9
      replace h13 := l28 _ _ h13
      refine w_val (Wnt.of rfl rfl b24) rfl (fun a w hf hs => r_not (hf.ev rfl)) ?_
      refine w_val trivial rfl (fun a w hf hs => r_pickF (hf.ev rfl) b24 (hf.ev rfl)) ?_
      obtain rfl := some_r H
      refine w_nil ?_
      intro a w' hf hs
      exact ⟨_, (l21.trans l28), (((((hf.nil.add (hf.get _ _ rfl)).add (hf.get _ _ rfl)).add (hf.get _ _ rfl)).add (hf.get _ _ rfl)).add (hf.get _ _ rfl)), hs.sel [] (by decide) rfl⟩
  · clear H1
    rintro a w' ⟨M16, l17, hf, hs⟩
    refine c_of (c := (Cx.mk Try.prog 126 none' M w)) ?_ hf hs
    clear hf hs
    replace h2 := h2.mono l17
    replace h4 := h4.mono l17
    replace h9 := l17 _ _ h9
    replace h13 := l17 _ _ h13
    refine c_if rfl (fun b31 => ?_) (fun b31 => ?_)
    · replace H := if_t b31 H
      refine c_seq ?_
      intro K32 hK32
      refine c_reg ?_
      obtain ⟨t33, e38, H⟩ := bnd H
      refine w_call cf9 trivial rfl rfl (fun w hs => law37_sanity.calls hs  _ (hs_law37_sanity _ e38) e38) ?_
      rintro _ M35 l36 rfl
      replace h2 := h2.mono l36
      replace h4 := h4.mono l36
      replace h9 := l36 _ _ h9
      replace h13 := l36 _ _ h13
      refine w_val trivial rfl (fun a w hf hs => r_assign (hf.ev rfl)) ?_
      refine w_nil (hK32 _ _ _ ?_)
      obtain rfl := some_r H
      refine c_ret ?_
      intro a w' hf hs
      exact hret _ (.inl rfl) a w' hf.df ⟨_, _, Res.of1 rfl (RV.t hf rfl), hs.ext, rfl⟩
    · replace H := if_f b31 H
      refine c_skip (hK14 _ _ _ ?_)
      refine c_seq ?_
      intro K39 hK39
      refine c_reg ?_
      refine w_val trivial rfl (fun a w hf hs => r_loadA ta24 ts24 (hf.ev rfl) (hs.sub _ _ h9) rfl rfl) ?_
      refine w_val trivial rfl (fun a w hf hs => r_loadA ta28 ts28 (hf.ev rfl) (hs.sub _ _ h13) (Backup.d0_38 _ _) (Backup.len _ _)) ?_
      refine w_val trivial rfl (fun a w hf hs => r_move (hf.ev rfl)) ?_
      obtain ⟨t40, e45, H⟩ := bnd H
      refine w_call cf10 trivial rfl rfl (fun w hs => restore_Plan.calls hs p0 v1 h2 p1 v3 h4 p2 _ e45) ?_
      rintro v216 M42 l43 ⟨v46, v48, hv_, h47, h49⟩
      replace hv_ := hv_.symm
      subst hv_
      replace h2 := h2.mono l43
      replace h4 := h4.mono l43
      replace h9 := l43 _ _ h9
      replace h13 := l43 _ _ h13
      refine w_val trivial rfl (fun a w hf hs => r_move (hf.ev rfl)) ?_
      refine w_val trivial rfl (fun a w hf hs => r_extract (hf.ev rfl) rfl) ?_
      refine w_val trivial rfl (fun a w hf hs => r_extract (hf.ev rfl) rfl) ?_
      refine w_val trivial rfl (fun a w hf hs => r_extract (hf.ev rfl) rfl) ?_
      refine w_allocL (A := Table.C (⟨(0 : Int), ([] : (List Key))⟩ : Table) (.slice none 0 0)) tz24 trivial rfl rfl ?_
      intro b50
      refine w_store (i := 0) (vs := Table.C t40.1 v46) (A' := Table.C t40.1 v46) trivial rfl rfl rfl rfl ts24 rfl (Table.C_one _ h47.one) (Nat.le_of_ble_eq_true rfl) rfl ?_
      refine w_val trivial rfl (fun a w hf hs => r_assign (hf.ev rfl)) ?_
      refine w_val trivial rfl (fun a w hf hs => r_assign (hf.ev rfl)) ?_
      refine w_nil (hK39 _ _ _ ?_)
      refine c_seq ?_
      intro K51 hK51
      refine c_seq ?_
      intro K52 hK52
      refine c_reg ?_
      refine w_val trivial rfl (fun a w hf hs => r_move (hf.ev rfl)) ?_
      refine w_val trivial rfl (fun a w hf hs => r_neq (hf.ev rfl) (hf.ev rfl)) ?_
      refine w_nil (hK52 _ _ _ ?_)
      refine c_if rfl (fun b53 => ?_) (fun b53 => ?_)
      · replace H := if_t b53 H
        obtain ⟨t54, H1, H⟩ := bnd H
        have ht_ := (some_r H).trans hr_
        refine c_cut (fun a' w' => ∃ (M55 : Heap), HLe M42 M55 ∧ Fr 126 [(8, (.bool t54))] a' ∧ St none' M w M55 (lt [.blk b50 (.cells (Table.C t40.1 v46).toArray 24 (0, 0))]) w') ?_ ?_
        · replace H := H1
          clear H1
          refine c_reg ?_
          obtain ⟨t66, e71, H⟩ := bnd H
          refine w_call cf9 trivial rfl rfl (fun w hs => law37_sanity.calls hs  _ (hs_law37_sanity _ e71) e71) ?_
          rintro _ M68 l69 rfl
          replace h2 := h2.mono l69
          replace h4 := h4.mono l69
          replace h9 := l69 _ _ h9
          replace h13 := l69 _ _ h13
          replace h47 := h47.mono l69
          replace h49 := h49.mono l69
          refine w_val trivial rfl (fun a w hf hs => r_move (hf.ev rfl)) ?_
          by_cases b72 : t66 = true
          · replace H := if_t b72 H
            refine w_val (Wnt.of rfl rfl b72) rfl (fun a w hf hs => r_fa fa24_1 (hf.ev rfl)) ?_
            refine w_val (Wnt.of rfl rfl b72) rfl (fun a w hf hs => r_load1 ta22 (hf.ev rfl) (hs.blk (i := 0) rfl) rfl) ?_
            refine w_val (Wnt.of rfl rfl b72) rfl (fun a w hf hs => r_lenR Try.underlying22 h47 (hf.ev rfl)) ?_
            refine w_val (Wnt.of rfl rfl b72) rfl (fun a w hf hs => r_eql (hf.ev rfl) (hf.ev rfl)) ?_
            refine w_val trivial rfl (fun a w hf hs => r_pickT (hf.ev rfl) b72 (hf.ev rfl)) ?_
            refine w_val trivial rfl (fun a w hf hs => r_move (hf.ev rfl)) ?_
            by_cases b73 : ((t40.1.Keys.length : Int) == (0 : Int)) = true
            · replace H := if_t b73 H
              refine w_val (Wnt.of rfl rfl b73) rfl (fun a w hf hs => r_fa fa24_0 (hf.ev rfl)) ?_
              refine w_val (Wnt.of rfl rfl b73) rfl (fun a w hf hs => r_load1 ta3 (hf.ev rfl) (hs.blk (i := 0) rfl) rfl) ?_
              refine w_val (Wnt.of rfl rfl b73) rfl (fun a w hf hs => r_eql (hf.ev rfl) (hf.ev rfl)) ?_
              refine w_val trivial rfl (fun a w hf hs => r_pickT (hf.ev rfl) b73 (hf.ev rfl)) ?_
              refine w_val trivial rfl (fun a w hf hs => r_move (hf.ev rfl)) ?_
              by_cases b74 : (t40.1.Next == (0 : Int)) = true
              · replace H := if_t b74 H
                refine w_val (Wnt.of rfl rfl b74) rfl (fun a w hf hs => r_move (hf.ev rfl)) ?_
                refine w_val (Wnt.of rfl rfl b74) rfl (fun a w hf hs => r_lenR Try.underlying36 h49 (hf.ev rfl)) ?_
                refine w_val (Wnt.of rfl rfl b74) rfl (fun a w hf hs => r_eql (hf.ev rfl) (hf.ev rfl)) ?_
                refine w_val trivial rfl (fun a w hf hs => r_pickT (hf.ev rfl) b74 (hf.ev rfl)) ?_
                refine w_val trivial rfl (fun a w hf hs => r_assign (hf.ev rfl)) ?_
                obtain rfl := some_r H
                refine w_nil ?_
                intro a w' hf hs
                exact ⟨_, l69, (hf.nil.add (hf.get _ _ rfl)), hs.sel [0] (by decide) rfl⟩
              · replace b74 := Bool.eq_false_iff.2 b74
                replace H := if_f b74 H
                exact absurd ((some_r H).trans ht_) (by decide)
            · replace b73 := Bool.eq_false_iff.2 b73
              replace H := if_f b73 H
              exact absurd ((some_r H).trans ht_) (by decide)
          · replace b72 := Bool.eq_false_iff.2 b72
            replace H := if_f b72 H
            exact absurd ((some_r H).trans ht_) (by decide)
        · clear H1 ht_
          rintro a w' ⟨M55, l56, hf, hs⟩
          refine c_of (c := (Cx.mk Try.prog 126 none' M w)) ?_ hf hs
          clear hf hs
          replace h2 := h2.mono l56
          replace h4 := h4.mono l56
          replace h9 := l56 _ _ h9
          replace h13 := l56 _ _ h13
          replace h47 := h47.mono l56
          replace h49 := h49.mono l56
          obtain rfl := some_r H
          refine c_ret ?_
          intro a w' hf hs
          exact hret _ (.inl rfl) a w' hf.df ⟨_, _, Res.of1 rfl (RV.t hf rfl), hs.ext, rfl⟩
      · replace H := if_f b53 H
        refine c_skip (hK51 _ _ _ ?_)
        refine c_seq ?_
        intro K75 hK75
        obtain ⟨t76, H1, H⟩ := bnd H
        have ht_ := ne_tr H hr_
        refine c_cut (fun a' w' => ∃ (M77 : Heap), HLe M42 M77 ∧ Fr 126 [(2, (.int .i64 p2)), (3, (.int .i64 p3)), (5, (ptr b10 0)), (9, (ptr b50 0)), (73, (.bool t76))] a' ∧ St none' M w M77 (lt [.blk b50 (.cells (Table.C t40.1 v46).toArray 24 (0, 0))]) w') ?_ ?_
        · replace H := H1
          clear H1
          refine c_reg ?_
          refine w_val trivial rfl (fun a w hf hs => r_loadA ta24 ts24 (hf.ev rfl) (hs.blk (i := 0) rfl) rfl rfl) ?_
          obtain ⟨t195, e200, H⟩ := bnd H
          refine w_call cf8 trivial rfl rfl (fun w hs => ref27_ValidTable.calls hs t40.1 v46 h47 _ e200) ?_
          rintro _ M197 l198 rfl
          replace h2 := h2.mono l198
          replace h4 := h4.mono l198
          replace h9 := l198 _ _ h9
          replace h13 := l198 _ _ h13
          replace h47 := h47.mono l198
          replace h49 := h49.mono l198
          refine w_val trivial rfl (fun a w hf hs => r_not (hf.ev rfl)) ?_
          refine w_val trivial rfl (fun a w hf hs => r_move (hf.ev rfl)) ?_
          by_cases b201 : (!t195) = true
          · replace H := if_t b201 H
            exact absurd ((some_r H).trans ht_) (by decide)
          · replace b201 := Bool.eq_false_iff.2 b201
            replace H := if_f b201 H
            refine w_val (Wnt.of rfl rfl b201) rfl (fun a w hf hs => r_loadA ta24 ts24 (hf.ev rfl) (hs.blk (i := 0) rfl) rfl rfl) ?_
            refine w_val (Wnt.of rfl rfl b201) rfl (fun a w hf hs => r_loadA ta28 ts28 (hf.ev rfl) (hs.sub _ _ h13) (Backup.d0_38 _ _) (Backup.len _ _)) ?_
            refine w_val (Wnt.of rfl rfl b201) rfl (fun a w hf hs => r_move (hf.ev rfl)) ?_
            obtain ⟨t202, e207, H⟩ := bnd H
            refine w_call cf16 (Wnt.of rfl rfl b201) rfl rfl (fun w hs => restore_Holds.calls hs t40.1 v46 h47 p1 v3 h4 p2 _ e207) ?_
            rintro _ M204 l205 rfl
            replace h2 := h2.mono l205
            replace h4 := h4.mono l205
            replace h9 := l205 _ _ h9
            replace h13 := l205 _ _ h13
            replace h47 := h47.mono l205
            replace h49 := h49.mono l205
            refine w_val (Wnt.of rfl rfl b201) rfl (fun a w hf hs => r_not (hf.ev rfl)) ?_
            refine w_val trivial rfl (fun a w hf hs => r_pickF (hf.ev rfl) b201 (hf.ev rfl)) ?_
            refine w_val trivial rfl (fun a w hf hs => r_move (hf.ev rfl)) ?_
            by_cases b208 : (!t202) = true
            · replace H := if_t b208 H
              exact absurd ((some_r H).trans ht_) (by decide)
            · replace b208 := Bool.eq_false_iff.2 b208
              replace H := if_f b208 H
              refine w_val (Wnt.of rfl rfl b208) rfl (fun a w hf hs => r_move (hf.ev rfl)) ?_
              refine w_val (Wnt.of rfl rfl b208) rfl (fun a w hf hs => r_move (hf.ev rfl)) ?_
              refine w_val (Wnt.of rfl rfl b208) rfl (fun a w hf hs => r_geq (hf.ev rfl) (hf.ev rfl)) ?_
              refine w_val (Wnt.of rfl rfl b208) rfl (fun a w hf hs => r_move (hf.ev rfl)) ?_
              by_cases b209 : (decide (p2 ≤ p3)) = true
              · replace H := if_t b209 H
                refine w_val (Wnt.of rfl rfl b209) rfl (fun a w hf hs => r_loadA ta24 ts24 (hf.ev rfl) (hs.blk (i := 0) rfl) rfl rfl) ?_
                refine w_val (Wnt.of rfl rfl b209) rfl (fun a w hf hs => r_loadA ta28 ts28 (hf.ev rfl) (hs.sub _ _ h13) (Backup.d0_38 _ _) (Backup.len _ _)) ?_
                refine w_val (Wnt.of rfl rfl b209) rfl (fun a w hf hs => r_move (hf.ev rfl)) ?_
                obtain ⟨t210, e215, H⟩ := bnd H
                refine w_call cf16 (Wnt.of rfl rfl b209) rfl rfl (fun w hs => restore_Holds.calls hs t40.1 v46 h47 p1 v3 h4 p3 _ e215) ?_
                rintro _ M212 l213 rfl
                replace h2 := h2.mono l213
                replace h4 := h4.mono l213
                replace h9 := l213 _ _ h9
                replace h13 := l213 _ _ h13
                replace h47 := h47.mono l213
                replace h49 := h49.mono l213
                refine w_val (Wnt.of rfl rfl b209) rfl (fun a w hf hs => r_not (hf.ev rfl)) ?_
                refine w_val (Wnt.of rfl rfl b208) rfl (fun a w hf hs => r_pickT (hf.ev rfl) b209 (hf.ev rfl)) ?_
                refine w_val trivial rfl (fun a w hf hs => r_pickF (hf.ev rfl) b208 (hf.ev rfl)) ?_
                obtain rfl := some_r H
                refine w_nil ?_
                intro a w' hf hs
                exact ⟨_, (l198.trans (l205.trans l213)), (((((hf.nil.add (hf.get _ _ rfl)).add (hf.get _ _ rfl)).add (hf.get _ _ rfl)).add (hf.get _ _ rfl)).add (hf.get _ _ rfl)), hs.sel [0] (by decide) rfl⟩
              · replace b209 := Bool.eq_false_iff.2 b209
                replace H := if_f b209 H
                refine w_not (Nwt.of rfl rfl b209) rfl ?_
                refine w_not (Nwt.of rfl rfl b209) rfl ?_
                refine w_not (Nwt.of rfl rfl b209) rfl ?_
                refine w_not (Nwt.of rfl rfl b209) rfl ?_
                refine w_not (Nwt.of rfl rfl b209) rfl ?_
                refine w_val (Wnt.of rfl rfl b208) rfl (fun a w hf hs => r_pickF (hf.ev rfl) b209 (hf.ev rfl)) ?_
                refine w_val trivial rfl (fun a w hf hs => r_pickF (hf.ev rfl) b208 (hf.ev rfl)) ?_
                obtain rfl := some_r H
                refine w_nil ?_
                intro a w' hf hs
                exact ⟨_, (l198.trans l205), (((((hf.nil.add (hf.get _ _ rfl)).add (hf.get _ _ rfl)).add (hf.get _ _ rfl)).add (hf.get _ _ rfl)).add (hf.get _ _ rfl)), hs.sel [0] (by decide) rfl⟩
        · clear H1 ht_
          rintro a w' ⟨M77, l78, hf, hs⟩
          refine c_of (c := (Cx.mk Try.prog 126 none' M w)) ?_ hf hs
          clear hf hs
          replace h2 := h2.mono l78
          replace h4 := h4.mono l78
          replace h9 := l78 _ _ h9
          replace h13 := l78 _ _ h13
          replace h47 := h47.mono l78
          replace h49 := h49.mono l78
          refine c_if rfl (fun b100 => ?_) (fun b100 => ?_)
          · replace H := if_t b100 H
            refine c_seq ?_
            intro K101 hK101
            refine c_reg ?_
            refine w_val trivial rfl (fun a w hf hs => r_assign (hf.ev rfl)) ?_
            refine w_nil (hK101 _ _ _ ?_)
            obtain rfl := some_r H
            refine c_ret ?_
            intro a w' hf hs
            exact hret _ (.inl rfl) a w' hf.df ⟨_, _, Res.of1 rfl (RV.t hf rfl), hs.ext, rfl⟩
          · replace H := if_f b100 H
            refine c_skip (hK75 _ _ _ ?_)
            refine c_seq ?_
            intro K102 hK102
            refine c_reg ?_
            refine w_val trivial rfl (fun a w hf hs => r_loadA ta24 ts24 (hf.ev rfl) (hs.blk (i := 0) rfl) rfl rfl) ?_
            refine w_val trivial rfl (fun a w hf hs => r_loadA ta28 ts28 (hf.ev rfl) (hs.sub _ _ h13) (Backup.d0_38 _ _) (Backup.len _ _)) ?_
            refine w_val trivial rfl (fun a w hf hs => r_move (hf.ev rfl)) ?_
            obtain ⟨t103, e108, H⟩ := bnd H
            refine w_call cf10 trivial rfl rfl (fun w hs => restore_Plan.calls hs t40.1 v46 h47 p1 v3 h4 p2 _ e108) ?_
            rintro v194 M105 l106 ⟨v109, v111, hv_, h110, h112⟩
            replace hv_ := hv_.symm
            subst hv_
            replace h2 := h2.mono l106
            replace h4 := h4.mono l106
            replace h9 := l106 _ _ h9
            replace h13 := l106 _ _ h13
            replace h47 := h47.mono l106
            replace h49 := h49.mono l106
            refine w_val trivial rfl (fun a w hf hs => r_move (hf.ev rfl)) ?_
            refine w_val trivial rfl (fun a w hf hs => r_extract (hf.ev rfl) rfl) ?_
            refine w_val trivial rfl (fun a w hf hs => r_extract (hf.ev rfl) rfl) ?_
            refine w_val trivial rfl (fun a w hf hs => r_extract (hf.ev rfl) rfl) ?_
            refine w_allocL (A := Table.C (⟨(0 : Int), ([] : (List Key))⟩ : Table) (.slice none 0 0)) tz24 trivial rfl rfl ?_
            intro b113
            refine w_store (i := 1) (vs := Table.C t103.1 v109) (A' := Table.C t103.1 v109) trivial rfl rfl rfl rfl ts24 rfl (Table.C_one _ h110.one) (Nat.le_of_ble_eq_true rfl) rfl ?_
            refine w_val trivial rfl (fun a w hf hs => r_assign (hf.ev rfl)) ?_
            refine w_val trivial rfl (fun a w hf hs => r_assign (hf.ev rfl)) ?_
            refine w_nil (hK102 _ _ _ ?_)
            refine c_seq ?_
            intro K114 hK114
            obtain ⟨t115, H1, H⟩ := bnd H
            have ht_ := ne_tr H hr_
            refine c_cut (fun a' w' => ∃ (M116 : Heap), HLe M105 M116 ∧ Fr 126 [(2, (.int .i64 p2)), (3, (.int .i64 p3)), (5, (ptr b10 0)), (9, (ptr b50 0)), (12, (ptr b113 0)), (94, (.bool t115))] a' ∧ St none' M w M116 (lt [.blk b50 (.cells (Table.C t40.1 v46).toArray 24 (0, 0)), .blk b113 (.cells (Table.C t103.1 v109).toArray 24 (0, 0))]) w') ?_ ?_
            · replace H := H1
              clear H1
              refine c_reg ?_
              refine w_val trivial rfl (fun a w hf hs => r_move (hf.ev rfl)) ?_
              refine w_val trivial rfl (fun a w hf hs => r_neq (hf.ev rfl) (hf.ev rfl)) ?_
              refine w_val trivial rfl (fun a w hf hs => r_move (hf.ev rfl)) ?_
              by_cases b186 : (t103.2.2 != (0 : Int)) = true
              · replace H := if_t b186 H
                exact absurd ((some_r H).trans ht_) (by decide)
              · replace b186 := Bool.eq_false_iff.2 b186
                replace H := if_f b186 H
                refine w_val (Wnt.of rfl rfl b186) rfl (fun a w hf hs => r_move (hf.ev rfl)) ?_
                refine w_val (Wnt.of rfl rfl b186) rfl (fun a w hf hs => r_lenR Try.underlying36 h112 (hf.ev rfl)) ?_
                refine w_val (Wnt.of rfl rfl b186) rfl (fun a w hf hs => r_neq (hf.ev rfl) (hf.ev rfl)) ?_
                refine w_val trivial rfl (fun a w hf hs => r_pickF (hf.ev rfl) b186 (hf.ev rfl)) ?_
                refine w_val trivial rfl (fun a w hf hs => r_move (hf.ev rfl)) ?_
                by_cases b187 : ((t103.2.1.length : Int) != (0 : Int)) = true
                · replace H := if_t b187 H
                  exact absurd ((some_r H).trans ht_) (by decide)
                · replace b187 := Bool.eq_false_iff.2 b187
                  replace H := if_f b187 H
                  refine w_val (Wnt.of rfl rfl b187) rfl (fun a w hf hs => r_loadA ta24 ts24 (hf.ev rfl) (hs.blk (i := 0) rfl) rfl rfl) ?_
                  refine w_val (Wnt.of rfl rfl b187) rfl (fun a w hf hs => r_loadA ta24 ts24 (hf.ev rfl) (hs.blk (i := 1) rfl) rfl rfl) ?_
                  obtain ⟨t188, e193, H⟩ := bnd H
                  refine w_call cf14 (Wnt.of rfl rfl b187) rfl rfl (fun w hs => ref27_Same.calls hs t40.1 v46 h47 t103.1 v109 h110 _ e193) ?_
                  rintro _ M190 l191 rfl
                  replace h2 := h2.mono l191
                  replace h4 := h4.mono l191
                  replace h9 := l191 _ _ h9
                  replace h13 := l191 _ _ h13
                  replace h47 := h47.mono l191
                  replace h49 := h49.mono l191
                  replace h110 := h110.mono l191
                  replace h112 := h112.mono l191
                  refine w_val (Wnt.of rfl rfl b187) rfl (fun a w hf hs => r_not (hf.ev rfl)) ?_
                  refine w_val trivial rfl (fun a w hf hs => r_pickF (hf.ev rfl) b187 (hf.ev rfl)) ?_
                  obtain rfl := some_r H
                  refine w_nil ?_
                  intro a w' hf hs
                  exact ⟨_, l191, ((((((hf.nil.add (hf.get _ _ rfl)).add (hf.get _ _ rfl)).add (hf.get _ _ rfl)).add (hf.get _ _ rfl)).add (hf.get _ _ rfl)).add (hf.get _ _ rfl)), hs.sel [0, 1] (by decide) rfl⟩
            · clear H1 ht_
              rintro a w' ⟨M116, l117, hf, hs⟩
              refine c_of (c := (Cx.mk Try.prog 126 none' M w)) ?_ hf hs
              clear hf hs
              replace h2 := h2.mono l117
              replace h4 := h4.mono l117
              replace h9 := l117 _ _ h9
              replace h13 := l117 _ _ h13
              replace h47 := h47.mono l117
              replace h49 := h49.mono l117
              replace h110 := h110.mono l117
              replace h112 := h112.mono l117
              refine c_if rfl (fun b126 => ?_) (fun b126 => ?_)
              · replace H := if_t b126 H
                refine c_seq ?_
                intro K127 hK127
                refine c_reg ?_
                refine w_val trivial rfl (fun a w hf hs => r_assign (hf.ev rfl)) ?_
                refine w_nil (hK127 _ _ _ ?_)
                obtain rfl := some_r H
                refine c_ret ?_
                intro a w' hf hs
                exact hret _ (.inl rfl) a w' hf.df ⟨_, _, Res.of1 rfl (RV.t hf rfl), hs.ext, rfl⟩
              · replace H := if_f b126 H
                refine c_skip (hK114 _ _ _ ?_)
                refine c_seq ?_
                intro K128 hK128
                obtain ⟨t129, H1, H⟩ := bnd H
                refine c_cut (fun a' w' => ∃ (M130 : Heap), HLe M116 M130 ∧ Fr 126 [(3, (.int .i64 p3)), (5, (ptr b10 0)), (9, (ptr b50 0)), (12, (ptr b113 0)), (101, (.bool t129))] a' ∧ St none' M w M130 (lt [.blk b50 (.cells (Table.C t40.1 v46).toArray 24 (0, 0)), .blk b113 (.cells (Table.C t103.1 v109).toArray 24 (0, 0))]) w') ?_ ?_
                · replace H := H1
                  clear H1
                  refine c_reg ?_
                  refine w_val trivial rfl (fun a w hf hs => r_move (hf.ev rfl)) ?_
                  refine w_val trivial rfl (fun a w hf hs => r_move (hf.ev rfl)) ?_
                  refine w_val trivial rfl (fun a w hf hs => r_lss (hf.ev rfl) (hf.ev rfl)) ?_
                  refine w_val trivial rfl (fun a w hf hs => r_move (hf.ev rfl)) ?_
                  by_cases b132 : (decide (p3 < p2)) = true
                  · replace H := if_t b132 H
                    refine w_not (Nwt.of rfl rfl b132) rfl ?_
                    refine w_not (Nwt.of rfl rfl b132) rfl ?_
                    refine w_val trivial rfl (fun a w hf hs => r_pickT (hf.ev rfl) b132 (hf.ev rfl)) ?_
                    obtain rfl := some_r H
                    refine w_nil ?_
                    intro a w' hf hs
                    exact ⟨_, (HLe.refl _), (((((hf.nil.add (hf.get _ _ rfl)).add (hf.get _ _ rfl)).add (hf.get _ _ rfl)).add (hf.get _ _ rfl)).add (hf.get _ _ rfl)), hs.sel [0, 1] (by decide) rfl⟩
                  · replace b132 := Bool.eq_false_iff.2 b132
                    replace H := if_f b132 H
                    refine w_val (Wnt.of rfl rfl b132) rfl (fun a w hf hs => r_move (hf.ev rfl)) ?_
                    refine w_val (Wnt.of rfl rfl b132) rfl (fun a w hf hs => r_gtr (hf.ev rfl) (hf.ev rfl)) ?_
                    refine w_val trivial rfl (fun a w hf hs => r_pickF (hf.ev rfl) b132 (hf.ev rfl)) ?_
                    obtain rfl := some_r H
                    refine w_nil ?_
                    intro a w' hf hs
                    exact ⟨_, (HLe.refl _), (((((hf.nil.add (hf.get _ _ rfl)).add (hf.get _ _ rfl)).add (hf.get _ _ rfl)).add (hf.get _ _ rfl)).add (hf.get _ _ rfl)), hs.sel [0, 1] (by decide) rfl⟩
                · clear H1
                  rintro a w' ⟨M130, l131, hf, hs⟩
                  refine c_of (c := (Cx.mk Try.prog 126 none' M w)) ?_ hf hs
                  clear hf hs
                  replace h2 := h2.mono l131
                  replace h4 := h4.mono l131
                  replace h9 := l131 _ _ h9
                  replace h13 := l131 _ _ h13
                  replace h47 := h47.mono l131
                  replace h49 := h49.mono l131
                  replace h110 := h110.mono l131
                  replace h112 := h112.mono l131
                  refine c_if rfl (fun b133 => ?_) (fun b133 => ?_)
                  · replace H := if_t b133 H
                    refine c_seq ?_
                    intro K134 hK134
                    refine c_reg ?_
                    obtain ⟨t135, e140, H⟩ := bnd H
                    refine w_call cf9 trivial rfl rfl (fun w hs => law37_sanity.calls hs  _ (hs_law37_sanity _ e140) e140) ?_
                    rintro _ M137 l138 rfl
                    replace h2 := h2.mono l138
                    replace h4 := h4.mono l138
                    replace h9 := l138 _ _ h9
                    replace h13 := l138 _ _ h13
                    replace h47 := h47.mono l138
                    replace h49 := h49.mono l138
                    replace h110 := h110.mono l138
                    replace h112 := h112.mono l138
                    refine w_val trivial rfl (fun a w hf hs => r_assign (hf.ev rfl)) ?_
                    refine w_nil (hK134 _ _ _ ?_)
                    obtain rfl := some_r H
                    refine c_ret ?_
                    intro a w' hf hs
                    exact hret _ (.inl rfl) a w' hf.df ⟨_, _, Res.of1 rfl (RV.t hf rfl), hs.ext, rfl⟩
                  · replace H := if_f b133 H
                    refine c_skip (hK128 _ _ _ ?_)
                    refine c_seq ?_
                    intro K141 hK141
                    refine c_reg ?_
                    refine w_val trivial rfl (fun a w hf hs => r_loadA ta24 ts24 (hf.ev rfl) (hs.blk (i := 0) rfl) rfl rfl) ?_
                    refine w_val trivial rfl (fun a w hf hs => r_loadA ta28 ts28 (hf.ev rfl) (hs.sub _ _ h13) (Backup.d0_38 _ _) (Backup.len _ _)) ?_
                    refine w_val trivial rfl (fun a w hf hs => r_move (hf.ev rfl)) ?_
                    obtain ⟨t142, e147, H⟩ := bnd H
                    refine w_call cf10 trivial rfl rfl (fun w hs => restore_Plan.calls hs t40.1 v46 h47 p1 v3 h4 p3 _ e147) ?_
                    rintro v185 M144 l145 ⟨v148, v150, hv_, h149, h151⟩
                    replace hv_ := hv_.symm
                    subst hv_
                    replace h2 := h2.mono l145
                    replace h4 := h4.mono l145
                    replace h9 := l145 _ _ h9
                    replace h13 := l145 _ _ h13
                    replace h47 := h47.mono l145
                    replace h49 := h49.mono l145
                    replace h110 := h110.mono l145
                    replace h112 := h112.mono l145
                    refine w_val trivial rfl (fun a w hf hs => r_move (hf.ev rfl)) ?_
                    refine w_val trivial rfl (fun a w hf hs => r_extract (hf.ev rfl) rfl) ?_
                    refine w_val trivial rfl (fun a w hf hs => r_extract (hf.ev rfl) rfl) ?_
                    refine w_val trivial rfl (fun a w hf hs => r_extract (hf.ev rfl) rfl) ?_
                    refine w_store (i := 1) (vs := Table.C t142.1 v148) (A' := Table.C t142.1 v148) trivial rfl rfl rfl rfl ts24 rfl (Table.C_one _ h149.one) (Nat.le_of_ble_eq_true rfl) rfl ?_
                    refine w_val trivial rfl (fun a w hf hs => r_assign (hf.ev rfl)) ?_
                    refine w_val trivial rfl (fun a w hf hs => r_assign (hf.ev rfl)) ?_
                    refine w_nil (hK141 _ _ _ ?_)
                    obtain ⟨t152, H1, H⟩ := bnd H
                    have ht_ := (some_r H).trans hr_
                    refine c_cut (fun a' w' => ∃ (M153 : Heap), HLe M144 M153 ∧ Fr 126 [(8, (.bool t152))] a' ∧ St none' M w M153 (lt [.blk b50 (.cells (Table.C t40.1 v46).toArray 24 (0, 0)), .blk b113 (.cells (Table.C t142.1 v148).toArray 24 (0, 0))]) w') ?_ ?_
                    · replace H := H1
                      clear H1
                      refine c_reg ?_
                      obtain ⟨t170, e175, H⟩ := bnd H
                      refine w_call cf9 trivial rfl rfl (fun w hs => law37_sanity.calls hs  _ (hs_law37_sanity _ e175) e175) ?_
                      rintro _ M172 l173 rfl
                      replace h2 := h2.mono l173
                      replace h4 := h4.mono l173
                      replace h9 := l173 _ _ h9
                      replace h13 := l173 _ _ h13
                      replace h47 := h47.mono l173
                      replace h49 := h49.mono l173
                      replace h110 := h110.mono l173
                      replace h112 := h112.mono l173
                      replace h149 := h149.mono l173
                      replace h151 := h151.mono l173
                      refine w_val trivial rfl (fun a w hf hs => r_move (hf.ev rfl)) ?_
                      by_cases b176 : t170 = true
                      · replace H := if_t b176 H
                        refine w_val (Wnt.of rfl rfl b176) rfl (fun a w hf hs => r_move (hf.ev rfl)) ?_
                        refine w_val (Wnt.of rfl rfl b176) rfl (fun a w hf hs => r_eql (hf.ev rfl) (hf.ev rfl)) ?_
                        refine w_val trivial rfl (fun a w hf hs => r_pickT (hf.ev rfl) b176 (hf.ev rfl)) ?_
                        refine w_val trivial rfl (fun a w hf hs => r_move (hf.ev rfl)) ?_
                        by_cases b177 : (t142.2.2 == (0 : Int)) = true
                        · replace H := if_t b177 H
                          refine w_val (Wnt.of rfl rfl b177) rfl (fun a w hf hs => r_move (hf.ev rfl)) ?_
                          refine w_val (Wnt.of rfl rfl b177) rfl (fun a w hf hs => r_lenR Try.underlying36 h151 (hf.ev rfl)) ?_
                          refine w_val (Wnt.of rfl rfl b177) rfl (fun a w hf hs => r_eql (hf.ev rfl) (hf.ev rfl)) ?_
                          refine w_val trivial rfl (fun a w hf hs => r_pickT (hf.ev rfl) b177 (hf.ev rfl)) ?_
                          refine w_val trivial rfl (fun a w hf hs => r_move (hf.ev rfl)) ?_
                          by_cases b178 : ((t142.2.1.length : Int) == (0 : Int)) = true
                          · replace H := if_t b178 H
                            refine w_val (Wnt.of rfl rfl b178) rfl (fun a w hf hs => r_loadA ta24 ts24 (hf.ev rfl) (hs.blk (i := 0) rfl) rfl rfl) ?_
                            refine w_val (Wnt.of rfl rfl b178) rfl (fun a w hf hs => r_loadA ta24 ts24 (hf.ev rfl) (hs.blk (i := 1) rfl) rfl rfl) ?_
                            obtain ⟨t179, e184, H⟩ := bnd H
                            refine w_call cf14 (Wnt.of rfl rfl b178) rfl rfl (fun w hs => ref27_Same.calls hs t40.1 v46 h47 t142.1 v148 h149 _ e184) ?_
                            rintro _ M181 l182 rfl
                            replace h2 := h2.mono l182
                            replace h4 := h4.mono l182
                            replace h9 := l182 _ _ h9
                            replace h13 := l182 _ _ h13
                            replace h47 := h47.mono l182
                            replace h49 := h49.mono l182
                            replace h110 := h110.mono l182
                            replace h112 := h112.mono l182
                            replace h149 := h149.mono l182
                            replace h151 := h151.mono l182
                            refine w_val trivial rfl (fun a w hf hs => r_pickT (hf.ev rfl) b178 (hf.ev rfl)) ?_
                            refine w_val trivial rfl (fun a w hf hs => r_assign (hf.ev rfl)) ?_
                            obtain rfl := some_r H
                            refine w_nil ?_
                            intro a w' hf hs
                            exact ⟨_, (l173.trans l182), (hf.nil.add (hf.get _ _ rfl)), hs.sel [0, 1] (by decide) rfl⟩
                          · replace b178 := Bool.eq_false_iff.2 b178
                            replace H := if_f b178 H
                            exact absurd ((some_r H).trans ht_) (by decide)
                        · replace b177 := Bool.eq_false_iff.2 b177
                          replace H := if_f b177 H
                          exact absurd ((some_r H).trans ht_) (by decide)
                      · replace b176 := Bool.eq_false_iff.2 b176
                        replace H := if_f b176 H
                        exact absurd ((some_r H).trans ht_) (by decide)
                    · clear H1 ht_
                      rintro a w' ⟨M153, l154, hf, hs⟩
                      refine c_of (c := (Cx.mk Try.prog 126 none' M w)) ?_ hf hs
                      clear hf hs
                      replace h2 := h2.mono l154
                      replace h4 := h4.mono l154
                      replace h9 := l154 _ _ h9
                      replace h13 := l154 _ _ h13
                      replace h47 := h47.mono l154
                      replace h49 := h49.mono l154
                      replace h110 := h110.mono l154
                      replace h112 := h112.mono l154
                      replace h149 := h149.mono l154
                      replace h151 := h151.mono l154
                      obtain rfl := some_r H
                      refine c_ret ?_
                      intro a w' hf hs
                      exact hret _ (.inl rfl) a w' hf.df ⟨_, _, Res.of1 rfl (RV.t hf rfl), hs.ext, rfl⟩
end Go.Cu
