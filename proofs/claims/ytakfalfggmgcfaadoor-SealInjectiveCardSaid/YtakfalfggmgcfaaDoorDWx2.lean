/- Each Go function comes to its pure function; condition: that one is defined there. -/
import Derived.Test.YtakfalfggmgcfaaDoorDWx1
import Derived.Test.YtakfalfggmgcfaaDoorDP
import Derived.Test.YtakfalfggmgcfaaDoorDS
import Derived.Shelf.Strings.Repeat
import Derived.Shelf.Strings.OnBuilder
import Derived.Ground.NamesProg
import Derived.Lib.Agree
import Derived.Test.YtakfalfggmgcfaaDoorProg
import Derived.KernelRfl
import Derived.Test.YtakfalfggmgcfaaDoorCu25
set_option linter.unusedVariables false
set_option linter.unusedSimpArgs false
set_option maxHeartbeats 4000000
/-! The walks. -/
namespace Go.Cu
open Go.Proofs Go.Proofs.Tryd Go.Shelf
set_option maxRecDepth 20000 in
theorem ref02_Sum.calls {M : Heap} {w : World} (hM : Sub M w) (hG : Gl M) (p0 : (List Int)) (v1 : Value) (h2 : RS (FI .u8) M v1 p0) (r : (Vector Int 32)) (H : ref02_Sum p0 = some r) :
    Calls Tryd.prog 83 [v1].toArray w (Post M w fun M' v => v = (.agg (vI .u8 r).toArray)) := by
  obtain ⟨T0_, f0_, hg0_⟩ := hG.g0
  refine enter 148 [(0, v1)] Tryd.func83 rfl rfl rfl hM ?_
  intro Q hret
  unfold ref02_Sum at H
  refine c_seq ?_
  intro K3 hK3
  refine c_reg ?_
  refine w_allocL (A := vI .u8 (Vector.replicate 32 (0 : Int))) tz117 trivial rfl rfl ?_
  intro b4
  refine w_nil (hK3 _ _ _ ?_)
  refine c_seq ?_
  intro K5 hK5
  refine c_reg ?_
  refine w_val trivial rfl (fun a w hf hs => r_build (is := [0, 1, 2, 3, 4, 5, 6, 7]) (xs := [.const (.int .u32 (1779033703 : Int)), .const (.int .u32 (3144134277 : Int)), .const (.int .u32 (1013904242 : Int)), .const (.int .u32 (2773480762 : Int)), .const (.int .u32 (1359893119 : Int)), .const (.int .u32 (2600822924 : Int)), .const (.int .u32 (528734635 : Int)), .const (.int .u32 (1541459225 : Int))]) (vs := [(.int .u32 (1779033703 : Int)), (.int .u32 (3144134277 : Int)), (.int .u32 (1013904242 : Int)), (.int .u32 (2773480762 : Int)), (.int .u32 (1359893119 : Int)), (.int .u32 (2600822924 : Int)), (.int .u32 (528734635 : Int)), (.int .u32 (1541459225 : Int))]) (A := vI .u32 (#v[(1779033703 : Int), (3144134277 : Int), (1013904242 : Int), (2773480762 : Int), (1359893119 : Int), (2600822924 : Int), (528734635 : Int), (1541459225 : Int)] : Vector Int 8)) rfl (hf.evs rfl) (by kernel_rfl)) ?_
  refine w_allocL (A := vI .u32 (Vector.replicate 8 (0 : Int))) tz120 trivial rfl rfl ?_
  intro b6
  refine w_store (i := 1) (vs := vI .u32 (#v[(1779033703 : Int), (3144134277 : Int), (1013904242 : Int), (2773480762 : Int), (1359893119 : Int), (2600822924 : Int), (528734635 : Int), (1541459225 : Int)] : Vector Int 8)) (A' := vI .u32 (#v[(1779033703 : Int), (3144134277 : Int), (1013904242 : Int), (2773480762 : Int), (1359893119 : Int), (2600822924 : Int), (528734635 : Int), (1541459225 : Int)] : Vector Int 8)) trivial rfl rfl rfl rfl ts120 (vI_len _) (vI_one _) (by rw [vI_len]; decide) (vI_whole _ _) ?_
  refine w_nil (hK5 _ _ _ ?_)
  refine c_seq ?_
  intro K7 hK7
  refine c_reg ?_
  refine w_val trivial rfl (fun a w hf hs => r_move (hf.ev rfl)) ?_
  obtain ⟨t8, e13, H⟩ := bnd H
  refine w_call cf115 trivial rfl rfl (fun w hs => ref02_padded.calls hs p0 v1 h2 _ e13) ?_
  rintro v361 M10 l11 ⟨v14, hv_, h15⟩
  replace hv_ := hv_.symm
  subst hv_
  replace hG := hG.mono l11
  replace hg0_ := l11 _ _ hg0_
  replace h2 := h2.mono l11
  refine w_val trivial rfl (fun a w hf hs => r_assign (hf.ev rfl)) ?_
  refine w_nil (hK7 _ _ _ ?_)
  refine c_cut (fun a' w' => ∃ (x16 : (Vector Int 8)) (M17 : Heap), HLe M10 M17 ∧ Fr 148 [(2, (ptr b4 0)), (3, (ptr b6 0))] a' ∧ St none' M w M17 (lt [.blk b4 (.cells (vI .u8 (Vector.replicate 32 (0 : Int))).toArray 117 (0, 0)), .blk b6 (.cells (vI .u32 x16).toArray 120 (0, 0))]) w' ∧ ref02_Sum.j3 x16 = some r) ?_ ?_
  · refine c_seq ?_
    intro K41 hK41
    refine c_reg ?_
    refine w_val trivial rfl (fun a w hf hs => r_assign (hf.ev rfl)) ?_
    refine w_nil (hK41 _ _ _ ?_)
    refine c_block ?_
    refine c_loop (fun (s42 : ((Vector Int 8) × Int)) a' w' => ∃ (M43 : Heap), HLe M10 M43 ∧ Fr 148 [(2, (ptr b4 0)), (3, (ptr b6 0)), (4, v14), (5, (.int .i64 s42.2))] a' ∧ St none' M w M43 (lt [.blk b4 (.cells (vI .u8 (Vector.replicate 32 (0 : Int))).toArray 117 (0, 0)), .blk b6 (.cells (vI .u32 s42.1).toArray 120 (0, 0))]) w') ((#v[(1779033703 : Int), (3144134277 : Int), (1013904242 : Int), (2773480762 : Int), (1359893119 : Int), (2600822924 : Int), (528734635 : Int), (1541459225 : Int)] : Vector Int 8), (0 : Int)) H ?_ ?_
    · intro a w' hf hs
      exact ⟨_, HLe.refl _, ((((hf.nil.add (hf.get _ _ rfl)).add (hf.get _ _ rfl)).add (hf.get _ _ rfl)).add (hf.get _ _ rfl)), hs.selD [some 0, some 1] (by decide) rfl⟩
    · clear H
      intro s42 y46 H r45 a w' hJ
      obtain ⟨M43, l44, hf, hs⟩ := hJ
      refine c_of (c := (Cx.mk Tryd.prog 148 none' M w)) ?_ hf hs
      unfold ref02_Sum.l8 at H
      clear hf hs
      replace hG := hG.mono l44
      replace hg0_ := l44 _ _ hg0_
      replace h2 := h2.mono l44
      replace h15 := h15.mono l44
      refine c_seq ?_
      intro K47 hK47
      refine c_seq ?_
      intro K48 hK48
      refine c_reg ?_
      refine w_val trivial rfl (fun a w hf hs => r_move (hf.ev rfl)) ?_
      refine w_val trivial rfl (fun a w hf hs => r_move (hf.ev rfl)) ?_
      refine w_val trivial rfl (fun a w hf hs => r_lenR Tryd.underlying66 h15 (hf.ev rfl)) ?_
      refine w_val trivial rfl (fun a w hf hs => r_lss (hf.ev rfl) (hf.ev rfl)) ?_
      refine w_nil (hK48 _ _ _ ?_)
      refine c_if rfl (fun b49 => ?_) (fun b49 => ?_)
      · replace H := if_t b49 H
        refine c_skip (hK47 _ _ _ ?_)
        refine c_cut (fun a' w' => ∃ (x50 : (Vector Int 8)) (M51 : Heap), HLe M43 M51 ∧ Fr 148 [(2, (ptr b4 0)), (3, (ptr b6 0)), (4, v14), (5, (.int .i64 s42.2))] a' ∧ St none' M w M51 (lt [.blk b4 (.cells (vI .u8 (Vector.replicate 32 (0 : Int))).toArray 117 (0, 0)), .blk b6 (.cells (vI .u32 x50).toArray 120 (0, 0))]) w' ∧ ref02_Sum.j4 x50 s42 = some y46) ?_ ?_
        · refine c_block ?_
          refine c_seq ?_
          intro K53 hK53
          refine c_reg ?_
          refine w_val trivial rfl (fun a w hf hs => r_move (hf.ev rfl)) ?_
          refine w_val trivial rfl (fun a w hf hs => r_move (hf.ev rfl)) ?_
          refine w_val trivial rfl (fun a w hf hs => r_move (hf.ev rfl)) ?_
          refine w_val trivial rfl (fun a w hf hs => r_add (hf.ev rfl) (hf.ev rfl)) ?_
          obtain ⟨g56, H⟩ := grd_s H
          refine w_ex (Φ := fun v => RS (FI .u8) M43 v ((t8.take ((IntKind.i64.wrap (s42.2 + (64 : Int)))).toNat).drop (s42.2).toNat)) trivial rfl (fun a w hf hs => r_slR Tryd.underlying66 ts5 (hf.ev rfl) h15 ⟨_, hf.ev rfl⟩ ⟨_, hf.ev rfl⟩ g56.1 g56.2.1 g56.2.2) ?_
          intro v54 h55
          obtain ⟨t57, e62, H⟩ := bnd H
          refine w_call cf116 trivial rfl rfl (fun w hs => ref02_words.calls hs ((t8.take ((IntKind.i64.wrap (s42.2 + (64 : Int)))).toNat).drop (s42.2).toNat) v54 h55 _ e62) ?_
          rintro _ M59 l60 rfl
          replace hG := hG.mono l60
          replace hg0_ := l60 _ _ hg0_
          replace h2 := h2.mono l60
          replace h15 := h15.mono l60
          replace h55 := h55.mono l60
          refine w_allocL (A := vI .u32 (Vector.replicate 64 (0 : Int))) tz157 trivial rfl rfl ?_
          intro b63
          refine w_L [.blk b4 (.cells (vI .u8 (Vector.replicate 32 (0 : Int))).toArray 117 (0, 0)), .blk b6 (.cells (vI .u32 s42.1).toArray 120 (0, 0)), .blk b63 (.cells (vI .u32 (Vector.replicate 64 (0 : Int))).toArray 157 (0, 0))] rfl ?_
          refine w_store (i := 2) (vs := vI .u32 t57) (A' := vI .u32 t57) trivial rfl rfl rfl rfl ts157 (vI_len _) (vI_one _) (by rw [vI_len]; decide) (vI_whole _ _) ?_
          refine w_L [.blk b4 (.cells (vI .u8 (Vector.replicate 32 (0 : Int))).toArray 117 (0, 0)), .blk b6 (.cells (vI .u32 s42.1).toArray 120 (0, 0)), .blk b63 (.cells (vI .u32 t57).toArray 157 (0, 0))] rfl ?_
          refine w_nil (hK53 _ _ _ ?_)
          refine c_seq ?_
          intro K64 hK64
          refine c_reg ?_
          refine w_val trivial rfl (fun a w hf hs => r_loadA ta120 ts120 (hf.ev rfl) (hs.blk (i := 1) rfl) (vI_all _) (vI_len _)) ?_
          refine w_allocL (A := vI .u32 (Vector.replicate 8 (0 : Int))) tz120 trivial rfl rfl ?_
          intro b65
          refine w_L [.blk b4 (.cells (vI .u8 (Vector.replicate 32 (0 : Int))).toArray 117 (0, 0)), .blk b6 (.cells (vI .u32 s42.1).toArray 120 (0, 0)), .blk b63 (.cells (vI .u32 t57).toArray 157 (0, 0)), .blk b65 (.cells (vI .u32 (Vector.replicate 8 (0 : Int))).toArray 120 (0, 0))] rfl ?_
          refine w_store (i := 3) (vs := vI .u32 s42.1) (A' := vI .u32 s42.1) trivial rfl rfl rfl rfl ts120 (vI_len _) (vI_one _) (by rw [vI_len]; decide) (vI_whole _ _) ?_
          refine w_L [.blk b4 (.cells (vI .u8 (Vector.replicate 32 (0 : Int))).toArray 117 (0, 0)), .blk b6 (.cells (vI .u32 s42.1).toArray 120 (0, 0)), .blk b63 (.cells (vI .u32 t57).toArray 157 (0, 0)), .blk b65 (.cells (vI .u32 s42.1).toArray 120 (0, 0))] rfl ?_
          refine w_nil (hK64 _ _ _ ?_)
          refine c_cut (fun a' w' => ∃ (x66 : (Vector Int 8)) (M67 : Heap), HLe M59 M67 ∧ Fr 148 [(2, (ptr b4 0)), (3, (ptr b6 0)), (4, v14), (5, (.int .i64 s42.2)), (7, (ptr b65 0))] a' ∧ St none' M w M67 (lt [.blk b4 (.cells (vI .u8 (Vector.replicate 32 (0 : Int))).toArray 117 (0, 0)), .blk b6 (.cells (vI .u32 s42.1).toArray 120 (0, 0)), dead, .blk b65 (.cells (vI .u32 x66).toArray 120 (0, 0))]) w' ∧ ref02_Sum.j6 x66 s42 = some y46) ?_ ?_
          · refine c_seq ?_
            intro K109 hK109
            refine c_reg ?_
            refine w_val trivial rfl (fun a w hf hs => r_assign (hf.ev rfl)) ?_
            refine w_nil (hK109 _ _ _ ?_)
            refine c_block ?_
            refine c_loop (fun (s110 : ((Vector Int 8) × Int)) a' w' => ∃ (M111 : Heap), HLe M59 M111 ∧ Fr 148 [(2, (ptr b4 0)), (3, (ptr b6 0)), (4, v14), (5, (.int .i64 s42.2)), (6, (ptr b63 0)), (7, (ptr b65 0)), (8, (.int .i64 s110.2))] a' ∧ St none' M w M111 (lt [.blk b4 (.cells (vI .u8 (Vector.replicate 32 (0 : Int))).toArray 117 (0, 0)), .blk b6 (.cells (vI .u32 s42.1).toArray 120 (0, 0)), .blk b63 (.cells (vI .u32 t57).toArray 157 (0, 0)), .blk b65 (.cells (vI .u32 s110.1).toArray 120 (0, 0))]) w') (s42.1, (0 : Int)) H ?_ ?_
            · intro a w' hf hs
              exact ⟨_, HLe.refl _, (((((((hf.nil.add (hf.get _ _ rfl)).add (hf.get _ _ rfl)).add (hf.get _ _ rfl)).add (hf.get _ _ rfl)).add (hf.get _ _ rfl)).add (hf.get _ _ rfl)).add (hf.get _ _ rfl)), hs.selD [some 0, some 1, some 2, some 3] (by decide) rfl⟩
            · clear H
              intro s110 y114 H r113 a w' hJ
              obtain ⟨M111, l112, hf, hs⟩ := hJ
              refine c_of (c := (Cx.mk Tryd.prog 148 none' M w)) ?_ hf hs
              unfold ref02_Sum.l7 at H
              clear hf hs
              replace hG := hG.mono l112
              replace hg0_ := l112 _ _ hg0_
              replace h2 := h2.mono l112
              replace h15 := h15.mono l112
              replace h55 := h55.mono l112
              refine c_seq ?_
              intro K115 hK115
              refine c_seq ?_
              intro K116 hK116
              refine c_reg ?_
              refine w_val trivial rfl (fun a w hf hs => r_move (hf.ev rfl)) ?_
              refine w_val trivial rfl (fun a w hf hs => r_lss (hf.ev rfl) (hf.ev rfl)) ?_
              refine w_nil (hK116 _ _ _ ?_)
              refine c_if rfl (fun b117 => ?_) (fun b117 => ?_)
              · replace H := if_t b117 H
                refine c_skip (hK115 _ _ _ ?_)
                refine c_seq ?_
                intro K118 hK118
                refine c_block ?_
                refine c_seq ?_
                intro K119 hK119
                obtain ⟨t133, e138, H⟩ := bnd H
                obtain ⟨t147, e152, H⟩ := bnd H
                obtain ⟨t165, e170, H⟩ := bnd H
                obtain ⟨g223, H⟩ := grd_s H
                obtain ⟨g236, H⟩ := grd_s H
                refine c_drawP [([], [7]), ([(0, 34)], []), ([], [7]), ([(2, 36)], []), ([(3, 37)], []), ([], [7]), ([(5, 39)], []), ([(6, 40)], []), ([(4, 38), (7, 41)], []), ([], [7]), ([(9, 43)], []), ([(10, 44)], []), ([(8, 42), (11, 45)], []), ([(1, 35), (12, 46)], []), ([], [7]), ([(14, 48)], []), ([], [7]), ([(16, 50)], []), ([(15, 49), (17, 51)], []), ([], [7]), ([(19, 53)], []), ([(20, 54)], []), ([], [7]), ([(22, 56)], []), ([(21, 55), (23, 57)], []), ([(18, 52), (24, 58)], []), ([(13, 47), (25, 59)], []), ([], [8]), ([(27, 61)], []), ([(28, 62)], []), ([(26, 60), (29, 63)], []), ([], [8]), ([(31, 65)], [6]), ([(32, 66)], []), ([(30, 64), (33, 67)], []), ([(34, 68)], [])] [fun v M => v = (ptr b65 (0 + ((7 : Int)).toNat)), fun v M => v = (.int .u32 (rd s110.1.toList (7 : Int))), fun v M => v = (ptr b65 (0 + ((4 : Int)).toNat)), fun v M => v = (.int .u32 (rd s110.1.toList (4 : Int))), fun v M => v = (.int .u32 t133), fun v M => v = (ptr b65 (0 + ((4 : Int)).toNat)), fun v M => v = (.int .u32 (rd s110.1.toList (4 : Int))), fun v M => v = (.int .u32 t147), fun v M => v = (.int .u32 (bits .xor .u32 t133 t147)), fun v M => v = (ptr b65 (0 + ((4 : Int)).toNat)), fun v M => v = (.int .u32 (rd s110.1.toList (4 : Int))), fun v M => v = (.int .u32 t165), fun v M => v = (.int .u32 (bits .xor .u32 (bits .xor .u32 t133 t147) t165)), fun v M => v = (.int .u32 (IntKind.u32.wrap ((rd s110.1.toList (7 : Int)) + (bits .xor .u32 (bits .xor .u32 t133 t147) t165)))), fun v M => v = (ptr b65 (0 + ((4 : Int)).toNat)), fun v M => v = (.int .u32 (rd s110.1.toList (4 : Int))), fun v M => v = (ptr b65 (0 + ((5 : Int)).toNat)), fun v M => v = (.int .u32 (rd s110.1.toList (5 : Int))), fun v M => v = (.int .u32 (bits .and .u32 (rd s110.1.toList (4 : Int)) (rd s110.1.toList (5 : Int)))), fun v M => v = (ptr b65 (0 + ((4 : Int)).toNat)), fun v M => v = (.int .u32 (rd s110.1.toList (4 : Int))), fun v M => v = (.int .u32 (bits .xor .u32 (rd s110.1.toList (4 : Int)) (4294967295 : Int))), fun v M => v = (ptr b65 (0 + ((6 : Int)).toNat)), fun v M => v = (.int .u32 (rd s110.1.toList (6 : Int))), fun v M => v = (.int .u32 (bits .and .u32 (bits .xor .u32 (rd s110.1.toList (4 : Int)) (4294967295 : Int)) (rd s110.1.toList (6 : Int)))), fun v M => v = (.int .u32 (bits .xor .u32 (bits .and .u32 (rd s110.1.toList (4 : Int)) (rd s110.1.toList (5 : Int))) (bits .and .u32 (bits .xor .u32 (rd s110.1.toList (4 : Int)) (4294967295 : Int)) (rd s110.1.toList (6 : Int))))), fun v M => v = (.int .u32 (IntKind.u32.wrap ((IntKind.u32.wrap ((rd s110.1.toList (7 : Int)) + (bits .xor .u32 (bits .xor .u32 t133 t147) t165))) + (bits .xor .u32 (bits .and .u32 (rd s110.1.toList (4 : Int)) (rd s110.1.toList (5 : Int))) (bits .and .u32 (bits .xor .u32 (rd s110.1.toList (4 : Int)) (4294967295 : Int)) (rd s110.1.toList (6 : Int))))))), fun v M => v = (.int .i64 s110.2), fun v M => v = (ptr 0 (0 + (s110.2).toNat)), fun v M => v = (.int .u32 (rd ref02_constants.toList s110.2)), fun v M => v = (.int .u32 (IntKind.u32.wrap ((IntKind.u32.wrap ((IntKind.u32.wrap ((rd s110.1.toList (7 : Int)) + (bits .xor .u32 (bits .xor .u32 t133 t147) t165))) + (bits .xor .u32 (bits .and .u32 (rd s110.1.toList (4 : Int)) (rd s110.1.toList (5 : Int))) (bits .and .u32 (bits .xor .u32 (rd s110.1.toList (4 : Int)) (4294967295 : Int)) (rd s110.1.toList (6 : Int)))))) + (rd ref02_constants.toList s110.2)))), fun v M => v = (.int .i64 s110.2), fun v M => v = (ptr b63 (0 + (s110.2).toNat)), fun v M => v = (.int .u32 (rd t57.toList s110.2)), fun v M => v = (.int .u32 (IntKind.u32.wrap ((IntKind.u32.wrap ((IntKind.u32.wrap ((IntKind.u32.wrap ((rd s110.1.toList (7 : Int)) + (bits .xor .u32 (bits .xor .u32 t133 t147) t165))) + (bits .xor .u32 (bits .and .u32 (rd s110.1.toList (4 : Int)) (rd s110.1.toList (5 : Int))) (bits .and .u32 (bits .xor .u32 (rd s110.1.toList (4 : Int)) (4294967295 : Int)) (rd s110.1.toList (6 : Int)))))) + (rd ref02_constants.toList s110.2))) + (rd t57.toList s110.2)))), fun v M => v = (.int .u32 (IntKind.u32.wrap ((IntKind.u32.wrap ((IntKind.u32.wrap ((IntKind.u32.wrap ((rd s110.1.toList (7 : Int)) + (bits .xor .u32 (bits .xor .u32 t133 t147) t165))) + (bits .xor .u32 (bits .and .u32 (rd s110.1.toList (4 : Int)) (rd s110.1.toList (5 : Int))) (bits .and .u32 (bits .xor .u32 (rd s110.1.toList (4 : Int)) (4294967295 : Int)) (rd s110.1.toList (6 : Int)))))) + (rd ref02_constants.toList s110.2))) + (rd t57.toList s110.2))))] (by kernel_rfl) (by kernel_rfl) ?_ (AllT.cons ?_ (AllT.cons ?_ (AllT.cons ?_ (AllT.cons ?_ (AllT.cons ?_ (AllT.cons ?_ (AllT.cons ?_ (AllT.cons ?_ (AllT.cons ?_ (AllT.cons ?_ (AllT.cons ?_ (AllT.cons ?_ (AllT.cons ?_ (AllT.cons ?_ (AllT.cons ?_ (AllT.cons ?_ (AllT.cons ?_ (AllT.cons ?_ (AllT.cons ?_ (AllT.cons ?_ (AllT.cons ?_ (AllT.cons ?_ (AllT.cons ?_ (AllT.cons ?_ (AllT.cons ?_ (AllT.cons ?_ (AllT.cons ?_ (AllT.cons ?_ (AllT.cons ?_ (AllT.cons ?_ (AllT.cons ?_ (AllT.cons ?_ (AllT.cons ?_ (AllT.cons ?_ (AllT.cons ?_ (AllT.cons ?_ AllT.nil)))))))))))))))))))))))))))))))))))) ?_
                · exact (MonoA.cons (fun _ _ _ _ h => h) (MonoA.cons (fun _ _ _ _ h => h) (MonoA.cons (fun _ _ _ _ h => h) (MonoA.cons (fun _ _ _ _ h => h) (MonoA.cons (fun _ _ _ _ h => h) (MonoA.cons (fun _ _ _ _ h => h) (MonoA.cons (fun _ _ _ _ h => h) (MonoA.cons (fun _ _ _ _ h => h) (MonoA.cons (fun _ _ _ _ h => h) (MonoA.cons (fun _ _ _ _ h => h) (MonoA.cons (fun _ _ _ _ h => h) (MonoA.cons (fun _ _ _ _ h => h) (MonoA.cons (fun _ _ _ _ h => h) (MonoA.cons (fun _ _ _ _ h => h) (MonoA.cons (fun _ _ _ _ h => h) (MonoA.cons (fun _ _ _ _ h => h) (MonoA.cons (fun _ _ _ _ h => h) (MonoA.cons (fun _ _ _ _ h => h) (MonoA.cons (fun _ _ _ _ h => h) (MonoA.cons (fun _ _ _ _ h => h) (MonoA.cons (fun _ _ _ _ h => h) (MonoA.cons (fun _ _ _ _ h => h) (MonoA.cons (fun _ _ _ _ h => h) (MonoA.cons (fun _ _ _ _ h => h) (MonoA.cons (fun _ _ _ _ h => h) (MonoA.cons (fun _ _ _ _ h => h) (MonoA.cons (fun _ _ _ _ h => h) (MonoA.cons (fun _ _ _ _ h => h) (MonoA.cons (fun _ _ _ _ h => h) (MonoA.cons (fun _ _ _ _ h => h) (MonoA.cons (fun _ _ _ _ h => h) (MonoA.cons (fun _ _ _ _ h => h) (MonoA.cons (fun _ _ _ _ h => h) (MonoA.cons (fun _ _ _ _ h => h) (MonoA.cons (fun _ _ _ _ h => h) (MonoA.cons (fun _ _ _ _ h => h) MonoA.nil))))))))))))))))))))))))))))))))))))
                · intro a w' M120 l121 hd hs
                  refine OP.ofW (l := [(7, (ptr b65 0))]) (hd.fr.add (hd.base 7 _ rfl rfl)) hs rfl ?_
                  refine w_val trivial rfl (fun a w hf hs => r_iaI Tryd.underlying120 ts70 (hf.ev rfl) (hf.ev rfl) (by decide : (0 : Int) ≤ (7 : Int)) (by decide : (7 : Int) < ((8 : Nat) : Int))) ?_
                  refine w_nil ?_
                  intro a w' hf hs
                  exact ⟨rfl, hf.df, _, (HLe.refl _), hs, hf.get _ _ rfl⟩
                · intro a w' M122 l123 hd hs
                  have e124 := hd.val 0 34 _ rfl rfl
                  refine OP.ofW (l := [(34, (ptr b65 (0 + ((7 : Int)).toNat)))]) (hd.fr.add e124) hs rfl ?_
                  refine w_val trivial rfl (fun a w hf hs => r_load1 ta70 (hf.ev rfl) (hs.blk (i := 3) rfl) (vI_get0 (by decide : (0 : Int) ≤ (7 : Int)) (by decide : (7 : Int) < ((8 : Nat) : Int)))) ?_
                  refine w_nil ?_
                  intro a w' hf hs
                  exact ⟨rfl, hf.df, _, (HLe.refl _), hs, hf.get _ _ rfl⟩
                · intro a w' M125 l126 hd hs
                  refine OP.ofW (l := [(7, (ptr b65 0))]) (hd.fr.add (hd.base 7 _ rfl rfl)) hs rfl ?_
                  refine w_val trivial rfl (fun a w hf hs => r_iaI Tryd.underlying120 ts70 (hf.ev rfl) (hf.ev rfl) (by decide : (0 : Int) ≤ (4 : Int)) (by decide : (4 : Int) < ((8 : Nat) : Int))) ?_
                  refine w_nil ?_
                  intro a w' hf hs
                  exact ⟨rfl, hf.df, _, (HLe.refl _), hs, hf.get _ _ rfl⟩
                · intro a w' M127 l128 hd hs
                  have e129 := hd.val 2 36 _ rfl rfl
                  refine OP.ofW (l := [(36, (ptr b65 (0 + ((4 : Int)).toNat)))]) (hd.fr.add e129) hs rfl ?_
                  refine w_val trivial rfl (fun a w hf hs => r_load1 ta70 (hf.ev rfl) (hs.blk (i := 3) rfl) (vI_get0 (by decide : (0 : Int) ≤ (4 : Int)) (by decide : (4 : Int) < ((8 : Nat) : Int)))) ?_
                  refine w_nil ?_
                  intro a w' hf hs
                  exact ⟨rfl, hf.df, _, (HLe.refl _), hs, hf.get _ _ rfl⟩
                · intro a w' M130 l131 hd hs
                  have e132 := hd.val 3 37 _ rfl rfl
                  refine OP.ofW (l := [(37, (.int .u32 (rd s110.1.toList (4 : Int))))]) (hd.fr.add e132) hs rfl ?_
                  refine w_call cf117 trivial rfl rfl (fun w hs => ref02_rotr.calls hs (rd s110.1.toList (4 : Int)) (6 : Int) _ e138) ?_
                  rintro _ M135 l136 rfl
                  refine w_nil ?_
                  intro a w' hf hs
                  exact ⟨rfl, hf.df, _, l136, hs, hf.get _ _ rfl⟩
                · intro a w' M139 l140 hd hs
                  refine OP.ofW (l := [(7, (ptr b65 0))]) (hd.fr.add (hd.base 7 _ rfl rfl)) hs rfl ?_
                  refine w_val trivial rfl (fun a w hf hs => r_iaI Tryd.underlying120 ts70 (hf.ev rfl) (hf.ev rfl) (by decide : (0 : Int) ≤ (4 : Int)) (by decide : (4 : Int) < ((8 : Nat) : Int))) ?_
                  refine w_nil ?_
                  intro a w' hf hs
                  exact ⟨rfl, hf.df, _, (HLe.refl _), hs, hf.get _ _ rfl⟩
                · intro a w' M141 l142 hd hs
                  have e143 := hd.val 5 39 _ rfl rfl
                  refine OP.ofW (l := [(39, (ptr b65 (0 + ((4 : Int)).toNat)))]) (hd.fr.add e143) hs rfl ?_
                  refine w_val trivial rfl (fun a w hf hs => r_load1 ta70 (hf.ev rfl) (hs.blk (i := 3) rfl) (vI_get0 (by decide : (0 : Int) ≤ (4 : Int)) (by decide : (4 : Int) < ((8 : Nat) : Int)))) ?_
                  refine w_nil ?_
                  intro a w' hf hs
                  exact ⟨rfl, hf.df, _, (HLe.refl _), hs, hf.get _ _ rfl⟩
                · intro a w' M144 l145 hd hs
                  have e146 := hd.val 6 40 _ rfl rfl
                  refine OP.ofW (l := [(40, (.int .u32 (rd s110.1.toList (4 : Int))))]) (hd.fr.add e146) hs rfl ?_
                  refine w_call cf117 trivial rfl rfl (fun w hs => ref02_rotr.calls hs (rd s110.1.toList (4 : Int)) (11 : Int) _ e152) ?_
                  rintro _ M149 l150 rfl
                  refine w_nil ?_
                  intro a w' hf hs
                  exact ⟨rfl, hf.df, _, l150, hs, hf.get _ _ rfl⟩
                · intro a w' M153 l154 hd hs
                  have e155 := hd.val 4 38 _ rfl rfl
                  have e156 := hd.val 7 41 _ rfl rfl
                  refine OP.ofW (l := [(38, (.int .u32 t133)), (41, (.int .u32 t147))]) ((hd.fr.add e156).add e155) hs rfl ?_
                  refine w_val trivial rfl (fun a w hf hs => r_xor (hf.ev rfl) (hf.ev rfl)) ?_
                  refine w_nil ?_
                  intro a w' hf hs
                  exact ⟨rfl, hf.df, _, (HLe.refl _), hs, hf.get _ _ rfl⟩
                · intro a w' M157 l158 hd hs
                  refine OP.ofW (l := [(7, (ptr b65 0))]) (hd.fr.add (hd.base 7 _ rfl rfl)) hs rfl ?_
                  refine w_val trivial rfl (fun a w hf hs => r_iaI Tryd.underlying120 ts70 (hf.ev rfl) (hf.ev rfl) (by decide : (0 : Int) ≤ (4 : Int)) (by decide : (4 : Int) < ((8 : Nat) : Int))) ?_
                  refine w_nil ?_
                  intro a w' hf hs
                  exact ⟨rfl, hf.df, _, (HLe.refl _), hs, hf.get _ _ rfl⟩
                · intro a w' M159 l160 hd hs
                  have e161 := hd.val 9 43 _ rfl rfl
                  refine OP.ofW (l := [(43, (ptr b65 (0 + ((4 : Int)).toNat)))]) (hd.fr.add e161) hs rfl ?_
                  refine w_val trivial rfl (fun a w hf hs => r_load1 ta70 (hf.ev rfl) (hs.blk (i := 3) rfl) (vI_get0 (by decide : (0 : Int) ≤ (4 : Int)) (by decide : (4 : Int) < ((8 : Nat) : Int)))) ?_
                  refine w_nil ?_
                  intro a w' hf hs
                  exact ⟨rfl, hf.df, _, (HLe.refl _), hs, hf.get _ _ rfl⟩
                · intro a w' M162 l163 hd hs
                  have e164 := hd.val 10 44 _ rfl rfl
                  refine OP.ofW (l := [(44, (.int .u32 (rd s110.1.toList (4 : Int))))]) (hd.fr.add e164) hs rfl ?_
                  refine w_call cf117 trivial rfl rfl (fun w hs => ref02_rotr.calls hs (rd s110.1.toList (4 : Int)) (25 : Int) _ e170) ?_
                  rintro _ M167 l168 rfl
                  refine w_nil ?_
                  intro a w' hf hs
                  exact ⟨rfl, hf.df, _, l168, hs, hf.get _ _ rfl⟩
                · intro a w' M171 l172 hd hs
                  have e173 := hd.val 8 42 _ rfl rfl
                  have e174 := hd.val 11 45 _ rfl rfl
                  refine OP.ofW (l := [(42, (.int .u32 (bits .xor .u32 t133 t147))), (45, (.int .u32 t165))]) ((hd.fr.add e174).add e173) hs rfl ?_
                  refine w_val trivial rfl (fun a w hf hs => r_xor (hf.ev rfl) (hf.ev rfl)) ?_
                  refine w_nil ?_
                  intro a w' hf hs
                  exact ⟨rfl, hf.df, _, (HLe.refl _), hs, hf.get _ _ rfl⟩
                · intro a w' M175 l176 hd hs
                  have e177 := hd.val 1 35 _ rfl rfl
                  have e178 := hd.val 12 46 _ rfl rfl
                  refine OP.ofW (l := [(35, (.int .u32 (rd s110.1.toList (7 : Int)))), (46, (.int .u32 (bits .xor .u32 (bits .xor .u32 t133 t147) t165)))]) ((hd.fr.add e178).add e177) hs rfl ?_
                  refine w_val trivial rfl (fun a w hf hs => r_add (hf.ev rfl) (hf.ev rfl)) ?_
                  refine w_nil ?_
                  intro a w' hf hs
                  exact ⟨rfl, hf.df, _, (HLe.refl _), hs, hf.get _ _ rfl⟩
                · intro a w' M179 l180 hd hs
                  refine OP.ofW (l := [(7, (ptr b65 0))]) (hd.fr.add (hd.base 7 _ rfl rfl)) hs rfl ?_
                  refine w_val trivial rfl (fun a w hf hs => r_iaI Tryd.underlying120 ts70 (hf.ev rfl) (hf.ev rfl) (by decide : (0 : Int) ≤ (4 : Int)) (by decide : (4 : Int) < ((8 : Nat) : Int))) ?_
                  refine w_nil ?_
                  intro a w' hf hs
                  exact ⟨rfl, hf.df, _, (HLe.refl _), hs, hf.get _ _ rfl⟩
                · intro a w' M181 l182 hd hs
                  have e183 := hd.val 14 48 _ rfl rfl
                  refine OP.ofW (l := [(48, (ptr b65 (0 + ((4 : Int)).toNat)))]) (hd.fr.add e183) hs rfl ?_
                  refine w_val trivial rfl (fun a w hf hs => r_load1 ta70 (hf.ev rfl) (hs.blk (i := 3) rfl) (vI_get0 (by decide : (0 : Int) ≤ (4 : Int)) (by decide : (4 : Int) < ((8 : Nat) : Int)))) ?_
                  refine w_nil ?_
                  intro a w' hf hs
                  exact ⟨rfl, hf.df, _, (HLe.refl _), hs, hf.get _ _ rfl⟩
                · intro a w' M184 l185 hd hs
                  refine OP.ofW (l := [(7, (ptr b65 0))]) (hd.fr.add (hd.base 7 _ rfl rfl)) hs rfl ?_
                  refine w_val trivial rfl (fun a w hf hs => r_iaI Tryd.underlying120 ts70 (hf.ev rfl) (hf.ev rfl) (by decide : (0 : Int) ≤ (5 : Int)) (by decide : (5 : Int) < ((8 : Nat) : Int))) ?_
                  refine w_nil ?_
                  intro a w' hf hs
                  exact ⟨rfl, hf.df, _, (HLe.refl _), hs, hf.get _ _ rfl⟩
                · intro a w' M186 l187 hd hs
                  have e188 := hd.val 16 50 _ rfl rfl
                  refine OP.ofW (l := [(50, (ptr b65 (0 + ((5 : Int)).toNat)))]) (hd.fr.add e188) hs rfl ?_
                  refine w_val trivial rfl (fun a w hf hs => r_load1 ta70 (hf.ev rfl) (hs.blk (i := 3) rfl) (vI_get0 (by decide : (0 : Int) ≤ (5 : Int)) (by decide : (5 : Int) < ((8 : Nat) : Int)))) ?_
                  refine w_nil ?_
                  intro a w' hf hs
                  exact ⟨rfl, hf.df, _, (HLe.refl _), hs, hf.get _ _ rfl⟩
                · intro a w' M189 l190 hd hs
                  have e191 := hd.val 15 49 _ rfl rfl
                  have e192 := hd.val 17 51 _ rfl rfl
                  refine OP.ofW (l := [(49, (.int .u32 (rd s110.1.toList (4 : Int)))), (51, (.int .u32 (rd s110.1.toList (5 : Int))))]) ((hd.fr.add e192).add e191) hs rfl ?_
                  refine w_val trivial rfl (fun a w hf hs => r_and (hf.ev rfl) (hf.ev rfl)) ?_
                  refine w_nil ?_
                  intro a w' hf hs
                  exact ⟨rfl, hf.df, _, (HLe.refl _), hs, hf.get _ _ rfl⟩
                · intro a w' M193 l194 hd hs
                  refine OP.ofW (l := [(7, (ptr b65 0))]) (hd.fr.add (hd.base 7 _ rfl rfl)) hs rfl ?_
                  refine w_val trivial rfl (fun a w hf hs => r_iaI Tryd.underlying120 ts70 (hf.ev rfl) (hf.ev rfl) (by decide : (0 : Int) ≤ (4 : Int)) (by decide : (4 : Int) < ((8 : Nat) : Int))) ?_
                  refine w_nil ?_
                  intro a w' hf hs
                  exact ⟨rfl, hf.df, _, (HLe.refl _), hs, hf.get _ _ rfl⟩
                · intro a w' M195 l196 hd hs
                  have e197 := hd.val 19 53 _ rfl rfl
                  refine OP.ofW (l := [(53, (ptr b65 (0 + ((4 : Int)).toNat)))]) (hd.fr.add e197) hs rfl ?_
                  refine w_val trivial rfl (fun a w hf hs => r_load1 ta70 (hf.ev rfl) (hs.blk (i := 3) rfl) (vI_get0 (by decide : (0 : Int) ≤ (4 : Int)) (by decide : (4 : Int) < ((8 : Nat) : Int)))) ?_
                  refine w_nil ?_
                  intro a w' hf hs
                  exact ⟨rfl, hf.df, _, (HLe.refl _), hs, hf.get _ _ rfl⟩
                · intro a w' M198 l199 hd hs
                  have e200 := hd.val 20 54 _ rfl rfl
                  refine OP.ofW (l := [(54, (.int .u32 (rd s110.1.toList (4 : Int))))]) (hd.fr.add e200) hs rfl ?_
                  refine w_val trivial rfl (fun a w hf hs => r_xor (hf.ev rfl) (hf.ev rfl)) ?_
                  refine w_nil ?_
                  intro a w' hf hs
                  exact ⟨rfl, hf.df, _, (HLe.refl _), hs, hf.get _ _ rfl⟩
                · intro a w' M201 l202 hd hs
                  refine OP.ofW (l := [(7, (ptr b65 0))]) (hd.fr.add (hd.base 7 _ rfl rfl)) hs rfl ?_
                  refine w_val trivial rfl (fun a w hf hs => r_iaI Tryd.underlying120 ts70 (hf.ev rfl) (hf.ev rfl) (by decide : (0 : Int) ≤ (6 : Int)) (by decide : (6 : Int) < ((8 : Nat) : Int))) ?_
                  refine w_nil ?_
                  intro a w' hf hs
                  exact ⟨rfl, hf.df, _, (HLe.refl _), hs, hf.get _ _ rfl⟩
                · intro a w' M203 l204 hd hs
                  have e205 := hd.val 22 56 _ rfl rfl
                  refine OP.ofW (l := [(56, (ptr b65 (0 + ((6 : Int)).toNat)))]) (hd.fr.add e205) hs rfl ?_
                  refine w_val trivial rfl (fun a w hf hs => r_load1 ta70 (hf.ev rfl) (hs.blk (i := 3) rfl) (vI_get0 (by decide : (0 : Int) ≤ (6 : Int)) (by decide : (6 : Int) < ((8 : Nat) : Int)))) ?_
                  refine w_nil ?_
                  intro a w' hf hs
                  exact ⟨rfl, hf.df, _, (HLe.refl _), hs, hf.get _ _ rfl⟩
                · intro a w' M206 l207 hd hs
                  have e208 := hd.val 21 55 _ rfl rfl
                  have e209 := hd.val 23 57 _ rfl rfl
                  refine OP.ofW (l := [(55, (.int .u32 (bits .xor .u32 (rd s110.1.toList (4 : Int)) (4294967295 : Int)))), (57, (.int .u32 (rd s110.1.toList (6 : Int))))]) ((hd.fr.add e209).add e208) hs rfl ?_
                  refine w_val trivial rfl (fun a w hf hs => r_and (hf.ev rfl) (hf.ev rfl)) ?_
                  refine w_nil ?_
                  intro a w' hf hs
                  exact ⟨rfl, hf.df, _, (HLe.refl _), hs, hf.get _ _ rfl⟩
                · intro a w' M210 l211 hd hs
                  have e212 := hd.val 18 52 _ rfl rfl
                  have e213 := hd.val 24 58 _ rfl rfl
                  refine OP.ofW (l := [(52, (.int .u32 (bits .and .u32 (rd s110.1.toList (4 : Int)) (rd s110.1.toList (5 : Int))))), (58, (.int .u32 (bits .and .u32 (bits .xor .u32 (rd s110.1.toList (4 : Int)) (4294967295 : Int)) (rd s110.1.toList (6 : Int)))))]) ((hd.fr.add e213).add e212) hs rfl ?_
                  refine w_val trivial rfl (fun a w hf hs => r_xor (hf.ev rfl) (hf.ev rfl)) ?_
                  refine w_nil ?_
                  intro a w' hf hs
                  exact ⟨rfl, hf.df, _, (HLe.refl _), hs, hf.get _ _ rfl⟩
                · intro a w' M214 l215 hd hs
                  have e216 := hd.val 13 47 _ rfl rfl
                  have e217 := hd.val 25 59 _ rfl rfl
                  refine OP.ofW (l := [(47, (.int .u32 (IntKind.u32.wrap ((rd s110.1.toList (7 : Int)) + (bits .xor .u32 (bits .xor .u32 t133 t147) t165))))), (59, (.int .u32 (bits .xor .u32 (bits .and .u32 (rd s110.1.toList (4 : Int)) (rd s110.1.toList (5 : Int))) (bits .and .u32 (bits .xor .u32 (rd s110.1.toList (4 : Int)) (4294967295 : Int)) (rd s110.1.toList (6 : Int))))))]) ((hd.fr.add e217).add e216) hs rfl ?_
                  refine w_val trivial rfl (fun a w hf hs => r_add (hf.ev rfl) (hf.ev rfl)) ?_
                  refine w_nil ?_
                  intro a w' hf hs
                  exact ⟨rfl, hf.df, _, (HLe.refl _), hs, hf.get _ _ rfl⟩
                · intro a w' M218 l219 hd hs
                  refine OP.ofW (l := [(8, (.int .i64 s110.2))]) (hd.fr.add (hd.base 8 _ rfl rfl)) hs rfl ?_
                  refine w_val trivial rfl (fun a w hf hs => r_move (hf.ev rfl)) ?_
                  refine w_nil ?_
                  intro a w' hf hs
                  exact ⟨rfl, hf.df, _, (HLe.refl _), hs, hf.get _ _ rfl⟩
                · intro a w' M220 l221 hd hs
                  have e222 := hd.val 27 61 _ rfl rfl
                  refine OP.ofW (l := [(61, (.int .i64 s110.2))]) (hd.fr.add e222) hs rfl ?_
                  refine w_val trivial rfl (fun a w hf hs => r_iaI Tryd.underlying157 ts70 (hf.ev rfl) (hf.ev rfl) g223.1 g223.2) ?_
                  refine w_nil ?_
                  intro a w' hf hs
                  exact ⟨rfl, hf.df, _, (HLe.refl _), hs, hf.get _ _ rfl⟩
                · intro a w' M224 l225 hd hs
                  have e226 := hd.val 28 62 _ rfl rfl
                  replace hg0_ := l225 _ _ hg0_
                  refine OP.ofW (l := [(62, (ptr 0 (0 + (s110.2).toNat)))]) (hd.fr.add e226) hs rfl ?_
                  refine w_val trivial rfl (fun a w hf hs => r_load1 ta70 (hf.ev rfl) (hs.sub _ _ hg0_) (vI_get0 g223.1 g223.2)) ?_
                  refine w_nil ?_
                  intro a w' hf hs
                  exact ⟨rfl, hf.df, _, (HLe.refl _), hs, hf.get _ _ rfl⟩
                · intro a w' M227 l228 hd hs
                  have e229 := hd.val 26 60 _ rfl rfl
                  have e230 := hd.val 29 63 _ rfl rfl
                  refine OP.ofW (l := [(60, (.int .u32 (IntKind.u32.wrap ((IntKind.u32.wrap ((rd s110.1.toList (7 : Int)) + (bits .xor .u32 (bits .xor .u32 t133 t147) t165))) + (bits .xor .u32 (bits .and .u32 (rd s110.1.toList (4 : Int)) (rd s110.1.toList (5 : Int))) (bits .and .u32 (bits .xor .u32 (rd s110.1.toList (4 : Int)) (4294967295 : Int)) (rd s110.1.toList (6 : Int)))))))), (63, (.int .u32 (rd ref02_constants.toList s110.2)))]) ((hd.fr.add e230).add e229) hs rfl ?_
                  refine w_val trivial rfl (fun a w hf hs => r_add (hf.ev rfl) (hf.ev rfl)) ?_
                  refine w_nil ?_
                  intro a w' hf hs
                  exact ⟨rfl, hf.df, _, (HLe.refl _), hs, hf.get _ _ rfl⟩
                · intro a w' M231 l232 hd hs
                  refine OP.ofW (l := [(8, (.int .i64 s110.2))]) (hd.fr.add (hd.base 8 _ rfl rfl)) hs rfl ?_
                  refine w_val trivial rfl (fun a w hf hs => r_move (hf.ev rfl)) ?_
                  refine w_nil ?_
                  intro a w' hf hs
                  exact ⟨rfl, hf.df, _, (HLe.refl _), hs, hf.get _ _ rfl⟩
                · intro a w' M233 l234 hd hs
                  have e235 := hd.val 31 65 _ rfl rfl
                  refine OP.ofW (l := [(6, (ptr b63 0)), (65, (.int .i64 s110.2))]) ((hd.fr.add e235).add (hd.base 6 _ rfl rfl)) hs rfl ?_
                  refine w_val trivial rfl (fun a w hf hs => r_iaI Tryd.underlying157 ts70 (hf.ev rfl) (hf.ev rfl) g236.1 g236.2) ?_
                  refine w_nil ?_
                  intro a w' hf hs
                  exact ⟨rfl, hf.df, _, (HLe.refl _), hs, hf.get _ _ rfl⟩
                · intro a w' M237 l238 hd hs
                  have e239 := hd.val 32 66 _ rfl rfl
                  refine OP.ofW (l := [(66, (ptr b63 (0 + (s110.2).toNat)))]) (hd.fr.add e239) hs rfl ?_
                  refine w_val trivial rfl (fun a w hf hs => r_load1 ta70 (hf.ev rfl) (hs.blk (i := 2) rfl) (vI_get0 g236.1 g236.2)) ?_
                  refine w_nil ?_
                  intro a w' hf hs
                  exact ⟨rfl, hf.df, _, (HLe.refl _), hs, hf.get _ _ rfl⟩
                · intro a w' M240 l241 hd hs
                  have e242 := hd.val 30 64 _ rfl rfl
                  have e243 := hd.val 33 67 _ rfl rfl
                  refine OP.ofW (l := [(64, (.int .u32 (IntKind.u32.wrap ((IntKind.u32.wrap ((IntKind.u32.wrap ((rd s110.1.toList (7 : Int)) + (bits .xor .u32 (bits .xor .u32 t133 t147) t165))) + (bits .xor .u32 (bits .and .u32 (rd s110.1.toList (4 : Int)) (rd s110.1.toList (5 : Int))) (bits .and .u32 (bits .xor .u32 (rd s110.1.toList (4 : Int)) (4294967295 : Int)) (rd s110.1.toList (6 : Int)))))) + (rd ref02_constants.toList s110.2))))), (67, (.int .u32 (rd t57.toList s110.2)))]) ((hd.fr.add e243).add e242) hs rfl ?_
                  refine w_val trivial rfl (fun a w hf hs => r_add (hf.ev rfl) (hf.ev rfl)) ?_
                  refine w_nil ?_
                  intro a w' hf hs
                  exact ⟨rfl, hf.df, _, (HLe.refl _), hs, hf.get _ _ rfl⟩
                · intro a w' M244 l245 hd hs
                  have e246 := hd.val 34 68 _ rfl rfl
                  refine OP.ofW (l := [(68, (.int .u32 (IntKind.u32.wrap ((IntKind.u32.wrap ((IntKind.u32.wrap ((IntKind.u32.wrap ((rd s110.1.toList (7 : Int)) + (bits .xor .u32 (bits .xor .u32 t133 t147) t165))) + (bits .xor .u32 (bits .and .u32 (rd s110.1.toList (4 : Int)) (rd s110.1.toList (5 : Int))) (bits .and .u32 (bits .xor .u32 (rd s110.1.toList (4 : Int)) (4294967295 : Int)) (rd s110.1.toList (6 : Int)))))) + (rd ref02_constants.toList s110.2))) + (rd t57.toList s110.2)))))]) (hd.fr.add e246) hs rfl ?_
                  refine w_val trivial rfl (fun a w hf hs => r_assign (hf.ev rfl)) ?_
                  refine w_nil ?_
                  intro a w' hf hs
                  exact ⟨rfl, hf.df, _, (HLe.refl _), hs, hf.get _ _ rfl⟩
                intro a w' M247 l248 hdf hsz hb hv hs
                replace hG := hG.mono l248
                replace hg0_ := l248 _ _ hg0_
                replace h2 := h2.mono l248
                replace h15 := h15.mono l248
                replace h55 := h55.mono l248
                have e249 := hv 35 9 _ rfl rfl
                refine n_of (c := (Cx.mk Tryd.prog 148 none' M w)) (l := [(2, (ptr b4 0)), (3, (ptr b6 0)), (4, v14), (5, (.int .i64 s42.2)), (6, (ptr b63 0)), (7, (ptr b65 0)), (8, (.int .i64 s110.2)), (9, (.int .u32 (IntKind.u32.wrap ((IntKind.u32.wrap ((IntKind.u32.wrap ((IntKind.u32.wrap ((rd s110.1.toList (7 : Int)) + (bits .xor .u32 (bits .xor .u32 t133 t147) t165))) + (bits .xor .u32 (bits .and .u32 (rd s110.1.toList (4 : Int)) (rd s110.1.toList (5 : Int))) (bits .and .u32 (bits .xor .u32 (rd s110.1.toList (4 : Int)) (4294967295 : Int)) (rd s110.1.toList (6 : Int)))))) + (rd ref02_constants.toList s110.2))) + (rd t57.toList s110.2)))))]) ?_ (((((((((Fr.start hdf hsz).add e249).add (hb 8 _ rfl rfl)).add (hb 7 _ rfl rfl)).add (hb 6 _ rfl rfl)).add (hb 5 _ rfl rfl)).add (hb 4 _ rfl rfl)).add (hb 3 _ rfl rfl)).add (hb 2 _ rfl rfl)) hs
                clear hdf hsz hb hv hs e249
                refine n_id (hK119 _ _ _ ?_)
                refine c_seq ?_
                intro K250 hK250
                obtain ⟨t259, e264, H⟩ := bnd H
                obtain ⟨t273, e278, H⟩ := bnd H
                obtain ⟨t291, e296, H⟩ := bnd H
                refine c_drawP [([], [7]), ([(0, 69)], []), ([(1, 70)], []), ([], [7]), ([(3, 72)], []), ([(4, 73)], []), ([(2, 71), (5, 74)], []), ([], [7]), ([(7, 76)], []), ([(8, 77)], []), ([(6, 75), (9, 78)], []), ([], [7]), ([(11, 80)], []), ([], [7]), ([(13, 82)], []), ([(12, 81), (14, 83)], []), ([], [7]), ([(16, 85)], []), ([], [7]), ([(18, 87)], []), ([(17, 86), (19, 88)], []), ([(15, 84), (20, 89)], []), ([], [7]), ([(22, 91)], []), ([], [7]), ([(24, 93)], []), ([(23, 92), (25, 94)], []), ([(21, 90), (26, 95)], []), ([(10, 79), (27, 96)], []), ([(28, 97)], [])] [fun v M => v = (ptr b65 (0 + ((0 : Int)).toNat)), fun v M => v = (.int .u32 (rd s110.1.toList (0 : Int))), fun v M => v = (.int .u32 t259), fun v M => v = (ptr b65 (0 + ((0 : Int)).toNat)), fun v M => v = (.int .u32 (rd s110.1.toList (0 : Int))), fun v M => v = (.int .u32 t273), fun v M => v = (.int .u32 (bits .xor .u32 t259 t273)), fun v M => v = (ptr b65 (0 + ((0 : Int)).toNat)), fun v M => v = (.int .u32 (rd s110.1.toList (0 : Int))), fun v M => v = (.int .u32 t291), fun v M => v = (.int .u32 (bits .xor .u32 (bits .xor .u32 t259 t273) t291)), fun v M => v = (ptr b65 (0 + ((0 : Int)).toNat)), fun v M => v = (.int .u32 (rd s110.1.toList (0 : Int))), fun v M => v = (ptr b65 (0 + ((1 : Int)).toNat)), fun v M => v = (.int .u32 (rd s110.1.toList (1 : Int))), fun v M => v = (.int .u32 (bits .and .u32 (rd s110.1.toList (0 : Int)) (rd s110.1.toList (1 : Int)))), fun v M => v = (ptr b65 (0 + ((0 : Int)).toNat)), fun v M => v = (.int .u32 (rd s110.1.toList (0 : Int))), fun v M => v = (ptr b65 (0 + ((2 : Int)).toNat)), fun v M => v = (.int .u32 (rd s110.1.toList (2 : Int))), fun v M => v = (.int .u32 (bits .and .u32 (rd s110.1.toList (0 : Int)) (rd s110.1.toList (2 : Int)))), fun v M => v = (.int .u32 (bits .xor .u32 (bits .and .u32 (rd s110.1.toList (0 : Int)) (rd s110.1.toList (1 : Int))) (bits .and .u32 (rd s110.1.toList (0 : Int)) (rd s110.1.toList (2 : Int))))), fun v M => v = (ptr b65 (0 + ((1 : Int)).toNat)), fun v M => v = (.int .u32 (rd s110.1.toList (1 : Int))), fun v M => v = (ptr b65 (0 + ((2 : Int)).toNat)), fun v M => v = (.int .u32 (rd s110.1.toList (2 : Int))), fun v M => v = (.int .u32 (bits .and .u32 (rd s110.1.toList (1 : Int)) (rd s110.1.toList (2 : Int)))), fun v M => v = (.int .u32 (bits .xor .u32 (bits .xor .u32 (bits .and .u32 (rd s110.1.toList (0 : Int)) (rd s110.1.toList (1 : Int))) (bits .and .u32 (rd s110.1.toList (0 : Int)) (rd s110.1.toList (2 : Int)))) (bits .and .u32 (rd s110.1.toList (1 : Int)) (rd s110.1.toList (2 : Int))))), fun v M => v = (.int .u32 (IntKind.u32.wrap ((bits .xor .u32 (bits .xor .u32 t259 t273) t291) + (bits .xor .u32 (bits .xor .u32 (bits .and .u32 (rd s110.1.toList (0 : Int)) (rd s110.1.toList (1 : Int))) (bits .and .u32 (rd s110.1.toList (0 : Int)) (rd s110.1.toList (2 : Int)))) (bits .and .u32 (rd s110.1.toList (1 : Int)) (rd s110.1.toList (2 : Int))))))), fun v M => v = (.int .u32 (IntKind.u32.wrap ((bits .xor .u32 (bits .xor .u32 t259 t273) t291) + (bits .xor .u32 (bits .xor .u32 (bits .and .u32 (rd s110.1.toList (0 : Int)) (rd s110.1.toList (1 : Int))) (bits .and .u32 (rd s110.1.toList (0 : Int)) (rd s110.1.toList (2 : Int)))) (bits .and .u32 (rd s110.1.toList (1 : Int)) (rd s110.1.toList (2 : Int)))))))] (by kernel_rfl) (by kernel_rfl) ?_ (AllT.cons ?_ (AllT.cons ?_ (AllT.cons ?_ (AllT.cons ?_ (AllT.cons ?_ (AllT.cons ?_ (AllT.cons ?_ (AllT.cons ?_ (AllT.cons ?_ (AllT.cons ?_ (AllT.cons ?_ (AllT.cons ?_ (AllT.cons ?_ (AllT.cons ?_ (AllT.cons ?_ (AllT.cons ?_ (AllT.cons ?_ (AllT.cons ?_ (AllT.cons ?_ (AllT.cons ?_ (AllT.cons ?_ (AllT.cons ?_ (AllT.cons ?_ (AllT.cons ?_ (AllT.cons ?_ (AllT.cons ?_ (AllT.cons ?_ (AllT.cons ?_ (AllT.cons ?_ (AllT.cons ?_ AllT.nil)))))))))))))))))))))))))))))) ?_
                · exact (MonoA.cons (fun _ _ _ _ h => h) (MonoA.cons (fun _ _ _ _ h => h) (MonoA.cons (fun _ _ _ _ h => h) (MonoA.cons (fun _ _ _ _ h => h) (MonoA.cons (fun _ _ _ _ h => h) (MonoA.cons (fun _ _ _ _ h => h) (MonoA.cons (fun _ _ _ _ h => h) (MonoA.cons (fun _ _ _ _ h => h) (MonoA.cons (fun _ _ _ _ h => h) (MonoA.cons (fun _ _ _ _ h => h) (MonoA.cons (fun _ _ _ _ h => h) (MonoA.cons (fun _ _ _ _ h => h) (MonoA.cons (fun _ _ _ _ h => h) (MonoA.cons (fun _ _ _ _ h => h) (MonoA.cons (fun _ _ _ _ h => h) (MonoA.cons (fun _ _ _ _ h => h) (MonoA.cons (fun _ _ _ _ h => h) (MonoA.cons (fun _ _ _ _ h => h) (MonoA.cons (fun _ _ _ _ h => h) (MonoA.cons (fun _ _ _ _ h => h) (MonoA.cons (fun _ _ _ _ h => h) (MonoA.cons (fun _ _ _ _ h => h) (MonoA.cons (fun _ _ _ _ h => h) (MonoA.cons (fun _ _ _ _ h => h) (MonoA.cons (fun _ _ _ _ h => h) (MonoA.cons (fun _ _ _ _ h => h) (MonoA.cons (fun _ _ _ _ h => h) (MonoA.cons (fun _ _ _ _ h => h) (MonoA.cons (fun _ _ _ _ h => h) (MonoA.cons (fun _ _ _ _ h => h) MonoA.nil))))))))))))))))))))))))))))))
                · intro a w' M251 l252 hd hs
                  refine OP.ofW (l := [(7, (ptr b65 0))]) (hd.fr.add (hd.base 7 _ rfl rfl)) hs rfl ?_
                  refine w_val trivial rfl (fun a w hf hs => r_iaI Tryd.underlying120 ts70 (hf.ev rfl) (hf.ev rfl) (by decide : (0 : Int) ≤ (0 : Int)) (by decide : (0 : Int) < ((8 : Nat) : Int))) ?_
                  refine w_nil ?_
                  intro a w' hf hs
                  exact ⟨rfl, hf.df, _, (HLe.refl _), hs, hf.get _ _ rfl⟩
                · intro a w' M253 l254 hd hs
                  have e255 := hd.val 0 69 _ rfl rfl
                  refine OP.ofW (l := [(69, (ptr b65 (0 + ((0 : Int)).toNat)))]) (hd.fr.add e255) hs rfl ?_
                  refine w_val trivial rfl (fun a w hf hs => r_load1 ta70 (hf.ev rfl) (hs.blk (i := 3) rfl) (vI_get0 (by decide : (0 : Int) ≤ (0 : Int)) (by decide : (0 : Int) < ((8 : Nat) : Int)))) ?_
                  refine w_nil ?_
                  intro a w' hf hs
                  exact ⟨rfl, hf.df, _, (HLe.refl _), hs, hf.get _ _ rfl⟩
                · intro a w' M256 l257 hd hs
                  have e258 := hd.val 1 70 _ rfl rfl
                  refine OP.ofW (l := [(70, (.int .u32 (rd s110.1.toList (0 : Int))))]) (hd.fr.add e258) hs rfl ?_
                  refine w_call cf117 trivial rfl rfl (fun w hs => ref02_rotr.calls hs (rd s110.1.toList (0 : Int)) (2 : Int) _ e264) ?_
                  rintro _ M261 l262 rfl
                  refine w_nil ?_
                  intro a w' hf hs
                  exact ⟨rfl, hf.df, _, l262, hs, hf.get _ _ rfl⟩
                · intro a w' M265 l266 hd hs
                  refine OP.ofW (l := [(7, (ptr b65 0))]) (hd.fr.add (hd.base 7 _ rfl rfl)) hs rfl ?_
                  refine w_val trivial rfl (fun a w hf hs => r_iaI Tryd.underlying120 ts70 (hf.ev rfl) (hf.ev rfl) (by decide : (0 : Int) ≤ (0 : Int)) (by decide : (0 : Int) < ((8 : Nat) : Int))) ?_
                  refine w_nil ?_
                  intro a w' hf hs
                  exact ⟨rfl, hf.df, _, (HLe.refl _), hs, hf.get _ _ rfl⟩
                · intro a w' M267 l268 hd hs
                  have e269 := hd.val 3 72 _ rfl rfl
                  refine OP.ofW (l := [(72, (ptr b65 (0 + ((0 : Int)).toNat)))]) (hd.fr.add e269) hs rfl ?_
                  refine w_val trivial rfl (fun a w hf hs => r_load1 ta70 (hf.ev rfl) (hs.blk (i := 3) rfl) (vI_get0 (by decide : (0 : Int) ≤ (0 : Int)) (by decide : (0 : Int) < ((8 : Nat) : Int)))) ?_
                  refine w_nil ?_
                  intro a w' hf hs
                  exact ⟨rfl, hf.df, _, (HLe.refl _), hs, hf.get _ _ rfl⟩
                · intro a w' M270 l271 hd hs
                  have e272 := hd.val 4 73 _ rfl rfl
                  refine OP.ofW (l := [(73, (.int .u32 (rd s110.1.toList (0 : Int))))]) (hd.fr.add e272) hs rfl ?_
                  refine w_call cf117 trivial rfl rfl (fun w hs => ref02_rotr.calls hs (rd s110.1.toList (0 : Int)) (13 : Int) _ e278) ?_
                  rintro _ M275 l276 rfl
                  refine w_nil ?_
                  intro a w' hf hs
                  exact ⟨rfl, hf.df, _, l276, hs, hf.get _ _ rfl⟩
                · intro a w' M279 l280 hd hs
                  have e281 := hd.val 2 71 _ rfl rfl
                  have e282 := hd.val 5 74 _ rfl rfl
                  refine OP.ofW (l := [(71, (.int .u32 t259)), (74, (.int .u32 t273))]) ((hd.fr.add e282).add e281) hs rfl ?_
                  refine w_val trivial rfl (fun a w hf hs => r_xor (hf.ev rfl) (hf.ev rfl)) ?_
                  refine w_nil ?_
                  intro a w' hf hs
                  exact ⟨rfl, hf.df, _, (HLe.refl _), hs, hf.get _ _ rfl⟩
                · intro a w' M283 l284 hd hs
                  refine OP.ofW (l := [(7, (ptr b65 0))]) (hd.fr.add (hd.base 7 _ rfl rfl)) hs rfl ?_
                  refine w_val trivial rfl (fun a w hf hs => r_iaI Tryd.underlying120 ts70 (hf.ev rfl) (hf.ev rfl) (by decide : (0 : Int) ≤ (0 : Int)) (by decide : (0 : Int) < ((8 : Nat) : Int))) ?_
                  refine w_nil ?_
                  intro a w' hf hs
                  exact ⟨rfl, hf.df, _, (HLe.refl _), hs, hf.get _ _ rfl⟩
                · intro a w' M285 l286 hd hs
                  have e287 := hd.val 7 76 _ rfl rfl
                  refine OP.ofW (l := [(76, (ptr b65 (0 + ((0 : Int)).toNat)))]) (hd.fr.add e287) hs rfl ?_
                  refine w_val trivial rfl (fun a w hf hs => r_load1 ta70 (hf.ev rfl) (hs.blk (i := 3) rfl) (vI_get0 (by decide : (0 : Int) ≤ (0 : Int)) (by decide : (0 : Int) < ((8 : Nat) : Int)))) ?_
                  refine w_nil ?_
                  intro a w' hf hs
                  exact ⟨rfl, hf.df, _, (HLe.refl _), hs, hf.get _ _ rfl⟩
                · intro a w' M288 l289 hd hs
                  have e290 := hd.val 8 77 _ rfl rfl
                  refine OP.ofW (l := [(77, (.int .u32 (rd s110.1.toList (0 : Int))))]) (hd.fr.add e290) hs rfl ?_
                  refine w_call cf117 trivial rfl rfl (fun w hs => ref02_rotr.calls hs (rd s110.1.toList (0 : Int)) (22 : Int) _ e296) ?_
                  rintro _ M293 l294 rfl
                  refine w_nil ?_
                  intro a w' hf hs
                  exact ⟨rfl, hf.df, _, l294, hs, hf.get _ _ rfl⟩
                · intro a w' M297 l298 hd hs
                  have e299 := hd.val 6 75 _ rfl rfl
                  have e300 := hd.val 9 78 _ rfl rfl
                  refine OP.ofW (l := [(75, (.int .u32 (bits .xor .u32 t259 t273))), (78, (.int .u32 t291))]) ((hd.fr.add e300).add e299) hs rfl ?_
                  refine w_val trivial rfl (fun a w hf hs => r_xor (hf.ev rfl) (hf.ev rfl)) ?_
                  refine w_nil ?_
                  intro a w' hf hs
                  exact ⟨rfl, hf.df, _, (HLe.refl _), hs, hf.get _ _ rfl⟩
                · intro a w' M301 l302 hd hs
                  refine OP.ofW (l := [(7, (ptr b65 0))]) (hd.fr.add (hd.base 7 _ rfl rfl)) hs rfl ?_
                  refine w_val trivial rfl (fun a w hf hs => r_iaI Tryd.underlying120 ts70 (hf.ev rfl) (hf.ev rfl) (by decide : (0 : Int) ≤ (0 : Int)) (by decide : (0 : Int) < ((8 : Nat) : Int))) ?_
                  refine w_nil ?_
                  intro a w' hf hs
                  exact ⟨rfl, hf.df, _, (HLe.refl _), hs, hf.get _ _ rfl⟩
                · intro a w' M303 l304 hd hs
                  have e305 := hd.val 11 80 _ rfl rfl
                  refine OP.ofW (l := [(80, (ptr b65 (0 + ((0 : Int)).toNat)))]) (hd.fr.add e305) hs rfl ?_
                  refine w_val trivial rfl (fun a w hf hs => r_load1 ta70 (hf.ev rfl) (hs.blk (i := 3) rfl) (vI_get0 (by decide : (0 : Int) ≤ (0 : Int)) (by decide : (0 : Int) < ((8 : Nat) : Int)))) ?_
                  refine w_nil ?_
                  intro a w' hf hs
                  exact ⟨rfl, hf.df, _, (HLe.refl _), hs, hf.get _ _ rfl⟩
                · intro a w' M306 l307 hd hs
                  refine OP.ofW (l := [(7, (ptr b65 0))]) (hd.fr.add (hd.base 7 _ rfl rfl)) hs rfl ?_
                  refine w_val trivial rfl (fun a w hf hs => r_iaI Tryd.underlying120 ts70 (hf.ev rfl) (hf.ev rfl) (by decide : (0 : Int) ≤ (1 : Int)) (by decide : (1 : Int) < ((8 : Nat) : Int))) ?_
                  refine w_nil ?_
                  intro a w' hf hs
                  exact ⟨rfl, hf.df, _, (HLe.refl _), hs, hf.get _ _ rfl⟩
                · intro a w' M308 l309 hd hs
                  have e310 := hd.val 13 82 _ rfl rfl
                  refine OP.ofW (l := [(82, (ptr b65 (0 + ((1 : Int)).toNat)))]) (hd.fr.add e310) hs rfl ?_
                  refine w_val trivial rfl (fun a w hf hs => r_load1 ta70 (hf.ev rfl) (hs.blk (i := 3) rfl) (vI_get0 (by decide : (0 : Int) ≤ (1 : Int)) (by decide : (1 : Int) < ((8 : Nat) : Int)))) ?_
                  refine w_nil ?_
                  intro a w' hf hs
                  exact ⟨rfl, hf.df, _, (HLe.refl _), hs, hf.get _ _ rfl⟩
                · intro a w' M311 l312 hd hs
                  have e313 := hd.val 12 81 _ rfl rfl
                  have e314 := hd.val 14 83 _ rfl rfl
                  refine OP.ofW (l := [(81, (.int .u32 (rd s110.1.toList (0 : Int)))), (83, (.int .u32 (rd s110.1.toList (1 : Int))))]) ((hd.fr.add e314).add e313) hs rfl ?_
                  refine w_val trivial rfl (fun a w hf hs => r_and (hf.ev rfl) (hf.ev rfl)) ?_
                  refine w_nil ?_
                  intro a w' hf hs
                  exact ⟨rfl, hf.df, _, (HLe.refl _), hs, hf.get _ _ rfl⟩
                · intro a w' M315 l316 hd hs
                  refine OP.ofW (l := [(7, (ptr b65 0))]) (hd.fr.add (hd.base 7 _ rfl rfl)) hs rfl ?_
                  refine w_val trivial rfl (fun a w hf hs => r_iaI Tryd.underlying120 ts70 (hf.ev rfl) (hf.ev rfl) (by decide : (0 : Int) ≤ (0 : Int)) (by decide : (0 : Int) < ((8 : Nat) : Int))) ?_
                  refine w_nil ?_
                  intro a w' hf hs
                  exact ⟨rfl, hf.df, _, (HLe.refl _), hs, hf.get _ _ rfl⟩
                · intro a w' M317 l318 hd hs
                  have e319 := hd.val 16 85 _ rfl rfl
                  refine OP.ofW (l := [(85, (ptr b65 (0 + ((0 : Int)).toNat)))]) (hd.fr.add e319) hs rfl ?_
                  refine w_val trivial rfl (fun a w hf hs => r_load1 ta70 (hf.ev rfl) (hs.blk (i := 3) rfl) (vI_get0 (by decide : (0 : Int) ≤ (0 : Int)) (by decide : (0 : Int) < ((8 : Nat) : Int)))) ?_
                  refine w_nil ?_
                  intro a w' hf hs
                  exact ⟨rfl, hf.df, _, (HLe.refl _), hs, hf.get _ _ rfl⟩
                · intro a w' M320 l321 hd hs
                  refine OP.ofW (l := [(7, (ptr b65 0))]) (hd.fr.add (hd.base 7 _ rfl rfl)) hs rfl ?_
                  refine w_val trivial rfl (fun a w hf hs => r_iaI Tryd.underlying120 ts70 (hf.ev rfl) (hf.ev rfl) (by decide : (0 : Int) ≤ (2 : Int)) (by decide : (2 : Int) < ((8 : Nat) : Int))) ?_
                  refine w_nil ?_
                  intro a w' hf hs
                  exact ⟨rfl, hf.df, _, (HLe.refl _), hs, hf.get _ _ rfl⟩
                · intro a w' M322 l323 hd hs
                  have e324 := hd.val 18 87 _ rfl rfl
                  refine OP.ofW (l := [(87, (ptr b65 (0 + ((2 : Int)).toNat)))]) (hd.fr.add e324) hs rfl ?_
                  refine w_val trivial rfl (fun a w hf hs => r_load1 ta70 (hf.ev rfl) (hs.blk (i := 3) rfl) (vI_get0 (by decide : (0 : Int) ≤ (2 : Int)) (by decide : (2 : Int) < ((8 : Nat) : Int)))) ?_
                  refine w_nil ?_
                  intro a w' hf hs
                  exact ⟨rfl, hf.df, _, (HLe.refl _), hs, hf.get _ _ rfl⟩
                · intro a w' M325 l326 hd hs
                  have e327 := hd.val 17 86 _ rfl rfl
                  have e328 := hd.val 19 88 _ rfl rfl
                  refine OP.ofW (l := [(86, (.int .u32 (rd s110.1.toList (0 : Int)))), (88, (.int .u32 (rd s110.1.toList (2 : Int))))]) ((hd.fr.add e328).add e327) hs rfl ?_
                  refine w_val trivial rfl (fun a w hf hs => r_and (hf.ev rfl) (hf.ev rfl)) ?_
                  refine w_nil ?_
                  intro a w' hf hs
                  exact ⟨rfl, hf.df, _, (HLe.refl _), hs, hf.get _ _ rfl⟩
                · intro a w' M329 l330 hd hs
                  have e331 := hd.val 15 84 _ rfl rfl
                  have e332 := hd.val 20 89 _ rfl rfl
                  refine OP.ofW (l := [(84, (.int .u32 (bits .and .u32 (rd s110.1.toList (0 : Int)) (rd s110.1.toList (1 : Int))))), (89, (.int .u32 (bits .and .u32 (rd s110.1.toList (0 : Int)) (rd s110.1.toList (2 : Int)))))]) ((hd.fr.add e332).add e331) hs rfl ?_
                  refine w_val trivial rfl (fun a w hf hs => r_xor (hf.ev rfl) (hf.ev rfl)) ?_
                  refine w_nil ?_
                  intro a w' hf hs
                  exact ⟨rfl, hf.df, _, (HLe.refl _), hs, hf.get _ _ rfl⟩
                · intro a w' M333 l334 hd hs
                  refine OP.ofW (l := [(7, (ptr b65 0))]) (hd.fr.add (hd.base 7 _ rfl rfl)) hs rfl ?_
                  refine w_val trivial rfl (fun a w hf hs => r_iaI Tryd.underlying120 ts70 (hf.ev rfl) (hf.ev rfl) (by decide : (0 : Int) ≤ (1 : Int)) (by decide : (1 : Int) < ((8 : Nat) : Int))) ?_
                  refine w_nil ?_
                  intro a w' hf hs
                  exact ⟨rfl, hf.df, _, (HLe.refl _), hs, hf.get _ _ rfl⟩
                · intro a w' M335 l336 hd hs
                  have e337 := hd.val 22 91 _ rfl rfl
                  refine OP.ofW (l := [(91, (ptr b65 (0 + ((1 : Int)).toNat)))]) (hd.fr.add e337) hs rfl ?_
                  refine w_val trivial rfl (fun a w hf hs => r_load1 ta70 (hf.ev rfl) (hs.blk (i := 3) rfl) (vI_get0 (by decide : (0 : Int) ≤ (1 : Int)) (by decide : (1 : Int) < ((8 : Nat) : Int)))) ?_
                  refine w_nil ?_
                  intro a w' hf hs
                  exact ⟨rfl, hf.df, _, (HLe.refl _), hs, hf.get _ _ rfl⟩
                · intro a w' M338 l339 hd hs
                  refine OP.ofW (l := [(7, (ptr b65 0))]) (hd.fr.add (hd.base 7 _ rfl rfl)) hs rfl ?_
                  refine w_val trivial rfl (fun a w hf hs => r_iaI Tryd.underlying120 ts70 (hf.ev rfl) (hf.ev rfl) (by decide : (0 : Int) ≤ (2 : Int)) (by decide : (2 : Int) < ((8 : Nat) : Int))) ?_
                  refine w_nil ?_
                  intro a w' hf hs
                  exact ⟨rfl, hf.df, _, (HLe.refl _), hs, hf.get _ _ rfl⟩
                · intro a w' M340 l341 hd hs
                  have e342 := hd.val 24 93 _ rfl rfl
                  refine OP.ofW (l := [(93, (ptr b65 (0 + ((2 : Int)).toNat)))]) (hd.fr.add e342) hs rfl ?_
                  refine w_val trivial rfl (fun a w hf hs => r_load1 ta70 (hf.ev rfl) (hs.blk (i := 3) rfl) (vI_get0 (by decide : (0 : Int) ≤ (2 : Int)) (by decide : (2 : Int) < ((8 : Nat) : Int)))) ?_
                  refine w_nil ?_
                  intro a w' hf hs
                  exact ⟨rfl, hf.df, _, (HLe.refl _), hs, hf.get _ _ rfl⟩
                · intro a w' M343 l344 hd hs
                  have e345 := hd.val 23 92 _ rfl rfl
                  have e346 := hd.val 25 94 _ rfl rfl
                  refine OP.ofW (l := [(92, (.int .u32 (rd s110.1.toList (1 : Int)))), (94, (.int .u32 (rd s110.1.toList (2 : Int))))]) ((hd.fr.add e346).add e345) hs rfl ?_
                  refine w_val trivial rfl (fun a w hf hs => r_and (hf.ev rfl) (hf.ev rfl)) ?_
                  refine w_nil ?_
                  intro a w' hf hs
                  exact ⟨rfl, hf.df, _, (HLe.refl _), hs, hf.get _ _ rfl⟩
                · intro a w' M347 l348 hd hs
                  have e349 := hd.val 21 90 _ rfl rfl
                  have e350 := hd.val 26 95 _ rfl rfl
                  refine OP.ofW (l := [(90, (.int .u32 (bits .xor .u32 (bits .and .u32 (rd s110.1.toList (0 : Int)) (rd s110.1.toList (1 : Int))) (bits .and .u32 (rd s110.1.toList (0 : Int)) (rd s110.1.toList (2 : Int)))))), (95, (.int .u32 (bits .and .u32 (rd s110.1.toList (1 : Int)) (rd s110.1.toList (2 : Int)))))]) ((hd.fr.add e350).add e349) hs rfl ?_
                  refine w_val trivial rfl (fun a w hf hs => r_xor (hf.ev rfl) (hf.ev rfl)) ?_
                  refine w_nil ?_
                  intro a w' hf hs
                  exact ⟨rfl, hf.df, _, (HLe.refl _), hs, hf.get _ _ rfl⟩
                · intro a w' M351 l352 hd hs
                  have e353 := hd.val 10 79 _ rfl rfl
                  have e354 := hd.val 27 96 _ rfl rfl
                  refine OP.ofW (l := [(79, (.int .u32 (bits .xor .u32 (bits .xor .u32 t259 t273) t291))), (96, (.int .u32 (bits .xor .u32 (bits .xor .u32 (bits .and .u32 (rd s110.1.toList (0 : Int)) (rd s110.1.toList (1 : Int))) (bits .and .u32 (rd s110.1.toList (0 : Int)) (rd s110.1.toList (2 : Int)))) (bits .and .u32 (rd s110.1.toList (1 : Int)) (rd s110.1.toList (2 : Int))))))]) ((hd.fr.add e354).add e353) hs rfl ?_
                  refine w_val trivial rfl (fun a w hf hs => r_add (hf.ev rfl) (hf.ev rfl)) ?_
                  refine w_nil ?_
                  intro a w' hf hs
                  exact ⟨rfl, hf.df, _, (HLe.refl _), hs, hf.get _ _ rfl⟩
                · intro a w' M355 l356 hd hs
                  have e357 := hd.val 28 97 _ rfl rfl
                  refine OP.ofW (l := [(97, (.int .u32 (IntKind.u32.wrap ((bits .xor .u32 (bits .xor .u32 t259 t273) t291) + (bits .xor .u32 (bits .xor .u32 (bits .and .u32 (rd s110.1.toList (0 : Int)) (rd s110.1.toList (1 : Int))) (bits .and .u32 (rd s110.1.toList (0 : Int)) (rd s110.1.toList (2 : Int)))) (bits .and .u32 (rd s110.1.toList (1 : Int)) (rd s110.1.toList (2 : Int))))))))]) (hd.fr.add e357) hs rfl ?_
                  refine w_val trivial rfl (fun a w hf hs => r_assign (hf.ev rfl)) ?_
                  refine w_nil ?_
                  intro a w' hf hs
                  exact ⟨rfl, hf.df, _, (HLe.refl _), hs, hf.get _ _ rfl⟩
                intro a w' M358 l359 hdf hsz hb hv hs
                replace hG := hG.mono l359
                replace hg0_ := l359 _ _ hg0_
                replace h2 := h2.mono l359
                replace h15 := h15.mono l359
                replace h55 := h55.mono l359
                have e360 := hv 29 10 _ rfl rfl
                refine n_of (c := (Cx.mk Tryd.prog 148 none' M w)) (l := [(2, (ptr b4 0)), (3, (ptr b6 0)), (4, v14), (5, (.int .i64 s42.2)), (6, (ptr b63 0)), (7, (ptr b65 0)), (8, (.int .i64 s110.2)), (9, (.int .u32 (IntKind.u32.wrap ((IntKind.u32.wrap ((IntKind.u32.wrap ((IntKind.u32.wrap ((rd s110.1.toList (7 : Int)) + (bits .xor .u32 (bits .xor .u32 t133 t147) t165))) + (bits .xor .u32 (bits .and .u32 (rd s110.1.toList (4 : Int)) (rd s110.1.toList (5 : Int))) (bits .and .u32 (bits .xor .u32 (rd s110.1.toList (4 : Int)) (4294967295 : Int)) (rd s110.1.toList (6 : Int)))))) + (rd ref02_constants.toList s110.2))) + (rd t57.toList s110.2))))), (10, (.int .u32 (IntKind.u32.wrap ((bits .xor .u32 (bits .xor .u32 t259 t273) t291) + (bits .xor .u32 (bits .xor .u32 (bits .and .u32 (rd s110.1.toList (0 : Int)) (rd s110.1.toList (1 : Int))) (bits .and .u32 (rd s110.1.toList (0 : Int)) (rd s110.1.toList (2 : Int)))) (bits .and .u32 (rd s110.1.toList (1 : Int)) (rd s110.1.toList (2 : Int))))))))]) ?_ ((((((((((Fr.start hdf hsz).add e360).add (hb 9 _ rfl rfl)).add (hb 8 _ rfl rfl)).add (hb 7 _ rfl rfl)).add (hb 6 _ rfl rfl)).add (hb 5 _ rfl rfl)).add (hb 4 _ rfl rfl)).add (hb 3 _ rfl rfl)).add (hb 2 _ rfl rfl)) hs
                clear hdf hsz hb hv hs e360
                refine n_id (hK250 _ _ _ ?_)
                refine c_reg ?_
                refine w_val trivial rfl (fun a w hf hs => r_move (hf.ev rfl)) ?_
                refine w_val trivial rfl (fun a w hf hs => r_move (hf.ev rfl)) ?_
                refine w_val trivial rfl (fun a w hf hs => r_add (hf.ev rfl) (hf.ev rfl)) ?_
                refine w_val trivial rfl (fun a w hf hs => r_iaI Tryd.underlying120 ts70 (hf.ev rfl) (hf.ev rfl) (by decide : (0 : Int) ≤ (0 : Int)) (by decide : (0 : Int) < ((8 : Nat) : Int))) ?_
                refine w_val trivial rfl (fun a w hf hs => r_load1 ta70 (hf.ev rfl) (hs.blk (i := 3) rfl) (vI_get0 (by decide : (0 : Int) ≤ (0 : Int)) (by decide : (0 : Int) < ((8 : Nat) : Int)))) ?_
                refine w_val trivial rfl (fun a w hf hs => r_iaI Tryd.underlying120 ts70 (hf.ev rfl) (hf.ev rfl) (by decide : (0 : Int) ≤ (1 : Int)) (by decide : (1 : Int) < ((8 : Nat) : Int))) ?_
                refine w_val trivial rfl (fun a w hf hs => r_load1 ta70 (hf.ev rfl) (hs.blk (i := 3) rfl) (vI_get0 (by decide : (0 : Int) ≤ (1 : Int)) (by decide : (1 : Int) < ((8 : Nat) : Int)))) ?_
                refine w_val trivial rfl (fun a w hf hs => r_iaI Tryd.underlying120 ts70 (hf.ev rfl) (hf.ev rfl) (by decide : (0 : Int) ≤ (2 : Int)) (by decide : (2 : Int) < ((8 : Nat) : Int))) ?_
                refine w_val trivial rfl (fun a w hf hs => r_load1 ta70 (hf.ev rfl) (hs.blk (i := 3) rfl) (vI_get0 (by decide : (0 : Int) ≤ (2 : Int)) (by decide : (2 : Int) < ((8 : Nat) : Int)))) ?_
                refine w_val trivial rfl (fun a w hf hs => r_iaI Tryd.underlying120 ts70 (hf.ev rfl) (hf.ev rfl) (by decide : (0 : Int) ≤ (3 : Int)) (by decide : (3 : Int) < ((8 : Nat) : Int))) ?_
                refine w_val trivial rfl (fun a w hf hs => r_load1 ta70 (hf.ev rfl) (hs.blk (i := 3) rfl) (vI_get0 (by decide : (0 : Int) ≤ (3 : Int)) (by decide : (3 : Int) < ((8 : Nat) : Int)))) ?_
                refine w_val trivial rfl (fun a w hf hs => r_move (hf.ev rfl)) ?_
                refine w_val trivial rfl (fun a w hf hs => r_add (hf.ev rfl) (hf.ev rfl)) ?_
                refine w_val trivial rfl (fun a w hf hs => r_iaI Tryd.underlying120 ts70 (hf.ev rfl) (hf.ev rfl) (by decide : (0 : Int) ≤ (4 : Int)) (by decide : (4 : Int) < ((8 : Nat) : Int))) ?_
                refine w_val trivial rfl (fun a w hf hs => r_load1 ta70 (hf.ev rfl) (hs.blk (i := 3) rfl) (vI_get0 (by decide : (0 : Int) ≤ (4 : Int)) (by decide : (4 : Int) < ((8 : Nat) : Int)))) ?_
                refine w_val trivial rfl (fun a w hf hs => r_iaI Tryd.underlying120 ts70 (hf.ev rfl) (hf.ev rfl) (by decide : (0 : Int) ≤ (5 : Int)) (by decide : (5 : Int) < ((8 : Nat) : Int))) ?_
                refine w_val trivial rfl (fun a w hf hs => r_load1 ta70 (hf.ev rfl) (hs.blk (i := 3) rfl) (vI_get0 (by decide : (0 : Int) ≤ (5 : Int)) (by decide : (5 : Int) < ((8 : Nat) : Int)))) ?_
                refine w_val trivial rfl (fun a w hf hs => r_iaI Tryd.underlying120 ts70 (hf.ev rfl) (hf.ev rfl) (by decide : (0 : Int) ≤ (6 : Int)) (by decide : (6 : Int) < ((8 : Nat) : Int))) ?_
                refine w_val trivial rfl (fun a w hf hs => r_load1 ta70 (hf.ev rfl) (hs.blk (i := 3) rfl) (vI_get0 (by decide : (0 : Int) ≤ (6 : Int)) (by decide : (6 : Int) < ((8 : Nat) : Int)))) ?_
                refine w_val trivial rfl (fun a w hf hs => r_build (is := [0, 1, 2, 3, 4, 5, 6, 7]) (xs := [.tmp 100, .tmp 102, .tmp 104, .tmp 106, .tmp 110, .tmp 112, .tmp 114, .tmp 116]) (vs := [(.int .u32 (IntKind.u32.wrap ((IntKind.u32.wrap ((IntKind.u32.wrap ((IntKind.u32.wrap ((IntKind.u32.wrap ((rd s110.1.toList (7 : Int)) + (bits .xor .u32 (bits .xor .u32 t133 t147) t165))) + (bits .xor .u32 (bits .and .u32 (rd s110.1.toList (4 : Int)) (rd s110.1.toList (5 : Int))) (bits .and .u32 (bits .xor .u32 (rd s110.1.toList (4 : Int)) (4294967295 : Int)) (rd s110.1.toList (6 : Int)))))) + (rd ref02_constants.toList s110.2))) + (rd t57.toList s110.2))) + (IntKind.u32.wrap ((bits .xor .u32 (bits .xor .u32 t259 t273) t291) + (bits .xor .u32 (bits .xor .u32 (bits .and .u32 (rd s110.1.toList (0 : Int)) (rd s110.1.toList (1 : Int))) (bits .and .u32 (rd s110.1.toList (0 : Int)) (rd s110.1.toList (2 : Int)))) (bits .and .u32 (rd s110.1.toList (1 : Int)) (rd s110.1.toList (2 : Int))))))))), (.int .u32 (rd s110.1.toList (0 : Int))), (.int .u32 (rd s110.1.toList (1 : Int))), (.int .u32 (rd s110.1.toList (2 : Int))), (.int .u32 (IntKind.u32.wrap ((rd s110.1.toList (3 : Int)) + (IntKind.u32.wrap ((IntKind.u32.wrap ((IntKind.u32.wrap ((IntKind.u32.wrap ((rd s110.1.toList (7 : Int)) + (bits .xor .u32 (bits .xor .u32 t133 t147) t165))) + (bits .xor .u32 (bits .and .u32 (rd s110.1.toList (4 : Int)) (rd s110.1.toList (5 : Int))) (bits .and .u32 (bits .xor .u32 (rd s110.1.toList (4 : Int)) (4294967295 : Int)) (rd s110.1.toList (6 : Int)))))) + (rd ref02_constants.toList s110.2))) + (rd t57.toList s110.2)))))), (.int .u32 (rd s110.1.toList (4 : Int))), (.int .u32 (rd s110.1.toList (5 : Int))), (.int .u32 (rd s110.1.toList (6 : Int)))]) (A := vI .u32 (#v[(IntKind.u32.wrap ((IntKind.u32.wrap ((IntKind.u32.wrap ((IntKind.u32.wrap ((IntKind.u32.wrap ((rd s110.1.toList (7 : Int)) + (bits .xor .u32 (bits .xor .u32 t133 t147) t165))) + (bits .xor .u32 (bits .and .u32 (rd s110.1.toList (4 : Int)) (rd s110.1.toList (5 : Int))) (bits .and .u32 (bits .xor .u32 (rd s110.1.toList (4 : Int)) (4294967295 : Int)) (rd s110.1.toList (6 : Int)))))) + (rd ref02_constants.toList s110.2))) + (rd t57.toList s110.2))) + (IntKind.u32.wrap ((bits .xor .u32 (bits .xor .u32 t259 t273) t291) + (bits .xor .u32 (bits .xor .u32 (bits .and .u32 (rd s110.1.toList (0 : Int)) (rd s110.1.toList (1 : Int))) (bits .and .u32 (rd s110.1.toList (0 : Int)) (rd s110.1.toList (2 : Int)))) (bits .and .u32 (rd s110.1.toList (1 : Int)) (rd s110.1.toList (2 : Int)))))))), (rd s110.1.toList (0 : Int)), (rd s110.1.toList (1 : Int)), (rd s110.1.toList (2 : Int)), (IntKind.u32.wrap ((rd s110.1.toList (3 : Int)) + (IntKind.u32.wrap ((IntKind.u32.wrap ((IntKind.u32.wrap ((IntKind.u32.wrap ((rd s110.1.toList (7 : Int)) + (bits .xor .u32 (bits .xor .u32 t133 t147) t165))) + (bits .xor .u32 (bits .and .u32 (rd s110.1.toList (4 : Int)) (rd s110.1.toList (5 : Int))) (bits .and .u32 (bits .xor .u32 (rd s110.1.toList (4 : Int)) (4294967295 : Int)) (rd s110.1.toList (6 : Int)))))) + (rd ref02_constants.toList s110.2))) + (rd t57.toList s110.2))))), (rd s110.1.toList (4 : Int)), (rd s110.1.toList (5 : Int)), (rd s110.1.toList (6 : Int))] : Vector Int 8)) rfl (hf.evs rfl) (by kernel_rfl)) ?_
                refine w_store (i := 3) (vs := vI .u32 (#v[(IntKind.u32.wrap ((IntKind.u32.wrap ((IntKind.u32.wrap ((IntKind.u32.wrap ((IntKind.u32.wrap ((rd s110.1.toList (7 : Int)) + (bits .xor .u32 (bits .xor .u32 t133 t147) t165))) + (bits .xor .u32 (bits .and .u32 (rd s110.1.toList (4 : Int)) (rd s110.1.toList (5 : Int))) (bits .and .u32 (bits .xor .u32 (rd s110.1.toList (4 : Int)) (4294967295 : Int)) (rd s110.1.toList (6 : Int)))))) + (rd ref02_constants.toList s110.2))) + (rd t57.toList s110.2))) + (IntKind.u32.wrap ((bits .xor .u32 (bits .xor .u32 t259 t273) t291) + (bits .xor .u32 (bits .xor .u32 (bits .and .u32 (rd s110.1.toList (0 : Int)) (rd s110.1.toList (1 : Int))) (bits .and .u32 (rd s110.1.toList (0 : Int)) (rd s110.1.toList (2 : Int)))) (bits .and .u32 (rd s110.1.toList (1 : Int)) (rd s110.1.toList (2 : Int)))))))), (rd s110.1.toList (0 : Int)), (rd s110.1.toList (1 : Int)), (rd s110.1.toList (2 : Int)), (IntKind.u32.wrap ((rd s110.1.toList (3 : Int)) + (IntKind.u32.wrap ((IntKind.u32.wrap ((IntKind.u32.wrap ((IntKind.u32.wrap ((rd s110.1.toList (7 : Int)) + (bits .xor .u32 (bits .xor .u32 t133 t147) t165))) + (bits .xor .u32 (bits .and .u32 (rd s110.1.toList (4 : Int)) (rd s110.1.toList (5 : Int))) (bits .and .u32 (bits .xor .u32 (rd s110.1.toList (4 : Int)) (4294967295 : Int)) (rd s110.1.toList (6 : Int)))))) + (rd ref02_constants.toList s110.2))) + (rd t57.toList s110.2))))), (rd s110.1.toList (4 : Int)), (rd s110.1.toList (5 : Int)), (rd s110.1.toList (6 : Int))] : Vector Int 8)) (A' := vI .u32 (#v[(IntKind.u32.wrap ((IntKind.u32.wrap ((IntKind.u32.wrap ((IntKind.u32.wrap ((IntKind.u32.wrap ((rd s110.1.toList (7 : Int)) + (bits .xor .u32 (bits .xor .u32 t133 t147) t165))) + (bits .xor .u32 (bits .and .u32 (rd s110.1.toList (4 : Int)) (rd s110.1.toList (5 : Int))) (bits .and .u32 (bits .xor .u32 (rd s110.1.toList (4 : Int)) (4294967295 : Int)) (rd s110.1.toList (6 : Int)))))) + (rd ref02_constants.toList s110.2))) + (rd t57.toList s110.2))) + (IntKind.u32.wrap ((bits .xor .u32 (bits .xor .u32 t259 t273) t291) + (bits .xor .u32 (bits .xor .u32 (bits .and .u32 (rd s110.1.toList (0 : Int)) (rd s110.1.toList (1 : Int))) (bits .and .u32 (rd s110.1.toList (0 : Int)) (rd s110.1.toList (2 : Int)))) (bits .and .u32 (rd s110.1.toList (1 : Int)) (rd s110.1.toList (2 : Int)))))))), (rd s110.1.toList (0 : Int)), (rd s110.1.toList (1 : Int)), (rd s110.1.toList (2 : Int)), (IntKind.u32.wrap ((rd s110.1.toList (3 : Int)) + (IntKind.u32.wrap ((IntKind.u32.wrap ((IntKind.u32.wrap ((IntKind.u32.wrap ((rd s110.1.toList (7 : Int)) + (bits .xor .u32 (bits .xor .u32 t133 t147) t165))) + (bits .xor .u32 (bits .and .u32 (rd s110.1.toList (4 : Int)) (rd s110.1.toList (5 : Int))) (bits .and .u32 (bits .xor .u32 (rd s110.1.toList (4 : Int)) (4294967295 : Int)) (rd s110.1.toList (6 : Int)))))) + (rd ref02_constants.toList s110.2))) + (rd t57.toList s110.2))))), (rd s110.1.toList (4 : Int)), (rd s110.1.toList (5 : Int)), (rd s110.1.toList (6 : Int))] : Vector Int 8)) trivial rfl rfl rfl rfl ts120 (vI_len _) (vI_one _) (by rw [vI_len]; decide) (vI_whole _ _) ?_
                refine w_L [.blk b4 (.cells (vI .u8 (Vector.replicate 32 (0 : Int))).toArray 117 (0, 0)), .blk b6 (.cells (vI .u32 s42.1).toArray 120 (0, 0)), .blk b63 (.cells (vI .u32 t57).toArray 157 (0, 0)), .blk b65 (.cells (vI .u32 (#v[(IntKind.u32.wrap ((IntKind.u32.wrap ((IntKind.u32.wrap ((IntKind.u32.wrap ((IntKind.u32.wrap ((rd s110.1.toList (7 : Int)) + (bits .xor .u32 (bits .xor .u32 t133 t147) t165))) + (bits .xor .u32 (bits .and .u32 (rd s110.1.toList (4 : Int)) (rd s110.1.toList (5 : Int))) (bits .and .u32 (bits .xor .u32 (rd s110.1.toList (4 : Int)) (4294967295 : Int)) (rd s110.1.toList (6 : Int)))))) + (rd ref02_constants.toList s110.2))) + (rd t57.toList s110.2))) + (IntKind.u32.wrap ((bits .xor .u32 (bits .xor .u32 t259 t273) t291) + (bits .xor .u32 (bits .xor .u32 (bits .and .u32 (rd s110.1.toList (0 : Int)) (rd s110.1.toList (1 : Int))) (bits .and .u32 (rd s110.1.toList (0 : Int)) (rd s110.1.toList (2 : Int)))) (bits .and .u32 (rd s110.1.toList (1 : Int)) (rd s110.1.toList (2 : Int)))))))), (rd s110.1.toList (0 : Int)), (rd s110.1.toList (1 : Int)), (rd s110.1.toList (2 : Int)), (IntKind.u32.wrap ((rd s110.1.toList (3 : Int)) + (IntKind.u32.wrap ((IntKind.u32.wrap ((IntKind.u32.wrap ((IntKind.u32.wrap ((rd s110.1.toList (7 : Int)) + (bits .xor .u32 (bits .xor .u32 t133 t147) t165))) + (bits .xor .u32 (bits .and .u32 (rd s110.1.toList (4 : Int)) (rd s110.1.toList (5 : Int))) (bits .and .u32 (bits .xor .u32 (rd s110.1.toList (4 : Int)) (4294967295 : Int)) (rd s110.1.toList (6 : Int)))))) + (rd ref02_constants.toList s110.2))) + (rd t57.toList s110.2))))), (rd s110.1.toList (4 : Int)), (rd s110.1.toList (5 : Int)), (rd s110.1.toList (6 : Int))] : Vector Int 8)).toArray 120 (0, 0))] rfl ?_
                refine w_nil (hK118 _ _ _ ?_)
                refine c_reg ?_
                refine w_val trivial rfl (fun a w hf hs => r_move (hf.ev rfl)) ?_
                refine w_val trivial rfl (fun a w hf hs => r_add (hf.ev rfl) (hf.ev rfl)) ?_
                refine w_val trivial rfl (fun a w hf hs => r_assign (hf.ev rfl)) ?_
                refine w_nil ?_
                intro a w' hf hs
                exact ⟨_, (some_r H).symm, _, l112.trans (l248.trans l359), (((((((hf.nil.add (hf.get _ _ rfl)).add (hf.get _ _ rfl)).add (hf.get _ _ rfl)).add (hf.get _ _ rfl)).add (hf.get _ _ rfl)).add (hf.get _ _ rfl)).add (hf.get _ _ rfl)), hs.selD [some 0, some 1, some 2, some 3] (by decide) rfl⟩
              · replace H := if_f b117 H
                replace H := map_inr H r113
                refine c_exit ?_
                intro a w' hf hs
                exact ⟨s110.1, _, l112, (((((hf.nil.add (hf.get _ _ rfl)).add (hf.get _ _ rfl)).add (hf.get _ _ rfl)).add (hf.get _ _ rfl)).add (hf.get _ _ rfl)), hs.selD [some 0, some 1, none, some 3] (by decide) rfl, H⟩
          · rintro a w' ⟨x66, M67, l68, hf, hs, H⟩
            refine c_of (c := (Cx.mk Tryd.prog 148 none' M w)) ?_ hf hs
            unfold ref02_Sum.j6 at H
            clear hf hs
            replace hG := hG.mono l68
            replace hg0_ := l68 _ _ hg0_
            replace h2 := h2.mono l68
            replace h15 := h15.mono l68
            replace h55 := h55.mono l68
            refine c_seq ?_
            intro K69 hK69
            refine c_reg ?_
            refine w_val trivial rfl (fun a w hf hs => r_assign (hf.ev rfl)) ?_
            refine w_nil (hK69 _ _ _ ?_)
            refine c_block ?_
            refine c_loop (fun (s70 : ((Vector Int 8) × Int)) a' w' => ∃ (M71 : Heap), HLe M67 M71 ∧ Fr 148 [(2, (ptr b4 0)), (3, (ptr b6 0)), (4, v14), (5, (.int .i64 s42.2)), (7, (ptr b65 0)), (11, (.int .i64 s70.2))] a' ∧ St none' M w M71 (lt [.blk b4 (.cells (vI .u8 (Vector.replicate 32 (0 : Int))).toArray 117 (0, 0)), .blk b6 (.cells (vI .u32 s70.1).toArray 120 (0, 0)), dead, .blk b65 (.cells (vI .u32 x66).toArray 120 (0, 0))]) w') (s42.1, (0 : Int)) H ?_ ?_
            · intro a w' hf hs
              exact ⟨_, HLe.refl _, ((((((hf.nil.add (hf.get _ _ rfl)).add (hf.get _ _ rfl)).add (hf.get _ _ rfl)).add (hf.get _ _ rfl)).add (hf.get _ _ rfl)).add (hf.get _ _ rfl)), hs.selD [some 0, some 1, none, some 3] (by decide) rfl⟩
            · clear H
              intro s70 y74 H r73 a w' hJ
              obtain ⟨M71, l72, hf, hs⟩ := hJ
              refine c_of (c := (Cx.mk Tryd.prog 148 none' M w)) ?_ hf hs
              unfold ref02_Sum.l5 at H
              clear hf hs
              replace hG := hG.mono l72
              replace hg0_ := l72 _ _ hg0_
              replace h2 := h2.mono l72
              replace h15 := h15.mono l72
              replace h55 := h55.mono l72
              refine c_seq ?_
              intro K75 hK75
              refine c_seq ?_
              intro K76 hK76
              refine c_reg ?_
              refine w_val trivial rfl (fun a w hf hs => r_move (hf.ev rfl)) ?_
              refine w_val trivial rfl (fun a w hf hs => r_lss (hf.ev rfl) (hf.ev rfl)) ?_
              refine w_nil (hK76 _ _ _ ?_)
              refine c_if rfl (fun b77 => ?_) (fun b77 => ?_)
              · replace H := if_t b77 H
                refine c_skip (hK75 _ _ _ ?_)
                refine c_seq ?_
                intro K78 hK78
                refine c_block ?_
                refine c_split2 8 (by kernel_rfl) (by kernel_rfl) (by kernel_rfl) (by kernel_rfl) rfl ?_
                intro K79 hK79
                obtain ⟨g87, H⟩ := grd_s H
                obtain ⟨g96, H⟩ := grd_s H
                refine d_drawP [([], [11]), ([], [11]), ([(1, 123)], [3]), ([(2, 124)], []), ([], [11]), ([(4, 126)], [7]), ([(5, 127)], []), ([(3, 125), (6, 128)], [])] [fun v M => v = (.int .i64 s70.2), fun v M => v = (.int .i64 s70.2), fun v M => v = (ptr b6 (0 + (s70.2).toNat)), fun v M => v = (.int .u32 (rd s70.1.toList s70.2)), fun v M => v = (.int .i64 s70.2), fun v M => v = (ptr b65 (0 + (s70.2).toNat)), fun v M => v = (.int .u32 (rd x66.toList s70.2)), fun v M => v = (.int .u32 (IntKind.u32.wrap ((rd s70.1.toList s70.2) + (rd x66.toList s70.2))))] (by kernel_rfl) (by kernel_rfl) ?_ (AllT.cons ?_ (AllT.cons ?_ (AllT.cons ?_ (AllT.cons ?_ (AllT.cons ?_ (AllT.cons ?_ (AllT.cons ?_ (AllT.cons ?_ AllT.nil)))))))) ?_
                · exact (MonoA.cons (fun _ _ _ _ h => h) (MonoA.cons (fun _ _ _ _ h => h) (MonoA.cons (fun _ _ _ _ h => h) (MonoA.cons (fun _ _ _ _ h => h) (MonoA.cons (fun _ _ _ _ h => h) (MonoA.cons (fun _ _ _ _ h => h) (MonoA.cons (fun _ _ _ _ h => h) (MonoA.cons (fun _ _ _ _ h => h) MonoA.nil))))))))
                · intro a w' M80 l81 hd hs
                  refine OP.ofW (l := [(11, (.int .i64 s70.2))]) (hd.fr.add (hd.base 11 _ rfl rfl)) hs rfl ?_
                  refine w_val trivial rfl (fun a w hf hs => r_move (hf.ev rfl)) ?_
                  refine w_nil ?_
                  intro a w' hf hs
                  exact ⟨rfl, hf.df, _, (HLe.refl _), hs, hf.get _ _ rfl⟩
                · intro a w' M82 l83 hd hs
                  refine OP.ofW (l := [(11, (.int .i64 s70.2))]) (hd.fr.add (hd.base 11 _ rfl rfl)) hs rfl ?_
                  refine w_val trivial rfl (fun a w hf hs => r_move (hf.ev rfl)) ?_
                  refine w_nil ?_
                  intro a w' hf hs
                  exact ⟨rfl, hf.df, _, (HLe.refl _), hs, hf.get _ _ rfl⟩
                · intro a w' M84 l85 hd hs
                  have e86 := hd.val 1 123 _ rfl rfl
                  refine OP.ofW (l := [(3, (ptr b6 0)), (123, (.int .i64 s70.2))]) ((hd.fr.add e86).add (hd.base 3 _ rfl rfl)) hs rfl ?_
                  refine w_val trivial rfl (fun a w hf hs => r_iaI Tryd.underlying120 ts70 (hf.ev rfl) (hf.ev rfl) g87.1 g87.2) ?_
                  refine w_nil ?_
                  intro a w' hf hs
                  exact ⟨rfl, hf.df, _, (HLe.refl _), hs, hf.get _ _ rfl⟩
                · intro a w' M88 l89 hd hs
                  have e90 := hd.val 2 124 _ rfl rfl
                  refine OP.ofW (l := [(124, (ptr b6 (0 + (s70.2).toNat)))]) (hd.fr.add e90) hs rfl ?_
                  refine w_val trivial rfl (fun a w hf hs => r_load1 ta70 (hf.ev rfl) (hs.blk (i := 1) rfl) (vI_get0 g87.1 g87.2)) ?_
                  refine w_nil ?_
                  intro a w' hf hs
                  exact ⟨rfl, hf.df, _, (HLe.refl _), hs, hf.get _ _ rfl⟩
                · intro a w' M91 l92 hd hs
                  refine OP.ofW (l := [(11, (.int .i64 s70.2))]) (hd.fr.add (hd.base 11 _ rfl rfl)) hs rfl ?_
                  refine w_val trivial rfl (fun a w hf hs => r_move (hf.ev rfl)) ?_
                  refine w_nil ?_
                  intro a w' hf hs
                  exact ⟨rfl, hf.df, _, (HLe.refl _), hs, hf.get _ _ rfl⟩
                · intro a w' M93 l94 hd hs
                  have e95 := hd.val 4 126 _ rfl rfl
                  refine OP.ofW (l := [(7, (ptr b65 0)), (126, (.int .i64 s70.2))]) ((hd.fr.add e95).add (hd.base 7 _ rfl rfl)) hs rfl ?_
                  refine w_val trivial rfl (fun a w hf hs => r_iaI Tryd.underlying120 ts70 (hf.ev rfl) (hf.ev rfl) g96.1 g96.2) ?_
                  refine w_nil ?_
                  intro a w' hf hs
                  exact ⟨rfl, hf.df, _, (HLe.refl _), hs, hf.get _ _ rfl⟩
                · intro a w' M97 l98 hd hs
                  have e99 := hd.val 5 127 _ rfl rfl
                  refine OP.ofW (l := [(127, (ptr b65 (0 + (s70.2).toNat)))]) (hd.fr.add e99) hs rfl ?_
                  refine w_val trivial rfl (fun a w hf hs => r_load1 ta70 (hf.ev rfl) (hs.blk (i := 3) rfl) (vI_get0 g96.1 g96.2)) ?_
                  refine w_nil ?_
                  intro a w' hf hs
                  exact ⟨rfl, hf.df, _, (HLe.refl _), hs, hf.get _ _ rfl⟩
                · intro a w' M100 l101 hd hs
                  have e102 := hd.val 3 125 _ rfl rfl
                  have e103 := hd.val 6 128 _ rfl rfl
                  refine OP.ofW (l := [(125, (.int .u32 (rd s70.1.toList s70.2))), (128, (.int .u32 (rd x66.toList s70.2)))]) ((hd.fr.add e103).add e102) hs rfl ?_
                  refine w_val trivial rfl (fun a w hf hs => r_add (hf.ev rfl) (hf.ev rfl)) ?_
                  refine w_nil ?_
                  intro a w' hf hs
                  exact ⟨rfl, hf.df, _, (HLe.refl _), hs, hf.get _ _ rfl⟩
                intro a w' M104 l105 hdf hsz hb hv hs
                replace hG := hG.mono l105
                replace hg0_ := l105 _ _ hg0_
                replace h2 := h2.mono l105
                replace h15 := h15.mono l105
                replace h55 := h55.mono l105
                have e106 := hv 0 122 _ rfl rfl
                have e107 := hv 7 129 _ rfl rfl
                refine n_of (c := (Cx.mk Tryd.prog 148 none' M w)) (l := [(2, (ptr b4 0)), (3, (ptr b6 0)), (4, v14), (5, (.int .i64 s42.2)), (7, (ptr b65 0)), (11, (.int .i64 s70.2)), (122, (.int .i64 s70.2)), (129, (.int .u32 (IntKind.u32.wrap ((rd s70.1.toList s70.2) + (rd x66.toList s70.2)))))]) ?_ (((((((((Fr.start hdf hsz).add e107).add e106).add (hb 11 _ rfl rfl)).add (hb 7 _ rfl rfl)).add (hb 5 _ rfl rfl)).add (hb 4 _ rfl rfl)).add (hb 3 _ rfl rfl)).add (hb 2 _ rfl rfl)) hs
                clear hdf hsz hb hv hs e106 e107
                refine n_id (hK79 _ _ _ ?_)
                obtain ⟨g108, H⟩ := grd_s H
                refine w_val trivial rfl (fun a w hf hs => r_iaI Tryd.underlying120 ts70 (hf.ev rfl) (hf.ev rfl) g108.1 g108.2) ?_
                refine w_store (i := 1) (vs := [(.int .u32 (IntKind.u32.wrap ((rd s70.1.toList s70.2) + (rd x66.toList s70.2))))]) (A' := vI .u32 (vs s70.1 s70.2 (IntKind.u32.wrap ((rd s70.1.toList s70.2) + (rd x66.toList s70.2))))) trivial rfl rfl rfl rfl ts70 rfl (one1 rfl) (idx_le g108.1 g108.2 (vI_len _) (by decide)) (vI_set0 g108.1 g108.2) ?_
                refine w_nil (hK78 _ _ _ ?_)
                refine c_reg ?_
                refine w_val trivial rfl (fun a w hf hs => r_move (hf.ev rfl)) ?_
                refine w_val trivial rfl (fun a w hf hs => r_add (hf.ev rfl) (hf.ev rfl)) ?_
                refine w_val trivial rfl (fun a w hf hs => r_assign (hf.ev rfl)) ?_
                refine w_nil ?_
                intro a w' hf hs
                exact ⟨_, (some_r H).symm, _, l72.trans l105, ((((((hf.nil.add (hf.get _ _ rfl)).add (hf.get _ _ rfl)).add (hf.get _ _ rfl)).add (hf.get _ _ rfl)).add (hf.get _ _ rfl)).add (hf.get _ _ rfl)), hs.selD [some 0, some 1, none, some 3] (by decide) rfl⟩
              · replace H := if_f b77 H
                replace H := map_inr H r73
                refine c_exit ?_
                intro a w' hf hs
                exact ⟨s70.1, _, (l60.trans (l68.trans l72)), ((((hf.nil.add (hf.get _ _ rfl)).add (hf.get _ _ rfl)).add (hf.get _ _ rfl)).add (hf.get _ _ rfl)), hs.selD [some 0, some 1] (by decide) rfl, H⟩
        · rintro a w' ⟨x50, M51, l52, hf, hs, H⟩
          refine c_of (c := (Cx.mk Tryd.prog 148 none' M w)) ?_ hf hs
          unfold ref02_Sum.j4 at H
          clear hf hs
          replace hG := hG.mono l52
          replace hg0_ := l52 _ _ hg0_
          replace h2 := h2.mono l52
          replace h15 := h15.mono l52
          refine c_reg ?_
          refine w_val trivial rfl (fun a w hf hs => r_move (hf.ev rfl)) ?_
          refine w_val trivial rfl (fun a w hf hs => r_add (hf.ev rfl) (hf.ev rfl)) ?_
          refine w_val trivial rfl (fun a w hf hs => r_assign (hf.ev rfl)) ?_
          refine w_nil ?_
          intro a w' hf hs
          exact ⟨_, (some_r H).symm, _, l44.trans l52, ((((hf.nil.add (hf.get _ _ rfl)).add (hf.get _ _ rfl)).add (hf.get _ _ rfl)).add (hf.get _ _ rfl)), hs.selD [some 0, some 1] (by decide) rfl⟩
      · replace H := if_f b49 H
        replace H := map_inr H r45
        refine c_exit ?_
        intro a w' hf hs
        exact ⟨s42.1, _, l44, ((hf.nil.add (hf.get _ _ rfl)).add (hf.get _ _ rfl)), hs.selD [some 0, some 1] (by decide) rfl, H⟩
  · rintro a w' ⟨x16, M17, l18, hf, hs, H⟩
    refine c_of (c := (Cx.mk Tryd.prog 148 none' M w)) ?_ hf hs
    unfold ref02_Sum.j3 at H
    clear hf hs
    replace hG := hG.mono l18
    replace hg0_ := l18 _ _ hg0_
    replace h2 := h2.mono l18
    replace h15 := h15.mono l18
    refine c_seq ?_
    intro K19 hK19
    refine c_reg ?_
    refine w_allocL (A := vI .u8 (Vector.replicate 32 (0 : Int))) tz117 trivial rfl rfl ?_
    intro b20
    refine w_L [.blk b4 (.cells (vI .u8 (Vector.replicate 32 (0 : Int))).toArray 117 (0, 0)), .blk b6 (.cells (vI .u32 x16).toArray 120 (0, 0)), .blk b20 (.cells (vI .u8 (Vector.replicate 32 (0 : Int))).toArray 117 (0, 0))] rfl ?_
    refine w_nil (hK19 _ _ _ ?_)
    refine c_cut (fun a' w' => ∃ (x21 : (Vector Int 32)) (M22 : Heap), HLe M17 M22 ∧ Fr 148 [(2, (ptr b4 0)), (12, (ptr b20 0))] a' ∧ St none' M w M22 (lt [.blk b4 (.cells (vI .u8 (Vector.replicate 32 (0 : Int))).toArray 117 (0, 0)), dead, .blk b20 (.cells (vI .u8 x21).toArray 117 (0, 0))]) w' ∧ ref02_Sum.j1 x21 = some r) ?_ ?_
    · refine c_seq ?_
      intro K25 hK25
      refine c_reg ?_
      refine w_val trivial rfl (fun a w hf hs => r_assign (hf.ev rfl)) ?_
      refine w_nil (hK25 _ _ _ ?_)
      refine c_block ?_
      refine c_loop (fun (s26 : ((Vector Int 32) × Int)) a' w' => ∃ (M27 : Heap), HLe M17 M27 ∧ Fr 148 [(2, (ptr b4 0)), (3, (ptr b6 0)), (12, (ptr b20 0)), (13, (.int .i64 s26.2))] a' ∧ St none' M w M27 (lt [.blk b4 (.cells (vI .u8 (Vector.replicate 32 (0 : Int))).toArray 117 (0, 0)), .blk b6 (.cells (vI .u32 x16).toArray 120 (0, 0)), .blk b20 (.cells (vI .u8 s26.1).toArray 117 (0, 0))]) w') ((Vector.replicate 32 (0 : Int)), (0 : Int)) H ?_ ?_
      · intro a w' hf hs
        exact ⟨_, HLe.refl _, ((((hf.nil.add (hf.get _ _ rfl)).add (hf.get _ _ rfl)).add (hf.get _ _ rfl)).add (hf.get _ _ rfl)), hs.selD [some 0, some 1, some 2] (by decide) rfl⟩
      · clear H
        intro s26 y30 H r29 a w' hJ
        obtain ⟨M27, l28, hf, hs⟩ := hJ
        refine c_of (c := (Cx.mk Tryd.prog 148 none' M w)) ?_ hf hs
        unfold ref02_Sum.l2 at H
        clear hf hs
        replace hG := hG.mono l28
        replace hg0_ := l28 _ _ hg0_
        replace h2 := h2.mono l28
        replace h15 := h15.mono l28
        refine c_seq ?_
        intro K31 hK31
        refine c_seq ?_
        intro K32 hK32
        refine c_reg ?_
        refine w_val trivial rfl (fun a w hf hs => r_move (hf.ev rfl)) ?_
        refine w_val trivial rfl (fun a w hf hs => r_lss (hf.ev rfl) (hf.ev rfl)) ?_
        refine w_nil (hK32 _ _ _ ?_)
        refine c_if rfl (fun b33 => ?_) (fun b33 => ?_)
        · replace H := if_t b33 H
          refine c_skip (hK31 _ _ _ ?_)
          refine c_seq ?_
          intro K34 hK34
          refine c_block ?_
          refine c_reg ?_
          refine w_val trivial rfl (fun a w hf hs => r_move (hf.ev rfl)) ?_
          refine w_val trivial rfl (fun a w hf hs => r_move (hf.ev rfl)) ?_
          refine w_val trivial rfl (fun a w hf hs => r_quo (hf.ev rfl) (hf.ev rfl) (by decide)) ?_
          obtain ⟨g35, H⟩ := grd_s H
          refine w_val trivial rfl (fun a w hf hs => r_iaI Tryd.underlying120 ts70 (hf.ev rfl) (hf.ev rfl) g35.1 g35.2) ?_
          refine w_val trivial rfl (fun a w hf hs => r_load1 ta70 (hf.ev rfl) (hs.blk (i := 1) rfl) (vI_get0 g35.1 g35.2)) ?_
          refine w_val trivial rfl (fun a w hf hs => r_move (hf.ev rfl)) ?_
          refine w_val trivial rfl (fun a w hf hs => r_rem (hf.ev rfl) (hf.ev rfl) (by decide)) ?_
          refine w_val trivial rfl (fun a w hf hs => r_mul (hf.ev rfl) (hf.ev rfl)) ?_
          refine w_val trivial rfl (fun a w hf hs => r_sub (hf.ev rfl) (hf.ev rfl)) ?_
          obtain ⟨g36, H⟩ := grd_s H
          refine w_val trivial rfl (fun a w hf hs => r_shr (hf.ev rfl) (hf.ev rfl) g36) ?_
          refine w_val trivial rfl (fun a w hf hs => r_conv Tryd.underlying70 Tryd.underlying5 (hf.ev rfl)) ?_
          obtain ⟨g37, H⟩ := grd_s H
          refine w_val trivial rfl (fun a w hf hs => r_iaI Tryd.underlying117 ts5 (hf.ev rfl) (hf.ev rfl) g37.1 g37.2) ?_
          obtain ⟨z38, e39, H⟩ := bnd H
          have e40 := some_r e39
          refine w_store (i := 2) (vs := [(.int .u8 (IntKind.u8.wrap (shrI .u32 (rd x16.toList (IntKind.i64.wrap (Int.tdiv s26.2 (4 : Int)))) (IntKind.i64.wrap ((24 : Int) - (IntKind.i64.wrap ((8 : Int) * (Int.tmod s26.2 (4 : Int)))))))))]) (A' := vI .u8 z38) trivial rfl rfl rfl rfl ts5 rfl (one1 rfl) (idx_le g37.1 g37.2 (vI_len _) (by decide)) (by rw [← e40]; exact (vI_set0 g37.1 g37.2)) ?_
          clear e39 e40
          refine w_nil (hK34 _ _ _ ?_)
          refine c_reg ?_
          refine w_val trivial rfl (fun a w hf hs => r_move (hf.ev rfl)) ?_
          refine w_val trivial rfl (fun a w hf hs => r_add (hf.ev rfl) (hf.ev rfl)) ?_
          refine w_val trivial rfl (fun a w hf hs => r_assign (hf.ev rfl)) ?_
          refine w_nil ?_
          intro a w' hf hs
          exact ⟨_, (some_r H).symm, _, l28.trans (HLe.refl _), ((((hf.nil.add (hf.get _ _ rfl)).add (hf.get _ _ rfl)).add (hf.get _ _ rfl)).add (hf.get _ _ rfl)), hs.selD [some 0, some 1, some 2] (by decide) rfl⟩
        · replace H := if_f b33 H
          replace H := map_inr H r29
          refine c_exit ?_
          intro a w' hf hs
          exact ⟨s26.1, _, l28, ((hf.nil.add (hf.get _ _ rfl)).add (hf.get _ _ rfl)), hs.selD [some 0, none, some 2] (by decide) rfl, H⟩
    · rintro a w' ⟨x21, M22, l23, hf, hs, H⟩
      refine c_of (c := (Cx.mk Tryd.prog 148 none' M w)) ?_ hf hs
      unfold ref02_Sum.j1 at H
      clear hf hs
      replace hG := hG.mono l23
      replace hg0_ := l23 _ _ hg0_
      replace h2 := h2.mono l23
      replace h15 := h15.mono l23
      refine c_seq ?_
      intro K24 hK24
      refine c_reg ?_
      refine w_val trivial rfl (fun a w hf hs => r_loadA ta117 ts117 (hf.ev rfl) (hs.blk (i := 2) rfl) (vI_all _) (vI_len _)) ?_
      refine w_store (i := 0) (vs := vI .u8 x21) (A' := vI .u8 x21) trivial rfl rfl rfl rfl ts117 (vI_len _) (vI_one _) (by rw [vI_len]; decide) (vI_whole _ _) ?_
      refine w_L [.blk b4 (.cells (vI .u8 x21).toArray 117 (0, 0)), dead, .blk b20 (.cells (vI .u8 x21).toArray 117 (0, 0))] rfl ?_
      refine w_nil (hK24 _ _ _ ?_)
      obtain rfl := some_r H
      refine c_ret ?_
      intro a w' hf hs
      exact hret _ (.inl rfl) a w' hf.df ⟨_, _, Res.of1 rfl ⟨_, hf.get _ _ rfl, run_loadA (hs.blk (i := 0) rfl) ta117 ts117 (vI_all _) (vI_len _)⟩, hs.ext, rfl⟩
set_option maxRecDepth 20000 in
theorem ref02_Bytes32.calls {M : Heap} {w : World} (hM : Sub M w) (p0 : (Vector Int 32)) (r : (List UInt8)) (H : ref02_Bytes32 p0 = some r) :
    Calls Tryd.prog 82 [(.agg (vI .u8 p0).toArray)].toArray w (Post M w fun M' v => v = (str r)) := by
  refine enter 17 [(0, (.agg (vI .u8 p0).toArray))] Tryd.func82 rfl rfl rfl hM ?_
  intro Q hret
  unfold ref02_Bytes32 at H
  refine c_seq ?_
  intro K1 hK1
  refine c_reg ?_
  refine w_boxM trivial rfl rfl rfl ?_
  intro b2 M3 l4 h5
  refine w_val trivial rfl (fun a w hf hs => r_assign (hf.ev rfl)) ?_
  refine w_nil (hK1 _ _ _ ?_)
  refine c_seq ?_
  intro K6 hK6
  refine c_reg ?_
  refine w_val trivial rfl (fun a w hf hs => r_assign (hf.ev rfl)) ?_
  refine w_nil (hK6 _ _ _ ?_)
  refine c_row0 5 1 ?_
  refine c_cut (fun a' w' => ∃ (x7 : (List Int)) (v8 : Value) (M9 : Heap), HLe M3 M9 ∧ Fr 17 [(3, v8)] a' ∧ St none' M w M9 (lt [rowI (FI .u8) v8 5 x7]) w' ∧ ref02_Bytes32.j1 x7 = some r) ?_ ?_
  · refine c_seq ?_
    intro K15 hK15
    refine c_reg ?_
    refine w_val trivial rfl (fun a w hf hs => r_assign (hf.ev rfl)) ?_
    refine w_nil (hK15 _ _ _ ?_)
    refine c_block ?_
    refine c_loop (fun (s16 : ((List Int) × Int)) a' w' => ∃ (v17 : Value) (M18 : Heap), HLe M3 M18 ∧ Fr 17 [(1, (ptr b2 0)), (3, v17), (4, (.int .i64 s16.2))] a' ∧ St none' M w M18 (lt [rowI (FI .u8) v17 5 s16.1]) w') (([] : (List Int)), (0 : Int)) H ?_ ?_
    · intro a w' hf hs
      exact ⟨(.slice none 0 0), _, HLe.refl _, (((hf.nil.add (hf.get _ _ rfl)).add (hf.get _ _ rfl)).add (hf.get _ _ rfl)), hs.selD [some 0] (by decide) rfl⟩
    · clear H
      intro s16 y21 H r20 a w' hJ
      obtain ⟨v17, M18, l19, hf, hs⟩ := hJ
      refine c_of (c := (Cx.mk Tryd.prog 17 none' M w)) ?_ hf hs
      unfold ref02_Bytes32.l2 at H
      clear hf hs
      replace h5 := l19 _ _ h5
      refine c_seq ?_
      intro K22 hK22
      refine c_seq ?_
      intro K23 hK23
      refine c_reg ?_
      refine w_val trivial rfl (fun a w hf hs => r_move (hf.ev rfl)) ?_
      refine w_val trivial rfl (fun a w hf hs => r_lss (hf.ev rfl) (hf.ev rfl)) ?_
      refine w_nil (hK23 _ _ _ ?_)
      refine c_if rfl (fun b24 => ?_) (fun b24 => ?_)
      · replace H := if_t b24 H
        refine c_skip (hK22 _ _ _ ?_)
        refine c_seq ?_
        intro K25 hK25
        refine c_block ?_
        refine c_reg ?_
        refine w_val trivial rfl (fun a w hf hs => r_move (hf.ev rfl)) ?_
        refine w_val trivial rfl (fun a w hf hs => r_move (hf.ev rfl)) ?_
        obtain ⟨g26, H⟩ := grd_s H
        refine w_val trivial rfl (fun a w hf hs => r_iaI Tryd.underlying117 ts5 (hf.ev rfl) (hf.ev rfl) g26.1 g26.2) ?_
        refine w_val trivial rfl (fun a w hf hs => r_load1 ta5 (hf.ev rfl) (hs.sub _ _ h5) (vI_get0 g26.1 g26.2)) ?_
        refine w_bsl (F := (FI .u8)) (es := ([(rd p0.toList s16.2)] : List Int)) (xs := [.tmp 12]) (vs := [(.int .u8 (rd p0.toList s16.2))]) Tryd.underlying66 te5 trivial rfl rfl rfl rfl rfl (by decide) ?_
        intro v27 M28 l29 h30 c31
        replace h5 := l29 _ _ h5
        obtain ⟨g32, H⟩ := grd_s H
        refine w_app (F := (FI .u8)) (m2 := ([(rd p0.toList s16.2)] : List Int)) (i := 0) Tryd.underlying66 te5 Tryd.underlying66 (.inl ⟨_, rfl⟩) trivial rfl rfl rfl rfl (Src.rs (FI.one _) h30) g32 ?_
        intro v33
        refine w_val trivial rfl (fun a w hf hs => r_assign (hf.ev rfl)) ?_
        refine w_nil (hK25 _ _ _ ?_)
        refine c_reg ?_
        refine w_val trivial rfl (fun a w hf hs => r_move (hf.ev rfl)) ?_
        refine w_val trivial rfl (fun a w hf hs => r_add (hf.ev rfl) (hf.ev rfl)) ?_
        refine w_val trivial rfl (fun a w hf hs => r_assign (hf.ev rfl)) ?_
        refine w_nil ?_
        intro a w' hf hs
        exact ⟨_, (some_r H).symm, v33, _, l19.trans l29, (((hf.nil.add (hf.get _ _ rfl)).add (hf.get _ _ rfl)).add (hf.get _ _ rfl)), hs.selD [some 0] (by decide) rfl⟩
      · replace H := if_f b24 H
        replace H := map_inr H r20
        refine c_exit ?_
        intro a w' hf hs
        exact ⟨s16.1, v17, _, l19, (hf.nil.add (hf.get _ _ rfl)), hs.selD [some 0] (by decide) rfl, H⟩
  · rintro a w' ⟨x7, v8, M9, l10, hf, hs, H⟩
    refine c_of (c := (Cx.mk Tryd.prog 17 none' M w)) ?_ hf hs
    unfold ref02_Bytes32.j1 at H
    clear hf hs
    replace h5 := l10 _ _ h5
    refine c_seq ?_
    intro K11 hK11
    refine c_reg ?_
    refine w_val trivial rfl (fun a w hf hs => r_move (hf.ev rfl)) ?_
    refine w_give 0 rfl (fun _ h => h) ?_
    intro M12 l13 h14
    replace h5 := l13 _ _ h5
    refine w_val trivial rfl (fun a w hf hs => r_b2s Tryd.underlying66 Tryd.underlying5 Tryd.underlying9 h14 hs.sub (hf.ev rfl)) ?_
    refine w_val trivial rfl (fun a w hf hs => r_assign (hf.ev rfl)) ?_
    refine w_nil (hK11 _ _ _ ?_)
    obtain rfl := some_r H
    refine c_ret ?_
    intro a w' hf hs
    exact hret _ (.inl rfl) a w' hf.df ⟨_, _, Res.of1 rfl (RV.t hf rfl), hs.ext, rfl⟩
set_option maxRecDepth 20000 in
theorem ref02_padKey.callsR {M : Heap} {w : World} (hM : Sub M w) (hG : Gl M) (p0 : (List UInt8)) (p1 : Int) (r : (List Int)) (H : ref02_padKey p0 p1 = some r) :
    Calls Tryd.prog 81 [(str p0), (.int .u8 p1)].toArray w (PostI none' M w fun M' x v => x = rowI (FI .u8) v 5 r) := by
  refine enterR 35 [(0, (str p0)), (1, (.int .u8 p1))] Tryd.func81 rfl rfl rfl hM ?_
  intro Q hret
  unfold ref02_padKey at H
  refine c_seq ?_
  intro K1 hK1
  refine c_reg ?_
  refine w_val trivial rfl (fun a w hf hs => r_assign (hf.ev rfl)) ?_
  refine w_nil (hK1 _ _ _ ?_)
  refine c_seq ?_
  intro K2 hK2
  refine c_reg ?_
  refine w_val trivial rfl (fun a w hf hs => r_move (hf.ev rfl)) ?_
  refine w_val trivial rfl (fun a w hf hs => r_assign (hf.ev rfl)) ?_
  refine w_nil (hK2 _ _ _ ?_)
  refine c_cut (fun a' w' => ∃ (x3 : (List UInt8)) (M4 : Heap), HLe M M4 ∧ Fr 35 [(1, (.int .u8 p1)), (5, (str x3))] a' ∧ St none' M w M4 (lt []) w' ∧ ref02_padKey.j4 x3 p1 = some r) ?_ ?_
  · refine c_seq ?_
    intro K37 hK37
    refine c_reg ?_
    refine w_val trivial rfl (fun a w hf hs => r_move (hf.ev rfl)) ?_
    refine w_val trivial rfl (fun a w hf hs => r_slen Tryd.underlying9 (hf.ev rfl)) ?_
    refine w_val trivial rfl (fun a w hf hs => r_gtr (hf.ev rfl) (hf.ev rfl)) ?_
    refine w_nil (hK37 _ _ _ ?_)
    refine c_if rfl (fun b38 => ?_) (fun b38 => ?_)
    · replace H := if_t b38 H
      refine c_reg ?_
      refine w_val trivial rfl (fun a w hf hs => r_move (hf.ev rfl)) ?_
      refine w_s2b Tryd.underlying9 Tryd.underlying66 Tryd.underlying5 trivial rfl rfl ?_
      intro v39 M40 l41 h42
      replace hG := hG.mono l41
      obtain ⟨t43, e48, H⟩ := bnd H
      refine w_call cf83 trivial rfl rfl (fun w hs => ref02_Sum.calls hs hG (bytesI p0) v39 h42 _ e48) ?_
      rintro _ M45 l46 rfl
      replace hG := hG.mono l46
      replace h42 := h42.mono l46
      obtain ⟨t49, e54, H⟩ := bnd H
      refine w_call cf82 trivial rfl rfl (fun w hs => ref02_Bytes32.calls hs t43 _ e54) ?_
      rintro _ M51 l52 rfl
      replace hG := hG.mono l52
      replace h42 := h42.mono l52
      refine w_val trivial rfl (fun a w hf hs => r_assign (hf.ev rfl)) ?_
      refine w_nil ?_
      intro a w' hf hs
      exact ⟨t49, _, (l41.trans (l46.trans l52)), ((hf.nil.add (hf.get _ _ rfl)).add (hf.get _ _ rfl)), hs.selD [] (by decide) rfl, H⟩
    · replace H := if_f b38 H
      refine c_skip ?_
      intro a w' hf hs
      exact ⟨p0, _, (HLe.refl _), ((hf.nil.add (hf.get _ _ rfl)).add (hf.get _ _ rfl)), hs.selD [] (by decide) rfl, H⟩
  · rintro a w' ⟨x3, M4, l5, hf, hs, H⟩
    refine c_of (c := (Cx.mk Tryd.prog 35 none' M w)) ?_ hf hs
    unfold ref02_padKey.j4 at H
    clear hf hs
    replace hG := hG.mono l5
    refine c_seq ?_
    intro K6 hK6
    refine c_reg ?_
    refine w_val trivial rfl (fun a w hf hs => r_assign (hf.ev rfl)) ?_
    refine w_nil (hK6 _ _ _ ?_)
    refine c_row0 5 1 ?_
    refine c_cut (fun a' w' => ∃ (x7 : (List Int)) (v8 : Value) (M9 : Heap), HLe M4 M9 ∧ Fr 35 [(6, v8)] a' ∧ St none' M w M9 (lt [rowI (FI .u8) v8 5 x7]) w' ∧ ref02_padKey.j1 x7 = some r) ?_ ?_
    · refine c_seq ?_
      intro K12 hK12
      refine c_reg ?_
      refine w_val trivial rfl (fun a w hf hs => r_assign (hf.ev rfl)) ?_
      refine w_nil (hK12 _ _ _ ?_)
      refine c_block ?_
      refine c_loop (fun (s13 : ((List Int) × Int)) a' w' => ∃ (v14 : Value) (M15 : Heap), HLe M4 M15 ∧ Fr 35 [(1, (.int .u8 p1)), (5, (str x3)), (6, v14), (7, (.int .i64 s13.2))] a' ∧ St none' M w M15 (lt [rowI (FI .u8) v14 5 s13.1]) w') (([] : (List Int)), (0 : Int)) H ?_ ?_
      · intro a w' hf hs
        exact ⟨(.slice none 0 0), _, HLe.refl _, ((((hf.nil.add (hf.get _ _ rfl)).add (hf.get _ _ rfl)).add (hf.get _ _ rfl)).add (hf.get _ _ rfl)), hs.selD [some 0] (by decide) rfl⟩
      · clear H
        intro s13 y18 H r17 a w' hJ
        obtain ⟨v14, M15, l16, hf, hs⟩ := hJ
        refine c_of (c := (Cx.mk Tryd.prog 35 none' M w)) ?_ hf hs
        unfold ref02_padKey.l3 at H
        clear hf hs
        replace hG := hG.mono l16
        refine c_seq ?_
        intro K19 hK19
        refine c_seq ?_
        intro K20 hK20
        refine c_reg ?_
        refine w_val trivial rfl (fun a w hf hs => r_move (hf.ev rfl)) ?_
        refine w_val trivial rfl (fun a w hf hs => r_lss (hf.ev rfl) (hf.ev rfl)) ?_
        refine w_nil (hK20 _ _ _ ?_)
        refine c_if rfl (fun b21 => ?_) (fun b21 => ?_)
        · replace H := if_t b21 H
          refine c_skip (hK19 _ _ _ ?_)
          refine c_seq ?_
          intro K22 hK22
          refine c_block ?_
          refine c_seq ?_
          intro K23 hK23
          refine c_reg ?_
          refine w_val trivial rfl (fun a w hf hs => r_assign (hf.ev rfl)) ?_
          refine w_nil (hK23 _ _ _ ?_)
          refine c_cut (fun a' w' => ∃ (x24 : Int) (M25 : Heap), HLe M15 M25 ∧ Fr 35 [(1, (.int .u8 p1)), (5, (str x3)), (6, v14), (7, (.int .i64 s13.2)), (8, (.int .u8 x24))] a' ∧ St none' M w M25 (lt [rowI (FI .u8) v14 5 s13.1]) w' ∧ ref02_padKey.j2 s13 x24 p1 = some y18) ?_ ?_
          · refine c_seq ?_
            intro K34 hK34
            refine c_reg ?_
            refine w_val trivial rfl (fun a w hf hs => r_move (hf.ev rfl)) ?_
            refine w_val trivial rfl (fun a w hf hs => r_move (hf.ev rfl)) ?_
            refine w_val trivial rfl (fun a w hf hs => r_slen Tryd.underlying9 (hf.ev rfl)) ?_
            refine w_val trivial rfl (fun a w hf hs => r_lss (hf.ev rfl) (hf.ev rfl)) ?_
            refine w_nil (hK34 _ _ _ ?_)
            refine c_if rfl (fun b35 => ?_) (fun b35 => ?_)
            · replace H := if_t b35 H
              refine c_reg ?_
              refine w_val trivial rfl (fun a w hf hs => r_move (hf.ev rfl)) ?_
              refine w_val trivial rfl (fun a w hf hs => r_move (hf.ev rfl)) ?_
              obtain ⟨g36, H⟩ := grd_s H
              refine w_val trivial rfl (fun a w hf hs => r_sidx Tryd.underlying9 (hf.ev rfl) (hf.ev rfl) g36.1 g36.2) ?_
              refine w_val trivial rfl (fun a w hf hs => r_assign (hf.ev rfl)) ?_
              refine w_nil ?_
              intro a w' hf hs
              exact ⟨(sbyte x3 s13.2), _, (HLe.refl _), (((((hf.nil.add (hf.get _ _ rfl)).add (hf.get _ _ rfl)).add (hf.get _ _ rfl)).add (hf.get _ _ rfl)).add (hf.get _ _ rfl)), hs.selD [some 0] (by decide) rfl, H⟩
            · replace H := if_f b35 H
              refine c_skip ?_
              intro a w' hf hs
              exact ⟨(0 : Int), _, (HLe.refl _), (((((hf.nil.add (hf.get _ _ rfl)).add (hf.get _ _ rfl)).add (hf.get _ _ rfl)).add (hf.get _ _ rfl)).add (hf.get _ _ rfl)), hs.selD [some 0] (by decide) rfl, H⟩
          · rintro a w' ⟨x24, M25, l26, hf, hs, H⟩
            refine c_of (c := (Cx.mk Tryd.prog 35 none' M w)) ?_ hf hs
            unfold ref02_padKey.j2 at H
            clear hf hs
            replace hG := hG.mono l26
            refine c_reg ?_
            refine w_val trivial rfl (fun a w hf hs => r_move (hf.ev rfl)) ?_
            refine w_val trivial rfl (fun a w hf hs => r_move (hf.ev rfl)) ?_
            refine w_val trivial rfl (fun a w hf hs => r_move (hf.ev rfl)) ?_
            refine w_val trivial rfl (fun a w hf hs => r_xor (hf.ev rfl) (hf.ev rfl)) ?_
            refine w_bsl (F := (FI .u8)) (es := ([(bits .xor .u8 x24 p1)] : List Int)) (xs := [.tmp 31]) (vs := [(.int .u8 (bits .xor .u8 x24 p1))]) Tryd.underlying66 te5 trivial rfl rfl rfl rfl rfl (by decide) ?_
            intro v27 M28 l29 h30 c31
            replace hG := hG.mono l29
            obtain ⟨g32, H⟩ := grd_s H
            refine w_app (F := (FI .u8)) (m2 := ([(bits .xor .u8 x24 p1)] : List Int)) (i := 0) Tryd.underlying66 te5 Tryd.underlying66 (.inl ⟨_, rfl⟩) trivial rfl rfl rfl rfl (Src.rs (FI.one _) h30) g32 ?_
            intro v33
            refine w_val trivial rfl (fun a w hf hs => r_assign (hf.ev rfl)) ?_
            refine w_nil (hK22 _ _ _ ?_)
            refine c_reg ?_
            refine w_val trivial rfl (fun a w hf hs => r_move (hf.ev rfl)) ?_
            refine w_val trivial rfl (fun a w hf hs => r_add (hf.ev rfl) (hf.ev rfl)) ?_
            refine w_val trivial rfl (fun a w hf hs => r_assign (hf.ev rfl)) ?_
            refine w_nil ?_
            intro a w' hf hs
            exact ⟨_, (some_r H).symm, v33, _, l16.trans (l26.trans l29), ((((hf.nil.add (hf.get _ _ rfl)).add (hf.get _ _ rfl)).add (hf.get _ _ rfl)).add (hf.get _ _ rfl)), hs.selD [some 0] (by decide) rfl⟩
        · replace H := if_f b21 H
          replace H := map_inr H r17
          refine c_exit ?_
          intro a w' hf hs
          exact ⟨s13.1, v14, _, l16, (hf.nil.add (hf.get _ _ rfl)), hs.selD [some 0] (by decide) rfl, H⟩
    · rintro a w' ⟨x7, v8, M9, l10, hf, hs, H⟩
      refine c_of (c := (Cx.mk Tryd.prog 35 none' M w)) ?_ hf hs
      unfold ref02_padKey.j1 at H
      clear hf hs
      replace hG := hG.mono l10
      refine c_seq ?_
      intro K11 hK11
      refine c_reg ?_
      refine w_val trivial rfl (fun a w hf hs => r_move (hf.ev rfl)) ?_
      refine w_val trivial rfl (fun a w hf hs => r_assign (hf.ev rfl)) ?_
      refine w_nil (hK11 _ _ _ ?_)
      obtain rfl := some_r H
      refine c_ret ?_
      intro a w' hf hs
      exact hret _ (.inl rfl) a w' hf.df ⟨_, _, _, Res.of1 rfl (RV.t hf rfl), hs.sel [0] (by decide) rfl, rfl⟩
theorem ref02_padKey.calls {M : Heap} {w : World} (hM : Sub M w) (hG : Gl M) (p0 : (List UInt8)) (p1 : Int) (r : (List Int)) (H : ref02_padKey p0 p1 = some r) :
    Calls Tryd.prog 81 [(str p0), (.int .u8 p1)].toArray w (Post M w fun M' v => ∃ v55, v = v55 ∧ RS (FI .u8) M' v55 r) := by
  exact postR (ref02_padKey.callsR hM hG p0 p1 r H)
set_option maxRecDepth 20000 in
theorem ref02_Mac.calls {M : Heap} {w : World} (hM : Sub M w) (hG : Gl M) (p0 : (List UInt8)) (p1 : (List UInt8)) (r : (List UInt8)) (H : ref02_Mac p0 p1 = some r) :
    Calls Tryd.prog 37 [(str p0), (str p1)].toArray w (Post M w fun M' v => v = (str r)) := by
  refine enter 22 [(0, (str p0)), (1, (str p1))] Tryd.func37 rfl rfl rfl hM ?_
  intro Q hret
  unfold ref02_Mac at H
  refine c_seq ?_
  intro K1 hK1
  refine c_reg ?_
  refine w_val trivial rfl (fun a w hf hs => r_assign (hf.ev rfl)) ?_
  refine w_nil (hK1 _ _ _ ?_)
  refine c_seq ?_
  intro K2 hK2
  refine c_reg ?_
  refine w_val trivial rfl (fun a w hf hs => r_move (hf.ev rfl)) ?_
  obtain ⟨t3, e4, H⟩ := bnd H
  refine w_callR cf81 trivial rfl rfl (fun w hs => ref02_padKey.callsR hs hG p0 (54 : Int) _ e4) ?_
  rintro v7 M5 _ l6 rfl
  replace hG := hG.mono l6
  refine w_val trivial rfl (fun a w hf hs => r_assign (hf.ev rfl)) ?_
  refine w_nil (hK2 _ _ _ ?_)
  refine c_seq ?_
  intro K8 hK8
  refine c_reg ?_
  refine w_val trivial rfl (fun a w hf hs => r_move (hf.ev rfl)) ?_
  refine w_val trivial rfl (fun a w hf hs => r_move (hf.ev rfl)) ?_
  obtain ⟨g9, H⟩ := grd_s H
  refine w_app (F := (FI .u8)) (m2 := (bytesI p1)) (i := 0) Tryd.underlying66 te5 Tryd.underlying9 (.inr rfl) trivial rfl rfl rfl rfl (srcStrB _) g9 ?_
  intro v10
  refine w_val trivial rfl (fun a w hf hs => r_assign (hf.ev rfl)) ?_
  refine w_nil (hK8 _ _ _ ?_)
  refine c_seq ?_
  intro K11 hK11
  refine c_reg ?_
  refine w_val trivial rfl (fun a w hf hs => r_move (hf.ev rfl)) ?_
  obtain ⟨t12, e13, H⟩ := bnd H
  refine w_callR cf81 trivial rfl rfl (fun w hs => ref02_padKey.callsR hs hG p0 (92 : Int) _ e13) ?_
  rintro v16 M14 _ l15 rfl
  replace hG := hG.mono l15
  refine w_val trivial rfl (fun a w hf hs => r_assign (hf.ev rfl)) ?_
  refine w_nil (hK11 _ _ _ ?_)
  refine c_seq ?_
  intro K17 hK17
  refine c_reg ?_
  refine w_val trivial rfl (fun a w hf hs => r_move (hf.ev rfl)) ?_
  refine w_val trivial rfl (fun a w hf hs => r_move (hf.ev rfl)) ?_
  obtain ⟨t21, e26, H⟩ := bnd H
  refine w_give 0 rfl (fun _ h => h) ?_
  intro M18 l19 h20
  replace hG := hG.mono l19
  refine w_call cf83 trivial rfl rfl (fun w hs => ref02_Sum.calls hs hG (t3 ++ (bytesI p1)) v10 h20 _ e26) ?_
  rintro _ M23 l24 rfl
  replace hG := hG.mono l24
  replace h20 := h20.mono l24
  obtain ⟨t27, e32, H⟩ := bnd H
  refine w_call cf82 trivial rfl rfl (fun w hs => ref02_Bytes32.calls hs t21 _ e32) ?_
  rintro _ M29 l30 rfl
  replace hG := hG.mono l30
  replace h20 := h20.mono l30
  obtain ⟨g33, H⟩ := grd_s H
  refine w_app (F := (FI .u8)) (m2 := (bytesI t27)) (i := 1) Tryd.underlying66 te5 Tryd.underlying9 (.inr rfl) trivial rfl rfl rfl rfl (srcStrB _) g33 ?_
  intro v34
  refine w_val trivial rfl (fun a w hf hs => r_assign (hf.ev rfl)) ?_
  refine w_nil (hK17 _ _ _ ?_)
  refine c_seq ?_
  intro K35 hK35
  refine c_reg ?_
  refine w_val trivial rfl (fun a w hf hs => r_move (hf.ev rfl)) ?_
  obtain ⟨t39, e44, H⟩ := bnd H
  refine w_give 1 rfl (fun _ h => h) ?_
  intro M36 l37 h38
  replace hG := hG.mono l37
  replace h20 := h20.mono l37
  refine w_call cf83 trivial rfl rfl (fun w hs => ref02_Sum.calls hs hG (t12 ++ (bytesI t27)) v34 h38 _ e44) ?_
  rintro _ M41 l42 rfl
  replace hG := hG.mono l42
  replace h20 := h20.mono l42
  replace h38 := h38.mono l42
  obtain ⟨t45, e50, H⟩ := bnd H
  refine w_call cf82 trivial rfl rfl (fun w hs => ref02_Bytes32.calls hs t39 _ e50) ?_
  rintro _ M47 l48 rfl
  replace hG := hG.mono l48
  replace h20 := h20.mono l48
  replace h38 := h38.mono l48
  refine w_val trivial rfl (fun a w hf hs => r_assign (hf.ev rfl)) ?_
  refine w_nil (hK35 _ _ _ ?_)
  obtain rfl := some_r H
  refine c_ret ?_
  intro a w' hf hs
  exact hret _ (.inl rfl) a w' hf.df ⟨_, _, Res.of1 rfl (RV.t hf rfl), hs.ext, rfl⟩
set_option maxRecDepth 20000 in
theorem ref04_Keys.calls {M : Heap} {w : World} (hM : Sub M w) (hG : Gl M) (p0 : (List UInt8)) (r : ((List UInt8) × (List UInt8) × Int)) (H : ref04_Keys p0 = some r) :
    Calls Tryd.prog 14 [(str p0)].toArray w (Post M w fun M' v => v = .tuple #[(str r.1), (str r.2.1), (.int .i64 r.2.2)]) := by
  refine enter 12 [(0, (str p0))] Tryd.func14 rfl rfl rfl hM ?_
  intro Q hret
  unfold ref04_Keys at H
  refine c_seq ?_
  intro K1 hK1
  refine c_reg ?_
  refine w_val trivial rfl (fun a w hf hs => r_assign (hf.ev rfl)) ?_
  refine w_val trivial rfl (fun a w hf hs => r_assign (hf.ev rfl)) ?_
  refine w_val trivial rfl (fun a w hf hs => r_assign (hf.ev rfl)) ?_
  refine w_nil (hK1 _ _ _ ?_)
  refine c_seq ?_
  intro K2 hK2
  refine c_seq ?_
  intro K3 hK3
  refine c_reg ?_
  refine w_val trivial rfl (fun a w hf hs => r_move (hf.ev rfl)) ?_
  refine w_val trivial rfl (fun a w hf hs => r_slen Tryd.underlying9 (hf.ev rfl)) ?_
  refine w_val trivial rfl (fun a w hf hs => r_neq (hf.ev rfl) (hf.ev rfl)) ?_
  refine w_nil (hK3 _ _ _ ?_)
  refine c_if rfl (fun b4 => ?_) (fun b4 => ?_)
  · replace H := if_t b4 H
    refine c_seq ?_
    intro K5 hK5
    refine c_reg ?_
    refine w_val trivial rfl (fun a w hf hs => r_assign (hf.ev rfl)) ?_
    refine w_val trivial rfl (fun a w hf hs => r_assign (hf.ev rfl)) ?_
    refine w_val trivial rfl (fun a w hf hs => r_assign (hf.ev rfl)) ?_
    refine w_nil (hK5 _ _ _ ?_)
    obtain rfl := some_r H
    refine c_ret ?_
    intro a w' hf hs
    exact hret _ (.inl rfl) a w' hf.df ⟨_, _, Res.of3 rfl (RV.t hf rfl) (RV.t hf rfl) (RV.t hf rfl), hs.ext, rfl⟩
  · replace H := if_f b4 H
    refine c_skip (hK2 _ _ _ ?_)
    refine c_seq ?_
    intro K6 hK6
    refine c_reg ?_
    refine w_val trivial rfl (fun a w hf hs => r_move (hf.ev rfl)) ?_
    obtain ⟨t7, e12, H⟩ := bnd H
    refine w_call cf37 trivial rfl rfl (fun w hs => ref02_Mac.calls hs hG p0 ([101, 110, 99] : List UInt8) _ e12) ?_
    rintro _ M9 l10 rfl
    replace hG := hG.mono l10
    refine w_val trivial rfl (fun a w hf hs => r_move (hf.ev rfl)) ?_
    obtain ⟨t13, e18, H⟩ := bnd H
    refine w_call cf37 trivial rfl rfl (fun w hs => ref02_Mac.calls hs hG p0 ([109, 97, 99] : List UInt8) _ e18) ?_
    rintro _ M15 l16 rfl
    replace hG := hG.mono l16
    refine w_val trivial rfl (fun a w hf hs => r_assign (hf.ev rfl)) ?_
    refine w_val trivial rfl (fun a w hf hs => r_assign (hf.ev rfl)) ?_
    refine w_val trivial rfl (fun a w hf hs => r_assign (hf.ev rfl)) ?_
    refine w_nil (hK6 _ _ _ ?_)
    obtain rfl := some_r H
    refine c_ret ?_
    intro a w' hf hs
    exact hret _ (.inl rfl) a w' hf.df ⟨_, _, Res.of3 rfl (RV.t hf rfl) (RV.t hf rfl) (RV.t hf rfl), hs.ext, rfl⟩
set_option maxRecDepth 20000 in
theorem ref01_Int.callsR {M : Heap} {w : World} (hM : Sub M w) (p0 : Int) (r : (List Int)) (H : ref01_Int p0 = some r) :
    Calls Tryd.prog 121 [(.int .i64 p0)].toArray w (PostI none' M w fun M' x v => x = rowI (FI .u8) v 5 r) := by
  refine enterR 59 [(0, (.int .i64 p0))] Tryd.func121 rfl rfl rfl hM ?_
  intro Q hret
  unfold ref01_Int at H
  refine c_seq ?_
  intro K1 hK1
  refine c_reg ?_
  refine w_val trivial rfl (fun a w hf hs => r_assign (hf.ev rfl)) ?_
  refine w_nil (hK1 _ _ _ ?_)
  refine c_seq ?_
  intro K2 hK2
  refine c_reg ?_
  refine w_val trivial rfl (fun a w hf hs => r_move (hf.ev rfl)) ?_
  refine w_val trivial rfl (fun a w hf hs => r_assign (hf.ev rfl)) ?_
  refine w_nil (hK2 _ _ _ ?_)
  refine c_cut (fun a' w' => ∃ (x3 : Int) (M4 : Heap), HLe M M4 ∧ Fr 59 [(0, (.int .i64 p0)), (3, (.int .i64 x3))] a' ∧ St none' M w M4 (lt []) w' ∧ ref01_Int.j7 p0 x3 = some r) ?_ ?_
  · refine c_seq ?_
    intro K80 hK80
    refine c_reg ?_
    refine w_val trivial rfl (fun a w hf hs => r_move (hf.ev rfl)) ?_
    refine w_val trivial rfl (fun a w hf hs => r_lss (hf.ev rfl) (hf.ev rfl)) ?_
    refine w_nil (hK80 _ _ _ ?_)
    refine c_if rfl (fun b81 => ?_) (fun b81 => ?_)
    · replace H := if_t b81 H
      refine c_reg ?_
      refine w_val trivial rfl (fun a w hf hs => r_move (hf.ev rfl)) ?_
      refine w_val trivial rfl (fun a w hf hs => r_sub (hf.ev rfl) (hf.ev rfl)) ?_
      refine w_val trivial rfl (fun a w hf hs => r_assign (hf.ev rfl)) ?_
      refine w_nil ?_
      intro a w' hf hs
      exact ⟨(IntKind.i64.wrap ((-1 : Int) - p0)), _, (HLe.refl _), ((hf.nil.add (hf.get _ _ rfl)).add (hf.get _ _ rfl)), hs.selD [] (by decide) rfl, H⟩
    · replace H := if_f b81 H
      refine c_skip ?_
      intro a w' hf hs
      exact ⟨p0, _, (HLe.refl _), ((hf.nil.add (hf.get _ _ rfl)).add (hf.get _ _ rfl)), hs.selD [] (by decide) rfl, H⟩
  · rintro a w' ⟨x3, M4, l5, hf, hs, H⟩
    refine c_of (c := (Cx.mk Tryd.prog 59 none' M w)) ?_ hf hs
    unfold ref01_Int.j7 at H
    clear hf hs
    refine c_seq ?_
    intro K6 hK6
    refine c_reg ?_
    refine w_val trivial rfl (fun a w hf hs => r_assign (hf.ev rfl)) ?_
    refine w_nil (hK6 _ _ _ ?_)
    refine c_row0 5 1 ?_
    refine c_cut (fun a' w' => ∃ (x7 : (List Int)) (v8 : Value) (M9 : Heap), HLe M4 M9 ∧ Fr 59 [(0, (.int .i64 p0)), (4, v8)] a' ∧ St none' M w M9 (lt [rowI (FI .u8) v8 5 x7]) w' ∧ ref01_Int.j5 p0 x7 = some r) ?_ ?_
    · refine c_block ?_
      refine c_loop (fun (s63 : ((List Int) × Int)) a' w' => ∃ (v64 : Value) (M65 : Heap), HLe M4 M65 ∧ Fr 59 [(0, (.int .i64 p0)), (3, (.int .i64 s63.2)), (4, v64)] a' ∧ St none' M w M65 (lt [rowI (FI .u8) v64 5 s63.1]) w') (([] : (List Int)), x3) H ?_ ?_
      · intro a w' hf hs
        exact ⟨(.slice none 0 0), _, HLe.refl _, (((hf.nil.add (hf.get _ _ rfl)).add (hf.get _ _ rfl)).add (hf.get _ _ rfl)), hs.selD [some 0] (by decide) rfl⟩
      · clear H
        intro s63 y68 H r67 a w' hJ
        obtain ⟨v64, M65, l66, hf, hs⟩ := hJ
        refine c_of (c := (Cx.mk Tryd.prog 59 none' M w)) ?_ hf hs
        unfold ref01_Int.l6 at H
        clear hf hs
        refine c_seq ?_
        intro K69 hK69
        refine c_seq ?_
        intro K70 hK70
        refine c_reg ?_
        refine w_val trivial rfl (fun a w hf hs => r_move (hf.ev rfl)) ?_
        refine w_val trivial rfl (fun a w hf hs => r_gtr (hf.ev rfl) (hf.ev rfl)) ?_
        refine w_nil (hK70 _ _ _ ?_)
        refine c_if rfl (fun b71 => ?_) (fun b71 => ?_)
        · replace H := if_t b71 H
          refine c_skip (hK69 _ _ _ ?_)
          refine c_block ?_
          refine c_seq ?_
          intro K72 hK72
          refine c_reg ?_
          refine w_val trivial rfl (fun a w hf hs => r_move (hf.ev rfl)) ?_
          refine w_val trivial rfl (fun a w hf hs => r_move (hf.ev rfl)) ?_
          refine w_val trivial rfl (fun a w hf hs => r_rem (hf.ev rfl) (hf.ev rfl) (by decide)) ?_
          refine w_val trivial rfl (fun a w hf hs => r_conv Tryd.underlying3 Tryd.underlying5 (hf.ev rfl)) ?_
          refine w_bsl (F := (FI .u8)) (es := ([(IntKind.u8.wrap (Int.tmod s63.2 (256 : Int)))] : List Int)) (xs := [.tmp 19]) (vs := [(.int .u8 (IntKind.u8.wrap (Int.tmod s63.2 (256 : Int))))]) Tryd.underlying66 te5 trivial rfl rfl rfl rfl rfl (by decide) ?_
          intro v73 M74 l75 h76 c77
          obtain ⟨g78, H⟩ := grd_s H
          refine w_app (F := (FI .u8)) (m2 := ([(IntKind.u8.wrap (Int.tmod s63.2 (256 : Int)))] : List Int)) (i := 0) Tryd.underlying66 te5 Tryd.underlying66 (.inl ⟨_, rfl⟩) trivial rfl rfl rfl rfl (Src.rs (FI.one _) h76) g78 ?_
          intro v79
          refine w_val trivial rfl (fun a w hf hs => r_assign (hf.ev rfl)) ?_
          refine w_nil (hK72 _ _ _ ?_)
          refine c_reg ?_
          refine w_val trivial rfl (fun a w hf hs => r_move (hf.ev rfl)) ?_
          refine w_val trivial rfl (fun a w hf hs => r_quo (hf.ev rfl) (hf.ev rfl) (by decide)) ?_
          refine w_val trivial rfl (fun a w hf hs => r_assign (hf.ev rfl)) ?_
          refine w_nil ?_
          intro a w' hf hs
          exact ⟨_, (some_r H).symm, v79, _, l66.trans l75, (((hf.nil.add (hf.get _ _ rfl)).add (hf.get _ _ rfl)).add (hf.get _ _ rfl)), hs.selD [some 0] (by decide) rfl⟩
        · replace H := if_f b71 H
          replace H := map_inr H r67
          refine c_exit ?_
          intro a w' hf hs
          exact ⟨s63.1, v64, _, l66, ((hf.nil.add (hf.get _ _ rfl)).add (hf.get _ _ rfl)), hs.selD [some 0] (by decide) rfl, H⟩
    · rintro a w' ⟨x7, v8, M9, l10, hf, hs, H⟩
      refine c_of (c := (Cx.mk Tryd.prog 59 none' M w)) ?_ hf hs
      unfold ref01_Int.j5 at H
      clear hf hs
      refine c_seq ?_
      intro K11 hK11
      refine c_reg ?_
      refine w_val trivial rfl (fun a w hf hs => r_move (hf.ev rfl)) ?_
      refine w_val trivial rfl (fun a w hf hs => r_lenW 0 hs rfl Tryd.underlying66 (hf.ev rfl)) ?_
      refine w_val trivial rfl (fun a w hf hs => r_assign (hf.ev rfl)) ?_
      refine w_nil (hK11 _ _ _ ?_)
      refine c_seq ?_
      intro K12 hK12
      refine c_reg ?_
      refine w_val trivial rfl (fun a w hf hs => r_assign (hf.ev rfl)) ?_
      refine w_nil (hK12 _ _ _ ?_)
      refine c_row0 5 1 ?_
      refine c_cut (fun a' w' => ∃ (x13 : (List Int)) (v14 : Value) (M15 : Heap), HLe M9 M15 ∧ Fr 59 [(0, (.int .i64 p0)), (4, v8), (5, (.int .i64 (x7.length : Int))), (6, v14)] a' ∧ St none' M w M15 (lt [rowI (FI .u8) v8 5 x7, rowI (FI .u8) v14 5 x13]) w' ∧ ref01_Int.j4 x7 p0 x13 = some r) ?_ ?_
      · refine c_seq ?_
        intro K47 hK47
        refine c_reg ?_
        refine w_val trivial rfl (fun a w hf hs => r_move (hf.ev rfl)) ?_
        refine w_val trivial rfl (fun a w hf hs => r_geq (hf.ev rfl) (hf.ev rfl)) ?_
        refine w_nil (hK47 _ _ _ ?_)
        refine c_if rfl (fun b48 => ?_) (fun b48 => ?_)
        · replace H := if_t b48 H
          refine c_reg ?_
          refine w_val trivial rfl (fun a w hf hs => r_move (hf.ev rfl)) ?_
          refine w_val trivial rfl (fun a w hf hs => r_move (hf.ev rfl)) ?_
          refine w_val trivial rfl (fun a w hf hs => r_add (hf.ev rfl) (hf.ev rfl)) ?_
          refine w_val trivial rfl (fun a w hf hs => r_conv Tryd.underlying3 Tryd.underlying5 (hf.ev rfl)) ?_
          refine w_bsl (F := (FI .u8)) (es := ([(IntKind.u8.wrap (IntKind.i64.wrap ((128 : Int) + (x7.length : Int))))] : List Int)) (xs := [.tmp 31]) (vs := [(.int .u8 (IntKind.u8.wrap (IntKind.i64.wrap ((128 : Int) + (x7.length : Int)))))]) Tryd.underlying66 te5 trivial rfl rfl rfl rfl rfl (by decide) ?_
          intro v49 M50 l51 h52 c53
          obtain ⟨g54, H⟩ := grd_s H
          refine w_app (F := (FI .u8)) (m2 := ([(IntKind.u8.wrap (IntKind.i64.wrap ((128 : Int) + (x7.length : Int))))] : List Int)) (i := 1) Tryd.underlying66 te5 Tryd.underlying66 (.inl ⟨_, rfl⟩) trivial rfl rfl rfl rfl (Src.rs (FI.one _) h52) g54 ?_
          intro v55
          refine w_val trivial rfl (fun a w hf hs => r_assign (hf.ev rfl)) ?_
          refine w_nil ?_
          intro a w' hf hs
          exact ⟨(([] : (List Int)) ++ ([(IntKind.u8.wrap (IntKind.i64.wrap ((128 : Int) + (x7.length : Int))))] : List Int)), v55, _, l51, ((((hf.nil.add (hf.get _ _ rfl)).add (hf.get _ _ rfl)).add (hf.get _ _ rfl)).add (hf.get _ _ rfl)), hs.selD [some 0, some 1] (by decide) rfl, H⟩
        · replace H := if_f b48 H
          refine c_reg ?_
          refine w_val trivial rfl (fun a w hf hs => r_move (hf.ev rfl)) ?_
          refine w_val trivial rfl (fun a w hf hs => r_move (hf.ev rfl)) ?_
          refine w_val trivial rfl (fun a w hf hs => r_sub (hf.ev rfl) (hf.ev rfl)) ?_
          refine w_val trivial rfl (fun a w hf hs => r_conv Tryd.underlying3 Tryd.underlying5 (hf.ev rfl)) ?_
          refine w_bsl (F := (FI .u8)) (es := ([(IntKind.u8.wrap (IntKind.i64.wrap ((127 : Int) - (x7.length : Int))))] : List Int)) (xs := [.tmp 37]) (vs := [(.int .u8 (IntKind.u8.wrap (IntKind.i64.wrap ((127 : Int) - (x7.length : Int)))))]) Tryd.underlying66 te5 trivial rfl rfl rfl rfl rfl (by decide) ?_
          intro v56 M57 l58 h59 c60
          obtain ⟨g61, H⟩ := grd_s H
          refine w_app (F := (FI .u8)) (m2 := ([(IntKind.u8.wrap (IntKind.i64.wrap ((127 : Int) - (x7.length : Int))))] : List Int)) (i := 1) Tryd.underlying66 te5 Tryd.underlying66 (.inl ⟨_, rfl⟩) trivial rfl rfl rfl rfl (Src.rs (FI.one _) h59) g61 ?_
          intro v62
          refine w_val trivial rfl (fun a w hf hs => r_assign (hf.ev rfl)) ?_
          refine w_nil ?_
          intro a w' hf hs
          exact ⟨(([] : (List Int)) ++ ([(IntKind.u8.wrap (IntKind.i64.wrap ((127 : Int) - (x7.length : Int))))] : List Int)), v62, _, l58, ((((hf.nil.add (hf.get _ _ rfl)).add (hf.get _ _ rfl)).add (hf.get _ _ rfl)).add (hf.get _ _ rfl)), hs.selD [some 0, some 1] (by decide) rfl, H⟩
      · rintro a w' ⟨x13, v14, M15, l16, hf, hs, H⟩
        refine c_of (c := (Cx.mk Tryd.prog 59 none' M w)) ?_ hf hs
        unfold ref01_Int.j4 at H
        clear hf hs
        refine c_cut (fun a' w' => ∃ (x17 : (List Int)) (v18 : Value) (M19 : Heap), HLe M15 M19 ∧ Fr 59 [(6, v18)] a' ∧ St none' M w M19 (lt [dead, rowI (FI .u8) v18 5 x17]) w' ∧ ref01_Int.j1 x17 = some r) ?_ ?_
        · refine c_seq ?_
          intro K22 hK22
          refine c_reg ?_
          refine w_val trivial rfl (fun a w hf hs => r_move (hf.ev rfl)) ?_
          refine w_val trivial rfl (fun a w hf hs => r_sub (hf.ev rfl) (hf.ev rfl)) ?_
          refine w_val trivial rfl (fun a w hf hs => r_assign (hf.ev rfl)) ?_
          refine w_nil (hK22 _ _ _ ?_)
          refine c_block ?_
          refine c_loop (fun (s23 : ((List Int) × Int)) a' w' => ∃ (v24 : Value) (M25 : Heap), HLe M15 M25 ∧ Fr 59 [(0, (.int .i64 p0)), (4, v8), (6, v24), (7, (.int .i64 s23.2))] a' ∧ St none' M w M25 (lt [rowI (FI .u8) v8 5 x7, rowI (FI .u8) v24 5 s23.1]) w') (x13, (IntKind.i64.wrap ((x7.length : Int) - (1 : Int)))) H ?_ ?_
          · intro a w' hf hs
            exact ⟨v14, _, HLe.refl _, ((((hf.nil.add (hf.get _ _ rfl)).add (hf.get _ _ rfl)).add (hf.get _ _ rfl)).add (hf.get _ _ rfl)), hs.selD [some 0, some 1] (by decide) rfl⟩
          · clear H
            intro s23 y28 H r27 a w' hJ
            obtain ⟨v24, M25, l26, hf, hs⟩ := hJ
            refine c_of (c := (Cx.mk Tryd.prog 59 none' M w)) ?_ hf hs
            unfold ref01_Int.l3 at H
            clear hf hs
            refine c_seq ?_
            intro K29 hK29
            refine c_seq ?_
            intro K30 hK30
            refine c_reg ?_
            refine w_val trivial rfl (fun a w hf hs => r_move (hf.ev rfl)) ?_
            refine w_val trivial rfl (fun a w hf hs => r_geq (hf.ev rfl) (hf.ev rfl)) ?_
            refine w_nil (hK30 _ _ _ ?_)
            refine c_if rfl (fun b31 => ?_) (fun b31 => ?_)
            · replace H := if_t b31 H
              refine c_skip (hK29 _ _ _ ?_)
              refine c_seq ?_
              intro K32 hK32
              refine c_block ?_
              refine c_seq ?_
              intro K33 hK33
              refine c_reg ?_
              refine w_val trivial rfl (fun a w hf hs => r_move (hf.ev rfl)) ?_
              refine w_val trivial rfl (fun a w hf hs => r_move (hf.ev rfl)) ?_
              obtain ⟨g34, H⟩ := grd_s H
              refine w_val trivial rfl (fun a w hf hs => r_iW 0 hs rfl Tryd.underlying66 ts5 (hf.ev rfl) (hf.ev rfl) g34.1 g34.2) ?_
              refine w_val trivial rfl (fun a w hf hs => r_loadW1 0 ta5 hs rfl g34.1 g34.2 (hf.ev rfl) rfl) ?_
              refine w_val trivial rfl (fun a w hf hs => r_assign (hf.ev rfl)) ?_
              refine w_nil (hK33 _ _ _ ?_)
              refine c_cut (fun a' w' => ∃ (x35 : Int) (M36 : Heap), HLe M25 M36 ∧ Fr 59 [(0, (.int .i64 p0)), (4, v8), (6, v24), (7, (.int .i64 s23.2)), (8, (.int .u8 x35))] a' ∧ St none' M w M36 (lt [rowI (FI .u8) v8 5 x7, rowI (FI .u8) v24 5 s23.1]) w' ∧ ref01_Int.j2 s23 x35 = some y28) ?_ ?_
              · refine c_seq ?_
                intro K45 hK45
                refine c_reg ?_
                refine w_val trivial rfl (fun a w hf hs => r_move (hf.ev rfl)) ?_
                refine w_val trivial rfl (fun a w hf hs => r_lss (hf.ev rfl) (hf.ev rfl)) ?_
                refine w_nil (hK45 _ _ _ ?_)
                refine c_if rfl (fun b46 => ?_) (fun b46 => ?_)
                · replace H := if_t b46 H
                  refine c_reg ?_
                  refine w_val trivial rfl (fun a w hf hs => r_move (hf.ev rfl)) ?_
                  refine w_val trivial rfl (fun a w hf hs => r_sub (hf.ev rfl) (hf.ev rfl)) ?_
                  refine w_val trivial rfl (fun a w hf hs => r_assign (hf.ev rfl)) ?_
                  refine w_nil ?_
                  intro a w' hf hs
                  exact ⟨(IntKind.u8.wrap ((255 : Int) - (rd x7 s23.2))), _, (HLe.refl _), (((((hf.nil.add (hf.get _ _ rfl)).add (hf.get _ _ rfl)).add (hf.get _ _ rfl)).add (hf.get _ _ rfl)).add (hf.get _ _ rfl)), hs.selD [some 0, some 1] (by decide) rfl, H⟩
                · replace H := if_f b46 H
                  refine c_skip ?_
                  intro a w' hf hs
                  exact ⟨(rd x7 s23.2), _, (HLe.refl _), (((((hf.nil.add (hf.get _ _ rfl)).add (hf.get _ _ rfl)).add (hf.get _ _ rfl)).add (hf.get _ _ rfl)).add (hf.get _ _ rfl)), hs.selD [some 0, some 1] (by decide) rfl, H⟩
              · rintro a w' ⟨x35, M36, l37, hf, hs, H⟩
                refine c_of (c := (Cx.mk Tryd.prog 59 none' M w)) ?_ hf hs
                unfold ref01_Int.j2 at H
                clear hf hs
                refine c_reg ?_
                refine w_val trivial rfl (fun a w hf hs => r_move (hf.ev rfl)) ?_
                refine w_val trivial rfl (fun a w hf hs => r_move (hf.ev rfl)) ?_
                refine w_bsl (F := (FI .u8)) (es := ([x35] : List Int)) (xs := [.tmp 55]) (vs := [(.int .u8 x35)]) Tryd.underlying66 te5 trivial rfl rfl rfl rfl rfl (by decide) ?_
                intro v38 M39 l40 h41 c42
                obtain ⟨g43, H⟩ := grd_s H
                refine w_app (F := (FI .u8)) (m2 := ([x35] : List Int)) (i := 1) Tryd.underlying66 te5 Tryd.underlying66 (.inl ⟨_, rfl⟩) trivial rfl rfl rfl rfl (Src.rs (FI.one _) h41) g43 ?_
                intro v44
                refine w_val trivial rfl (fun a w hf hs => r_assign (hf.ev rfl)) ?_
                refine w_nil (hK32 _ _ _ ?_)
                refine c_reg ?_
                refine w_val trivial rfl (fun a w hf hs => r_move (hf.ev rfl)) ?_
                refine w_val trivial rfl (fun a w hf hs => r_sub (hf.ev rfl) (hf.ev rfl)) ?_
                refine w_val trivial rfl (fun a w hf hs => r_assign (hf.ev rfl)) ?_
                refine w_nil ?_
                intro a w' hf hs
                exact ⟨_, (some_r H).symm, v44, _, l26.trans (l37.trans l40), ((((hf.nil.add (hf.get _ _ rfl)).add (hf.get _ _ rfl)).add (hf.get _ _ rfl)).add (hf.get _ _ rfl)), hs.selD [some 0, some 1] (by decide) rfl⟩
            · replace H := if_f b31 H
              replace H := map_inr H r27
              refine c_exit ?_
              intro a w' hf hs
              exact ⟨s23.1, v24, _, l26, (hf.nil.add (hf.get _ _ rfl)), hs.selD [none, some 1] (by decide) rfl, H⟩
        · rintro a w' ⟨x17, v18, M19, l20, hf, hs, H⟩
          refine c_of (c := (Cx.mk Tryd.prog 59 none' M w)) ?_ hf hs
          unfold ref01_Int.j1 at H
          clear hf hs
          refine c_seq ?_
          intro K21 hK21
          refine c_reg ?_
          refine w_val trivial rfl (fun a w hf hs => r_move (hf.ev rfl)) ?_
          refine w_val trivial rfl (fun a w hf hs => r_assign (hf.ev rfl)) ?_
          refine w_nil (hK21 _ _ _ ?_)
          obtain rfl := some_r H
          refine c_ret ?_
          intro a w' hf hs
          exact hret _ (.inl rfl) a w' hf.df ⟨_, _, _, Res.of1 rfl (RV.t hf rfl), hs.sel [1] (by decide) rfl, rfl⟩
theorem ref01_Int.calls {M : Heap} {w : World} (hM : Sub M w) (p0 : Int) (r : (List Int)) (H : ref01_Int p0 = some r) :
    Calls Tryd.prog 121 [(.int .i64 p0)].toArray w (Post M w fun M' v => ∃ v82, v = v82 ∧ RS (FI .u8) M' v82 r) := by
  exact postR (ref01_Int.callsR hM p0 r H)
set_option maxRecDepth 20000 in
theorem ref01_Bytes.callsR {M : Heap} {w : World} (hM : Sub M w) (p0 : (List UInt8)) (r : (List Int)) (H : ref01_Bytes p0 = some r) :
    Calls Tryd.prog 88 [(str p0)].toArray w (PostI none' M w fun M' x v => x = rowI (FI .u8) v 5 r) := by
  refine enterR 9 [(0, (str p0))] Tryd.func88 rfl rfl rfl hM ?_
  intro Q hret
  unfold ref01_Bytes at H
  refine c_seq ?_
  intro K1 hK1
  refine c_reg ?_
  refine w_val trivial rfl (fun a w hf hs => r_assign (hf.ev rfl)) ?_
  refine w_nil (hK1 _ _ _ ?_)
  refine c_seq ?_
  intro K2 hK2
  refine c_reg ?_
  refine w_val trivial rfl (fun a w hf hs => r_move (hf.ev rfl)) ?_
  refine w_val trivial rfl (fun a w hf hs => r_slen Tryd.underlying9 (hf.ev rfl)) ?_
  obtain ⟨t3, e4, H⟩ := bnd H
  refine w_callR cf121 trivial rfl rfl (fun w hs => ref01_Int.callsR hs (p0.length : Int) _ e4) ?_
  rintro v7 M5 _ l6 rfl
  refine w_val trivial rfl (fun a w hf hs => r_move (hf.ev rfl)) ?_
  refine w_s2b Tryd.underlying9 Tryd.underlying66 Tryd.underlying5 trivial rfl rfl ?_
  intro v8 M9 l10 h11
  obtain ⟨g12, H⟩ := grd_s H
  refine w_app (F := (FI .u8)) (m2 := (bytesI p0)) (i := 0) Tryd.underlying66 te5 Tryd.underlying66 (.inl ⟨_, rfl⟩) trivial rfl rfl rfl rfl (Src.rs (FI.one _) h11) g12 ?_
  intro v13
  refine w_val trivial rfl (fun a w hf hs => r_assign (hf.ev rfl)) ?_
  refine w_nil (hK2 _ _ _ ?_)
  obtain rfl := some_r H
  refine c_ret ?_
  intro a w' hf hs
  exact hret _ (.inl rfl) a w' hf.df ⟨_, _, _, Res.of1 rfl (RV.t hf rfl), hs.sel [0] (by decide) rfl, rfl⟩
theorem ref01_Bytes.calls {M : Heap} {w : World} (hM : Sub M w) (p0 : (List UInt8)) (r : (List Int)) (H : ref01_Bytes p0 = some r) :
    Calls Tryd.prog 88 [(str p0)].toArray w (Post M w fun M' v => ∃ v14, v = v14 ∧ RS (FI .u8) M' v14 r) := by
  exact postR (ref01_Bytes.callsR hM p0 r H)
set_option maxRecDepth 20000 in
theorem ref04_nonce.calls {M : Heap} {w : World} (hM : Sub M w) (hG : Gl M) (p0 : (List UInt8)) (p1 : (List UInt8)) (p2 : (List UInt8)) (r : (List UInt8)) (H : ref04_nonce p0 p1 p2 = some r) :
    Calls Tryd.prog 41 [(str p0), (str p1), (str p2)].toArray w (Post M w fun M' v => v = (str r)) := by
  refine enter 16 [(0, (str p0)), (1, (str p1)), (2, (str p2))] Tryd.func41 rfl rfl rfl hM ?_
  intro Q hret
  unfold ref04_nonce at H
  refine c_seq ?_
  intro K1 hK1
  refine c_reg ?_
  refine w_val trivial rfl (fun a w hf hs => r_assign (hf.ev rfl)) ?_
  refine w_nil (hK1 _ _ _ ?_)
  refine c_seq ?_
  intro K2 hK2
  refine c_reg ?_
  refine w_val trivial rfl (fun a w hf hs => r_move (hf.ev rfl)) ?_
  refine w_val trivial rfl (fun a w hf hs => r_move (hf.ev rfl)) ?_
  obtain ⟨t3, e8, H⟩ := bnd H
  refine w_call cf88 trivial rfl rfl (fun w hs => ref01_Bytes.calls hs p1 _ e8) ?_
  rintro v20 M5 l6 ⟨v9, hv_, h10⟩
  replace hv_ := hv_.symm
  subst hv_
  replace hG := hG.mono l6
  refine w_val trivial rfl (fun a w hf hs => r_b2s Tryd.underlying66 Tryd.underlying5 Tryd.underlying9 h10 hs.sub (hf.ev rfl)) ?_
  obtain ⟨g11, H⟩ := grd_s H
  refine w_val trivial rfl (fun a w hf hs => r_sadd (hf.ev rfl) (hf.ev rfl) g11) ?_
  refine w_val trivial rfl (fun a w hf hs => r_move (hf.ev rfl)) ?_
  obtain ⟨g12, H⟩ := grd_s H
  refine w_val trivial rfl (fun a w hf hs => r_sadd (hf.ev rfl) (hf.ev rfl) g12) ?_
  obtain ⟨t13, e18, H⟩ := bnd H
  refine w_call cf37 trivial rfl rfl (fun w hs => ref02_Mac.calls hs hG p0 ((([110, 111, 110, 99, 101] : List UInt8) ++ (intsB t3)) ++ p2) _ e18) ?_
  rintro _ M15 l16 rfl
  replace hG := hG.mono l16
  replace h10 := h10.mono l16
  obtain ⟨g19, H⟩ := grd_s H
  refine w_val trivial rfl (fun a w hf hs => r_sslice Tryd.underlying9 (hf.ev rfl) rfl ⟨_, (hf.ev rfl)⟩ g19.1 g19.2.1 g19.2.2) ?_
  refine w_val trivial rfl (fun a w hf hs => r_assign (hf.ev rfl)) ?_
  refine w_nil (hK2 _ _ _ ?_)
  obtain rfl := some_r H
  refine c_ret ?_
  intro a w' hf hs
  exact hret _ (.inl rfl) a w' hf.df ⟨_, _, Res.of1 rfl (RV.t hf rfl), hs.ext, rfl⟩
set_option maxRecDepth 20000 in
theorem ref03_word.calls {M : Heap} {w : World} (hM : Sub M w) (p0 : (List UInt8)) (r : Int) (H : ref03_word p0 = some r) :
    Calls Tryd.prog 122 [(str p0)].toArray w (Post M w fun M' v => v = (.int .u32 r)) := by
  refine enter 21 [(0, (str p0))] Tryd.func122 rfl rfl rfl hM ?_
  intro Q hret
  unfold ref03_word at H
  refine c_seq ?_
  intro K1 hK1
  refine c_reg ?_
  refine w_val trivial rfl (fun a w hf hs => r_assign (hf.ev rfl)) ?_
  refine w_nil (hK1 _ _ _ ?_)
  refine c_seq ?_
  intro K2 hK2
  obtain ⟨g8, H⟩ := grd_s H
  obtain ⟨g17, H⟩ := grd_s H
  obtain ⟨g33, H⟩ := grd_s H
  obtain ⟨g49, H⟩ := grd_s H
  refine c_drawP [([], [0]), ([(0, 3)], []), ([(1, 4)], []), ([], [0]), ([(3, 6)], []), ([(4, 7)], []), ([(5, 8)], []), ([(2, 5), (6, 9)], []), ([], [0]), ([(8, 11)], []), ([(9, 12)], []), ([(10, 13)], []), ([(7, 10), (11, 14)], []), ([], [0]), ([(13, 16)], []), ([(14, 17)], []), ([(15, 18)], []), ([(12, 15), (16, 19)], []), ([(17, 20)], [])] [fun v M => v = (str p0), fun v M => v = (.int .u8 (sbyte p0 (0 : Int))), fun v M => v = (.int .u32 (IntKind.u32.wrap (sbyte p0 (0 : Int)))), fun v M => v = (str p0), fun v M => v = (.int .u8 (sbyte p0 (1 : Int))), fun v M => v = (.int .u32 (IntKind.u32.wrap (sbyte p0 (1 : Int)))), fun v M => v = (.int .u32 (shlI .u32 (IntKind.u32.wrap (sbyte p0 (1 : Int))) (8 : Int))), fun v M => v = (.int .u32 (IntKind.u32.wrap ((IntKind.u32.wrap (sbyte p0 (0 : Int))) + (shlI .u32 (IntKind.u32.wrap (sbyte p0 (1 : Int))) (8 : Int))))), fun v M => v = (str p0), fun v M => v = (.int .u8 (sbyte p0 (2 : Int))), fun v M => v = (.int .u32 (IntKind.u32.wrap (sbyte p0 (2 : Int)))), fun v M => v = (.int .u32 (shlI .u32 (IntKind.u32.wrap (sbyte p0 (2 : Int))) (16 : Int))), fun v M => v = (.int .u32 (IntKind.u32.wrap ((IntKind.u32.wrap ((IntKind.u32.wrap (sbyte p0 (0 : Int))) + (shlI .u32 (IntKind.u32.wrap (sbyte p0 (1 : Int))) (8 : Int)))) + (shlI .u32 (IntKind.u32.wrap (sbyte p0 (2 : Int))) (16 : Int))))), fun v M => v = (str p0), fun v M => v = (.int .u8 (sbyte p0 (3 : Int))), fun v M => v = (.int .u32 (IntKind.u32.wrap (sbyte p0 (3 : Int)))), fun v M => v = (.int .u32 (shlI .u32 (IntKind.u32.wrap (sbyte p0 (3 : Int))) (24 : Int))), fun v M => v = (.int .u32 (IntKind.u32.wrap ((IntKind.u32.wrap ((IntKind.u32.wrap ((IntKind.u32.wrap (sbyte p0 (0 : Int))) + (shlI .u32 (IntKind.u32.wrap (sbyte p0 (1 : Int))) (8 : Int)))) + (shlI .u32 (IntKind.u32.wrap (sbyte p0 (2 : Int))) (16 : Int)))) + (shlI .u32 (IntKind.u32.wrap (sbyte p0 (3 : Int))) (24 : Int))))), fun v M => v = (.int .u32 (IntKind.u32.wrap ((IntKind.u32.wrap ((IntKind.u32.wrap ((IntKind.u32.wrap (sbyte p0 (0 : Int))) + (shlI .u32 (IntKind.u32.wrap (sbyte p0 (1 : Int))) (8 : Int)))) + (shlI .u32 (IntKind.u32.wrap (sbyte p0 (2 : Int))) (16 : Int)))) + (shlI .u32 (IntKind.u32.wrap (sbyte p0 (3 : Int))) (24 : Int)))))] (by kernel_rfl) (by kernel_rfl) ?_ (AllT.cons ?_ (AllT.cons ?_ (AllT.cons ?_ (AllT.cons ?_ (AllT.cons ?_ (AllT.cons ?_ (AllT.cons ?_ (AllT.cons ?_ (AllT.cons ?_ (AllT.cons ?_ (AllT.cons ?_ (AllT.cons ?_ (AllT.cons ?_ (AllT.cons ?_ (AllT.cons ?_ (AllT.cons ?_ (AllT.cons ?_ (AllT.cons ?_ (AllT.cons ?_ AllT.nil))))))))))))))))))) ?_
  · exact (MonoA.cons (fun _ _ _ _ h => h) (MonoA.cons (fun _ _ _ _ h => h) (MonoA.cons (fun _ _ _ _ h => h) (MonoA.cons (fun _ _ _ _ h => h) (MonoA.cons (fun _ _ _ _ h => h) (MonoA.cons (fun _ _ _ _ h => h) (MonoA.cons (fun _ _ _ _ h => h) (MonoA.cons (fun _ _ _ _ h => h) (MonoA.cons (fun _ _ _ _ h => h) (MonoA.cons (fun _ _ _ _ h => h) (MonoA.cons (fun _ _ _ _ h => h) (MonoA.cons (fun _ _ _ _ h => h) (MonoA.cons (fun _ _ _ _ h => h) (MonoA.cons (fun _ _ _ _ h => h) (MonoA.cons (fun _ _ _ _ h => h) (MonoA.cons (fun _ _ _ _ h => h) (MonoA.cons (fun _ _ _ _ h => h) (MonoA.cons (fun _ _ _ _ h => h) (MonoA.cons (fun _ _ _ _ h => h) MonoA.nil)))))))))))))))))))
  · intro a w' M3 l4 hd hs
    refine OP.ofW (l := [(0, (str p0))]) (hd.fr.add (hd.base 0 _ rfl rfl)) hs rfl ?_
    refine w_val trivial rfl (fun a w hf hs => r_move (hf.ev rfl)) ?_
    refine w_nil ?_
    intro a w' hf hs
    exact ⟨rfl, hf.df, _, (HLe.refl _), hs, hf.get _ _ rfl⟩
  · intro a w' M5 l6 hd hs
    have e7 := hd.val 0 3 _ rfl rfl
    refine OP.ofW (l := [(3, (str p0))]) (hd.fr.add e7) hs rfl ?_
    refine w_val trivial rfl (fun a w hf hs => r_sidx Tryd.underlying9 (hf.ev rfl) (hf.ev rfl) g8.1 g8.2) ?_
    refine w_nil ?_
    intro a w' hf hs
    exact ⟨rfl, hf.df, _, (HLe.refl _), hs, hf.get _ _ rfl⟩
  · intro a w' M9 l10 hd hs
    have e11 := hd.val 1 4 _ rfl rfl
    refine OP.ofW (l := [(4, (.int .u8 (sbyte p0 (0 : Int))))]) (hd.fr.add e11) hs rfl ?_
    refine w_val trivial rfl (fun a w hf hs => r_conv Tryd.underlying5 Tryd.underlying70 (hf.ev rfl)) ?_
    refine w_nil ?_
    intro a w' hf hs
    exact ⟨rfl, hf.df, _, (HLe.refl _), hs, hf.get _ _ rfl⟩
  · intro a w' M12 l13 hd hs
    refine OP.ofW (l := [(0, (str p0))]) (hd.fr.add (hd.base 0 _ rfl rfl)) hs rfl ?_
    refine w_val trivial rfl (fun a w hf hs => r_move (hf.ev rfl)) ?_
    refine w_nil ?_
    intro a w' hf hs
    exact ⟨rfl, hf.df, _, (HLe.refl _), hs, hf.get _ _ rfl⟩
  · intro a w' M14 l15 hd hs
    have e16 := hd.val 3 6 _ rfl rfl
    refine OP.ofW (l := [(6, (str p0))]) (hd.fr.add e16) hs rfl ?_
    refine w_val trivial rfl (fun a w hf hs => r_sidx Tryd.underlying9 (hf.ev rfl) (hf.ev rfl) g17.1 g17.2) ?_
    refine w_nil ?_
    intro a w' hf hs
    exact ⟨rfl, hf.df, _, (HLe.refl _), hs, hf.get _ _ rfl⟩
  · intro a w' M18 l19 hd hs
    have e20 := hd.val 4 7 _ rfl rfl
    refine OP.ofW (l := [(7, (.int .u8 (sbyte p0 (1 : Int))))]) (hd.fr.add e20) hs rfl ?_
    refine w_val trivial rfl (fun a w hf hs => r_conv Tryd.underlying5 Tryd.underlying70 (hf.ev rfl)) ?_
    refine w_nil ?_
    intro a w' hf hs
    exact ⟨rfl, hf.df, _, (HLe.refl _), hs, hf.get _ _ rfl⟩
  · intro a w' M21 l22 hd hs
    have e23 := hd.val 5 8 _ rfl rfl
    refine OP.ofW (l := [(8, (.int .u32 (IntKind.u32.wrap (sbyte p0 (1 : Int)))))]) (hd.fr.add e23) hs rfl ?_
    refine w_val trivial rfl (fun a w hf hs => r_shl (hf.ev rfl) (hf.ev rfl) (by decide)) ?_
    refine w_nil ?_
    intro a w' hf hs
    exact ⟨rfl, hf.df, _, (HLe.refl _), hs, hf.get _ _ rfl⟩
  · intro a w' M24 l25 hd hs
    have e26 := hd.val 2 5 _ rfl rfl
    have e27 := hd.val 6 9 _ rfl rfl
    refine OP.ofW (l := [(5, (.int .u32 (IntKind.u32.wrap (sbyte p0 (0 : Int))))), (9, (.int .u32 (shlI .u32 (IntKind.u32.wrap (sbyte p0 (1 : Int))) (8 : Int))))]) ((hd.fr.add e27).add e26) hs rfl ?_
    refine w_val trivial rfl (fun a w hf hs => r_add (hf.ev rfl) (hf.ev rfl)) ?_
    refine w_nil ?_
    intro a w' hf hs
    exact ⟨rfl, hf.df, _, (HLe.refl _), hs, hf.get _ _ rfl⟩
  · intro a w' M28 l29 hd hs
    refine OP.ofW (l := [(0, (str p0))]) (hd.fr.add (hd.base 0 _ rfl rfl)) hs rfl ?_
    refine w_val trivial rfl (fun a w hf hs => r_move (hf.ev rfl)) ?_
    refine w_nil ?_
    intro a w' hf hs
    exact ⟨rfl, hf.df, _, (HLe.refl _), hs, hf.get _ _ rfl⟩
  · intro a w' M30 l31 hd hs
    have e32 := hd.val 8 11 _ rfl rfl
    refine OP.ofW (l := [(11, (str p0))]) (hd.fr.add e32) hs rfl ?_
    refine w_val trivial rfl (fun a w hf hs => r_sidx Tryd.underlying9 (hf.ev rfl) (hf.ev rfl) g33.1 g33.2) ?_
    refine w_nil ?_
    intro a w' hf hs
    exact ⟨rfl, hf.df, _, (HLe.refl _), hs, hf.get _ _ rfl⟩
  · intro a w' M34 l35 hd hs
    have e36 := hd.val 9 12 _ rfl rfl
    refine OP.ofW (l := [(12, (.int .u8 (sbyte p0 (2 : Int))))]) (hd.fr.add e36) hs rfl ?_
    refine w_val trivial rfl (fun a w hf hs => r_conv Tryd.underlying5 Tryd.underlying70 (hf.ev rfl)) ?_
    refine w_nil ?_
    intro a w' hf hs
    exact ⟨rfl, hf.df, _, (HLe.refl _), hs, hf.get _ _ rfl⟩
  · intro a w' M37 l38 hd hs
    have e39 := hd.val 10 13 _ rfl rfl
    refine OP.ofW (l := [(13, (.int .u32 (IntKind.u32.wrap (sbyte p0 (2 : Int)))))]) (hd.fr.add e39) hs rfl ?_
    refine w_val trivial rfl (fun a w hf hs => r_shl (hf.ev rfl) (hf.ev rfl) (by decide)) ?_
    refine w_nil ?_
    intro a w' hf hs
    exact ⟨rfl, hf.df, _, (HLe.refl _), hs, hf.get _ _ rfl⟩
  · intro a w' M40 l41 hd hs
    have e42 := hd.val 7 10 _ rfl rfl
    have e43 := hd.val 11 14 _ rfl rfl
    refine OP.ofW (l := [(10, (.int .u32 (IntKind.u32.wrap ((IntKind.u32.wrap (sbyte p0 (0 : Int))) + (shlI .u32 (IntKind.u32.wrap (sbyte p0 (1 : Int))) (8 : Int)))))), (14, (.int .u32 (shlI .u32 (IntKind.u32.wrap (sbyte p0 (2 : Int))) (16 : Int))))]) ((hd.fr.add e43).add e42) hs rfl ?_
    refine w_val trivial rfl (fun a w hf hs => r_add (hf.ev rfl) (hf.ev rfl)) ?_
    refine w_nil ?_
    intro a w' hf hs
    exact ⟨rfl, hf.df, _, (HLe.refl _), hs, hf.get _ _ rfl⟩
  · intro a w' M44 l45 hd hs
    refine OP.ofW (l := [(0, (str p0))]) (hd.fr.add (hd.base 0 _ rfl rfl)) hs rfl ?_
    refine w_val trivial rfl (fun a w hf hs => r_move (hf.ev rfl)) ?_
    refine w_nil ?_
    intro a w' hf hs
    exact ⟨rfl, hf.df, _, (HLe.refl _), hs, hf.get _ _ rfl⟩
  · intro a w' M46 l47 hd hs
    have e48 := hd.val 13 16 _ rfl rfl
    refine OP.ofW (l := [(16, (str p0))]) (hd.fr.add e48) hs rfl ?_
    refine w_val trivial rfl (fun a w hf hs => r_sidx Tryd.underlying9 (hf.ev rfl) (hf.ev rfl) g49.1 g49.2) ?_
    refine w_nil ?_
    intro a w' hf hs
    exact ⟨rfl, hf.df, _, (HLe.refl _), hs, hf.get _ _ rfl⟩
  · intro a w' M50 l51 hd hs
    have e52 := hd.val 14 17 _ rfl rfl
    refine OP.ofW (l := [(17, (.int .u8 (sbyte p0 (3 : Int))))]) (hd.fr.add e52) hs rfl ?_
    refine w_val trivial rfl (fun a w hf hs => r_conv Tryd.underlying5 Tryd.underlying70 (hf.ev rfl)) ?_
    refine w_nil ?_
    intro a w' hf hs
    exact ⟨rfl, hf.df, _, (HLe.refl _), hs, hf.get _ _ rfl⟩
  · intro a w' M53 l54 hd hs
    have e55 := hd.val 15 18 _ rfl rfl
    refine OP.ofW (l := [(18, (.int .u32 (IntKind.u32.wrap (sbyte p0 (3 : Int)))))]) (hd.fr.add e55) hs rfl ?_
    refine w_val trivial rfl (fun a w hf hs => r_shl (hf.ev rfl) (hf.ev rfl) (by decide)) ?_
    refine w_nil ?_
    intro a w' hf hs
    exact ⟨rfl, hf.df, _, (HLe.refl _), hs, hf.get _ _ rfl⟩
  · intro a w' M56 l57 hd hs
    have e58 := hd.val 12 15 _ rfl rfl
    have e59 := hd.val 16 19 _ rfl rfl
    refine OP.ofW (l := [(15, (.int .u32 (IntKind.u32.wrap ((IntKind.u32.wrap ((IntKind.u32.wrap (sbyte p0 (0 : Int))) + (shlI .u32 (IntKind.u32.wrap (sbyte p0 (1 : Int))) (8 : Int)))) + (shlI .u32 (IntKind.u32.wrap (sbyte p0 (2 : Int))) (16 : Int)))))), (19, (.int .u32 (shlI .u32 (IntKind.u32.wrap (sbyte p0 (3 : Int))) (24 : Int))))]) ((hd.fr.add e59).add e58) hs rfl ?_
    refine w_val trivial rfl (fun a w hf hs => r_add (hf.ev rfl) (hf.ev rfl)) ?_
    refine w_nil ?_
    intro a w' hf hs
    exact ⟨rfl, hf.df, _, (HLe.refl _), hs, hf.get _ _ rfl⟩
  · intro a w' M60 l61 hd hs
    have e62 := hd.val 17 20 _ rfl rfl
    refine OP.ofW (l := [(20, (.int .u32 (IntKind.u32.wrap ((IntKind.u32.wrap ((IntKind.u32.wrap ((IntKind.u32.wrap (sbyte p0 (0 : Int))) + (shlI .u32 (IntKind.u32.wrap (sbyte p0 (1 : Int))) (8 : Int)))) + (shlI .u32 (IntKind.u32.wrap (sbyte p0 (2 : Int))) (16 : Int)))) + (shlI .u32 (IntKind.u32.wrap (sbyte p0 (3 : Int))) (24 : Int))))))]) (hd.fr.add e62) hs rfl ?_
    refine w_val trivial rfl (fun a w hf hs => r_assign (hf.ev rfl)) ?_
    refine w_nil ?_
    intro a w' hf hs
    exact ⟨rfl, hf.df, _, (HLe.refl _), hs, hf.get _ _ rfl⟩
  intro a w' M63 l64 hdf hsz hb hv hs
  have e65 := hv 18 2 _ rfl rfl
  refine n_of (c := (Cx.mk Tryd.prog 21 none' M w)) (l := [(2, (.int .u32 (IntKind.u32.wrap ((IntKind.u32.wrap ((IntKind.u32.wrap ((IntKind.u32.wrap (sbyte p0 (0 : Int))) + (shlI .u32 (IntKind.u32.wrap (sbyte p0 (1 : Int))) (8 : Int)))) + (shlI .u32 (IntKind.u32.wrap (sbyte p0 (2 : Int))) (16 : Int)))) + (shlI .u32 (IntKind.u32.wrap (sbyte p0 (3 : Int))) (24 : Int))))))]) ?_ ((Fr.start hdf hsz).add e65) hs
  clear hdf hsz hb hv hs e65
  refine n_id (hK2 _ _ _ ?_)
  obtain rfl := some_r H
  refine c_ret ?_
  intro a w' hf hs
  exact hret _ (.inl rfl) a w' hf.df ⟨_, _, Res.of1 rfl (RV.t hf rfl), hs.ext, rfl⟩
set_option maxRecDepth 20000 in
theorem ref03_State.calls {M : Heap} {w : World} (hM : Sub M w) (p0 : (List UInt8)) (p1 : Int) (p2 : (List UInt8)) (r : ((Vector Int 16) × Int)) (H : ref03_State p0 p1 p2 = some r) :
    Calls Tryd.prog 89 [(str p0), (.int .u32 p1), (str p2)].toArray w (Post M w fun M' v => v = .tuple #[(.agg (vI .u32 r.1).toArray), (.int .i64 r.2)]) := by
  refine enter 51 [(0, (str p0)), (1, (.int .u32 p1)), (2, (str p2))] Tryd.func89 rfl rfl rfl hM ?_
  intro Q hret
  unfold ref03_State at H
  refine c_seq ?_
  intro K1 hK1
  refine c_reg ?_
  refine w_allocL (A := vI .u32 (Vector.replicate 16 (0 : Int))) tz131 trivial rfl rfl ?_
  intro b2
  refine w_val trivial rfl (fun a w hf hs => r_assign (hf.ev rfl)) ?_
  refine w_nil (hK1 _ _ _ ?_)
  refine c_seq ?_
  intro K3 hK3
  refine c_reg ?_
  refine w_allocL (A := vI .u32 (Vector.replicate 16 (0 : Int))) tz131 trivial rfl rfl ?_
  intro b4
  refine w_nil (hK3 _ _ _ ?_)
  refine c_seq ?_
  intro K5 hK5
  obtain ⟨t6, H1, H⟩ := bnd H
  refine c_cut (fun a' w' => ∃ (M7 : Heap), HLe M M7 ∧ Fr 51 [(0, (str p0)), (1, (.int .u32 p1)), (2, (str p2)), (6, (ptr b2 0)), (8, (ptr b4 0)), (18, (.bool t6))] a' ∧ St none' M w M7 (lt [.blk b2 (.cells (vI .u32 (Vector.replicate 16 (0 : Int))).toArray 131 (0, 0)), .blk b4 (.cells (vI .u32 (Vector.replicate 16 (0 : Int))).toArray 131 (0, 0))]) w') ?_ ?_
  · replace H := H1
    clear H1
    refine c_reg ?_
    refine w_val trivial rfl (fun a w hf hs => r_move (hf.ev rfl)) ?_
    refine w_val trivial rfl (fun a w hf hs => r_slen Tryd.underlying9 (hf.ev rfl)) ?_
    refine w_val trivial rfl (fun a w hf hs => r_neq (hf.ev rfl) (hf.ev rfl)) ?_
    refine w_val trivial rfl (fun a w hf hs => r_move (hf.ev rfl)) ?_
    by_cases b9 : ((p0.length : Int) != (32 : Int)) = true
    · replace H := if_t b9 H
      refine w_not (Nwt.of rfl rfl b9) rfl ?_
      refine w_not (Nwt.of rfl rfl b9) rfl ?_
      refine w_not (Nwt.of rfl rfl b9) rfl ?_
      refine w_val trivial rfl (fun a w hf hs => r_pickT (hf.ev rfl) b9 (hf.ev rfl)) ?_
      obtain rfl := some_r H
      refine w_nil ?_
      intro a w' hf hs
      exact ⟨_, (HLe.refl _), ((((((hf.nil.add (hf.get _ _ rfl)).add (hf.get _ _ rfl)).add (hf.get _ _ rfl)).add (hf.get _ _ rfl)).add (hf.get _ _ rfl)).add (hf.get _ _ rfl)), hs.sel [0, 1] (by decide) rfl⟩
    · replace b9 := Bool.eq_false_iff.2 b9
      replace H := if_f b9 H
      refine w_val (Wnt.of rfl rfl b9) rfl (fun a w hf hs => r_move (hf.ev rfl)) ?_
      refine w_val (Wnt.of rfl rfl b9) rfl (fun a w hf hs => r_slen Tryd.underlying9 (hf.ev rfl)) ?_
      refine w_val (Wnt.of rfl rfl b9) rfl (fun a w hf hs => r_neq (hf.ev rfl) (hf.ev rfl)) ?_
      refine w_val trivial rfl (fun a w hf hs => r_pickF (hf.ev rfl) b9 (hf.ev rfl)) ?_
      obtain rfl := some_r H
      refine w_nil ?_
      intro a w' hf hs
      exact ⟨_, (HLe.refl _), ((((((hf.nil.add (hf.get _ _ rfl)).add (hf.get _ _ rfl)).add (hf.get _ _ rfl)).add (hf.get _ _ rfl)).add (hf.get _ _ rfl)).add (hf.get _ _ rfl)), hs.sel [0, 1] (by decide) rfl⟩
  · clear H1
    rintro a w' ⟨M7, l8, hf, hs⟩
    refine c_of (c := (Cx.mk Tryd.prog 51 none' M w)) ?_ hf hs
    clear hf hs
    refine c_if rfl (fun b10 => ?_) (fun b10 => ?_)
    · replace H := if_t b10 H
      refine c_seq ?_
      intro K11 hK11
      refine c_reg ?_
      refine w_val trivial rfl (fun a w hf hs => r_loadA ta131 ts131 (hf.ev rfl) (hs.blk (i := 1) rfl) (vI_all _) (vI_len _)) ?_
      refine w_store (i := 0) (vs := vI .u32 (Vector.replicate 16 (0 : Int))) (A' := vI .u32 (Vector.replicate 16 (0 : Int))) trivial rfl rfl rfl rfl ts131 (vI_len _) (vI_one _) (by rw [vI_len]; decide) (vI_whole _ _) ?_
      refine w_val trivial rfl (fun a w hf hs => r_assign (hf.ev rfl)) ?_
      refine w_nil (hK11 _ _ _ ?_)
      obtain rfl := some_r H
      refine c_ret ?_
      intro a w' hf hs
      exact hret _ (.inl rfl) a w' hf.df ⟨_, _, Res.of2 rfl ⟨_, hf.get _ _ rfl, run_loadA (hs.blk (i := 0) rfl) ta131 ts131 (vI_all _) (vI_len _)⟩ (RV.t hf rfl), hs.ext, rfl⟩
    · replace H := if_f b10 H
      refine c_skip (hK5 _ _ _ ?_)
      refine c_seq ?_
      intro K12 hK12
      refine c_reg ?_
      refine w_val trivial rfl (fun a w hf hs => r_iaI Tryd.underlying131 ts70 (hf.ev rfl) (hf.ev rfl) (by decide : (0 : Int) ≤ (0 : Int)) (by decide : (0 : Int) < ((16 : Nat) : Int))) ?_
      refine w_store (i := 1) (vs := [(.int .u32 (1634760805 : Int))]) (A' := vI .u32 (vs (Vector.replicate 16 (0 : Int)) (0 : Int) (1634760805 : Int))) trivial rfl rfl rfl rfl ts70 rfl (one1 rfl) (idx_le (by decide : (0 : Int) ≤ (0 : Int)) (by decide : (0 : Int) < ((16 : Nat) : Int)) (vI_len _) (by decide)) (vI_set0 (by decide : (0 : Int) ≤ (0 : Int)) (by decide : (0 : Int) < ((16 : Nat) : Int))) ?_
      refine w_nil (hK12 _ _ _ ?_)
      refine c_seq ?_
      intro K13 hK13
      refine c_reg ?_
      refine w_val trivial rfl (fun a w hf hs => r_iaI Tryd.underlying131 ts70 (hf.ev rfl) (hf.ev rfl) (by decide : (0 : Int) ≤ (1 : Int)) (by decide : (1 : Int) < ((16 : Nat) : Int))) ?_
      refine w_store (i := 1) (vs := [(.int .u32 (857760878 : Int))]) (A' := vI .u32 (vs (vs (Vector.replicate 16 (0 : Int)) (0 : Int) (1634760805 : Int)) (1 : Int) (857760878 : Int))) trivial rfl rfl rfl rfl ts70 rfl (one1 rfl) (idx_le (by decide : (0 : Int) ≤ (1 : Int)) (by decide : (1 : Int) < ((16 : Nat) : Int)) (vI_len _) (by decide)) (vI_set0 (by decide : (0 : Int) ≤ (1 : Int)) (by decide : (1 : Int) < ((16 : Nat) : Int))) ?_
      refine w_nil (hK13 _ _ _ ?_)
      refine c_seq ?_
      intro K14 hK14
      refine c_reg ?_
      refine w_val trivial rfl (fun a w hf hs => r_iaI Tryd.underlying131 ts70 (hf.ev rfl) (hf.ev rfl) (by decide : (0 : Int) ≤ (2 : Int)) (by decide : (2 : Int) < ((16 : Nat) : Int))) ?_
      refine w_store (i := 1) (vs := [(.int .u32 (2036477234 : Int))]) (A' := vI .u32 (vs (vs (vs (Vector.replicate 16 (0 : Int)) (0 : Int) (1634760805 : Int)) (1 : Int) (857760878 : Int)) (2 : Int) (2036477234 : Int))) trivial rfl rfl rfl rfl ts70 rfl (one1 rfl) (idx_le (by decide : (0 : Int) ≤ (2 : Int)) (by decide : (2 : Int) < ((16 : Nat) : Int)) (vI_len _) (by decide)) (vI_set0 (by decide : (0 : Int) ≤ (2 : Int)) (by decide : (2 : Int) < ((16 : Nat) : Int))) ?_
      refine w_nil (hK14 _ _ _ ?_)
      refine c_seq ?_
      intro K15 hK15
      refine c_reg ?_
      refine w_val trivial rfl (fun a w hf hs => r_iaI Tryd.underlying131 ts70 (hf.ev rfl) (hf.ev rfl) (by decide : (0 : Int) ≤ (3 : Int)) (by decide : (3 : Int) < ((16 : Nat) : Int))) ?_
      obtain ⟨z16, e17, H⟩ := bnd H
      have e18 := some_r e17
      refine w_store (i := 1) (vs := [(.int .u32 (1797285236 : Int))]) (A' := vI .u32 z16) trivial rfl rfl rfl rfl ts70 rfl (one1 rfl) (idx_le (by decide : (0 : Int) ≤ (3 : Int)) (by decide : (3 : Int) < ((16 : Nat) : Int)) (vI_len _) (by decide)) (by rw [← e18]; exact (vI_set0 (by decide : (0 : Int) ≤ (3 : Int)) (by decide : (3 : Int) < ((16 : Nat) : Int)))) ?_
      clear e17 e18
      refine w_nil (hK15 _ _ _ ?_)
      refine c_cut (fun a' w' => ∃ (x19 : (Vector Int 16)) (M20 : Heap), HLe M7 M20 ∧ Fr 51 [(1, (.int .u32 p1)), (2, (str p2)), (6, (ptr b2 0)), (8, (ptr b4 0))] a' ∧ St none' M w M20 (lt [.blk b2 (.cells (vI .u32 (Vector.replicate 16 (0 : Int))).toArray 131 (0, 0)), .blk b4 (.cells (vI .u32 x19).toArray 131 (0, 0))]) w' ∧ ref03_State.j3 p2 x19 p1 = some r) ?_ ?_
      · refine c_seq ?_
        intro K45 hK45
        refine c_reg ?_
        refine w_val trivial rfl (fun a w hf hs => r_assign (hf.ev rfl)) ?_
        refine w_nil (hK45 _ _ _ ?_)
        refine c_block ?_
        refine c_loop (fun (s46 : ((Vector Int 16) × Int)) a' w' => ∃ (M47 : Heap), HLe M7 M47 ∧ Fr 51 [(0, (str p0)), (1, (.int .u32 p1)), (2, (str p2)), (6, (ptr b2 0)), (8, (ptr b4 0)), (9, (.int .i64 s46.2))] a' ∧ St none' M w M47 (lt [.blk b2 (.cells (vI .u32 (Vector.replicate 16 (0 : Int))).toArray 131 (0, 0)), .blk b4 (.cells (vI .u32 s46.1).toArray 131 (0, 0))]) w') (z16, (0 : Int)) H ?_ ?_
        · intro a w' hf hs
          exact ⟨_, HLe.refl _, ((((((hf.nil.add (hf.get _ _ rfl)).add (hf.get _ _ rfl)).add (hf.get _ _ rfl)).add (hf.get _ _ rfl)).add (hf.get _ _ rfl)).add (hf.get _ _ rfl)), hs.selD [some 0, some 1] (by decide) rfl⟩
        · clear H
          intro s46 y50 H r49 a w' hJ
          obtain ⟨M47, l48, hf, hs⟩ := hJ
          refine c_of (c := (Cx.mk Tryd.prog 51 none' M w)) ?_ hf hs
          unfold ref03_State.l4 at H
          clear hf hs
          refine c_seq ?_
          intro K51 hK51
          refine c_seq ?_
          intro K52 hK52
          refine c_reg ?_
          refine w_val trivial rfl (fun a w hf hs => r_move (hf.ev rfl)) ?_
          refine w_val trivial rfl (fun a w hf hs => r_lss (hf.ev rfl) (hf.ev rfl)) ?_
          refine w_nil (hK52 _ _ _ ?_)
          refine c_if rfl (fun b53 => ?_) (fun b53 => ?_)
          · replace H := if_t b53 H
            refine c_skip (hK51 _ _ _ ?_)
            refine c_seq ?_
            intro K54 hK54
            refine c_block ?_
            refine c_reg ?_
            refine w_val trivial rfl (fun a w hf hs => r_move (hf.ev rfl)) ?_
            refine w_val trivial rfl (fun a w hf hs => r_add (hf.ev rfl) (hf.ev rfl)) ?_
            refine w_val trivial rfl (fun a w hf hs => r_move (hf.ev rfl)) ?_
            refine w_val trivial rfl (fun a w hf hs => r_move (hf.ev rfl)) ?_
            refine w_val trivial rfl (fun a w hf hs => r_mul (hf.ev rfl) (hf.ev rfl)) ?_
            obtain ⟨g55, H⟩ := grd_s H
            refine w_val trivial rfl (fun a w hf hs => r_sslice Tryd.underlying9 (hf.ev rfl) ⟨_, (hf.ev rfl)⟩ rfl g55.1 g55.2.1 g55.2.2) ?_
            obtain ⟨t56, e61, H⟩ := bnd H
            refine w_call cf122 trivial rfl rfl (fun w hs => ref03_word.calls hs ((p0.take ((p0.length : Int)).toNat).drop ((IntKind.i64.wrap ((4 : Int) * s46.2))).toNat) _ e61) ?_
            rintro _ M58 l59 rfl
            obtain ⟨g62, H⟩ := grd_s H
            refine w_val trivial rfl (fun a w hf hs => r_iaI Tryd.underlying131 ts70 (hf.ev rfl) (hf.ev rfl) g62.1 g62.2) ?_
            refine w_store (i := 1) (vs := [(.int .u32 t56)]) (A' := vI .u32 (vs s46.1 (IntKind.i64.wrap ((4 : Int) + s46.2)) t56)) trivial rfl rfl rfl rfl ts70 rfl (one1 rfl) (idx_le g62.1 g62.2 (vI_len _) (by decide)) (vI_set0 g62.1 g62.2) ?_
            refine w_nil (hK54 _ _ _ ?_)
            refine c_reg ?_
            refine w_val trivial rfl (fun a w hf hs => r_move (hf.ev rfl)) ?_
            refine w_val trivial rfl (fun a w hf hs => r_add (hf.ev rfl) (hf.ev rfl)) ?_
            refine w_val trivial rfl (fun a w hf hs => r_assign (hf.ev rfl)) ?_
            refine w_nil ?_
            intro a w' hf hs
            exact ⟨_, (some_r H).symm, _, l48.trans l59, ((((((hf.nil.add (hf.get _ _ rfl)).add (hf.get _ _ rfl)).add (hf.get _ _ rfl)).add (hf.get _ _ rfl)).add (hf.get _ _ rfl)).add (hf.get _ _ rfl)), hs.selD [some 0, some 1] (by decide) rfl⟩
          · replace H := if_f b53 H
            replace H := map_inr H r49
            refine c_exit ?_
            intro a w' hf hs
            exact ⟨s46.1, _, l48, ((((hf.nil.add (hf.get _ _ rfl)).add (hf.get _ _ rfl)).add (hf.get _ _ rfl)).add (hf.get _ _ rfl)), hs.selD [some 0, some 1] (by decide) rfl, H⟩
      · rintro a w' ⟨x19, M20, l21, hf, hs, H⟩
        refine c_of (c := (Cx.mk Tryd.prog 51 none' M w)) ?_ hf hs
        unfold ref03_State.j3 at H
        clear hf hs
        refine c_seq ?_
        intro K22 hK22
        refine c_reg ?_
        refine w_val trivial rfl (fun a w hf hs => r_move (hf.ev rfl)) ?_
        refine w_val trivial rfl (fun a w hf hs => r_iaI Tryd.underlying131 ts70 (hf.ev rfl) (hf.ev rfl) (by decide : (0 : Int) ≤ (12 : Int)) (by decide : (12 : Int) < ((16 : Nat) : Int))) ?_
        refine w_store (i := 1) (vs := [(.int .u32 p1)]) (A' := vI .u32 (vs x19 (12 : Int) p1)) trivial rfl rfl rfl rfl ts70 rfl (one1 rfl) (idx_le (by decide : (0 : Int) ≤ (12 : Int)) (by decide : (12 : Int) < ((16 : Nat) : Int)) (vI_len _) (by decide)) (vI_set0 (by decide : (0 : Int) ≤ (12 : Int)) (by decide : (12 : Int) < ((16 : Nat) : Int))) ?_
        refine w_nil (hK22 _ _ _ ?_)
        refine c_cut (fun a' w' => ∃ (x23 : (Vector Int 16)) (M24 : Heap), HLe M20 M24 ∧ Fr 51 [(6, (ptr b2 0)), (8, (ptr b4 0))] a' ∧ St none' M w M24 (lt [.blk b2 (.cells (vI .u32 (Vector.replicate 16 (0 : Int))).toArray 131 (0, 0)), .blk b4 (.cells (vI .u32 x23).toArray 131 (0, 0))]) w' ∧ ref03_State.j1 x23 = some r) ?_ ?_
        · refine c_seq ?_
          intro K27 hK27
          refine c_reg ?_
          refine w_val trivial rfl (fun a w hf hs => r_assign (hf.ev rfl)) ?_
          refine w_nil (hK27 _ _ _ ?_)
          refine c_block ?_
          refine c_loop (fun (s28 : ((Vector Int 16) × Int)) a' w' => ∃ (M29 : Heap), HLe M20 M29 ∧ Fr 51 [(2, (str p2)), (6, (ptr b2 0)), (8, (ptr b4 0)), (10, (.int .i64 s28.2))] a' ∧ St none' M w M29 (lt [.blk b2 (.cells (vI .u32 (Vector.replicate 16 (0 : Int))).toArray 131 (0, 0)), .blk b4 (.cells (vI .u32 s28.1).toArray 131 (0, 0))]) w') ((vs x19 (12 : Int) p1), (0 : Int)) H ?_ ?_
          · intro a w' hf hs
            exact ⟨_, HLe.refl _, ((((hf.nil.add (hf.get _ _ rfl)).add (hf.get _ _ rfl)).add (hf.get _ _ rfl)).add (hf.get _ _ rfl)), hs.selD [some 0, some 1] (by decide) rfl⟩
          · clear H
            intro s28 y32 H r31 a w' hJ
            obtain ⟨M29, l30, hf, hs⟩ := hJ
            refine c_of (c := (Cx.mk Tryd.prog 51 none' M w)) ?_ hf hs
            unfold ref03_State.l2 at H
            clear hf hs
            refine c_seq ?_
            intro K33 hK33
            refine c_seq ?_
            intro K34 hK34
            refine c_reg ?_
            refine w_val trivial rfl (fun a w hf hs => r_move (hf.ev rfl)) ?_
            refine w_val trivial rfl (fun a w hf hs => r_lss (hf.ev rfl) (hf.ev rfl)) ?_
            refine w_nil (hK34 _ _ _ ?_)
            refine c_if rfl (fun b35 => ?_) (fun b35 => ?_)
            · replace H := if_t b35 H
              refine c_skip (hK33 _ _ _ ?_)
              refine c_seq ?_
              intro K36 hK36
              refine c_block ?_
              refine c_reg ?_
              refine w_val trivial rfl (fun a w hf hs => r_move (hf.ev rfl)) ?_
              refine w_val trivial rfl (fun a w hf hs => r_add (hf.ev rfl) (hf.ev rfl)) ?_
              refine w_val trivial rfl (fun a w hf hs => r_move (hf.ev rfl)) ?_
              refine w_val trivial rfl (fun a w hf hs => r_move (hf.ev rfl)) ?_
              refine w_val trivial rfl (fun a w hf hs => r_mul (hf.ev rfl) (hf.ev rfl)) ?_
              obtain ⟨g37, H⟩ := grd_s H
              refine w_val trivial rfl (fun a w hf hs => r_sslice Tryd.underlying9 (hf.ev rfl) ⟨_, (hf.ev rfl)⟩ rfl g37.1 g37.2.1 g37.2.2) ?_
              obtain ⟨t38, e43, H⟩ := bnd H
              refine w_call cf122 trivial rfl rfl (fun w hs => ref03_word.calls hs ((p2.take ((p2.length : Int)).toNat).drop ((IntKind.i64.wrap ((4 : Int) * s28.2))).toNat) _ e43) ?_
              rintro _ M40 l41 rfl
              obtain ⟨g44, H⟩ := grd_s H
              refine w_val trivial rfl (fun a w hf hs => r_iaI Tryd.underlying131 ts70 (hf.ev rfl) (hf.ev rfl) g44.1 g44.2) ?_
              refine w_store (i := 1) (vs := [(.int .u32 t38)]) (A' := vI .u32 (vs s28.1 (IntKind.i64.wrap ((13 : Int) + s28.2)) t38)) trivial rfl rfl rfl rfl ts70 rfl (one1 rfl) (idx_le g44.1 g44.2 (vI_len _) (by decide)) (vI_set0 g44.1 g44.2) ?_
              refine w_nil (hK36 _ _ _ ?_)
              refine c_reg ?_
              refine w_val trivial rfl (fun a w hf hs => r_move (hf.ev rfl)) ?_
              refine w_val trivial rfl (fun a w hf hs => r_add (hf.ev rfl) (hf.ev rfl)) ?_
              refine w_val trivial rfl (fun a w hf hs => r_assign (hf.ev rfl)) ?_
              refine w_nil ?_
              intro a w' hf hs
              exact ⟨_, (some_r H).symm, _, l30.trans l41, ((((hf.nil.add (hf.get _ _ rfl)).add (hf.get _ _ rfl)).add (hf.get _ _ rfl)).add (hf.get _ _ rfl)), hs.selD [some 0, some 1] (by decide) rfl⟩
            · replace H := if_f b35 H
              replace H := map_inr H r31
              refine c_exit ?_
              intro a w' hf hs
              exact ⟨s28.1, _, l30, ((hf.nil.add (hf.get _ _ rfl)).add (hf.get _ _ rfl)), hs.selD [some 0, some 1] (by decide) rfl, H⟩
        · rintro a w' ⟨x23, M24, l25, hf, hs, H⟩
          refine c_of (c := (Cx.mk Tryd.prog 51 none' M w)) ?_ hf hs
          unfold ref03_State.j1 at H
          clear hf hs
          refine c_seq ?_
          intro K26 hK26
          refine c_reg ?_
          refine w_val trivial rfl (fun a w hf hs => r_loadA ta131 ts131 (hf.ev rfl) (hs.blk (i := 1) rfl) (vI_all _) (vI_len _)) ?_
          refine w_store (i := 0) (vs := vI .u32 x23) (A' := vI .u32 x23) trivial rfl rfl rfl rfl ts131 (vI_len _) (vI_one _) (by rw [vI_len]; decide) (vI_whole _ _) ?_
          refine w_val trivial rfl (fun a w hf hs => r_assign (hf.ev rfl)) ?_
          refine w_nil (hK26 _ _ _ ?_)
          obtain rfl := some_r H
          refine c_ret ?_
          intro a w' hf hs
          exact hret _ (.inl rfl) a w' hf.df ⟨_, _, Res.of2 rfl ⟨_, hf.get _ _ rfl, run_loadA (hs.blk (i := 0) rfl) ta131 ts131 (vI_all _) (vI_len _)⟩ (RV.t hf rfl), hs.ext, rfl⟩
set_option maxRecDepth 20000 in
theorem ref03_Order.calls {M : Heap} {w : World} (hM : Sub M w)  (r : (List (List Int))) (H : ref03_Order  = some r) :
    Calls Tryd.prog 135 [].toArray w (Post M w fun M' v => ∃ v49, v = v49 ∧ RSS (FI .i64) M' v49 r) := by
  refine enter 10 [] Tryd.func135 rfl rfl rfl hM ?_
  intro Q hret
  unfold ref03_Order at H
  refine c_seq ?_
  intro K1 hK1
  refine c_reg ?_
  refine w_val trivial rfl (fun a w hf hs => r_assign (hf.ev rfl)) ?_
  refine w_nil (hK1 _ _ _ ?_)
  refine c_seq ?_
  intro K2 hK2
  refine c_reg ?_
  refine w_bsl (F := (FI .i64)) (es := ([(0 : Int), (4 : Int), (8 : Int), (12 : Int)] : List Int)) (xs := [.const (.int .i64 (0 : Int)), .const (.int .i64 (4 : Int)), .const (.int .i64 (8 : Int)), .const (.int .i64 (12 : Int))]) (vs := [(.int .i64 (0 : Int)), (.int .i64 (4 : Int)), (.int .i64 (8 : Int)), (.int .i64 (12 : Int))]) Tryd.underlying51 te3 trivial rfl rfl rfl rfl rfl (by decide) ?_
  intro v3 M4 l5 h6 c7
  refine w_bsl (F := (FI .i64)) (es := ([(1 : Int), (5 : Int), (9 : Int), (13 : Int)] : List Int)) (xs := [.const (.int .i64 (1 : Int)), .const (.int .i64 (5 : Int)), .const (.int .i64 (9 : Int)), .const (.int .i64 (13 : Int))]) (vs := [(.int .i64 (1 : Int)), (.int .i64 (5 : Int)), (.int .i64 (9 : Int)), (.int .i64 (13 : Int))]) Tryd.underlying51 te3 trivial rfl rfl rfl rfl rfl (by decide) ?_
  intro v8 M9 l10 h11 c12
  replace h6 := h6.mono l10
  refine w_bsl (F := (FI .i64)) (es := ([(2 : Int), (6 : Int), (10 : Int), (14 : Int)] : List Int)) (xs := [.const (.int .i64 (2 : Int)), .const (.int .i64 (6 : Int)), .const (.int .i64 (10 : Int)), .const (.int .i64 (14 : Int))]) (vs := [(.int .i64 (2 : Int)), (.int .i64 (6 : Int)), (.int .i64 (10 : Int)), (.int .i64 (14 : Int))]) Tryd.underlying51 te3 trivial rfl rfl rfl rfl rfl (by decide) ?_
  intro v13 M14 l15 h16 c17
  replace h6 := h6.mono l15
  replace h11 := h11.mono l15
  refine w_bsl (F := (FI .i64)) (es := ([(3 : Int), (7 : Int), (11 : Int), (15 : Int)] : List Int)) (xs := [.const (.int .i64 (3 : Int)), .const (.int .i64 (7 : Int)), .const (.int .i64 (11 : Int)), .const (.int .i64 (15 : Int))]) (vs := [(.int .i64 (3 : Int)), (.int .i64 (7 : Int)), (.int .i64 (11 : Int)), (.int .i64 (15 : Int))]) Tryd.underlying51 te3 trivial rfl rfl rfl rfl rfl (by decide) ?_
  intro v18 M19 l20 h21 c22
  replace h6 := h6.mono l20
  replace h11 := h11.mono l20
  replace h16 := h16.mono l20
  refine w_bsl (F := (FI .i64)) (es := ([(0 : Int), (5 : Int), (10 : Int), (15 : Int)] : List Int)) (xs := [.const (.int .i64 (0 : Int)), .const (.int .i64 (5 : Int)), .const (.int .i64 (10 : Int)), .const (.int .i64 (15 : Int))]) (vs := [(.int .i64 (0 : Int)), (.int .i64 (5 : Int)), (.int .i64 (10 : Int)), (.int .i64 (15 : Int))]) Tryd.underlying51 te3 trivial rfl rfl rfl rfl rfl (by decide) ?_
  intro v23 M24 l25 h26 c27
  replace h6 := h6.mono l25
  replace h11 := h11.mono l25
  replace h16 := h16.mono l25
  replace h21 := h21.mono l25
  refine w_bsl (F := (FI .i64)) (es := ([(1 : Int), (6 : Int), (11 : Int), (12 : Int)] : List Int)) (xs := [.const (.int .i64 (1 : Int)), .const (.int .i64 (6 : Int)), .const (.int .i64 (11 : Int)), .const (.int .i64 (12 : Int))]) (vs := [(.int .i64 (1 : Int)), (.int .i64 (6 : Int)), (.int .i64 (11 : Int)), (.int .i64 (12 : Int))]) Tryd.underlying51 te3 trivial rfl rfl rfl rfl rfl (by decide) ?_
  intro v28 M29 l30 h31 c32
  replace h6 := h6.mono l30
  replace h11 := h11.mono l30
  replace h16 := h16.mono l30
  replace h21 := h21.mono l30
  replace h26 := h26.mono l30
  refine w_bsl (F := (FI .i64)) (es := ([(2 : Int), (7 : Int), (8 : Int), (13 : Int)] : List Int)) (xs := [.const (.int .i64 (2 : Int)), .const (.int .i64 (7 : Int)), .const (.int .i64 (8 : Int)), .const (.int .i64 (13 : Int))]) (vs := [(.int .i64 (2 : Int)), (.int .i64 (7 : Int)), (.int .i64 (8 : Int)), (.int .i64 (13 : Int))]) Tryd.underlying51 te3 trivial rfl rfl rfl rfl rfl (by decide) ?_
  intro v33 M34 l35 h36 c37
  replace h6 := h6.mono l35
  replace h11 := h11.mono l35
  replace h16 := h16.mono l35
  replace h21 := h21.mono l35
  replace h26 := h26.mono l35
  replace h31 := h31.mono l35
  refine w_bsl (F := (FI .i64)) (es := ([(3 : Int), (4 : Int), (9 : Int), (14 : Int)] : List Int)) (xs := [.const (.int .i64 (3 : Int)), .const (.int .i64 (4 : Int)), .const (.int .i64 (9 : Int)), .const (.int .i64 (14 : Int))]) (vs := [(.int .i64 (3 : Int)), (.int .i64 (4 : Int)), (.int .i64 (9 : Int)), (.int .i64 (14 : Int))]) Tryd.underlying51 te3 trivial rfl rfl rfl rfl rfl (by decide) ?_
  intro v38 M39 l40 h41 c42
  replace h6 := h6.mono l40
  replace h11 := h11.mono l40
  replace h16 := h16.mono l40
  replace h21 := h21.mono l40
  replace h26 := h26.mono l40
  replace h31 := h31.mono l40
  replace h36 := h36.mono l40
  refine w_bsl (F := FVl) (es := [v3, v8, v13, v18, v23, v28, v33, v38]) (xs := [.tmp 1, .tmp 2, .tmp 3, .tmp 4, .tmp 5, .tmp 6, .tmp 7, .tmp 8]) (vs := [v3, v8, v13, v18, v23, v28, v33, v38]) Tryd.underlying180 te51 trivial rfl rfl rfl rfl (RSL.cells (F := (FI .i64)) (M := M39) (L := ([([(0 : Int), (4 : Int), (8 : Int), (12 : Int)] : List Int), ([(1 : Int), (5 : Int), (9 : Int), (13 : Int)] : List Int), ([(2 : Int), (6 : Int), (10 : Int), (14 : Int)] : List Int), ([(3 : Int), (7 : Int), (11 : Int), (15 : Int)] : List Int), ([(0 : Int), (5 : Int), (10 : Int), (15 : Int)] : List Int), ([(1 : Int), (6 : Int), (11 : Int), (12 : Int)] : List Int), ([(2 : Int), (7 : Int), (8 : Int), (13 : Int)] : List Int), ([(3 : Int), (4 : Int), (9 : Int), (14 : Int)] : List Int)] : (List (List Int)))) (.cons h6 (.cons h11 (.cons h16 (.cons h21 (.cons h26 (.cons h31 (.cons h36 (.cons h41 .nil))))))))) (by decide) ?_
  intro v43 M44 l45 h46 c47
  replace h6 := h6.mono l45
  replace h11 := h11.mono l45
  replace h16 := h16.mono l45
  replace h21 := h21.mono l45
  replace h26 := h26.mono l45
  replace h31 := h31.mono l45
  replace h36 := h36.mono l45
  replace h41 := h41.mono l45
  have h48 : RSS (FI .i64) M44 v43 ([([(0 : Int), (4 : Int), (8 : Int), (12 : Int)] : List Int), ([(1 : Int), (5 : Int), (9 : Int), (13 : Int)] : List Int), ([(2 : Int), (6 : Int), (10 : Int), (14 : Int)] : List Int), ([(3 : Int), (7 : Int), (11 : Int), (15 : Int)] : List Int), ([(0 : Int), (5 : Int), (10 : Int), (15 : Int)] : List Int), ([(1 : Int), (6 : Int), (11 : Int), (12 : Int)] : List Int), ([(2 : Int), (7 : Int), (8 : Int), (13 : Int)] : List Int), ([(3 : Int), (4 : Int), (9 : Int), (14 : Int)] : List Int)] : (List (List Int))) := RSS.of h46 (.cons h6 (.cons h11 (.cons h16 (.cons h21 (.cons h26 (.cons h31 (.cons h36 (.cons h41 .nil))))))))
  clear h46 c47
  refine w_val trivial rfl (fun a w hf hs => r_assign (hf.ev rfl)) ?_
  refine w_nil (hK2 _ _ _ ?_)
  obtain rfl := some_r H
  refine c_ret ?_
  intro a w' hf hs
  exact hret _ (.inl rfl) a w' hf.df ⟨_, _, Res.of1 rfl (RV.t hf rfl), hs.ext, ⟨_, rfl, h48⟩⟩
set_option maxRecDepth 20000 in
theorem ref03_rotl.calls {M : Heap} {w : World} (hM : Sub M w) (p0 : Int) (p1 : Int) (r : Int) (H : ref03_rotl p0 p1 = some r) :
    Calls Tryd.prog 140 [(.int .u32 p0), (.int .i64 p1)].toArray w (Post M w fun M' v => v = (.int .u32 r)) := by
  refine enter 13 [(0, (.int .u32 p0)), (1, (.int .i64 p1))] Tryd.func140 rfl rfl rfl hM ?_
  intro Q hret
  unfold ref03_rotl at H
  refine c_seq ?_
  intro K1 hK1
  refine c_reg ?_
  refine w_val trivial rfl (fun a w hf hs => r_assign (hf.ev rfl)) ?_
  refine w_nil (hK1 _ _ _ ?_)
  refine c_seq ?_
  intro K2 hK2
  obtain ⟨g11, H⟩ := grd_s H
  obtain ⟨g23, H⟩ := grd_s H
  refine c_drawP [([], [0]), ([], [1]), ([(0, 5), (1, 6)], []), ([], [0]), ([], [1]), ([(4, 9)], []), ([(3, 8), (5, 10)], []), ([(2, 7), (6, 11)], []), ([(7, 12)], [])] [fun v M => v = (.int .u32 p0), fun v M => v = (.int .i64 p1), fun v M => v = (.int .u32 (shlI .u32 p0 p1)), fun v M => v = (.int .u32 p0), fun v M => v = (.int .i64 p1), fun v M => v = (.int .i64 (IntKind.i64.wrap ((32 : Int) - p1))), fun v M => v = (.int .u32 (shrI .u32 p0 (IntKind.i64.wrap ((32 : Int) - p1)))), fun v M => v = (.int .u32 (bits .or .u32 (shlI .u32 p0 p1) (shrI .u32 p0 (IntKind.i64.wrap ((32 : Int) - p1))))), fun v M => v = (.int .u32 (bits .or .u32 (shlI .u32 p0 p1) (shrI .u32 p0 (IntKind.i64.wrap ((32 : Int) - p1)))))] (by kernel_rfl) (by kernel_rfl) ?_ (AllT.cons ?_ (AllT.cons ?_ (AllT.cons ?_ (AllT.cons ?_ (AllT.cons ?_ (AllT.cons ?_ (AllT.cons ?_ (AllT.cons ?_ (AllT.cons ?_ AllT.nil))))))))) ?_
  · exact (MonoA.cons (fun _ _ _ _ h => h) (MonoA.cons (fun _ _ _ _ h => h) (MonoA.cons (fun _ _ _ _ h => h) (MonoA.cons (fun _ _ _ _ h => h) (MonoA.cons (fun _ _ _ _ h => h) (MonoA.cons (fun _ _ _ _ h => h) (MonoA.cons (fun _ _ _ _ h => h) (MonoA.cons (fun _ _ _ _ h => h) (MonoA.cons (fun _ _ _ _ h => h) MonoA.nil)))))))))
  · intro a w' M3 l4 hd hs
    refine OP.ofW (l := [(0, (.int .u32 p0))]) (hd.fr.add (hd.base 0 _ rfl rfl)) hs rfl ?_
    refine w_val trivial rfl (fun a w hf hs => r_move (hf.ev rfl)) ?_
    refine w_nil ?_
    intro a w' hf hs
    exact ⟨rfl, hf.df, _, (HLe.refl _), hs, hf.get _ _ rfl⟩
  · intro a w' M5 l6 hd hs
    refine OP.ofW (l := [(1, (.int .i64 p1))]) (hd.fr.add (hd.base 1 _ rfl rfl)) hs rfl ?_
    refine w_val trivial rfl (fun a w hf hs => r_move (hf.ev rfl)) ?_
    refine w_nil ?_
    intro a w' hf hs
    exact ⟨rfl, hf.df, _, (HLe.refl _), hs, hf.get _ _ rfl⟩
  · intro a w' M7 l8 hd hs
    have e9 := hd.val 0 5 _ rfl rfl
    have e10 := hd.val 1 6 _ rfl rfl
    refine OP.ofW (l := [(5, (.int .u32 p0)), (6, (.int .i64 p1))]) ((hd.fr.add e10).add e9) hs rfl ?_
    refine w_val trivial rfl (fun a w hf hs => r_shl (hf.ev rfl) (hf.ev rfl) g11) ?_
    refine w_nil ?_
    intro a w' hf hs
    exact ⟨rfl, hf.df, _, (HLe.refl _), hs, hf.get _ _ rfl⟩
  · intro a w' M12 l13 hd hs
    refine OP.ofW (l := [(0, (.int .u32 p0))]) (hd.fr.add (hd.base 0 _ rfl rfl)) hs rfl ?_
    refine w_val trivial rfl (fun a w hf hs => r_move (hf.ev rfl)) ?_
    refine w_nil ?_
    intro a w' hf hs
    exact ⟨rfl, hf.df, _, (HLe.refl _), hs, hf.get _ _ rfl⟩
  · intro a w' M14 l15 hd hs
    refine OP.ofW (l := [(1, (.int .i64 p1))]) (hd.fr.add (hd.base 1 _ rfl rfl)) hs rfl ?_
    refine w_val trivial rfl (fun a w hf hs => r_move (hf.ev rfl)) ?_
    refine w_nil ?_
    intro a w' hf hs
    exact ⟨rfl, hf.df, _, (HLe.refl _), hs, hf.get _ _ rfl⟩
  · intro a w' M16 l17 hd hs
    have e18 := hd.val 4 9 _ rfl rfl
    refine OP.ofW (l := [(9, (.int .i64 p1))]) (hd.fr.add e18) hs rfl ?_
    refine w_val trivial rfl (fun a w hf hs => r_sub (hf.ev rfl) (hf.ev rfl)) ?_
    refine w_nil ?_
    intro a w' hf hs
    exact ⟨rfl, hf.df, _, (HLe.refl _), hs, hf.get _ _ rfl⟩
  · intro a w' M19 l20 hd hs
    have e21 := hd.val 3 8 _ rfl rfl
    have e22 := hd.val 5 10 _ rfl rfl
    refine OP.ofW (l := [(8, (.int .u32 p0)), (10, (.int .i64 (IntKind.i64.wrap ((32 : Int) - p1))))]) ((hd.fr.add e22).add e21) hs rfl ?_
    refine w_val trivial rfl (fun a w hf hs => r_shr (hf.ev rfl) (hf.ev rfl) g23) ?_
    refine w_nil ?_
    intro a w' hf hs
    exact ⟨rfl, hf.df, _, (HLe.refl _), hs, hf.get _ _ rfl⟩
  · intro a w' M24 l25 hd hs
    have e26 := hd.val 2 7 _ rfl rfl
    have e27 := hd.val 6 11 _ rfl rfl
    refine OP.ofW (l := [(7, (.int .u32 (shlI .u32 p0 p1))), (11, (.int .u32 (shrI .u32 p0 (IntKind.i64.wrap ((32 : Int) - p1)))))]) ((hd.fr.add e27).add e26) hs rfl ?_
    refine w_val trivial rfl (fun a w hf hs => r_or (hf.ev rfl) (hf.ev rfl)) ?_
    refine w_nil ?_
    intro a w' hf hs
    exact ⟨rfl, hf.df, _, (HLe.refl _), hs, hf.get _ _ rfl⟩
  · intro a w' M28 l29 hd hs
    have e30 := hd.val 7 12 _ rfl rfl
    refine OP.ofW (l := [(12, (.int .u32 (bits .or .u32 (shlI .u32 p0 p1) (shrI .u32 p0 (IntKind.i64.wrap ((32 : Int) - p1))))))]) (hd.fr.add e30) hs rfl ?_
    refine w_val trivial rfl (fun a w hf hs => r_assign (hf.ev rfl)) ?_
    refine w_nil ?_
    intro a w' hf hs
    exact ⟨rfl, hf.df, _, (HLe.refl _), hs, hf.get _ _ rfl⟩
  intro a w' M31 l32 hdf hsz hb hv hs
  have e33 := hv 8 4 _ rfl rfl
  refine n_of (c := (Cx.mk Tryd.prog 13 none' M w)) (l := [(4, (.int .u32 (bits .or .u32 (shlI .u32 p0 p1) (shrI .u32 p0 (IntKind.i64.wrap ((32 : Int) - p1))))))]) ?_ ((Fr.start hdf hsz).add e33) hs
  clear hdf hsz hb hv hs e33
  refine n_id (hK2 _ _ _ ?_)
  obtain rfl := some_r H
  refine c_ret ?_
  intro a w' hf hs
  exact hret _ (.inl rfl) a w' hf.df ⟨_, _, Res.of1 rfl (RV.t hf rfl), hs.ext, rfl⟩
set_option maxRecDepth 20000 in
theorem ref03_quarter.calls {M : Heap} {w : World} (hM : Sub M w) (p0 : (Vector Int 16)) (p1 : Int) (p2 : Int) (p3 : Int) (p4 : Int) (r : (Vector Int 16)) (H : ref03_quarter p0 p1 p2 p3 p4 = some r) :
    Calls Tryd.prog 136 [(.agg (vI .u32 p0).toArray), (.int .i64 p1), (.int .i64 p2), (.int .i64 p3), (.int .i64 p4)].toArray w (Post M w fun M' v => v = (.agg (vI .u32 r).toArray)) := by
  refine enter 88 [(0, (.agg (vI .u32 p0).toArray)), (1, (.int .i64 p1)), (2, (.int .i64 p2)), (3, (.int .i64 p3)), (4, (.int .i64 p4))] Tryd.func136 rfl rfl rfl hM ?_
  intro Q hret
  unfold ref03_quarter at H
  refine c_seq ?_
  intro K1 hK1
  refine c_reg ?_
  refine w_boxL trivial rfl rfl rfl ?_
  intro b2
  refine w_allocL (A := vI .u32 (Vector.replicate 16 (0 : Int))) tz131 trivial rfl rfl ?_
  intro b3
  refine w_nil (hK1 _ _ _ ?_)
  refine c_seq ?_
  intro K4 hK4
  refine c_split2 8 (by kernel_rfl) (by kernel_rfl) (by kernel_rfl) (by kernel_rfl) rfl ?_
  intro K5 hK5
  obtain ⟨g13, H⟩ := grd_s H
  obtain ⟨g22, H⟩ := grd_s H
  refine d_drawP [([], [1]), ([], [1]), ([(1, 12)], [5]), ([(2, 13)], []), ([], [2]), ([(4, 15)], [5]), ([(5, 16)], []), ([(3, 14), (6, 17)], [])] [fun v M => v = (.int .i64 p1), fun v M => v = (.int .i64 p1), fun v M => v = (ptr b2 (0 + (p1).toNat)), fun v M => v = (.int .u32 (rd p0.toList p1)), fun v M => v = (.int .i64 p2), fun v M => v = (ptr b2 (0 + (p2).toNat)), fun v M => v = (.int .u32 (rd p0.toList p2)), fun v M => v = (.int .u32 (IntKind.u32.wrap ((rd p0.toList p1) + (rd p0.toList p2))))] (by kernel_rfl) (by kernel_rfl) ?_ (AllT.cons ?_ (AllT.cons ?_ (AllT.cons ?_ (AllT.cons ?_ (AllT.cons ?_ (AllT.cons ?_ (AllT.cons ?_ (AllT.cons ?_ AllT.nil)))))))) ?_
  · exact (MonoA.cons (fun _ _ _ _ h => h) (MonoA.cons (fun _ _ _ _ h => h) (MonoA.cons (fun _ _ _ _ h => h) (MonoA.cons (fun _ _ _ _ h => h) (MonoA.cons (fun _ _ _ _ h => h) (MonoA.cons (fun _ _ _ _ h => h) (MonoA.cons (fun _ _ _ _ h => h) (MonoA.cons (fun _ _ _ _ h => h) MonoA.nil))))))))
  · intro a w' M6 l7 hd hs
    refine OP.ofW (l := [(1, (.int .i64 p1))]) (hd.fr.add (hd.base 1 _ rfl rfl)) hs rfl ?_
    refine w_val trivial rfl (fun a w hf hs => r_move (hf.ev rfl)) ?_
    refine w_nil ?_
    intro a w' hf hs
    exact ⟨rfl, hf.df, _, (HLe.refl _), hs, hf.get _ _ rfl⟩
  · intro a w' M8 l9 hd hs
    refine OP.ofW (l := [(1, (.int .i64 p1))]) (hd.fr.add (hd.base 1 _ rfl rfl)) hs rfl ?_
    refine w_val trivial rfl (fun a w hf hs => r_move (hf.ev rfl)) ?_
    refine w_nil ?_
    intro a w' hf hs
    exact ⟨rfl, hf.df, _, (HLe.refl _), hs, hf.get _ _ rfl⟩
  · intro a w' M10 l11 hd hs
    have e12 := hd.val 1 12 _ rfl rfl
    refine OP.ofW (l := [(5, (ptr b2 0)), (12, (.int .i64 p1))]) ((hd.fr.add e12).add (hd.base 5 _ rfl rfl)) hs rfl ?_
    refine w_val trivial rfl (fun a w hf hs => r_iaI Tryd.underlying131 ts70 (hf.ev rfl) (hf.ev rfl) g13.1 g13.2) ?_
    refine w_nil ?_
    intro a w' hf hs
    exact ⟨rfl, hf.df, _, (HLe.refl _), hs, hf.get _ _ rfl⟩
  · intro a w' M14 l15 hd hs
    have e16 := hd.val 2 13 _ rfl rfl
    refine OP.ofW (l := [(13, (ptr b2 (0 + (p1).toNat)))]) (hd.fr.add e16) hs rfl ?_
    refine w_val trivial rfl (fun a w hf hs => r_load1 ta70 (hf.ev rfl) (hs.blk (i := 0) rfl) (vI_get0 g13.1 g13.2)) ?_
    refine w_nil ?_
    intro a w' hf hs
    exact ⟨rfl, hf.df, _, (HLe.refl _), hs, hf.get _ _ rfl⟩
  · intro a w' M17 l18 hd hs
    refine OP.ofW (l := [(2, (.int .i64 p2))]) (hd.fr.add (hd.base 2 _ rfl rfl)) hs rfl ?_
    refine w_val trivial rfl (fun a w hf hs => r_move (hf.ev rfl)) ?_
    refine w_nil ?_
    intro a w' hf hs
    exact ⟨rfl, hf.df, _, (HLe.refl _), hs, hf.get _ _ rfl⟩
  · intro a w' M19 l20 hd hs
    have e21 := hd.val 4 15 _ rfl rfl
    refine OP.ofW (l := [(5, (ptr b2 0)), (15, (.int .i64 p2))]) ((hd.fr.add e21).add (hd.base 5 _ rfl rfl)) hs rfl ?_
    refine w_val trivial rfl (fun a w hf hs => r_iaI Tryd.underlying131 ts70 (hf.ev rfl) (hf.ev rfl) g22.1 g22.2) ?_
    refine w_nil ?_
    intro a w' hf hs
    exact ⟨rfl, hf.df, _, (HLe.refl _), hs, hf.get _ _ rfl⟩
  · intro a w' M23 l24 hd hs
    have e25 := hd.val 5 16 _ rfl rfl
    refine OP.ofW (l := [(16, (ptr b2 (0 + (p2).toNat)))]) (hd.fr.add e25) hs rfl ?_
    refine w_val trivial rfl (fun a w hf hs => r_load1 ta70 (hf.ev rfl) (hs.blk (i := 0) rfl) (vI_get0 g22.1 g22.2)) ?_
    refine w_nil ?_
    intro a w' hf hs
    exact ⟨rfl, hf.df, _, (HLe.refl _), hs, hf.get _ _ rfl⟩
  · intro a w' M26 l27 hd hs
    have e28 := hd.val 3 14 _ rfl rfl
    have e29 := hd.val 6 17 _ rfl rfl
    refine OP.ofW (l := [(14, (.int .u32 (rd p0.toList p1))), (17, (.int .u32 (rd p0.toList p2)))]) ((hd.fr.add e29).add e28) hs rfl ?_
    refine w_val trivial rfl (fun a w hf hs => r_add (hf.ev rfl) (hf.ev rfl)) ?_
    refine w_nil ?_
    intro a w' hf hs
    exact ⟨rfl, hf.df, _, (HLe.refl _), hs, hf.get _ _ rfl⟩
  intro a w' M30 l31 hdf hsz hb hv hs
  have e32 := hv 0 11 _ rfl rfl
  have e33 := hv 7 18 _ rfl rfl
  refine n_of (c := (Cx.mk Tryd.prog 88 none' M w)) (l := [(1, (.int .i64 p1)), (2, (.int .i64 p2)), (3, (.int .i64 p3)), (4, (.int .i64 p4)), (5, (ptr b2 0)), (10, (ptr b3 0)), (11, (.int .i64 p1)), (18, (.int .u32 (IntKind.u32.wrap ((rd p0.toList p1) + (rd p0.toList p2)))))]) ?_ (((((((((Fr.start hdf hsz).add e33).add e32).add (hb 10 _ rfl rfl)).add (hb 5 _ rfl rfl)).add (hb 4 _ rfl rfl)).add (hb 3 _ rfl rfl)).add (hb 2 _ rfl rfl)).add (hb 1 _ rfl rfl)) hs
  clear hdf hsz hb hv hs e32 e33
  refine n_id (hK5 _ _ _ ?_)
  obtain ⟨g34, H⟩ := grd_s H
  refine w_val trivial rfl (fun a w hf hs => r_iaI Tryd.underlying131 ts70 (hf.ev rfl) (hf.ev rfl) g34.1 g34.2) ?_
  refine w_store (i := 0) (vs := [(.int .u32 (IntKind.u32.wrap ((rd p0.toList p1) + (rd p0.toList p2))))]) (A' := vI .u32 (vs p0 p1 (IntKind.u32.wrap ((rd p0.toList p1) + (rd p0.toList p2))))) trivial rfl rfl rfl rfl ts70 rfl (one1 rfl) (idx_le g34.1 g34.2 (vI_len _) (by decide)) (vI_set0 g34.1 g34.2) ?_
  refine w_nil (hK4 _ _ _ ?_)
  refine c_seq ?_
  intro K35 hK35
  refine c_split2 9 (by kernel_rfl) (by kernel_rfl) (by kernel_rfl) (by kernel_rfl) rfl ?_
  intro K36 hK36
  obtain ⟨g44, H⟩ := grd_s H
  obtain ⟨g53, H⟩ := grd_s H
  obtain ⟨t64, e69, H⟩ := bnd H
  refine d_drawP [([], [4]), ([], [4]), ([(1, 21)], [5]), ([(2, 22)], []), ([], [1]), ([(4, 24)], [5]), ([(5, 25)], []), ([(3, 23), (6, 26)], []), ([(7, 27)], [])] [fun v M => v = (.int .i64 p4), fun v M => v = (.int .i64 p4), fun v M => v = (ptr b2 (0 + (p4).toNat)), fun v M => v = (.int .u32 (rd (vs p0 p1 (IntKind.u32.wrap ((rd p0.toList p1) + (rd p0.toList p2)))).toList p4)), fun v M => v = (.int .i64 p1), fun v M => v = (ptr b2 (0 + (p1).toNat)), fun v M => v = (.int .u32 (rd (vs p0 p1 (IntKind.u32.wrap ((rd p0.toList p1) + (rd p0.toList p2)))).toList p1)), fun v M => v = (.int .u32 (bits .xor .u32 (rd (vs p0 p1 (IntKind.u32.wrap ((rd p0.toList p1) + (rd p0.toList p2)))).toList p4) (rd (vs p0 p1 (IntKind.u32.wrap ((rd p0.toList p1) + (rd p0.toList p2)))).toList p1))), fun v M => v = (.int .u32 t64)] (by kernel_rfl) (by kernel_rfl) ?_ (AllT.cons ?_ (AllT.cons ?_ (AllT.cons ?_ (AllT.cons ?_ (AllT.cons ?_ (AllT.cons ?_ (AllT.cons ?_ (AllT.cons ?_ (AllT.cons ?_ AllT.nil))))))))) ?_
  · exact (MonoA.cons (fun _ _ _ _ h => h) (MonoA.cons (fun _ _ _ _ h => h) (MonoA.cons (fun _ _ _ _ h => h) (MonoA.cons (fun _ _ _ _ h => h) (MonoA.cons (fun _ _ _ _ h => h) (MonoA.cons (fun _ _ _ _ h => h) (MonoA.cons (fun _ _ _ _ h => h) (MonoA.cons (fun _ _ _ _ h => h) (MonoA.cons (fun _ _ _ _ h => h) MonoA.nil)))))))))
  · intro a w' M37 l38 hd hs
    refine OP.ofW (l := [(4, (.int .i64 p4))]) (hd.fr.add (hd.base 4 _ rfl rfl)) hs rfl ?_
    refine w_val trivial rfl (fun a w hf hs => r_move (hf.ev rfl)) ?_
    refine w_nil ?_
    intro a w' hf hs
    exact ⟨rfl, hf.df, _, (HLe.refl _), hs, hf.get _ _ rfl⟩
  · intro a w' M39 l40 hd hs
    refine OP.ofW (l := [(4, (.int .i64 p4))]) (hd.fr.add (hd.base 4 _ rfl rfl)) hs rfl ?_
    refine w_val trivial rfl (fun a w hf hs => r_move (hf.ev rfl)) ?_
    refine w_nil ?_
    intro a w' hf hs
    exact ⟨rfl, hf.df, _, (HLe.refl _), hs, hf.get _ _ rfl⟩
  · intro a w' M41 l42 hd hs
    have e43 := hd.val 1 21 _ rfl rfl
    refine OP.ofW (l := [(5, (ptr b2 0)), (21, (.int .i64 p4))]) ((hd.fr.add e43).add (hd.base 5 _ rfl rfl)) hs rfl ?_
    refine w_val trivial rfl (fun a w hf hs => r_iaI Tryd.underlying131 ts70 (hf.ev rfl) (hf.ev rfl) g44.1 g44.2) ?_
    refine w_nil ?_
    intro a w' hf hs
    exact ⟨rfl, hf.df, _, (HLe.refl _), hs, hf.get _ _ rfl⟩
  · intro a w' M45 l46 hd hs
    have e47 := hd.val 2 22 _ rfl rfl
    refine OP.ofW (l := [(22, (ptr b2 (0 + (p4).toNat)))]) (hd.fr.add e47) hs rfl ?_
    refine w_val trivial rfl (fun a w hf hs => r_load1 ta70 (hf.ev rfl) (hs.blk (i := 0) rfl) (vI_get0 g44.1 g44.2)) ?_
    refine w_nil ?_
    intro a w' hf hs
    exact ⟨rfl, hf.df, _, (HLe.refl _), hs, hf.get _ _ rfl⟩
  · intro a w' M48 l49 hd hs
    refine OP.ofW (l := [(1, (.int .i64 p1))]) (hd.fr.add (hd.base 1 _ rfl rfl)) hs rfl ?_
    refine w_val trivial rfl (fun a w hf hs => r_move (hf.ev rfl)) ?_
    refine w_nil ?_
    intro a w' hf hs
    exact ⟨rfl, hf.df, _, (HLe.refl _), hs, hf.get _ _ rfl⟩
  · intro a w' M50 l51 hd hs
    have e52 := hd.val 4 24 _ rfl rfl
    refine OP.ofW (l := [(5, (ptr b2 0)), (24, (.int .i64 p1))]) ((hd.fr.add e52).add (hd.base 5 _ rfl rfl)) hs rfl ?_
    refine w_val trivial rfl (fun a w hf hs => r_iaI Tryd.underlying131 ts70 (hf.ev rfl) (hf.ev rfl) g53.1 g53.2) ?_
    refine w_nil ?_
    intro a w' hf hs
    exact ⟨rfl, hf.df, _, (HLe.refl _), hs, hf.get _ _ rfl⟩
  · intro a w' M54 l55 hd hs
    have e56 := hd.val 5 25 _ rfl rfl
    refine OP.ofW (l := [(25, (ptr b2 (0 + (p1).toNat)))]) (hd.fr.add e56) hs rfl ?_
    refine w_val trivial rfl (fun a w hf hs => r_load1 ta70 (hf.ev rfl) (hs.blk (i := 0) rfl) (vI_get0 g53.1 g53.2)) ?_
    refine w_nil ?_
    intro a w' hf hs
    exact ⟨rfl, hf.df, _, (HLe.refl _), hs, hf.get _ _ rfl⟩
  · intro a w' M57 l58 hd hs
    have e59 := hd.val 3 23 _ rfl rfl
    have e60 := hd.val 6 26 _ rfl rfl
    refine OP.ofW (l := [(23, (.int .u32 (rd (vs p0 p1 (IntKind.u32.wrap ((rd p0.toList p1) + (rd p0.toList p2)))).toList p4))), (26, (.int .u32 (rd (vs p0 p1 (IntKind.u32.wrap ((rd p0.toList p1) + (rd p0.toList p2)))).toList p1)))]) ((hd.fr.add e60).add e59) hs rfl ?_
    refine w_val trivial rfl (fun a w hf hs => r_xor (hf.ev rfl) (hf.ev rfl)) ?_
    refine w_nil ?_
    intro a w' hf hs
    exact ⟨rfl, hf.df, _, (HLe.refl _), hs, hf.get _ _ rfl⟩
  · intro a w' M61 l62 hd hs
    have e63 := hd.val 7 27 _ rfl rfl
    refine OP.ofW (l := [(27, (.int .u32 (bits .xor .u32 (rd (vs p0 p1 (IntKind.u32.wrap ((rd p0.toList p1) + (rd p0.toList p2)))).toList p4) (rd (vs p0 p1 (IntKind.u32.wrap ((rd p0.toList p1) + (rd p0.toList p2)))).toList p1))))]) (hd.fr.add e63) hs rfl ?_
    refine w_call cf140 trivial rfl rfl (fun w hs => ref03_rotl.calls hs (bits .xor .u32 (rd (vs p0 p1 (IntKind.u32.wrap ((rd p0.toList p1) + (rd p0.toList p2)))).toList p4) (rd (vs p0 p1 (IntKind.u32.wrap ((rd p0.toList p1) + (rd p0.toList p2)))).toList p1)) (16 : Int) _ e69) ?_
    rintro _ M66 l67 rfl
    refine w_nil ?_
    intro a w' hf hs
    exact ⟨rfl, hf.df, _, l67, hs, hf.get _ _ rfl⟩
  intro a w' M70 l71 hdf hsz hb hv hs
  have e72 := hv 0 20 _ rfl rfl
  have e73 := hv 8 28 _ rfl rfl
  refine n_of (c := (Cx.mk Tryd.prog 88 none' M w)) (l := [(1, (.int .i64 p1)), (2, (.int .i64 p2)), (3, (.int .i64 p3)), (4, (.int .i64 p4)), (5, (ptr b2 0)), (10, (ptr b3 0)), (20, (.int .i64 p4)), (28, (.int .u32 t64))]) ?_ (((((((((Fr.start hdf hsz).add e73).add e72).add (hb 10 _ rfl rfl)).add (hb 5 _ rfl rfl)).add (hb 4 _ rfl rfl)).add (hb 3 _ rfl rfl)).add (hb 2 _ rfl rfl)).add (hb 1 _ rfl rfl)) hs
  clear hdf hsz hb hv hs e72 e73
  refine n_id (hK36 _ _ _ ?_)
  obtain ⟨g74, H⟩ := grd_s H
  refine w_val trivial rfl (fun a w hf hs => r_iaI Tryd.underlying131 ts70 (hf.ev rfl) (hf.ev rfl) g74.1 g74.2) ?_
  refine w_store (i := 0) (vs := [(.int .u32 t64)]) (A' := vI .u32 (vs (vs p0 p1 (IntKind.u32.wrap ((rd p0.toList p1) + (rd p0.toList p2)))) p4 t64)) trivial rfl rfl rfl rfl ts70 rfl (one1 rfl) (idx_le g74.1 g74.2 (vI_len _) (by decide)) (vI_set0 g74.1 g74.2) ?_
  refine w_nil (hK35 _ _ _ ?_)
  refine c_seq ?_
  intro K75 hK75
  refine c_split2 8 (by kernel_rfl) (by kernel_rfl) (by kernel_rfl) (by kernel_rfl) rfl ?_
  intro K76 hK76
  obtain ⟨g84, H⟩ := grd_s H
  obtain ⟨g93, H⟩ := grd_s H
  refine d_drawP [([], [3]), ([], [3]), ([(1, 31)], [5]), ([(2, 32)], []), ([], [4]), ([(4, 34)], [5]), ([(5, 35)], []), ([(3, 33), (6, 36)], [])] [fun v M => v = (.int .i64 p3), fun v M => v = (.int .i64 p3), fun v M => v = (ptr b2 (0 + (p3).toNat)), fun v M => v = (.int .u32 (rd (vs (vs p0 p1 (IntKind.u32.wrap ((rd p0.toList p1) + (rd p0.toList p2)))) p4 t64).toList p3)), fun v M => v = (.int .i64 p4), fun v M => v = (ptr b2 (0 + (p4).toNat)), fun v M => v = (.int .u32 (rd (vs (vs p0 p1 (IntKind.u32.wrap ((rd p0.toList p1) + (rd p0.toList p2)))) p4 t64).toList p4)), fun v M => v = (.int .u32 (IntKind.u32.wrap ((rd (vs (vs p0 p1 (IntKind.u32.wrap ((rd p0.toList p1) + (rd p0.toList p2)))) p4 t64).toList p3) + (rd (vs (vs p0 p1 (IntKind.u32.wrap ((rd p0.toList p1) + (rd p0.toList p2)))) p4 t64).toList p4))))] (by kernel_rfl) (by kernel_rfl) ?_ (AllT.cons ?_ (AllT.cons ?_ (AllT.cons ?_ (AllT.cons ?_ (AllT.cons ?_ (AllT.cons ?_ (AllT.cons ?_ (AllT.cons ?_ AllT.nil)))))))) ?_
  · exact (MonoA.cons (fun _ _ _ _ h => h) (MonoA.cons (fun _ _ _ _ h => h) (MonoA.cons (fun _ _ _ _ h => h) (MonoA.cons (fun _ _ _ _ h => h) (MonoA.cons (fun _ _ _ _ h => h) (MonoA.cons (fun _ _ _ _ h => h) (MonoA.cons (fun _ _ _ _ h => h) (MonoA.cons (fun _ _ _ _ h => h) MonoA.nil))))))))
  · intro a w' M77 l78 hd hs
    refine OP.ofW (l := [(3, (.int .i64 p3))]) (hd.fr.add (hd.base 3 _ rfl rfl)) hs rfl ?_
    refine w_val trivial rfl (fun a w hf hs => r_move (hf.ev rfl)) ?_
    refine w_nil ?_
    intro a w' hf hs
    exact ⟨rfl, hf.df, _, (HLe.refl _), hs, hf.get _ _ rfl⟩
  · intro a w' M79 l80 hd hs
    refine OP.ofW (l := [(3, (.int .i64 p3))]) (hd.fr.add (hd.base 3 _ rfl rfl)) hs rfl ?_
    refine w_val trivial rfl (fun a w hf hs => r_move (hf.ev rfl)) ?_
    refine w_nil ?_
    intro a w' hf hs
    exact ⟨rfl, hf.df, _, (HLe.refl _), hs, hf.get _ _ rfl⟩
  · intro a w' M81 l82 hd hs
    have e83 := hd.val 1 31 _ rfl rfl
    refine OP.ofW (l := [(5, (ptr b2 0)), (31, (.int .i64 p3))]) ((hd.fr.add e83).add (hd.base 5 _ rfl rfl)) hs rfl ?_
    refine w_val trivial rfl (fun a w hf hs => r_iaI Tryd.underlying131 ts70 (hf.ev rfl) (hf.ev rfl) g84.1 g84.2) ?_
    refine w_nil ?_
    intro a w' hf hs
    exact ⟨rfl, hf.df, _, (HLe.refl _), hs, hf.get _ _ rfl⟩
  · intro a w' M85 l86 hd hs
    have e87 := hd.val 2 32 _ rfl rfl
    refine OP.ofW (l := [(32, (ptr b2 (0 + (p3).toNat)))]) (hd.fr.add e87) hs rfl ?_
    refine w_val trivial rfl (fun a w hf hs => r_load1 ta70 (hf.ev rfl) (hs.blk (i := 0) rfl) (vI_get0 g84.1 g84.2)) ?_
    refine w_nil ?_
    intro a w' hf hs
    exact ⟨rfl, hf.df, _, (HLe.refl _), hs, hf.get _ _ rfl⟩
  · intro a w' M88 l89 hd hs
    refine OP.ofW (l := [(4, (.int .i64 p4))]) (hd.fr.add (hd.base 4 _ rfl rfl)) hs rfl ?_
    refine w_val trivial rfl (fun a w hf hs => r_move (hf.ev rfl)) ?_
    refine w_nil ?_
    intro a w' hf hs
    exact ⟨rfl, hf.df, _, (HLe.refl _), hs, hf.get _ _ rfl⟩
  · intro a w' M90 l91 hd hs
    have e92 := hd.val 4 34 _ rfl rfl
    refine OP.ofW (l := [(5, (ptr b2 0)), (34, (.int .i64 p4))]) ((hd.fr.add e92).add (hd.base 5 _ rfl rfl)) hs rfl ?_
    refine w_val trivial rfl (fun a w hf hs => r_iaI Tryd.underlying131 ts70 (hf.ev rfl) (hf.ev rfl) g93.1 g93.2) ?_
    refine w_nil ?_
    intro a w' hf hs
    exact ⟨rfl, hf.df, _, (HLe.refl _), hs, hf.get _ _ rfl⟩
  · intro a w' M94 l95 hd hs
    have e96 := hd.val 5 35 _ rfl rfl
    refine OP.ofW (l := [(35, (ptr b2 (0 + (p4).toNat)))]) (hd.fr.add e96) hs rfl ?_
    refine w_val trivial rfl (fun a w hf hs => r_load1 ta70 (hf.ev rfl) (hs.blk (i := 0) rfl) (vI_get0 g93.1 g93.2)) ?_
    refine w_nil ?_
    intro a w' hf hs
    exact ⟨rfl, hf.df, _, (HLe.refl _), hs, hf.get _ _ rfl⟩
  · intro a w' M97 l98 hd hs
    have e99 := hd.val 3 33 _ rfl rfl
    have e100 := hd.val 6 36 _ rfl rfl
    refine OP.ofW (l := [(33, (.int .u32 (rd (vs (vs p0 p1 (IntKind.u32.wrap ((rd p0.toList p1) + (rd p0.toList p2)))) p4 t64).toList p3))), (36, (.int .u32 (rd (vs (vs p0 p1 (IntKind.u32.wrap ((rd p0.toList p1) + (rd p0.toList p2)))) p4 t64).toList p4)))]) ((hd.fr.add e100).add e99) hs rfl ?_
    refine w_val trivial rfl (fun a w hf hs => r_add (hf.ev rfl) (hf.ev rfl)) ?_
    refine w_nil ?_
    intro a w' hf hs
    exact ⟨rfl, hf.df, _, (HLe.refl _), hs, hf.get _ _ rfl⟩
  intro a w' M101 l102 hdf hsz hb hv hs
  have e103 := hv 0 30 _ rfl rfl
  have e104 := hv 7 37 _ rfl rfl
  refine n_of (c := (Cx.mk Tryd.prog 88 none' M w)) (l := [(1, (.int .i64 p1)), (2, (.int .i64 p2)), (3, (.int .i64 p3)), (4, (.int .i64 p4)), (5, (ptr b2 0)), (10, (ptr b3 0)), (30, (.int .i64 p3)), (37, (.int .u32 (IntKind.u32.wrap ((rd (vs (vs p0 p1 (IntKind.u32.wrap ((rd p0.toList p1) + (rd p0.toList p2)))) p4 t64).toList p3) + (rd (vs (vs p0 p1 (IntKind.u32.wrap ((rd p0.toList p1) + (rd p0.toList p2)))) p4 t64).toList p4)))))]) ?_ (((((((((Fr.start hdf hsz).add e104).add e103).add (hb 10 _ rfl rfl)).add (hb 5 _ rfl rfl)).add (hb 4 _ rfl rfl)).add (hb 3 _ rfl rfl)).add (hb 2 _ rfl rfl)).add (hb 1 _ rfl rfl)) hs
  clear hdf hsz hb hv hs e103 e104
  refine n_id (hK76 _ _ _ ?_)
  obtain ⟨g105, H⟩ := grd_s H
  refine w_val trivial rfl (fun a w hf hs => r_iaI Tryd.underlying131 ts70 (hf.ev rfl) (hf.ev rfl) g105.1 g105.2) ?_
  obtain ⟨z106, e107, H⟩ := bnd H
  have e108 := some_r e107
  refine w_store (i := 0) (vs := [(.int .u32 (IntKind.u32.wrap ((rd (vs (vs p0 p1 (IntKind.u32.wrap ((rd p0.toList p1) + (rd p0.toList p2)))) p4 t64).toList p3) + (rd (vs (vs p0 p1 (IntKind.u32.wrap ((rd p0.toList p1) + (rd p0.toList p2)))) p4 t64).toList p4))))]) (A' := vI .u32 z106) trivial rfl rfl rfl rfl ts70 rfl (one1 rfl) (idx_le g105.1 g105.2 (vI_len _) (by decide)) (by rw [← e108]; exact (vI_set0 g105.1 g105.2)) ?_
  clear e107 e108
  refine w_nil (hK75 _ _ _ ?_)
  refine c_seq ?_
  intro K109 hK109
  refine c_split2 9 (by kernel_rfl) (by kernel_rfl) (by kernel_rfl) (by kernel_rfl) rfl ?_
  intro K110 hK110
  obtain ⟨g118, H⟩ := grd_s H
  obtain ⟨g127, H⟩ := grd_s H
  obtain ⟨t138, e143, H⟩ := bnd H
  refine d_drawP [([], [2]), ([], [2]), ([(1, 40)], [5]), ([(2, 41)], []), ([], [3]), ([(4, 43)], [5]), ([(5, 44)], []), ([(3, 42), (6, 45)], []), ([(7, 46)], [])] [fun v M => v = (.int .i64 p2), fun v M => v = (.int .i64 p2), fun v M => v = (ptr b2 (0 + (p2).toNat)), fun v M => v = (.int .u32 (rd z106.toList p2)), fun v M => v = (.int .i64 p3), fun v M => v = (ptr b2 (0 + (p3).toNat)), fun v M => v = (.int .u32 (rd z106.toList p3)), fun v M => v = (.int .u32 (bits .xor .u32 (rd z106.toList p2) (rd z106.toList p3))), fun v M => v = (.int .u32 t138)] (by kernel_rfl) (by kernel_rfl) ?_ (AllT.cons ?_ (AllT.cons ?_ (AllT.cons ?_ (AllT.cons ?_ (AllT.cons ?_ (AllT.cons ?_ (AllT.cons ?_ (AllT.cons ?_ (AllT.cons ?_ AllT.nil))))))))) ?_
  · exact (MonoA.cons (fun _ _ _ _ h => h) (MonoA.cons (fun _ _ _ _ h => h) (MonoA.cons (fun _ _ _ _ h => h) (MonoA.cons (fun _ _ _ _ h => h) (MonoA.cons (fun _ _ _ _ h => h) (MonoA.cons (fun _ _ _ _ h => h) (MonoA.cons (fun _ _ _ _ h => h) (MonoA.cons (fun _ _ _ _ h => h) (MonoA.cons (fun _ _ _ _ h => h) MonoA.nil)))))))))
  · intro a w' M111 l112 hd hs
    refine OP.ofW (l := [(2, (.int .i64 p2))]) (hd.fr.add (hd.base 2 _ rfl rfl)) hs rfl ?_
    refine w_val trivial rfl (fun a w hf hs => r_move (hf.ev rfl)) ?_
    refine w_nil ?_
    intro a w' hf hs
    exact ⟨rfl, hf.df, _, (HLe.refl _), hs, hf.get _ _ rfl⟩
  · intro a w' M113 l114 hd hs
    refine OP.ofW (l := [(2, (.int .i64 p2))]) (hd.fr.add (hd.base 2 _ rfl rfl)) hs rfl ?_
    refine w_val trivial rfl (fun a w hf hs => r_move (hf.ev rfl)) ?_
    refine w_nil ?_
    intro a w' hf hs
    exact ⟨rfl, hf.df, _, (HLe.refl _), hs, hf.get _ _ rfl⟩
  · intro a w' M115 l116 hd hs
    have e117 := hd.val 1 40 _ rfl rfl
    refine OP.ofW (l := [(5, (ptr b2 0)), (40, (.int .i64 p2))]) ((hd.fr.add e117).add (hd.base 5 _ rfl rfl)) hs rfl ?_
    refine w_val trivial rfl (fun a w hf hs => r_iaI Tryd.underlying131 ts70 (hf.ev rfl) (hf.ev rfl) g118.1 g118.2) ?_
    refine w_nil ?_
    intro a w' hf hs
    exact ⟨rfl, hf.df, _, (HLe.refl _), hs, hf.get _ _ rfl⟩
  · intro a w' M119 l120 hd hs
    have e121 := hd.val 2 41 _ rfl rfl
    refine OP.ofW (l := [(41, (ptr b2 (0 + (p2).toNat)))]) (hd.fr.add e121) hs rfl ?_
    refine w_val trivial rfl (fun a w hf hs => r_load1 ta70 (hf.ev rfl) (hs.blk (i := 0) rfl) (vI_get0 g118.1 g118.2)) ?_
    refine w_nil ?_
    intro a w' hf hs
    exact ⟨rfl, hf.df, _, (HLe.refl _), hs, hf.get _ _ rfl⟩
  · intro a w' M122 l123 hd hs
    refine OP.ofW (l := [(3, (.int .i64 p3))]) (hd.fr.add (hd.base 3 _ rfl rfl)) hs rfl ?_
    refine w_val trivial rfl (fun a w hf hs => r_move (hf.ev rfl)) ?_
    refine w_nil ?_
    intro a w' hf hs
    exact ⟨rfl, hf.df, _, (HLe.refl _), hs, hf.get _ _ rfl⟩
  · intro a w' M124 l125 hd hs
    have e126 := hd.val 4 43 _ rfl rfl
    refine OP.ofW (l := [(5, (ptr b2 0)), (43, (.int .i64 p3))]) ((hd.fr.add e126).add (hd.base 5 _ rfl rfl)) hs rfl ?_
    refine w_val trivial rfl (fun a w hf hs => r_iaI Tryd.underlying131 ts70 (hf.ev rfl) (hf.ev rfl) g127.1 g127.2) ?_
    refine w_nil ?_
    intro a w' hf hs
    exact ⟨rfl, hf.df, _, (HLe.refl _), hs, hf.get _ _ rfl⟩
  · intro a w' M128 l129 hd hs
    have e130 := hd.val 5 44 _ rfl rfl
    refine OP.ofW (l := [(44, (ptr b2 (0 + (p3).toNat)))]) (hd.fr.add e130) hs rfl ?_
    refine w_val trivial rfl (fun a w hf hs => r_load1 ta70 (hf.ev rfl) (hs.blk (i := 0) rfl) (vI_get0 g127.1 g127.2)) ?_
    refine w_nil ?_
    intro a w' hf hs
    exact ⟨rfl, hf.df, _, (HLe.refl _), hs, hf.get _ _ rfl⟩
  · intro a w' M131 l132 hd hs
    have e133 := hd.val 3 42 _ rfl rfl
    have e134 := hd.val 6 45 _ rfl rfl
    refine OP.ofW (l := [(42, (.int .u32 (rd z106.toList p2))), (45, (.int .u32 (rd z106.toList p3)))]) ((hd.fr.add e134).add e133) hs rfl ?_
    refine w_val trivial rfl (fun a w hf hs => r_xor (hf.ev rfl) (hf.ev rfl)) ?_
    refine w_nil ?_
    intro a w' hf hs
    exact ⟨rfl, hf.df, _, (HLe.refl _), hs, hf.get _ _ rfl⟩
  · intro a w' M135 l136 hd hs
    have e137 := hd.val 7 46 _ rfl rfl
    refine OP.ofW (l := [(46, (.int .u32 (bits .xor .u32 (rd z106.toList p2) (rd z106.toList p3))))]) (hd.fr.add e137) hs rfl ?_
    refine w_call cf140 trivial rfl rfl (fun w hs => ref03_rotl.calls hs (bits .xor .u32 (rd z106.toList p2) (rd z106.toList p3)) (12 : Int) _ e143) ?_
    rintro _ M140 l141 rfl
    refine w_nil ?_
    intro a w' hf hs
    exact ⟨rfl, hf.df, _, l141, hs, hf.get _ _ rfl⟩
  intro a w' M144 l145 hdf hsz hb hv hs
  have e146 := hv 0 39 _ rfl rfl
  have e147 := hv 8 47 _ rfl rfl
  refine n_of (c := (Cx.mk Tryd.prog 88 none' M w)) (l := [(1, (.int .i64 p1)), (2, (.int .i64 p2)), (3, (.int .i64 p3)), (4, (.int .i64 p4)), (5, (ptr b2 0)), (10, (ptr b3 0)), (39, (.int .i64 p2)), (47, (.int .u32 t138))]) ?_ (((((((((Fr.start hdf hsz).add e147).add e146).add (hb 10 _ rfl rfl)).add (hb 5 _ rfl rfl)).add (hb 4 _ rfl rfl)).add (hb 3 _ rfl rfl)).add (hb 2 _ rfl rfl)).add (hb 1 _ rfl rfl)) hs
  clear hdf hsz hb hv hs e146 e147
  refine n_id (hK110 _ _ _ ?_)
  obtain ⟨g148, H⟩ := grd_s H
  refine w_val trivial rfl (fun a w hf hs => r_iaI Tryd.underlying131 ts70 (hf.ev rfl) (hf.ev rfl) g148.1 g148.2) ?_
  refine w_store (i := 0) (vs := [(.int .u32 t138)]) (A' := vI .u32 (vs z106 p2 t138)) trivial rfl rfl rfl rfl ts70 rfl (one1 rfl) (idx_le g148.1 g148.2 (vI_len _) (by decide)) (vI_set0 g148.1 g148.2) ?_
  refine w_nil (hK109 _ _ _ ?_)
  refine c_seq ?_
  intro K149 hK149
  refine c_split2 8 (by kernel_rfl) (by kernel_rfl) (by kernel_rfl) (by kernel_rfl) rfl ?_
  intro K150 hK150
  obtain ⟨g158, H⟩ := grd_s H
  obtain ⟨g167, H⟩ := grd_s H
  refine d_drawP [([], [1]), ([], [1]), ([(1, 50)], [5]), ([(2, 51)], []), ([], [2]), ([(4, 53)], [5]), ([(5, 54)], []), ([(3, 52), (6, 55)], [])] [fun v M => v = (.int .i64 p1), fun v M => v = (.int .i64 p1), fun v M => v = (ptr b2 (0 + (p1).toNat)), fun v M => v = (.int .u32 (rd (vs z106 p2 t138).toList p1)), fun v M => v = (.int .i64 p2), fun v M => v = (ptr b2 (0 + (p2).toNat)), fun v M => v = (.int .u32 (rd (vs z106 p2 t138).toList p2)), fun v M => v = (.int .u32 (IntKind.u32.wrap ((rd (vs z106 p2 t138).toList p1) + (rd (vs z106 p2 t138).toList p2))))] (by kernel_rfl) (by kernel_rfl) ?_ (AllT.cons ?_ (AllT.cons ?_ (AllT.cons ?_ (AllT.cons ?_ (AllT.cons ?_ (AllT.cons ?_ (AllT.cons ?_ (AllT.cons ?_ AllT.nil)))))))) ?_
  · exact (MonoA.cons (fun _ _ _ _ h => h) (MonoA.cons (fun _ _ _ _ h => h) (MonoA.cons (fun _ _ _ _ h => h) (MonoA.cons (fun _ _ _ _ h => h) (MonoA.cons (fun _ _ _ _ h => h) (MonoA.cons (fun _ _ _ _ h => h) (MonoA.cons (fun _ _ _ _ h => h) (MonoA.cons (fun _ _ _ _ h => h) MonoA.nil))))))))
  · intro a w' M151 l152 hd hs
    refine OP.ofW (l := [(1, (.int .i64 p1))]) (hd.fr.add (hd.base 1 _ rfl rfl)) hs rfl ?_
    refine w_val trivial rfl (fun a w hf hs => r_move (hf.ev rfl)) ?_
    refine w_nil ?_
    intro a w' hf hs
    exact ⟨rfl, hf.df, _, (HLe.refl _), hs, hf.get _ _ rfl⟩
  · intro a w' M153 l154 hd hs
    refine OP.ofW (l := [(1, (.int .i64 p1))]) (hd.fr.add (hd.base 1 _ rfl rfl)) hs rfl ?_
    refine w_val trivial rfl (fun a w hf hs => r_move (hf.ev rfl)) ?_
    refine w_nil ?_
    intro a w' hf hs
    exact ⟨rfl, hf.df, _, (HLe.refl _), hs, hf.get _ _ rfl⟩
  · intro a w' M155 l156 hd hs
    have e157 := hd.val 1 50 _ rfl rfl
    refine OP.ofW (l := [(5, (ptr b2 0)), (50, (.int .i64 p1))]) ((hd.fr.add e157).add (hd.base 5 _ rfl rfl)) hs rfl ?_
    refine w_val trivial rfl (fun a w hf hs => r_iaI Tryd.underlying131 ts70 (hf.ev rfl) (hf.ev rfl) g158.1 g158.2) ?_
    refine w_nil ?_
    intro a w' hf hs
    exact ⟨rfl, hf.df, _, (HLe.refl _), hs, hf.get _ _ rfl⟩
  · intro a w' M159 l160 hd hs
    have e161 := hd.val 2 51 _ rfl rfl
    refine OP.ofW (l := [(51, (ptr b2 (0 + (p1).toNat)))]) (hd.fr.add e161) hs rfl ?_
    refine w_val trivial rfl (fun a w hf hs => r_load1 ta70 (hf.ev rfl) (hs.blk (i := 0) rfl) (vI_get0 g158.1 g158.2)) ?_
    refine w_nil ?_
    intro a w' hf hs
    exact ⟨rfl, hf.df, _, (HLe.refl _), hs, hf.get _ _ rfl⟩
  · intro a w' M162 l163 hd hs
    refine OP.ofW (l := [(2, (.int .i64 p2))]) (hd.fr.add (hd.base 2 _ rfl rfl)) hs rfl ?_
    refine w_val trivial rfl (fun a w hf hs => r_move (hf.ev rfl)) ?_
    refine w_nil ?_
    intro a w' hf hs
    exact ⟨rfl, hf.df, _, (HLe.refl _), hs, hf.get _ _ rfl⟩
  · intro a w' M164 l165 hd hs
    have e166 := hd.val 4 53 _ rfl rfl
    refine OP.ofW (l := [(5, (ptr b2 0)), (53, (.int .i64 p2))]) ((hd.fr.add e166).add (hd.base 5 _ rfl rfl)) hs rfl ?_
    refine w_val trivial rfl (fun a w hf hs => r_iaI Tryd.underlying131 ts70 (hf.ev rfl) (hf.ev rfl) g167.1 g167.2) ?_
    refine w_nil ?_
    intro a w' hf hs
    exact ⟨rfl, hf.df, _, (HLe.refl _), hs, hf.get _ _ rfl⟩
  · intro a w' M168 l169 hd hs
    have e170 := hd.val 5 54 _ rfl rfl
    refine OP.ofW (l := [(54, (ptr b2 (0 + (p2).toNat)))]) (hd.fr.add e170) hs rfl ?_
    refine w_val trivial rfl (fun a w hf hs => r_load1 ta70 (hf.ev rfl) (hs.blk (i := 0) rfl) (vI_get0 g167.1 g167.2)) ?_
    refine w_nil ?_
    intro a w' hf hs
    exact ⟨rfl, hf.df, _, (HLe.refl _), hs, hf.get _ _ rfl⟩
  · intro a w' M171 l172 hd hs
    have e173 := hd.val 3 52 _ rfl rfl
    have e174 := hd.val 6 55 _ rfl rfl
    refine OP.ofW (l := [(52, (.int .u32 (rd (vs z106 p2 t138).toList p1))), (55, (.int .u32 (rd (vs z106 p2 t138).toList p2)))]) ((hd.fr.add e174).add e173) hs rfl ?_
    refine w_val trivial rfl (fun a w hf hs => r_add (hf.ev rfl) (hf.ev rfl)) ?_
    refine w_nil ?_
    intro a w' hf hs
    exact ⟨rfl, hf.df, _, (HLe.refl _), hs, hf.get _ _ rfl⟩
  intro a w' M175 l176 hdf hsz hb hv hs
  have e177 := hv 0 49 _ rfl rfl
  have e178 := hv 7 56 _ rfl rfl
  refine n_of (c := (Cx.mk Tryd.prog 88 none' M w)) (l := [(1, (.int .i64 p1)), (2, (.int .i64 p2)), (3, (.int .i64 p3)), (4, (.int .i64 p4)), (5, (ptr b2 0)), (10, (ptr b3 0)), (49, (.int .i64 p1)), (56, (.int .u32 (IntKind.u32.wrap ((rd (vs z106 p2 t138).toList p1) + (rd (vs z106 p2 t138).toList p2)))))]) ?_ (((((((((Fr.start hdf hsz).add e178).add e177).add (hb 10 _ rfl rfl)).add (hb 5 _ rfl rfl)).add (hb 4 _ rfl rfl)).add (hb 3 _ rfl rfl)).add (hb 2 _ rfl rfl)).add (hb 1 _ rfl rfl)) hs
  clear hdf hsz hb hv hs e177 e178
  refine n_id (hK150 _ _ _ ?_)
  obtain ⟨g179, H⟩ := grd_s H
  refine w_val trivial rfl (fun a w hf hs => r_iaI Tryd.underlying131 ts70 (hf.ev rfl) (hf.ev rfl) g179.1 g179.2) ?_
  refine w_store (i := 0) (vs := [(.int .u32 (IntKind.u32.wrap ((rd (vs z106 p2 t138).toList p1) + (rd (vs z106 p2 t138).toList p2))))]) (A' := vI .u32 (vs (vs z106 p2 t138) p1 (IntKind.u32.wrap ((rd (vs z106 p2 t138).toList p1) + (rd (vs z106 p2 t138).toList p2))))) trivial rfl rfl rfl rfl ts70 rfl (one1 rfl) (idx_le g179.1 g179.2 (vI_len _) (by decide)) (vI_set0 g179.1 g179.2) ?_
  refine w_nil (hK149 _ _ _ ?_)
  refine c_seq ?_
  intro K180 hK180
  refine c_split2 9 (by kernel_rfl) (by kernel_rfl) (by kernel_rfl) (by kernel_rfl) rfl ?_
  intro K181 hK181
  obtain ⟨g189, H⟩ := grd_s H
  obtain ⟨g198, H⟩ := grd_s H
  obtain ⟨t209, e214, H⟩ := bnd H
  refine d_drawP [([], [4]), ([], [4]), ([(1, 59)], [5]), ([(2, 60)], []), ([], [1]), ([(4, 62)], [5]), ([(5, 63)], []), ([(3, 61), (6, 64)], []), ([(7, 65)], [])] [fun v M => v = (.int .i64 p4), fun v M => v = (.int .i64 p4), fun v M => v = (ptr b2 (0 + (p4).toNat)), fun v M => v = (.int .u32 (rd (vs (vs z106 p2 t138) p1 (IntKind.u32.wrap ((rd (vs z106 p2 t138).toList p1) + (rd (vs z106 p2 t138).toList p2)))).toList p4)), fun v M => v = (.int .i64 p1), fun v M => v = (ptr b2 (0 + (p1).toNat)), fun v M => v = (.int .u32 (rd (vs (vs z106 p2 t138) p1 (IntKind.u32.wrap ((rd (vs z106 p2 t138).toList p1) + (rd (vs z106 p2 t138).toList p2)))).toList p1)), fun v M => v = (.int .u32 (bits .xor .u32 (rd (vs (vs z106 p2 t138) p1 (IntKind.u32.wrap ((rd (vs z106 p2 t138).toList p1) + (rd (vs z106 p2 t138).toList p2)))).toList p4) (rd (vs (vs z106 p2 t138) p1 (IntKind.u32.wrap ((rd (vs z106 p2 t138).toList p1) + (rd (vs z106 p2 t138).toList p2)))).toList p1))), fun v M => v = (.int .u32 t209)] (by kernel_rfl) (by kernel_rfl) ?_ (AllT.cons ?_ (AllT.cons ?_ (AllT.cons ?_ (AllT.cons ?_ (AllT.cons ?_ (AllT.cons ?_ (AllT.cons ?_ (AllT.cons ?_ (AllT.cons ?_ AllT.nil))))))))) ?_
  · exact (MonoA.cons (fun _ _ _ _ h => h) (MonoA.cons (fun _ _ _ _ h => h) (MonoA.cons (fun _ _ _ _ h => h) (MonoA.cons (fun _ _ _ _ h => h) (MonoA.cons (fun _ _ _ _ h => h) (MonoA.cons (fun _ _ _ _ h => h) (MonoA.cons (fun _ _ _ _ h => h) (MonoA.cons (fun _ _ _ _ h => h) (MonoA.cons (fun _ _ _ _ h => h) MonoA.nil)))))))))
  · intro a w' M182 l183 hd hs
    refine OP.ofW (l := [(4, (.int .i64 p4))]) (hd.fr.add (hd.base 4 _ rfl rfl)) hs rfl ?_
    refine w_val trivial rfl (fun a w hf hs => r_move (hf.ev rfl)) ?_
    refine w_nil ?_
    intro a w' hf hs
    exact ⟨rfl, hf.df, _, (HLe.refl _), hs, hf.get _ _ rfl⟩
  · intro a w' M184 l185 hd hs
    refine OP.ofW (l := [(4, (.int .i64 p4))]) (hd.fr.add (hd.base 4 _ rfl rfl)) hs rfl ?_
    refine w_val trivial rfl (fun a w hf hs => r_move (hf.ev rfl)) ?_
    refine w_nil ?_
    intro a w' hf hs
    exact ⟨rfl, hf.df, _, (HLe.refl _), hs, hf.get _ _ rfl⟩
  · intro a w' M186 l187 hd hs
    have e188 := hd.val 1 59 _ rfl rfl
    refine OP.ofW (l := [(5, (ptr b2 0)), (59, (.int .i64 p4))]) ((hd.fr.add e188).add (hd.base 5 _ rfl rfl)) hs rfl ?_
    refine w_val trivial rfl (fun a w hf hs => r_iaI Tryd.underlying131 ts70 (hf.ev rfl) (hf.ev rfl) g189.1 g189.2) ?_
    refine w_nil ?_
    intro a w' hf hs
    exact ⟨rfl, hf.df, _, (HLe.refl _), hs, hf.get _ _ rfl⟩
  · intro a w' M190 l191 hd hs
    have e192 := hd.val 2 60 _ rfl rfl
    refine OP.ofW (l := [(60, (ptr b2 (0 + (p4).toNat)))]) (hd.fr.add e192) hs rfl ?_
    refine w_val trivial rfl (fun a w hf hs => r_load1 ta70 (hf.ev rfl) (hs.blk (i := 0) rfl) (vI_get0 g189.1 g189.2)) ?_
    refine w_nil ?_
    intro a w' hf hs
    exact ⟨rfl, hf.df, _, (HLe.refl _), hs, hf.get _ _ rfl⟩
  · intro a w' M193 l194 hd hs
    refine OP.ofW (l := [(1, (.int .i64 p1))]) (hd.fr.add (hd.base 1 _ rfl rfl)) hs rfl ?_
    refine w_val trivial rfl (fun a w hf hs => r_move (hf.ev rfl)) ?_
    refine w_nil ?_
    intro a w' hf hs
    exact ⟨rfl, hf.df, _, (HLe.refl _), hs, hf.get _ _ rfl⟩
  · intro a w' M195 l196 hd hs
    have e197 := hd.val 4 62 _ rfl rfl
    refine OP.ofW (l := [(5, (ptr b2 0)), (62, (.int .i64 p1))]) ((hd.fr.add e197).add (hd.base 5 _ rfl rfl)) hs rfl ?_
    refine w_val trivial rfl (fun a w hf hs => r_iaI Tryd.underlying131 ts70 (hf.ev rfl) (hf.ev rfl) g198.1 g198.2) ?_
    refine w_nil ?_
    intro a w' hf hs
    exact ⟨rfl, hf.df, _, (HLe.refl _), hs, hf.get _ _ rfl⟩
  · intro a w' M199 l200 hd hs
    have e201 := hd.val 5 63 _ rfl rfl
    refine OP.ofW (l := [(63, (ptr b2 (0 + (p1).toNat)))]) (hd.fr.add e201) hs rfl ?_
    refine w_val trivial rfl (fun a w hf hs => r_load1 ta70 (hf.ev rfl) (hs.blk (i := 0) rfl) (vI_get0 g198.1 g198.2)) ?_
    refine w_nil ?_
    intro a w' hf hs
    exact ⟨rfl, hf.df, _, (HLe.refl _), hs, hf.get _ _ rfl⟩
  · intro a w' M202 l203 hd hs
    have e204 := hd.val 3 61 _ rfl rfl
    have e205 := hd.val 6 64 _ rfl rfl
    refine OP.ofW (l := [(61, (.int .u32 (rd (vs (vs z106 p2 t138) p1 (IntKind.u32.wrap ((rd (vs z106 p2 t138).toList p1) + (rd (vs z106 p2 t138).toList p2)))).toList p4))), (64, (.int .u32 (rd (vs (vs z106 p2 t138) p1 (IntKind.u32.wrap ((rd (vs z106 p2 t138).toList p1) + (rd (vs z106 p2 t138).toList p2)))).toList p1)))]) ((hd.fr.add e205).add e204) hs rfl ?_
    refine w_val trivial rfl (fun a w hf hs => r_xor (hf.ev rfl) (hf.ev rfl)) ?_
    refine w_nil ?_
    intro a w' hf hs
    exact ⟨rfl, hf.df, _, (HLe.refl _), hs, hf.get _ _ rfl⟩
  · intro a w' M206 l207 hd hs
    have e208 := hd.val 7 65 _ rfl rfl
    refine OP.ofW (l := [(65, (.int .u32 (bits .xor .u32 (rd (vs (vs z106 p2 t138) p1 (IntKind.u32.wrap ((rd (vs z106 p2 t138).toList p1) + (rd (vs z106 p2 t138).toList p2)))).toList p4) (rd (vs (vs z106 p2 t138) p1 (IntKind.u32.wrap ((rd (vs z106 p2 t138).toList p1) + (rd (vs z106 p2 t138).toList p2)))).toList p1))))]) (hd.fr.add e208) hs rfl ?_
    refine w_call cf140 trivial rfl rfl (fun w hs => ref03_rotl.calls hs (bits .xor .u32 (rd (vs (vs z106 p2 t138) p1 (IntKind.u32.wrap ((rd (vs z106 p2 t138).toList p1) + (rd (vs z106 p2 t138).toList p2)))).toList p4) (rd (vs (vs z106 p2 t138) p1 (IntKind.u32.wrap ((rd (vs z106 p2 t138).toList p1) + (rd (vs z106 p2 t138).toList p2)))).toList p1)) (8 : Int) _ e214) ?_
    rintro _ M211 l212 rfl
    refine w_nil ?_
    intro a w' hf hs
    exact ⟨rfl, hf.df, _, l212, hs, hf.get _ _ rfl⟩
  intro a w' M215 l216 hdf hsz hb hv hs
  have e217 := hv 0 58 _ rfl rfl
  have e218 := hv 8 66 _ rfl rfl
  refine n_of (c := (Cx.mk Tryd.prog 88 none' M w)) (l := [(2, (.int .i64 p2)), (3, (.int .i64 p3)), (4, (.int .i64 p4)), (5, (ptr b2 0)), (10, (ptr b3 0)), (58, (.int .i64 p4)), (66, (.int .u32 t209))]) ?_ ((((((((Fr.start hdf hsz).add e218).add e217).add (hb 10 _ rfl rfl)).add (hb 5 _ rfl rfl)).add (hb 4 _ rfl rfl)).add (hb 3 _ rfl rfl)).add (hb 2 _ rfl rfl)) hs
  clear hdf hsz hb hv hs e217 e218
  refine n_id (hK181 _ _ _ ?_)
  obtain ⟨g219, H⟩ := grd_s H
  refine w_val trivial rfl (fun a w hf hs => r_iaI Tryd.underlying131 ts70 (hf.ev rfl) (hf.ev rfl) g219.1 g219.2) ?_
  refine w_store (i := 0) (vs := [(.int .u32 t209)]) (A' := vI .u32 (vs (vs (vs z106 p2 t138) p1 (IntKind.u32.wrap ((rd (vs z106 p2 t138).toList p1) + (rd (vs z106 p2 t138).toList p2)))) p4 t209)) trivial rfl rfl rfl rfl ts70 rfl (one1 rfl) (idx_le g219.1 g219.2 (vI_len _) (by decide)) (vI_set0 g219.1 g219.2) ?_
  refine w_nil (hK180 _ _ _ ?_)
  refine c_seq ?_
  intro K220 hK220
  refine c_split2 8 (by kernel_rfl) (by kernel_rfl) (by kernel_rfl) (by kernel_rfl) rfl ?_
  intro K221 hK221
  obtain ⟨g229, H⟩ := grd_s H
  obtain ⟨g238, H⟩ := grd_s H
  refine d_drawP [([], [3]), ([], [3]), ([(1, 69)], [5]), ([(2, 70)], []), ([], [4]), ([(4, 72)], [5]), ([(5, 73)], []), ([(3, 71), (6, 74)], [])] [fun v M => v = (.int .i64 p3), fun v M => v = (.int .i64 p3), fun v M => v = (ptr b2 (0 + (p3).toNat)), fun v M => v = (.int .u32 (rd (vs (vs (vs z106 p2 t138) p1 (IntKind.u32.wrap ((rd (vs z106 p2 t138).toList p1) + (rd (vs z106 p2 t138).toList p2)))) p4 t209).toList p3)), fun v M => v = (.int .i64 p4), fun v M => v = (ptr b2 (0 + (p4).toNat)), fun v M => v = (.int .u32 (rd (vs (vs (vs z106 p2 t138) p1 (IntKind.u32.wrap ((rd (vs z106 p2 t138).toList p1) + (rd (vs z106 p2 t138).toList p2)))) p4 t209).toList p4)), fun v M => v = (.int .u32 (IntKind.u32.wrap ((rd (vs (vs (vs z106 p2 t138) p1 (IntKind.u32.wrap ((rd (vs z106 p2 t138).toList p1) + (rd (vs z106 p2 t138).toList p2)))) p4 t209).toList p3) + (rd (vs (vs (vs z106 p2 t138) p1 (IntKind.u32.wrap ((rd (vs z106 p2 t138).toList p1) + (rd (vs z106 p2 t138).toList p2)))) p4 t209).toList p4))))] (by kernel_rfl) (by kernel_rfl) ?_ (AllT.cons ?_ (AllT.cons ?_ (AllT.cons ?_ (AllT.cons ?_ (AllT.cons ?_ (AllT.cons ?_ (AllT.cons ?_ (AllT.cons ?_ AllT.nil)))))))) ?_
  · exact (MonoA.cons (fun _ _ _ _ h => h) (MonoA.cons (fun _ _ _ _ h => h) (MonoA.cons (fun _ _ _ _ h => h) (MonoA.cons (fun _ _ _ _ h => h) (MonoA.cons (fun _ _ _ _ h => h) (MonoA.cons (fun _ _ _ _ h => h) (MonoA.cons (fun _ _ _ _ h => h) (MonoA.cons (fun _ _ _ _ h => h) MonoA.nil))))))))
  · intro a w' M222 l223 hd hs
    refine OP.ofW (l := [(3, (.int .i64 p3))]) (hd.fr.add (hd.base 3 _ rfl rfl)) hs rfl ?_
    refine w_val trivial rfl (fun a w hf hs => r_move (hf.ev rfl)) ?_
    refine w_nil ?_
    intro a w' hf hs
    exact ⟨rfl, hf.df, _, (HLe.refl _), hs, hf.get _ _ rfl⟩
  · intro a w' M224 l225 hd hs
    refine OP.ofW (l := [(3, (.int .i64 p3))]) (hd.fr.add (hd.base 3 _ rfl rfl)) hs rfl ?_
    refine w_val trivial rfl (fun a w hf hs => r_move (hf.ev rfl)) ?_
    refine w_nil ?_
    intro a w' hf hs
    exact ⟨rfl, hf.df, _, (HLe.refl _), hs, hf.get _ _ rfl⟩
  · intro a w' M226 l227 hd hs
    have e228 := hd.val 1 69 _ rfl rfl
    refine OP.ofW (l := [(5, (ptr b2 0)), (69, (.int .i64 p3))]) ((hd.fr.add e228).add (hd.base 5 _ rfl rfl)) hs rfl ?_
    refine w_val trivial rfl (fun a w hf hs => r_iaI Tryd.underlying131 ts70 (hf.ev rfl) (hf.ev rfl) g229.1 g229.2) ?_
    refine w_nil ?_
    intro a w' hf hs
    exact ⟨rfl, hf.df, _, (HLe.refl _), hs, hf.get _ _ rfl⟩
  · intro a w' M230 l231 hd hs
    have e232 := hd.val 2 70 _ rfl rfl
    refine OP.ofW (l := [(70, (ptr b2 (0 + (p3).toNat)))]) (hd.fr.add e232) hs rfl ?_
    refine w_val trivial rfl (fun a w hf hs => r_load1 ta70 (hf.ev rfl) (hs.blk (i := 0) rfl) (vI_get0 g229.1 g229.2)) ?_
    refine w_nil ?_
    intro a w' hf hs
    exact ⟨rfl, hf.df, _, (HLe.refl _), hs, hf.get _ _ rfl⟩
  · intro a w' M233 l234 hd hs
    refine OP.ofW (l := [(4, (.int .i64 p4))]) (hd.fr.add (hd.base 4 _ rfl rfl)) hs rfl ?_
    refine w_val trivial rfl (fun a w hf hs => r_move (hf.ev rfl)) ?_
    refine w_nil ?_
    intro a w' hf hs
    exact ⟨rfl, hf.df, _, (HLe.refl _), hs, hf.get _ _ rfl⟩
  · intro a w' M235 l236 hd hs
    have e237 := hd.val 4 72 _ rfl rfl
    refine OP.ofW (l := [(5, (ptr b2 0)), (72, (.int .i64 p4))]) ((hd.fr.add e237).add (hd.base 5 _ rfl rfl)) hs rfl ?_
    refine w_val trivial rfl (fun a w hf hs => r_iaI Tryd.underlying131 ts70 (hf.ev rfl) (hf.ev rfl) g238.1 g238.2) ?_
    refine w_nil ?_
    intro a w' hf hs
    exact ⟨rfl, hf.df, _, (HLe.refl _), hs, hf.get _ _ rfl⟩
  · intro a w' M239 l240 hd hs
    have e241 := hd.val 5 73 _ rfl rfl
    refine OP.ofW (l := [(73, (ptr b2 (0 + (p4).toNat)))]) (hd.fr.add e241) hs rfl ?_
    refine w_val trivial rfl (fun a w hf hs => r_load1 ta70 (hf.ev rfl) (hs.blk (i := 0) rfl) (vI_get0 g238.1 g238.2)) ?_
    refine w_nil ?_
    intro a w' hf hs
    exact ⟨rfl, hf.df, _, (HLe.refl _), hs, hf.get _ _ rfl⟩
  · intro a w' M242 l243 hd hs
    have e244 := hd.val 3 71 _ rfl rfl
    have e245 := hd.val 6 74 _ rfl rfl
    refine OP.ofW (l := [(71, (.int .u32 (rd (vs (vs (vs z106 p2 t138) p1 (IntKind.u32.wrap ((rd (vs z106 p2 t138).toList p1) + (rd (vs z106 p2 t138).toList p2)))) p4 t209).toList p3))), (74, (.int .u32 (rd (vs (vs (vs z106 p2 t138) p1 (IntKind.u32.wrap ((rd (vs z106 p2 t138).toList p1) + (rd (vs z106 p2 t138).toList p2)))) p4 t209).toList p4)))]) ((hd.fr.add e245).add e244) hs rfl ?_
    refine w_val trivial rfl (fun a w hf hs => r_add (hf.ev rfl) (hf.ev rfl)) ?_
    refine w_nil ?_
    intro a w' hf hs
    exact ⟨rfl, hf.df, _, (HLe.refl _), hs, hf.get _ _ rfl⟩
  intro a w' M246 l247 hdf hsz hb hv hs
  have e248 := hv 0 68 _ rfl rfl
  have e249 := hv 7 75 _ rfl rfl
  refine n_of (c := (Cx.mk Tryd.prog 88 none' M w)) (l := [(2, (.int .i64 p2)), (3, (.int .i64 p3)), (5, (ptr b2 0)), (10, (ptr b3 0)), (68, (.int .i64 p3)), (75, (.int .u32 (IntKind.u32.wrap ((rd (vs (vs (vs z106 p2 t138) p1 (IntKind.u32.wrap ((rd (vs z106 p2 t138).toList p1) + (rd (vs z106 p2 t138).toList p2)))) p4 t209).toList p3) + (rd (vs (vs (vs z106 p2 t138) p1 (IntKind.u32.wrap ((rd (vs z106 p2 t138).toList p1) + (rd (vs z106 p2 t138).toList p2)))) p4 t209).toList p4)))))]) ?_ (((((((Fr.start hdf hsz).add e249).add e248).add (hb 10 _ rfl rfl)).add (hb 5 _ rfl rfl)).add (hb 3 _ rfl rfl)).add (hb 2 _ rfl rfl)) hs
  clear hdf hsz hb hv hs e248 e249
  refine n_id (hK221 _ _ _ ?_)
  obtain ⟨g250, H⟩ := grd_s H
  refine w_val trivial rfl (fun a w hf hs => r_iaI Tryd.underlying131 ts70 (hf.ev rfl) (hf.ev rfl) g250.1 g250.2) ?_
  obtain ⟨z251, e252, H⟩ := bnd H
  have e253 := some_r e252
  refine w_store (i := 0) (vs := [(.int .u32 (IntKind.u32.wrap ((rd (vs (vs (vs z106 p2 t138) p1 (IntKind.u32.wrap ((rd (vs z106 p2 t138).toList p1) + (rd (vs z106 p2 t138).toList p2)))) p4 t209).toList p3) + (rd (vs (vs (vs z106 p2 t138) p1 (IntKind.u32.wrap ((rd (vs z106 p2 t138).toList p1) + (rd (vs z106 p2 t138).toList p2)))) p4 t209).toList p4))))]) (A' := vI .u32 z251) trivial rfl rfl rfl rfl ts70 rfl (one1 rfl) (idx_le g250.1 g250.2 (vI_len _) (by decide)) (by rw [← e253]; exact (vI_set0 g250.1 g250.2)) ?_
  clear e252 e253
  refine w_nil (hK220 _ _ _ ?_)
  refine c_seq ?_
  intro K254 hK254
  refine c_split2 9 (by kernel_rfl) (by kernel_rfl) (by kernel_rfl) (by kernel_rfl) rfl ?_
  intro K255 hK255
  obtain ⟨g263, H⟩ := grd_s H
  obtain ⟨g272, H⟩ := grd_s H
  obtain ⟨t283, e288, H⟩ := bnd H
  refine d_drawP [([], [2]), ([], [2]), ([(1, 78)], [5]), ([(2, 79)], []), ([], [3]), ([(4, 81)], [5]), ([(5, 82)], []), ([(3, 80), (6, 83)], []), ([(7, 84)], [])] [fun v M => v = (.int .i64 p2), fun v M => v = (.int .i64 p2), fun v M => v = (ptr b2 (0 + (p2).toNat)), fun v M => v = (.int .u32 (rd z251.toList p2)), fun v M => v = (.int .i64 p3), fun v M => v = (ptr b2 (0 + (p3).toNat)), fun v M => v = (.int .u32 (rd z251.toList p3)), fun v M => v = (.int .u32 (bits .xor .u32 (rd z251.toList p2) (rd z251.toList p3))), fun v M => v = (.int .u32 t283)] (by kernel_rfl) (by kernel_rfl) ?_ (AllT.cons ?_ (AllT.cons ?_ (AllT.cons ?_ (AllT.cons ?_ (AllT.cons ?_ (AllT.cons ?_ (AllT.cons ?_ (AllT.cons ?_ (AllT.cons ?_ AllT.nil))))))))) ?_
  · exact (MonoA.cons (fun _ _ _ _ h => h) (MonoA.cons (fun _ _ _ _ h => h) (MonoA.cons (fun _ _ _ _ h => h) (MonoA.cons (fun _ _ _ _ h => h) (MonoA.cons (fun _ _ _ _ h => h) (MonoA.cons (fun _ _ _ _ h => h) (MonoA.cons (fun _ _ _ _ h => h) (MonoA.cons (fun _ _ _ _ h => h) (MonoA.cons (fun _ _ _ _ h => h) MonoA.nil)))))))))
  · intro a w' M256 l257 hd hs
    refine OP.ofW (l := [(2, (.int .i64 p2))]) (hd.fr.add (hd.base 2 _ rfl rfl)) hs rfl ?_
    refine w_val trivial rfl (fun a w hf hs => r_move (hf.ev rfl)) ?_
    refine w_nil ?_
    intro a w' hf hs
    exact ⟨rfl, hf.df, _, (HLe.refl _), hs, hf.get _ _ rfl⟩
  · intro a w' M258 l259 hd hs
    refine OP.ofW (l := [(2, (.int .i64 p2))]) (hd.fr.add (hd.base 2 _ rfl rfl)) hs rfl ?_
    refine w_val trivial rfl (fun a w hf hs => r_move (hf.ev rfl)) ?_
    refine w_nil ?_
    intro a w' hf hs
    exact ⟨rfl, hf.df, _, (HLe.refl _), hs, hf.get _ _ rfl⟩
  · intro a w' M260 l261 hd hs
    have e262 := hd.val 1 78 _ rfl rfl
    refine OP.ofW (l := [(5, (ptr b2 0)), (78, (.int .i64 p2))]) ((hd.fr.add e262).add (hd.base 5 _ rfl rfl)) hs rfl ?_
    refine w_val trivial rfl (fun a w hf hs => r_iaI Tryd.underlying131 ts70 (hf.ev rfl) (hf.ev rfl) g263.1 g263.2) ?_
    refine w_nil ?_
    intro a w' hf hs
    exact ⟨rfl, hf.df, _, (HLe.refl _), hs, hf.get _ _ rfl⟩
  · intro a w' M264 l265 hd hs
    have e266 := hd.val 2 79 _ rfl rfl
    refine OP.ofW (l := [(79, (ptr b2 (0 + (p2).toNat)))]) (hd.fr.add e266) hs rfl ?_
    refine w_val trivial rfl (fun a w hf hs => r_load1 ta70 (hf.ev rfl) (hs.blk (i := 0) rfl) (vI_get0 g263.1 g263.2)) ?_
    refine w_nil ?_
    intro a w' hf hs
    exact ⟨rfl, hf.df, _, (HLe.refl _), hs, hf.get _ _ rfl⟩
  · intro a w' M267 l268 hd hs
    refine OP.ofW (l := [(3, (.int .i64 p3))]) (hd.fr.add (hd.base 3 _ rfl rfl)) hs rfl ?_
    refine w_val trivial rfl (fun a w hf hs => r_move (hf.ev rfl)) ?_
    refine w_nil ?_
    intro a w' hf hs
    exact ⟨rfl, hf.df, _, (HLe.refl _), hs, hf.get _ _ rfl⟩
  · intro a w' M269 l270 hd hs
    have e271 := hd.val 4 81 _ rfl rfl
    refine OP.ofW (l := [(5, (ptr b2 0)), (81, (.int .i64 p3))]) ((hd.fr.add e271).add (hd.base 5 _ rfl rfl)) hs rfl ?_
    refine w_val trivial rfl (fun a w hf hs => r_iaI Tryd.underlying131 ts70 (hf.ev rfl) (hf.ev rfl) g272.1 g272.2) ?_
    refine w_nil ?_
    intro a w' hf hs
    exact ⟨rfl, hf.df, _, (HLe.refl _), hs, hf.get _ _ rfl⟩
  · intro a w' M273 l274 hd hs
    have e275 := hd.val 5 82 _ rfl rfl
    refine OP.ofW (l := [(82, (ptr b2 (0 + (p3).toNat)))]) (hd.fr.add e275) hs rfl ?_
    refine w_val trivial rfl (fun a w hf hs => r_load1 ta70 (hf.ev rfl) (hs.blk (i := 0) rfl) (vI_get0 g272.1 g272.2)) ?_
    refine w_nil ?_
    intro a w' hf hs
    exact ⟨rfl, hf.df, _, (HLe.refl _), hs, hf.get _ _ rfl⟩
  · intro a w' M276 l277 hd hs
    have e278 := hd.val 3 80 _ rfl rfl
    have e279 := hd.val 6 83 _ rfl rfl
    refine OP.ofW (l := [(80, (.int .u32 (rd z251.toList p2))), (83, (.int .u32 (rd z251.toList p3)))]) ((hd.fr.add e279).add e278) hs rfl ?_
    refine w_val trivial rfl (fun a w hf hs => r_xor (hf.ev rfl) (hf.ev rfl)) ?_
    refine w_nil ?_
    intro a w' hf hs
    exact ⟨rfl, hf.df, _, (HLe.refl _), hs, hf.get _ _ rfl⟩
  · intro a w' M280 l281 hd hs
    have e282 := hd.val 7 84 _ rfl rfl
    refine OP.ofW (l := [(84, (.int .u32 (bits .xor .u32 (rd z251.toList p2) (rd z251.toList p3))))]) (hd.fr.add e282) hs rfl ?_
    refine w_call cf140 trivial rfl rfl (fun w hs => ref03_rotl.calls hs (bits .xor .u32 (rd z251.toList p2) (rd z251.toList p3)) (7 : Int) _ e288) ?_
    rintro _ M285 l286 rfl
    refine w_nil ?_
    intro a w' hf hs
    exact ⟨rfl, hf.df, _, l286, hs, hf.get _ _ rfl⟩
  intro a w' M289 l290 hdf hsz hb hv hs
  have e291 := hv 0 77 _ rfl rfl
  have e292 := hv 8 85 _ rfl rfl
  refine n_of (c := (Cx.mk Tryd.prog 88 none' M w)) (l := [(5, (ptr b2 0)), (10, (ptr b3 0)), (77, (.int .i64 p2)), (85, (.int .u32 t283))]) ?_ (((((Fr.start hdf hsz).add e292).add e291).add (hb 10 _ rfl rfl)).add (hb 5 _ rfl rfl)) hs
  clear hdf hsz hb hv hs e291 e292
  refine n_id (hK255 _ _ _ ?_)
  obtain ⟨g293, H⟩ := grd_s H
  refine w_val trivial rfl (fun a w hf hs => r_iaI Tryd.underlying131 ts70 (hf.ev rfl) (hf.ev rfl) g293.1 g293.2) ?_
  refine w_store (i := 0) (vs := [(.int .u32 t283)]) (A' := vI .u32 (vs z251 p2 t283)) trivial rfl rfl rfl rfl ts70 rfl (one1 rfl) (idx_le g293.1 g293.2 (vI_len _) (by decide)) (vI_set0 g293.1 g293.2) ?_
  refine w_nil (hK254 _ _ _ ?_)
  refine c_seq ?_
  intro K294 hK294
  refine c_reg ?_
  refine w_val trivial rfl (fun a w hf hs => r_loadA ta131 ts131 (hf.ev rfl) (hs.blk (i := 0) rfl) (vI_all _) (vI_len _)) ?_
  refine w_store (i := 1) (vs := vI .u32 (vs z251 p2 t283)) (A' := vI .u32 (vs z251 p2 t283)) trivial rfl rfl rfl rfl ts131 (vI_len _) (vI_one _) (by rw [vI_len]; decide) (vI_whole _ _) ?_
  refine w_nil (hK294 _ _ _ ?_)
  obtain rfl := some_r H
  refine c_ret ?_
  intro a w' hf hs
  exact hret _ (.inl rfl) a w' hf.df ⟨_, _, Res.of1 rfl ⟨_, hf.get _ _ rfl, run_loadA (hs.blk (i := 1) rfl) ta131 ts131 (vI_all _) (vI_len _)⟩, hs.ext, rfl⟩
set_option maxRecDepth 20000 in
theorem ref03_Rounds.calls {M : Heap} {w : World} (hM : Sub M w) (p0 : (Vector Int 16)) (r : (Vector Int 16)) (H : ref03_Rounds p0 = some r) :
    Calls Tryd.prog 123 [(.agg (vI .u32 p0).toArray)].toArray w (Post M w fun M' v => v = (.agg (vI .u32 r).toArray)) := by
  refine enter 44 [(0, (.agg (vI .u32 p0).toArray))] Tryd.func123 rfl rfl rfl hM ?_
  intro Q hret
  unfold ref03_Rounds at H
  refine c_seq ?_
  intro K1 hK1
  refine c_reg ?_
  refine w_boxL trivial rfl rfl rfl ?_
  intro b2
  refine w_allocL (A := vI .u32 (Vector.replicate 16 (0 : Int))) tz131 trivial rfl rfl ?_
  intro b3
  refine w_nil (hK1 _ _ _ ?_)
  refine c_seq ?_
  intro K4 hK4
  refine c_reg ?_
  obtain ⟨t5, e10, H⟩ := bnd H
  refine w_call cf135 trivial rfl rfl (fun w hs => ref03_Order.calls hs  _ e10) ?_
  rintro v155 M7 l8 ⟨v11, hv_, h12⟩
  replace hv_ := hv_.symm
  subst hv_
  refine w_val trivial rfl (fun a w hf hs => r_assign (hf.ev rfl)) ?_
  refine w_nil (hK4 _ _ _ ?_)
  refine c_cut (fun a' w' => ∃ (x13 : (Vector Int 16)) (M14 : Heap), HLe M7 M14 ∧ Fr 44 [(1, (ptr b2 0)), (2, (ptr b3 0))] a' ∧ St none' M w M14 (lt [.blk b2 (.cells (vI .u32 x13).toArray 131 (0, 0)), .blk b3 (.cells (vI .u32 (Vector.replicate 16 (0 : Int))).toArray 131 (0, 0))]) w' ∧ ref03_Rounds.j1 x13 = some r) ?_ ?_
  · refine c_seq ?_
    intro K17 hK17
    refine c_reg ?_
    refine w_val trivial rfl (fun a w hf hs => r_assign (hf.ev rfl)) ?_
    refine w_nil (hK17 _ _ _ ?_)
    refine c_block ?_
    refine c_loop (fun (s18 : ((Vector Int 16) × Int)) a' w' => ∃ (M19 : Heap), HLe M7 M19 ∧ Fr 44 [(1, (ptr b2 0)), (2, (ptr b3 0)), (3, v11), (4, (.int .i64 s18.2))] a' ∧ St none' M w M19 (lt [.blk b2 (.cells (vI .u32 s18.1).toArray 131 (0, 0)), .blk b3 (.cells (vI .u32 (Vector.replicate 16 (0 : Int))).toArray 131 (0, 0))]) w') (p0, (0 : Int)) H ?_ ?_
    · intro a w' hf hs
      exact ⟨_, HLe.refl _, ((((hf.nil.add (hf.get _ _ rfl)).add (hf.get _ _ rfl)).add (hf.get _ _ rfl)).add (hf.get _ _ rfl)), hs.selD [some 0, some 1] (by decide) rfl⟩
    · clear H
      intro s18 y22 H r21 a w' hJ
      obtain ⟨M19, l20, hf, hs⟩ := hJ
      refine c_of (c := (Cx.mk Tryd.prog 44 none' M w)) ?_ hf hs
      unfold ref03_Rounds.l4 at H
      clear hf hs
      replace h12 := h12.mono l20
      refine c_seq ?_
      intro K23 hK23
      refine c_seq ?_
      intro K24 hK24
      refine c_reg ?_
      refine w_val trivial rfl (fun a w hf hs => r_move (hf.ev rfl)) ?_
      refine w_val trivial rfl (fun a w hf hs => r_lss (hf.ev rfl) (hf.ev rfl)) ?_
      refine w_nil (hK24 _ _ _ ?_)
      refine c_if rfl (fun b25 => ?_) (fun b25 => ?_)
      · replace H := if_t b25 H
        refine c_skip (hK23 _ _ _ ?_)
        refine c_cut (fun a' w' => ∃ (x26 : (Vector Int 16)) (M27 : Heap), HLe M19 M27 ∧ Fr 44 [(1, (ptr b2 0)), (2, (ptr b3 0)), (3, v11), (4, (.int .i64 s18.2))] a' ∧ St none' M w M27 (lt [.blk b2 (.cells (vI .u32 x26).toArray 131 (0, 0)), .blk b3 (.cells (vI .u32 (Vector.replicate 16 (0 : Int))).toArray 131 (0, 0))]) w' ∧ ref03_Rounds.j2 x26 s18 = some y22) ?_ ?_
        · refine c_block ?_
          refine c_seq ?_
          intro K29 hK29
          refine c_reg ?_
          refine w_val trivial rfl (fun a w hf hs => r_assign (hf.ev rfl)) ?_
          refine w_nil (hK29 _ _ _ ?_)
          refine c_block ?_
          refine c_loop (fun (s30 : ((Vector Int 16) × Int)) a' w' => ∃ (M31 : Heap), HLe M19 M31 ∧ Fr 44 [(1, (ptr b2 0)), (2, (ptr b3 0)), (3, v11), (4, (.int .i64 s18.2)), (5, (.int .i64 s30.2))] a' ∧ St none' M w M31 (lt [.blk b2 (.cells (vI .u32 s30.1).toArray 131 (0, 0)), .blk b3 (.cells (vI .u32 (Vector.replicate 16 (0 : Int))).toArray 131 (0, 0))]) w') (s18.1, (0 : Int)) H ?_ ?_
          · intro a w' hf hs
            exact ⟨_, HLe.refl _, (((((hf.nil.add (hf.get _ _ rfl)).add (hf.get _ _ rfl)).add (hf.get _ _ rfl)).add (hf.get _ _ rfl)).add (hf.get _ _ rfl)), hs.selD [some 0, some 1] (by decide) rfl⟩
          · clear H
            intro s30 y34 H r33 a w' hJ
            obtain ⟨M31, l32, hf, hs⟩ := hJ
            refine c_of (c := (Cx.mk Tryd.prog 44 none' M w)) ?_ hf hs
            unfold ref03_Rounds.l3 at H
            clear hf hs
            replace h12 := h12.mono l32
            refine c_seq ?_
            intro K35 hK35
            refine c_seq ?_
            intro K36 hK36
            refine c_reg ?_
            refine w_val trivial rfl (fun a w hf hs => r_move (hf.ev rfl)) ?_
            refine w_val trivial rfl (fun a w hf hs => r_move (hf.ev rfl)) ?_
            refine w_val trivial rfl (fun a w hf hs => r_lenSS Tryd.underlying180 h12 (hf.ev rfl)) ?_
            refine w_val trivial rfl (fun a w hf hs => r_lss (hf.ev rfl) (hf.ev rfl)) ?_
            refine w_nil (hK36 _ _ _ ?_)
            refine c_if rfl (fun b37 => ?_) (fun b37 => ?_)
            · replace H := if_t b37 H
              refine c_skip (hK35 _ _ _ ?_)
              refine c_seq ?_
              intro K38 hK38
              refine c_block ?_
              refine c_split2 25 (by kernel_rfl) (by kernel_rfl) (by kernel_rfl) (by kernel_rfl) rfl ?_
              intro K39 hK39
              obtain ⟨g50, H⟩ := grd_s H
              obtain ⟨g61, H⟩ := grd_s H
              obtain ⟨g75, H⟩ := grd_s H
              obtain ⟨g86, H⟩ := grd_s H
              obtain ⟨g100, H⟩ := grd_s H
              obtain ⟨g111, H⟩ := grd_s H
              obtain ⟨g125, H⟩ := grd_s H
              obtain ⟨g136, H⟩ := grd_s H
              refine d_drawP [([], [1]), ([], [3]), ([], [5]), ([(1, 18), (2, 19)], []), ([(3, 20)], []), ([(4, 21)], []), ([(5, 22)], []), ([], [3]), ([], [5]), ([(7, 24), (8, 25)], []), ([(9, 26)], []), ([(10, 27)], []), ([(11, 28)], []), ([], [3]), ([], [5]), ([(13, 30), (14, 31)], []), ([(15, 32)], []), ([(16, 33)], []), ([(17, 34)], []), ([], [3]), ([], [5]), ([(19, 36), (20, 37)], []), ([(21, 38)], []), ([(22, 39)], []), ([(23, 40)], [])] [fun v M => v = (.agg (vI .u32 s30.1).toArray), fun v M => v = v11, fun v M => v = (.int .i64 s30.2), fun v M => v = (eP v11 s30.2 1 0), fun v M => ∃ (v54 : Value), v = v54 ∧ RS (FI .i64) M v54 (rd t5 s30.2), fun v M => ∃ (v58 : Value), v = (eP v58 (0 : Int) 1 0) ∧ RS (FI .i64) M v58 (rd t5 s30.2), fun v M => v = (.int .i64 (rd (rd t5 s30.2) (0 : Int))), fun v M => v = v11, fun v M => v = (.int .i64 s30.2), fun v M => v = (eP v11 s30.2 1 0), fun v M => ∃ (v79 : Value), v = v79 ∧ RS (FI .i64) M v79 (rd t5 s30.2), fun v M => ∃ (v83 : Value), v = (eP v83 (1 : Int) 1 0) ∧ RS (FI .i64) M v83 (rd t5 s30.2), fun v M => v = (.int .i64 (rd (rd t5 s30.2) (1 : Int))), fun v M => v = v11, fun v M => v = (.int .i64 s30.2), fun v M => v = (eP v11 s30.2 1 0), fun v M => ∃ (v104 : Value), v = v104 ∧ RS (FI .i64) M v104 (rd t5 s30.2), fun v M => ∃ (v108 : Value), v = (eP v108 (2 : Int) 1 0) ∧ RS (FI .i64) M v108 (rd t5 s30.2), fun v M => v = (.int .i64 (rd (rd t5 s30.2) (2 : Int))), fun v M => v = v11, fun v M => v = (.int .i64 s30.2), fun v M => v = (eP v11 s30.2 1 0), fun v M => ∃ (v129 : Value), v = v129 ∧ RS (FI .i64) M v129 (rd t5 s30.2), fun v M => ∃ (v133 : Value), v = (eP v133 (3 : Int) 1 0) ∧ RS (FI .i64) M v133 (rd t5 s30.2), fun v M => v = (.int .i64 (rd (rd t5 s30.2) (3 : Int)))] (by kernel_rfl) (by kernel_rfl) ?_ (AllT.cons ?_ (AllT.cons ?_ (AllT.cons ?_ (AllT.cons ?_ (AllT.cons ?_ (AllT.cons ?_ (AllT.cons ?_ (AllT.cons ?_ (AllT.cons ?_ (AllT.cons ?_ (AllT.cons ?_ (AllT.cons ?_ (AllT.cons ?_ (AllT.cons ?_ (AllT.cons ?_ (AllT.cons ?_ (AllT.cons ?_ (AllT.cons ?_ (AllT.cons ?_ (AllT.cons ?_ (AllT.cons ?_ (AllT.cons ?_ (AllT.cons ?_ (AllT.cons ?_ (AllT.cons ?_ AllT.nil))))))))))))))))))))))))) ?_
              · exact (MonoA.cons (fun _ _ _ _ h => h) (MonoA.cons (fun _ _ _ _ h => h) (MonoA.cons (fun _ _ _ _ h => h) (MonoA.cons (fun _ _ _ _ h => h) (MonoA.cons (fun _ _ _ hM h => by obtain ⟨v54, e_, q0⟩ := h; exact ⟨v54, e_, q0.mono hM⟩) (MonoA.cons (fun _ _ _ hM h => by obtain ⟨v58, e_, q0⟩ := h; exact ⟨v58, e_, q0.mono hM⟩) (MonoA.cons (fun _ _ _ _ h => h) (MonoA.cons (fun _ _ _ _ h => h) (MonoA.cons (fun _ _ _ _ h => h) (MonoA.cons (fun _ _ _ _ h => h) (MonoA.cons (fun _ _ _ hM h => by obtain ⟨v79, e_, q0⟩ := h; exact ⟨v79, e_, q0.mono hM⟩) (MonoA.cons (fun _ _ _ hM h => by obtain ⟨v83, e_, q0⟩ := h; exact ⟨v83, e_, q0.mono hM⟩) (MonoA.cons (fun _ _ _ _ h => h) (MonoA.cons (fun _ _ _ _ h => h) (MonoA.cons (fun _ _ _ _ h => h) (MonoA.cons (fun _ _ _ _ h => h) (MonoA.cons (fun _ _ _ hM h => by obtain ⟨v104, e_, q0⟩ := h; exact ⟨v104, e_, q0.mono hM⟩) (MonoA.cons (fun _ _ _ hM h => by obtain ⟨v108, e_, q0⟩ := h; exact ⟨v108, e_, q0.mono hM⟩) (MonoA.cons (fun _ _ _ _ h => h) (MonoA.cons (fun _ _ _ _ h => h) (MonoA.cons (fun _ _ _ _ h => h) (MonoA.cons (fun _ _ _ _ h => h) (MonoA.cons (fun _ _ _ hM h => by obtain ⟨v129, e_, q0⟩ := h; exact ⟨v129, e_, q0.mono hM⟩) (MonoA.cons (fun _ _ _ hM h => by obtain ⟨v133, e_, q0⟩ := h; exact ⟨v133, e_, q0.mono hM⟩) (MonoA.cons (fun _ _ _ _ h => h) MonoA.nil)))))))))))))))))))))))))
              · intro a w' M40 l41 hd hs
                refine OP.ofW (l := [(1, (ptr b2 0))]) (hd.fr.add (hd.base 1 _ rfl rfl)) hs rfl ?_
                refine w_val trivial rfl (fun a w hf hs => r_loadA ta131 ts131 (hf.ev rfl) (hs.blk (i := 0) rfl) (vI_all _) (vI_len _)) ?_
                refine w_nil ?_
                intro a w' hf hs
                exact ⟨rfl, hf.df, _, (HLe.refl _), hs, hf.get _ _ rfl⟩
              · intro a w' M42 l43 hd hs
                replace h12 := h12.mono l43
                refine OP.ofW (l := [(3, v11)]) (hd.fr.add (hd.base 3 _ rfl rfl)) hs rfl ?_
                refine w_val trivial rfl (fun a w hf hs => r_move (hf.ev rfl)) ?_
                refine w_nil ?_
                intro a w' hf hs
                exact ⟨rfl, hf.df, _, (HLe.refl _), hs, hf.get _ _ rfl⟩
              · intro a w' M44 l45 hd hs
                refine OP.ofW (l := [(5, (.int .i64 s30.2))]) (hd.fr.add (hd.base 5 _ rfl rfl)) hs rfl ?_
                refine w_val trivial rfl (fun a w hf hs => r_move (hf.ev rfl)) ?_
                refine w_nil ?_
                intro a w' hf hs
                exact ⟨rfl, hf.df, _, (HLe.refl _), hs, hf.get _ _ rfl⟩
              · intro a w' M46 l47 hd hs
                have e48 := hd.val 1 18 _ rfl rfl
                replace h12 := h12.mono l47
                have e49 := hd.val 2 19 _ rfl rfl
                refine OP.ofW (l := [(18, v11), (19, (.int .i64 s30.2))]) ((hd.fr.add e49).add e48) hs rfl ?_
                refine w_val trivial rfl (fun a w hf hs => r_iSS Tryd.underlying180 ts51 h12 (hf.ev rfl) (hf.ev rfl) g50.1 g50.2) ?_
                refine w_nil ?_
                intro a w' hf hs
                exact ⟨rfl, hf.df, _, (HLe.refl _), hs, hf.get _ _ rfl⟩
              · intro a w' M51 l52 hd hs
                have e53 := hd.val 3 20 _ rfl rfl
                replace h12 := h12.mono l52
                refine OP.ofW (l := [(20, (eP v11 s30.2 1 0))]) (hd.fr.add e53) hs rfl ?_
                refine w_ex (Φ := fun v => RS (FI .i64) M51 v (rd t5 s30.2)) trivial rfl (fun a w hf hs => r_loadSS ta51 h12 (St.sub hs) g50.1 g50.2 (hf.ev rfl)) ?_
                intro v54 h55
                refine w_nil ?_
                intro a w' hf hs
                exact ⟨rfl, hf.df, _, (HLe.refl _), hs, ⟨v54, hf.get _ _ rfl, h55⟩⟩
              · intro a w' M56 l57 hd hs
                obtain ⟨v58, e60, h59⟩ := hd.val 4 21 _ rfl rfl
                refine OP.ofW (l := [(21, v58)]) (hd.fr.add e60) hs rfl ?_
                refine w_val trivial rfl (fun a w hf hs => r_iR Tryd.underlying51 ts3 h59 (hf.ev rfl) (hf.ev rfl) g61.1 g61.2) ?_
                refine w_nil ?_
                intro a w' hf hs
                exact ⟨rfl, hf.df, _, (HLe.refl _), hs, ⟨v58, hf.get _ _ rfl, h59⟩⟩
              · intro a w' M62 l63 hd hs
                obtain ⟨v64, e66, h65⟩ := hd.val 5 22 _ rfl rfl
                refine OP.ofW (l := [(22, (eP v64 (0 : Int) 1 0))]) (hd.fr.add e66) hs rfl ?_
                refine w_val trivial rfl (fun a w hf hs => r_loadE1 ta3 h65 hs.sub g61.1 g61.2 (hf.ev rfl) rfl) ?_
                refine w_nil ?_
                intro a w' hf hs
                exact ⟨rfl, hf.df, _, (HLe.refl _), hs, hf.get _ _ rfl⟩
              · intro a w' M67 l68 hd hs
                replace h12 := h12.mono l68
                refine OP.ofW (l := [(3, v11)]) (hd.fr.add (hd.base 3 _ rfl rfl)) hs rfl ?_
                refine w_val trivial rfl (fun a w hf hs => r_move (hf.ev rfl)) ?_
                refine w_nil ?_
                intro a w' hf hs
                exact ⟨rfl, hf.df, _, (HLe.refl _), hs, hf.get _ _ rfl⟩
              · intro a w' M69 l70 hd hs
                refine OP.ofW (l := [(5, (.int .i64 s30.2))]) (hd.fr.add (hd.base 5 _ rfl rfl)) hs rfl ?_
                refine w_val trivial rfl (fun a w hf hs => r_move (hf.ev rfl)) ?_
                refine w_nil ?_
                intro a w' hf hs
                exact ⟨rfl, hf.df, _, (HLe.refl _), hs, hf.get _ _ rfl⟩
              · intro a w' M71 l72 hd hs
                have e73 := hd.val 7 24 _ rfl rfl
                replace h12 := h12.mono l72
                have e74 := hd.val 8 25 _ rfl rfl
                refine OP.ofW (l := [(24, v11), (25, (.int .i64 s30.2))]) ((hd.fr.add e74).add e73) hs rfl ?_
                refine w_val trivial rfl (fun a w hf hs => r_iSS Tryd.underlying180 ts51 h12 (hf.ev rfl) (hf.ev rfl) g75.1 g75.2) ?_
                refine w_nil ?_
                intro a w' hf hs
                exact ⟨rfl, hf.df, _, (HLe.refl _), hs, hf.get _ _ rfl⟩
              · intro a w' M76 l77 hd hs
                have e78 := hd.val 9 26 _ rfl rfl
                replace h12 := h12.mono l77
                refine OP.ofW (l := [(26, (eP v11 s30.2 1 0))]) (hd.fr.add e78) hs rfl ?_
                refine w_ex (Φ := fun v => RS (FI .i64) M76 v (rd t5 s30.2)) trivial rfl (fun a w hf hs => r_loadSS ta51 h12 (St.sub hs) g75.1 g75.2 (hf.ev rfl)) ?_
                intro v79 h80
                refine w_nil ?_
                intro a w' hf hs
                exact ⟨rfl, hf.df, _, (HLe.refl _), hs, ⟨v79, hf.get _ _ rfl, h80⟩⟩
              · intro a w' M81 l82 hd hs
                obtain ⟨v83, e85, h84⟩ := hd.val 10 27 _ rfl rfl
                refine OP.ofW (l := [(27, v83)]) (hd.fr.add e85) hs rfl ?_
                refine w_val trivial rfl (fun a w hf hs => r_iR Tryd.underlying51 ts3 h84 (hf.ev rfl) (hf.ev rfl) g86.1 g86.2) ?_
                refine w_nil ?_
                intro a w' hf hs
                exact ⟨rfl, hf.df, _, (HLe.refl _), hs, ⟨v83, hf.get _ _ rfl, h84⟩⟩
              · intro a w' M87 l88 hd hs
                obtain ⟨v89, e91, h90⟩ := hd.val 11 28 _ rfl rfl
                refine OP.ofW (l := [(28, (eP v89 (1 : Int) 1 0))]) (hd.fr.add e91) hs rfl ?_
                refine w_val trivial rfl (fun a w hf hs => r_loadE1 ta3 h90 hs.sub g86.1 g86.2 (hf.ev rfl) rfl) ?_
                refine w_nil ?_
                intro a w' hf hs
                exact ⟨rfl, hf.df, _, (HLe.refl _), hs, hf.get _ _ rfl⟩
              · intro a w' M92 l93 hd hs
                replace h12 := h12.mono l93
                refine OP.ofW (l := [(3, v11)]) (hd.fr.add (hd.base 3 _ rfl rfl)) hs rfl ?_
                refine w_val trivial rfl (fun a w hf hs => r_move (hf.ev rfl)) ?_
                refine w_nil ?_
                intro a w' hf hs
                exact ⟨rfl, hf.df, _, (HLe.refl _), hs, hf.get _ _ rfl⟩
              · intro a w' M94 l95 hd hs
                refine OP.ofW (l := [(5, (.int .i64 s30.2))]) (hd.fr.add (hd.base 5 _ rfl rfl)) hs rfl ?_
                refine w_val trivial rfl (fun a w hf hs => r_move (hf.ev rfl)) ?_
                refine w_nil ?_
                intro a w' hf hs
                exact ⟨rfl, hf.df, _, (HLe.refl _), hs, hf.get _ _ rfl⟩
              · intro a w' M96 l97 hd hs
                have e98 := hd.val 13 30 _ rfl rfl
                replace h12 := h12.mono l97
                have e99 := hd.val 14 31 _ rfl rfl
                refine OP.ofW (l := [(30, v11), (31, (.int .i64 s30.2))]) ((hd.fr.add e99).add e98) hs rfl ?_
                refine w_val trivial rfl (fun a w hf hs => r_iSS Tryd.underlying180 ts51 h12 (hf.ev rfl) (hf.ev rfl) g100.1 g100.2) ?_
                refine w_nil ?_
                intro a w' hf hs
                exact ⟨rfl, hf.df, _, (HLe.refl _), hs, hf.get _ _ rfl⟩
              · intro a w' M101 l102 hd hs
                have e103 := hd.val 15 32 _ rfl rfl
                replace h12 := h12.mono l102
                refine OP.ofW (l := [(32, (eP v11 s30.2 1 0))]) (hd.fr.add e103) hs rfl ?_
                refine w_ex (Φ := fun v => RS (FI .i64) M101 v (rd t5 s30.2)) trivial rfl (fun a w hf hs => r_loadSS ta51 h12 (St.sub hs) g100.1 g100.2 (hf.ev rfl)) ?_
                intro v104 h105
                refine w_nil ?_
                intro a w' hf hs
                exact ⟨rfl, hf.df, _, (HLe.refl _), hs, ⟨v104, hf.get _ _ rfl, h105⟩⟩
              · intro a w' M106 l107 hd hs
                obtain ⟨v108, e110, h109⟩ := hd.val 16 33 _ rfl rfl
                refine OP.ofW (l := [(33, v108)]) (hd.fr.add e110) hs rfl ?_
                refine w_val trivial rfl (fun a w hf hs => r_iR Tryd.underlying51 ts3 h109 (hf.ev rfl) (hf.ev rfl) g111.1 g111.2) ?_
                refine w_nil ?_
                intro a w' hf hs
                exact ⟨rfl, hf.df, _, (HLe.refl _), hs, ⟨v108, hf.get _ _ rfl, h109⟩⟩
              · intro a w' M112 l113 hd hs
                obtain ⟨v114, e116, h115⟩ := hd.val 17 34 _ rfl rfl
                refine OP.ofW (l := [(34, (eP v114 (2 : Int) 1 0))]) (hd.fr.add e116) hs rfl ?_
                refine w_val trivial rfl (fun a w hf hs => r_loadE1 ta3 h115 hs.sub g111.1 g111.2 (hf.ev rfl) rfl) ?_
                refine w_nil ?_
                intro a w' hf hs
                exact ⟨rfl, hf.df, _, (HLe.refl _), hs, hf.get _ _ rfl⟩
              · intro a w' M117 l118 hd hs
                replace h12 := h12.mono l118
                refine OP.ofW (l := [(3, v11)]) (hd.fr.add (hd.base 3 _ rfl rfl)) hs rfl ?_
                refine w_val trivial rfl (fun a w hf hs => r_move (hf.ev rfl)) ?_
                refine w_nil ?_
                intro a w' hf hs
                exact ⟨rfl, hf.df, _, (HLe.refl _), hs, hf.get _ _ rfl⟩
              · intro a w' M119 l120 hd hs
                refine OP.ofW (l := [(5, (.int .i64 s30.2))]) (hd.fr.add (hd.base 5 _ rfl rfl)) hs rfl ?_
                refine w_val trivial rfl (fun a w hf hs => r_move (hf.ev rfl)) ?_
                refine w_nil ?_
                intro a w' hf hs
                exact ⟨rfl, hf.df, _, (HLe.refl _), hs, hf.get _ _ rfl⟩
              · intro a w' M121 l122 hd hs
                have e123 := hd.val 19 36 _ rfl rfl
                replace h12 := h12.mono l122
                have e124 := hd.val 20 37 _ rfl rfl
                refine OP.ofW (l := [(36, v11), (37, (.int .i64 s30.2))]) ((hd.fr.add e124).add e123) hs rfl ?_
                refine w_val trivial rfl (fun a w hf hs => r_iSS Tryd.underlying180 ts51 h12 (hf.ev rfl) (hf.ev rfl) g125.1 g125.2) ?_
                refine w_nil ?_
                intro a w' hf hs
                exact ⟨rfl, hf.df, _, (HLe.refl _), hs, hf.get _ _ rfl⟩
              · intro a w' M126 l127 hd hs
                have e128 := hd.val 21 38 _ rfl rfl
                replace h12 := h12.mono l127
                refine OP.ofW (l := [(38, (eP v11 s30.2 1 0))]) (hd.fr.add e128) hs rfl ?_
                refine w_ex (Φ := fun v => RS (FI .i64) M126 v (rd t5 s30.2)) trivial rfl (fun a w hf hs => r_loadSS ta51 h12 (St.sub hs) g125.1 g125.2 (hf.ev rfl)) ?_
                intro v129 h130
                refine w_nil ?_
                intro a w' hf hs
                exact ⟨rfl, hf.df, _, (HLe.refl _), hs, ⟨v129, hf.get _ _ rfl, h130⟩⟩
              · intro a w' M131 l132 hd hs
                obtain ⟨v133, e135, h134⟩ := hd.val 22 39 _ rfl rfl
                refine OP.ofW (l := [(39, v133)]) (hd.fr.add e135) hs rfl ?_
                refine w_val trivial rfl (fun a w hf hs => r_iR Tryd.underlying51 ts3 h134 (hf.ev rfl) (hf.ev rfl) g136.1 g136.2) ?_
                refine w_nil ?_
                intro a w' hf hs
                exact ⟨rfl, hf.df, _, (HLe.refl _), hs, ⟨v133, hf.get _ _ rfl, h134⟩⟩
              · intro a w' M137 l138 hd hs
                obtain ⟨v139, e141, h140⟩ := hd.val 23 40 _ rfl rfl
                refine OP.ofW (l := [(40, (eP v139 (3 : Int) 1 0))]) (hd.fr.add e141) hs rfl ?_
                refine w_val trivial rfl (fun a w hf hs => r_loadE1 ta3 h140 hs.sub g136.1 g136.2 (hf.ev rfl) rfl) ?_
                refine w_nil ?_
                intro a w' hf hs
                exact ⟨rfl, hf.df, _, (HLe.refl _), hs, hf.get _ _ rfl⟩
              intro a w' M142 l143 hdf hsz hb hv hs
              replace h12 := h12.mono l143
              have e144 := hv 0 17 _ rfl rfl
              have e145 := hv 6 23 _ rfl rfl
              have e146 := hv 12 29 _ rfl rfl
              have e147 := hv 18 35 _ rfl rfl
              have e148 := hv 24 41 _ rfl rfl
              refine n_of (c := (Cx.mk Tryd.prog 44 none' M w)) (l := [(1, (ptr b2 0)), (2, (ptr b3 0)), (3, v11), (4, (.int .i64 s18.2)), (5, (.int .i64 s30.2)), (17, (.agg (vI .u32 s30.1).toArray)), (23, (.int .i64 (rd (rd t5 s30.2) (0 : Int)))), (29, (.int .i64 (rd (rd t5 s30.2) (1 : Int)))), (35, (.int .i64 (rd (rd t5 s30.2) (2 : Int)))), (41, (.int .i64 (rd (rd t5 s30.2) (3 : Int))))]) ?_ (((((((((((Fr.start hdf hsz).add e148).add e147).add e146).add e145).add e144).add (hb 5 _ rfl rfl)).add (hb 4 _ rfl rfl)).add (hb 3 _ rfl rfl)).add (hb 2 _ rfl rfl)).add (hb 1 _ rfl rfl)) hs
              clear hdf hsz hb hv hs e144 e145 e146 e147 e148
              refine n_id (hK39 _ _ _ ?_)
              obtain ⟨t149, e154, H⟩ := bnd H
              refine w_call cf136 trivial rfl rfl (fun w hs => ref03_quarter.calls hs s30.1 (rd (rd t5 s30.2) (0 : Int)) (rd (rd t5 s30.2) (1 : Int)) (rd (rd t5 s30.2) (2 : Int)) (rd (rd t5 s30.2) (3 : Int)) _ e154) ?_
              rintro _ M151 l152 rfl
              replace h12 := h12.mono l152
              refine w_store (i := 0) (vs := vI .u32 t149) (A' := vI .u32 t149) trivial rfl rfl rfl rfl ts131 (vI_len _) (vI_one _) (by rw [vI_len]; decide) (vI_whole _ _) ?_
              refine w_nil (hK38 _ _ _ ?_)
              refine c_reg ?_
              refine w_val trivial rfl (fun a w hf hs => r_move (hf.ev rfl)) ?_
              refine w_val trivial rfl (fun a w hf hs => r_add (hf.ev rfl) (hf.ev rfl)) ?_
              refine w_val trivial rfl (fun a w hf hs => r_assign (hf.ev rfl)) ?_
              refine w_nil ?_
              intro a w' hf hs
              exact ⟨_, (some_r H).symm, _, l32.trans (l143.trans l152), (((((hf.nil.add (hf.get _ _ rfl)).add (hf.get _ _ rfl)).add (hf.get _ _ rfl)).add (hf.get _ _ rfl)).add (hf.get _ _ rfl)), hs.selD [some 0, some 1] (by decide) rfl⟩
            · replace H := if_f b37 H
              replace H := map_inr H r33
              refine c_exit ?_
              intro a w' hf hs
              exact ⟨s30.1, _, l32, ((((hf.nil.add (hf.get _ _ rfl)).add (hf.get _ _ rfl)).add (hf.get _ _ rfl)).add (hf.get _ _ rfl)), hs.selD [some 0, some 1] (by decide) rfl, H⟩
        · rintro a w' ⟨x26, M27, l28, hf, hs, H⟩
          refine c_of (c := (Cx.mk Tryd.prog 44 none' M w)) ?_ hf hs
          unfold ref03_Rounds.j2 at H
          clear hf hs
          replace h12 := h12.mono l28
          refine c_reg ?_
          refine w_val trivial rfl (fun a w hf hs => r_move (hf.ev rfl)) ?_
          refine w_val trivial rfl (fun a w hf hs => r_add (hf.ev rfl) (hf.ev rfl)) ?_
          refine w_val trivial rfl (fun a w hf hs => r_assign (hf.ev rfl)) ?_
          refine w_nil ?_
          intro a w' hf hs
          exact ⟨_, (some_r H).symm, _, l20.trans l28, ((((hf.nil.add (hf.get _ _ rfl)).add (hf.get _ _ rfl)).add (hf.get _ _ rfl)).add (hf.get _ _ rfl)), hs.selD [some 0, some 1] (by decide) rfl⟩
      · replace H := if_f b25 H
        replace H := map_inr H r21
        refine c_exit ?_
        intro a w' hf hs
        exact ⟨s18.1, _, l20, ((hf.nil.add (hf.get _ _ rfl)).add (hf.get _ _ rfl)), hs.selD [some 0, some 1] (by decide) rfl, H⟩
  · rintro a w' ⟨x13, M14, l15, hf, hs, H⟩
    refine c_of (c := (Cx.mk Tryd.prog 44 none' M w)) ?_ hf hs
    unfold ref03_Rounds.j1 at H
    clear hf hs
    replace h12 := h12.mono l15
    refine c_seq ?_
    intro K16 hK16
    refine c_reg ?_
    refine w_val trivial rfl (fun a w hf hs => r_loadA ta131 ts131 (hf.ev rfl) (hs.blk (i := 0) rfl) (vI_all _) (vI_len _)) ?_
    refine w_store (i := 1) (vs := vI .u32 x13) (A' := vI .u32 x13) trivial rfl rfl rfl rfl ts131 (vI_len _) (vI_one _) (by rw [vI_len]; decide) (vI_whole _ _) ?_
    refine w_nil (hK16 _ _ _ ?_)
    obtain rfl := some_r H
    refine c_ret ?_
    intro a w' hf hs
    exact hret _ (.inl rfl) a w' hf.df ⟨_, _, Res.of1 rfl ⟨_, hf.get _ _ rfl, run_loadA (hs.blk (i := 1) rfl) ta131 ts131 (vI_all _) (vI_len _)⟩, hs.ext, rfl⟩
set_option maxRecDepth 20000 in
theorem ref03_Block.calls {M : Heap} {w : World} (hM : Sub M w) (p0 : (List UInt8)) (p1 : Int) (p2 : (List UInt8)) (r : ((List UInt8) × Int)) (H : ref03_Block p0 p1 p2 = some r) :
    Calls Tryd.prog 90 [(str p0), (.int .u32 p1), (str p2)].toArray w (Post M w fun M' v => v = .tuple #[(str r.1), (.int .i64 r.2)]) := by
  refine enter 53 [(0, (str p0)), (1, (.int .u32 p1)), (2, (str p2))] Tryd.func90 rfl rfl rfl hM ?_
  intro Q hret
  unfold ref03_Block at H
  refine c_seq ?_
  intro K1 hK1
  refine c_reg ?_
  refine w_val trivial rfl (fun a w hf hs => r_assign (hf.ev rfl)) ?_
  refine w_val trivial rfl (fun a w hf hs => r_assign (hf.ev rfl)) ?_
  refine w_nil (hK1 _ _ _ ?_)
  refine c_seq ?_
  intro K2 hK2
  refine c_reg ?_
  refine w_val trivial rfl (fun a w hf hs => r_move (hf.ev rfl)) ?_
  refine w_val trivial rfl (fun a w hf hs => r_move (hf.ev rfl)) ?_
  refine w_val trivial rfl (fun a w hf hs => r_move (hf.ev rfl)) ?_
  obtain ⟨t3, e8, H⟩ := bnd H
  refine w_call cf89 trivial rfl rfl (fun w hs => ref03_State.calls hs p0 p1 p2 _ e8) ?_
  rintro _ M5 l6 rfl
  refine w_val trivial rfl (fun a w hf hs => r_move (hf.ev rfl)) ?_
  refine w_val trivial rfl (fun a w hf hs => r_extract (hf.ev rfl) rfl) ?_
  refine w_val trivial rfl (fun a w hf hs => r_extract (hf.ev rfl) rfl) ?_
  refine w_allocL (A := vI .u32 (Vector.replicate 16 (0 : Int))) tz131 trivial rfl rfl ?_
  intro b9
  refine w_store (i := 0) (vs := vI .u32 t3.1) (A' := vI .u32 t3.1) trivial rfl rfl rfl rfl ts131 (vI_len _) (vI_one _) (by rw [vI_len]; decide) (vI_whole _ _) ?_
  refine w_val trivial rfl (fun a w hf hs => r_assign (hf.ev rfl)) ?_
  refine w_nil (hK2 _ _ _ ?_)
  refine c_seq ?_
  intro K10 hK10
  refine c_seq ?_
  intro K11 hK11
  refine c_reg ?_
  refine w_val trivial rfl (fun a w hf hs => r_move (hf.ev rfl)) ?_
  refine w_val trivial rfl (fun a w hf hs => r_neq (hf.ev rfl) (hf.ev rfl)) ?_
  refine w_nil (hK11 _ _ _ ?_)
  refine c_if rfl (fun b12 => ?_) (fun b12 => ?_)
  · replace H := if_t b12 H
    refine c_seq ?_
    intro K13 hK13
    refine c_reg ?_
    refine w_val trivial rfl (fun a w hf hs => r_move (hf.ev rfl)) ?_
    refine w_val trivial rfl (fun a w hf hs => r_assign (hf.ev rfl)) ?_
    refine w_val trivial rfl (fun a w hf hs => r_assign (hf.ev rfl)) ?_
    refine w_nil (hK13 _ _ _ ?_)
    obtain rfl := some_r H
    refine c_ret ?_
    intro a w' hf hs
    exact hret _ (.inl rfl) a w' hf.df ⟨_, _, Res.of2 rfl (RV.t hf rfl) (RV.t hf rfl), hs.ext, rfl⟩
  · replace H := if_f b12 H
    refine c_skip (hK10 _ _ _ ?_)
    refine c_seq ?_
    intro K14 hK14
    refine c_reg ?_
    refine w_val trivial rfl (fun a w hf hs => r_loadA ta131 ts131 (hf.ev rfl) (hs.blk (i := 0) rfl) (vI_all _) (vI_len _)) ?_
    obtain ⟨t15, e20, H⟩ := bnd H
    refine w_call cf123 trivial rfl rfl (fun w hs => ref03_Rounds.calls hs t3.1 _ e20) ?_
    rintro _ M17 l18 rfl
    refine w_allocL (A := vI .u32 (Vector.replicate 16 (0 : Int))) tz131 trivial rfl rfl ?_
    intro b21
    refine w_store (i := 1) (vs := vI .u32 t15) (A' := vI .u32 t15) trivial rfl rfl rfl rfl ts131 (vI_len _) (vI_one _) (by rw [vI_len]; decide) (vI_whole _ _) ?_
    refine w_nil (hK14 _ _ _ ?_)
    refine c_seq ?_
    intro K22 hK22
    refine c_reg ?_
    refine w_val trivial rfl (fun a w hf hs => r_assign (hf.ev rfl)) ?_
    refine w_nil (hK22 _ _ _ ?_)
    refine c_row0 5 1 ?_
    refine c_cut (fun a' w' => ∃ (x23 : (List Int)) (v24 : Value) (M25 : Heap), HLe M17 M25 ∧ Fr 53 [(11, v24)] a' ∧ St none' M w M25 (lt [dead, dead, rowI (FI .u8) v24 5 x23]) w' ∧ ref03_Block.j1 x23 = some r) ?_ ?_
    · refine c_seq ?_
      intro K31 hK31
      refine c_reg ?_
      refine w_val trivial rfl (fun a w hf hs => r_assign (hf.ev rfl)) ?_
      refine w_nil (hK31 _ _ _ ?_)
      refine c_block ?_
      refine c_loop (fun (s32 : ((List Int) × Int)) a' w' => ∃ (v33 : Value) (M34 : Heap), HLe M17 M34 ∧ Fr 53 [(8, (ptr b9 0)), (10, (ptr b21 0)), (11, v33), (12, (.int .i64 s32.2))] a' ∧ St none' M w M34 (lt [.blk b9 (.cells (vI .u32 t3.1).toArray 131 (0, 0)), .blk b21 (.cells (vI .u32 t15).toArray 131 (0, 0)), rowI (FI .u8) v33 5 s32.1]) w') (([] : (List Int)), (0 : Int)) H ?_ ?_
      · intro a w' hf hs
        exact ⟨(.slice none 0 0), _, HLe.refl _, ((((hf.nil.add (hf.get _ _ rfl)).add (hf.get _ _ rfl)).add (hf.get _ _ rfl)).add (hf.get _ _ rfl)), hs.selD [some 0, some 1, some 2] (by decide) rfl⟩
      · clear H
        intro s32 y37 H r36 a w' hJ
        obtain ⟨v33, M34, l35, hf, hs⟩ := hJ
        refine c_of (c := (Cx.mk Tryd.prog 53 none' M w)) ?_ hf hs
        unfold ref03_Block.l2 at H
        clear hf hs
        refine c_seq ?_
        intro K38 hK38
        refine c_seq ?_
        intro K39 hK39
        refine c_reg ?_
        refine w_val trivial rfl (fun a w hf hs => r_move (hf.ev rfl)) ?_
        refine w_val trivial rfl (fun a w hf hs => r_lss (hf.ev rfl) (hf.ev rfl)) ?_
        refine w_nil (hK39 _ _ _ ?_)
        refine c_if rfl (fun b40 => ?_) (fun b40 => ?_)
        · replace H := if_t b40 H
          refine c_skip (hK38 _ _ _ ?_)
          refine c_seq ?_
          intro K41 hK41
          refine c_block ?_
          refine c_seq ?_
          intro K42 hK42
          obtain ⟨g48, H⟩ := grd_s H
          obtain ⟨g57, H⟩ := grd_s H
          refine c_drawP [([], [12]), ([(0, 30)], [8]), ([(1, 31)], []), ([], [12]), ([(3, 33)], [10]), ([(4, 34)], []), ([(2, 32), (5, 35)], []), ([(6, 36)], [])] [fun v M => v = (.int .i64 s32.2), fun v M => v = (ptr b9 (0 + (s32.2).toNat)), fun v M => v = (.int .u32 (rd t3.1.toList s32.2)), fun v M => v = (.int .i64 s32.2), fun v M => v = (ptr b21 (0 + (s32.2).toNat)), fun v M => v = (.int .u32 (rd t15.toList s32.2)), fun v M => v = (.int .u32 (IntKind.u32.wrap ((rd t3.1.toList s32.2) + (rd t15.toList s32.2)))), fun v M => v = (.int .u32 (IntKind.u32.wrap ((rd t3.1.toList s32.2) + (rd t15.toList s32.2))))] (by kernel_rfl) (by kernel_rfl) ?_ (AllT.cons ?_ (AllT.cons ?_ (AllT.cons ?_ (AllT.cons ?_ (AllT.cons ?_ (AllT.cons ?_ (AllT.cons ?_ (AllT.cons ?_ AllT.nil)))))))) ?_
          · exact (MonoA.cons (fun _ _ _ _ h => h) (MonoA.cons (fun _ _ _ _ h => h) (MonoA.cons (fun _ _ _ _ h => h) (MonoA.cons (fun _ _ _ _ h => h) (MonoA.cons (fun _ _ _ _ h => h) (MonoA.cons (fun _ _ _ _ h => h) (MonoA.cons (fun _ _ _ _ h => h) (MonoA.cons (fun _ _ _ _ h => h) MonoA.nil))))))))
          · intro a w' M43 l44 hd hs
            refine OP.ofW (l := [(12, (.int .i64 s32.2))]) (hd.fr.add (hd.base 12 _ rfl rfl)) hs rfl ?_
            refine w_val trivial rfl (fun a w hf hs => r_move (hf.ev rfl)) ?_
            refine w_nil ?_
            intro a w' hf hs
            exact ⟨rfl, hf.df, _, (HLe.refl _), hs, hf.get _ _ rfl⟩
          · intro a w' M45 l46 hd hs
            have e47 := hd.val 0 30 _ rfl rfl
            refine OP.ofW (l := [(8, (ptr b9 0)), (30, (.int .i64 s32.2))]) ((hd.fr.add e47).add (hd.base 8 _ rfl rfl)) hs rfl ?_
            refine w_val trivial rfl (fun a w hf hs => r_iaI Tryd.underlying131 ts70 (hf.ev rfl) (hf.ev rfl) g48.1 g48.2) ?_
            refine w_nil ?_
            intro a w' hf hs
            exact ⟨rfl, hf.df, _, (HLe.refl _), hs, hf.get _ _ rfl⟩
          · intro a w' M49 l50 hd hs
            have e51 := hd.val 1 31 _ rfl rfl
            refine OP.ofW (l := [(31, (ptr b9 (0 + (s32.2).toNat)))]) (hd.fr.add e51) hs rfl ?_
            refine w_val trivial rfl (fun a w hf hs => r_load1 ta70 (hf.ev rfl) (hs.blk (i := 0) rfl) (vI_get0 g48.1 g48.2)) ?_
            refine w_nil ?_
            intro a w' hf hs
            exact ⟨rfl, hf.df, _, (HLe.refl _), hs, hf.get _ _ rfl⟩
          · intro a w' M52 l53 hd hs
            refine OP.ofW (l := [(12, (.int .i64 s32.2))]) (hd.fr.add (hd.base 12 _ rfl rfl)) hs rfl ?_
            refine w_val trivial rfl (fun a w hf hs => r_move (hf.ev rfl)) ?_
            refine w_nil ?_
            intro a w' hf hs
            exact ⟨rfl, hf.df, _, (HLe.refl _), hs, hf.get _ _ rfl⟩
          · intro a w' M54 l55 hd hs
            have e56 := hd.val 3 33 _ rfl rfl
            refine OP.ofW (l := [(10, (ptr b21 0)), (33, (.int .i64 s32.2))]) ((hd.fr.add e56).add (hd.base 10 _ rfl rfl)) hs rfl ?_
            refine w_val trivial rfl (fun a w hf hs => r_iaI Tryd.underlying131 ts70 (hf.ev rfl) (hf.ev rfl) g57.1 g57.2) ?_
            refine w_nil ?_
            intro a w' hf hs
            exact ⟨rfl, hf.df, _, (HLe.refl _), hs, hf.get _ _ rfl⟩
          · intro a w' M58 l59 hd hs
            have e60 := hd.val 4 34 _ rfl rfl
            refine OP.ofW (l := [(34, (ptr b21 (0 + (s32.2).toNat)))]) (hd.fr.add e60) hs rfl ?_
            refine w_val trivial rfl (fun a w hf hs => r_load1 ta70 (hf.ev rfl) (hs.blk (i := 1) rfl) (vI_get0 g57.1 g57.2)) ?_
            refine w_nil ?_
            intro a w' hf hs
            exact ⟨rfl, hf.df, _, (HLe.refl _), hs, hf.get _ _ rfl⟩
          · intro a w' M61 l62 hd hs
            have e63 := hd.val 2 32 _ rfl rfl
            have e64 := hd.val 5 35 _ rfl rfl
            refine OP.ofW (l := [(32, (.int .u32 (rd t3.1.toList s32.2))), (35, (.int .u32 (rd t15.toList s32.2)))]) ((hd.fr.add e64).add e63) hs rfl ?_
            refine w_val trivial rfl (fun a w hf hs => r_add (hf.ev rfl) (hf.ev rfl)) ?_
            refine w_nil ?_
            intro a w' hf hs
            exact ⟨rfl, hf.df, _, (HLe.refl _), hs, hf.get _ _ rfl⟩
          · intro a w' M65 l66 hd hs
            have e67 := hd.val 6 36 _ rfl rfl
            refine OP.ofW (l := [(36, (.int .u32 (IntKind.u32.wrap ((rd t3.1.toList s32.2) + (rd t15.toList s32.2)))))]) (hd.fr.add e67) hs rfl ?_
            refine w_val trivial rfl (fun a w hf hs => r_assign (hf.ev rfl)) ?_
            refine w_nil ?_
            intro a w' hf hs
            exact ⟨rfl, hf.df, _, (HLe.refl _), hs, hf.get _ _ rfl⟩
          intro a w' M68 l69 hdf hsz hb hv hs
          have e70 := hv 7 13 _ rfl rfl
          refine n_of (c := (Cx.mk Tryd.prog 53 none' M w)) (l := [(8, (ptr b9 0)), (10, (ptr b21 0)), (11, v33), (12, (.int .i64 s32.2)), (13, (.int .u32 (IntKind.u32.wrap ((rd t3.1.toList s32.2) + (rd t15.toList s32.2)))))]) ?_ ((((((Fr.start hdf hsz).add e70).add (hb 12 _ rfl rfl)).add (hb 11 _ rfl rfl)).add (hb 10 _ rfl rfl)).add (hb 8 _ rfl rfl)) hs
          clear hdf hsz hb hv hs e70
          refine n_id (hK42 _ _ _ ?_)
          refine c_reg ?_
          refine w_val trivial rfl (fun a w hf hs => r_move (hf.ev rfl)) ?_
          refine w_val trivial rfl (fun a w hf hs => r_move (hf.ev rfl)) ?_
          refine w_val trivial rfl (fun a w hf hs => r_conv Tryd.underlying70 Tryd.underlying5 (hf.ev rfl)) ?_
          refine w_val trivial rfl (fun a w hf hs => r_move (hf.ev rfl)) ?_
          refine w_val trivial rfl (fun a w hf hs => r_shr (hf.ev rfl) (hf.ev rfl) (by decide)) ?_
          refine w_val trivial rfl (fun a w hf hs => r_conv Tryd.underlying70 Tryd.underlying5 (hf.ev rfl)) ?_
          refine w_val trivial rfl (fun a w hf hs => r_move (hf.ev rfl)) ?_
          refine w_val trivial rfl (fun a w hf hs => r_shr (hf.ev rfl) (hf.ev rfl) (by decide)) ?_
          refine w_val trivial rfl (fun a w hf hs => r_conv Tryd.underlying70 Tryd.underlying5 (hf.ev rfl)) ?_
          refine w_val trivial rfl (fun a w hf hs => r_move (hf.ev rfl)) ?_
          refine w_val trivial rfl (fun a w hf hs => r_shr (hf.ev rfl) (hf.ev rfl) (by decide)) ?_
          refine w_val trivial rfl (fun a w hf hs => r_conv Tryd.underlying70 Tryd.underlying5 (hf.ev rfl)) ?_
          refine w_bsl (F := (FI .u8)) (es := ([(IntKind.u8.wrap (IntKind.u32.wrap ((rd t3.1.toList s32.2) + (rd t15.toList s32.2)))), (IntKind.u8.wrap (shrI .u32 (IntKind.u32.wrap ((rd t3.1.toList s32.2) + (rd t15.toList s32.2))) (8 : Int))), (IntKind.u8.wrap (shrI .u32 (IntKind.u32.wrap ((rd t3.1.toList s32.2) + (rd t15.toList s32.2))) (16 : Int))), (IntKind.u8.wrap (shrI .u32 (IntKind.u32.wrap ((rd t3.1.toList s32.2) + (rd t15.toList s32.2))) (24 : Int)))] : List Int)) (xs := [.tmp 39, .tmp 42, .tmp 45, .tmp 48]) (vs := [(.int .u8 (IntKind.u8.wrap (IntKind.u32.wrap ((rd t3.1.toList s32.2) + (rd t15.toList s32.2))))), (.int .u8 (IntKind.u8.wrap (shrI .u32 (IntKind.u32.wrap ((rd t3.1.toList s32.2) + (rd t15.toList s32.2))) (8 : Int)))), (.int .u8 (IntKind.u8.wrap (shrI .u32 (IntKind.u32.wrap ((rd t3.1.toList s32.2) + (rd t15.toList s32.2))) (16 : Int)))), (.int .u8 (IntKind.u8.wrap (shrI .u32 (IntKind.u32.wrap ((rd t3.1.toList s32.2) + (rd t15.toList s32.2))) (24 : Int))))]) Tryd.underlying66 te5 trivial rfl rfl rfl rfl rfl (by decide) ?_
          intro v71 M72 l73 h74 c75
          obtain ⟨g76, H⟩ := grd_s H
          refine w_app (F := (FI .u8)) (m2 := ([(IntKind.u8.wrap (IntKind.u32.wrap ((rd t3.1.toList s32.2) + (rd t15.toList s32.2)))), (IntKind.u8.wrap (shrI .u32 (IntKind.u32.wrap ((rd t3.1.toList s32.2) + (rd t15.toList s32.2))) (8 : Int))), (IntKind.u8.wrap (shrI .u32 (IntKind.u32.wrap ((rd t3.1.toList s32.2) + (rd t15.toList s32.2))) (16 : Int))), (IntKind.u8.wrap (shrI .u32 (IntKind.u32.wrap ((rd t3.1.toList s32.2) + (rd t15.toList s32.2))) (24 : Int)))] : List Int)) (i := 2) Tryd.underlying66 te5 Tryd.underlying66 (.inl ⟨_, rfl⟩) trivial rfl rfl rfl rfl (Src.rs (FI.one _) h74) g76 ?_
          intro v77
          refine w_val trivial rfl (fun a w hf hs => r_assign (hf.ev rfl)) ?_
          refine w_nil (hK41 _ _ _ ?_)
          refine c_reg ?_
          refine w_val trivial rfl (fun a w hf hs => r_move (hf.ev rfl)) ?_
          refine w_val trivial rfl (fun a w hf hs => r_add (hf.ev rfl) (hf.ev rfl)) ?_
          refine w_val trivial rfl (fun a w hf hs => r_assign (hf.ev rfl)) ?_
          refine w_nil ?_
          intro a w' hf hs
          exact ⟨_, (some_r H).symm, v77, _, l35.trans (l69.trans l73), ((((hf.nil.add (hf.get _ _ rfl)).add (hf.get _ _ rfl)).add (hf.get _ _ rfl)).add (hf.get _ _ rfl)), hs.selD [some 0, some 1, some 2] (by decide) rfl⟩
        · replace H := if_f b40 H
          replace H := map_inr H r36
          refine c_exit ?_
          intro a w' hf hs
          exact ⟨s32.1, v33, _, l35, (hf.nil.add (hf.get _ _ rfl)), hs.selD [none, none, some 2] (by decide) rfl, H⟩
    · rintro a w' ⟨x23, v24, M25, l26, hf, hs, H⟩
      refine c_of (c := (Cx.mk Tryd.prog 53 none' M w)) ?_ hf hs
      unfold ref03_Block.j1 at H
      clear hf hs
      refine c_seq ?_
      intro K27 hK27
      refine c_reg ?_
      refine w_val trivial rfl (fun a w hf hs => r_move (hf.ev rfl)) ?_
      refine w_give 2 rfl (fun _ h => h) ?_
      intro M28 l29 h30
      refine w_val trivial rfl (fun a w hf hs => r_b2s Tryd.underlying66 Tryd.underlying5 Tryd.underlying9 h30 hs.sub (hf.ev rfl)) ?_
      refine w_val trivial rfl (fun a w hf hs => r_assign (hf.ev rfl)) ?_
      refine w_val trivial rfl (fun a w hf hs => r_assign (hf.ev rfl)) ?_
      refine w_nil (hK27 _ _ _ ?_)
      obtain rfl := some_r H
      refine c_ret ?_
      intro a w' hf hs
      exact hret _ (.inl rfl) a w' hf.df ⟨_, _, Res.of2 rfl (RV.t hf rfl) (RV.t hf rfl), hs.ext, rfl⟩
end Go.Cu
