/- Each Go function comes to its pure function; condition: that one is defined there. -/
import Derived.Test.YtakfalfggmgcfaaGreatDoorCFWx1
import Derived.Test.YtakfalfggmgcfaaGreatDoorCK1
import Derived.Shelf.Strings.OnBuilder
import Derived.Ground.NamesProg
import Derived.Lib.Agree
import Derived.Test.YtakfalfggmgcfaaGreatDoorProg
import Derived.KernelRfl
set_option linter.unusedVariables false
set_option linter.unusedSimpArgs false
set_option maxHeartbeats 4000000
set_option maxRecDepth 20000
namespace Go.Cu
open IntKind
open Vector (replicate)
variable {M : Heap} {w : World}
open Go.Proofs Go.Proofs.Tryz Go.Shelf
theorem ref03_quarter.calls (hM : Sub M w) (p0 : (Vector Int 16)) (p1 : Int) (p2 : Int) (p3 : Int) (p4 : Int) (r : (Vector Int 16)) (H : ref03_quarter p0 p1 p2 p3 p4 = some r) :
  Calls prog 204 [.agg (vI .u32 p0).toArray, .int .i64 p1, .int .i64 p2, .int .i64 p3, .int .i64 p4].toArray w (Post M w fun M' v => v = (.agg (vI .u32 r).toArray)) := by
 refine enter 88 [(0, .agg (vI .u32 p0).toArray), (1, .int .i64 p1), (2, .int .i64 p2), (3, .int .i64 p3), (4, .int .i64 p4)] func204 Y Y Y hM ?_
 intro Q hret
 unfold ref03_quarter at H
 refine c_sr fun _ k1 => w_boxL trivial Y Y Y ?_
 intro b2
 refine w_allocL (A := vI .u32 (replicate 16 0)) tz209 trivial Y Y ?_
 intro b3
 refine wk k1 (c_seq fun K4 k4 => csp 8 (by kernel_rfl) ?_)
 intro K5 k5
 obtain ⟨g13, H⟩ := grd_s H
 obtain ⟨g22, H⟩ := grd_s H
 refine dV [([], [1]), ([], [1]), ([(1, 12)], [5]), ([(2, 13)], []), ([], [2]), ([(4, 15)], [5]), ([(5, 16)], []), ([(3, 14), (6, 17)], [])] (by kernel_rfl) (aV (pz Y fun _ f s => r_move (f.ev Y)) (aV (pz Y fun _ f s => r_move (f.ev Y)) (aV (pz Y fun _ f s => r_iaI underlying209 ts169 (f.ev Y) (f.ev Y) g13.1 g13.2) (aV (pz Y fun _ f s => r_load1 ta169 (f.ev Y) (s.blk (i := 0) Y) (vI_get0 g13.1 g13.2)) (aV (pz Y fun _ f s => r_move (f.ev Y)) (aV (pz Y fun _ f s => r_iaI underlying209 ts169 (f.ev Y) (f.ev Y) g22.1 g22.2) (aV (pz Y fun _ f s => r_load1 ta169 (f.ev Y) (s.blk (i := 0) Y) (vI_get0 g22.1 g22.2)) (aV (pz Y fun _ f s => r_add (f.ev Y) (f.ev Y)) aV0)))))))) Y fun M30 l31 => ni k5 ?_
 obtain ⟨g34, H⟩ := grd_s H
 refine wv Y (fun f s => r_iaI underlying209 ts169 (f.ev Y) (f.ev Y) g34.1 g34.2) (w_store (i := 0) (A' := vI .u32 (vs p0 p1 (u32.wrap ((rd p0.toList p1) + (rd p0.toList p2))))) trivial Y Y Y Y ts169 Y (one1 Y) (idx_le g34.1 g34.2 (vI_len _) (by decide)) (vI_set0 g34.1 g34.2) (wk k4 (c_seq fun K35 k35 => csp 9 (by kernel_rfl) ?_)))
 intro K36 k36
 obtain ⟨g44, H⟩ := grd_s H
 obtain ⟨g53, H⟩ := grd_s H
 obtain ⟨t64, e69, H⟩ := bnd H
 refine dV [([], [4]), ([], [4]), ([(1, 21)], [5]), ([(2, 22)], []), ([], [1]), ([(4, 24)], [5]), ([(5, 25)], []), ([(3, 23), (6, 26)], []), ([(7, 27)], [])] (by kernel_rfl) (aV (pz Y fun _ f s => r_move (f.ev Y)) (aV (pz Y fun _ f s => r_move (f.ev Y)) (aV (pz Y fun _ f s => r_iaI underlying209 ts169 (f.ev Y) (f.ev Y) g44.1 g44.2) (aV (pz Y fun _ f s => r_load1 ta169 (f.ev Y) (s.blk (i := 0) Y) (vI_get0 g44.1 g44.2)) (aV (pz Y fun _ f s => r_move (f.ev Y)) (aV (pz Y fun _ f s => r_iaI underlying209 ts169 (f.ev Y) (f.ev Y) g53.1 g53.2) (aV (pz Y fun _ f s => r_load1 ta169 (f.ev Y) (s.blk (i := 0) Y) (vI_get0 g53.1 g53.2)) (aV (pz Y fun _ f s => r_xor (f.ev Y) (f.ev Y)) (aV (pzc cf213 Y Y fun _ _ w s => ref03_rotl.calls s (bits .xor .u32 (rd (vs p0 p1 (u32.wrap ((rd p0.toList p1) + (rd p0.toList p2)))).toList p4) (rd (vs p0 p1 (u32.wrap ((rd p0.toList p1) + (rd p0.toList p2)))).toList p1)) 16 _ e69) aV0))))))))) Y fun M70 l71 => ni k36 ?_
 obtain ⟨g74, H⟩ := grd_s H
 refine wv Y (fun f s => r_iaI underlying209 ts169 (f.ev Y) (f.ev Y) g74.1 g74.2) (w_store (i := 0) (A' := vI .u32 (vs (vs p0 p1 (u32.wrap ((rd p0.toList p1) + (rd p0.toList p2)))) p4 t64)) trivial Y Y Y Y ts169 Y (one1 Y) (idx_le g74.1 g74.2 (vI_len _) (by decide)) (vI_set0 g74.1 g74.2) (wk k35 (c_seq fun K75 k75 => csp 8 (by kernel_rfl) ?_)))
 intro K76 k76
 obtain ⟨g84, H⟩ := grd_s H
 obtain ⟨g93, H⟩ := grd_s H
 refine dV [([], [3]), ([], [3]), ([(1, 31)], [5]), ([(2, 32)], []), ([], [4]), ([(4, 34)], [5]), ([(5, 35)], []), ([(3, 33), (6, 36)], [])] (by kernel_rfl) (aV (pz Y fun _ f s => r_move (f.ev Y)) (aV (pz Y fun _ f s => r_move (f.ev Y)) (aV (pz Y fun _ f s => r_iaI underlying209 ts169 (f.ev Y) (f.ev Y) g84.1 g84.2) (aV (pz Y fun _ f s => r_load1 ta169 (f.ev Y) (s.blk (i := 0) Y) (vI_get0 g84.1 g84.2)) (aV (pz Y fun _ f s => r_move (f.ev Y)) (aV (pz Y fun _ f s => r_iaI underlying209 ts169 (f.ev Y) (f.ev Y) g93.1 g93.2) (aV (pz Y fun _ f s => r_load1 ta169 (f.ev Y) (s.blk (i := 0) Y) (vI_get0 g93.1 g93.2)) (aV (pz Y fun _ f s => r_add (f.ev Y) (f.ev Y)) aV0)))))))) Y fun M101 l102 => ni k76 ?_
 obtain ⟨g105, H⟩ := grd_s H
 refine wv Y (fun f s => r_iaI underlying209 ts169 (f.ev Y) (f.ev Y) g105.1 g105.2) ?_
 obtain ⟨z106, e107, H⟩ := bnd H
 have e108 := some_r e107
 refine w_store (i := 0) (A' := vI .u32 z106) trivial Y Y Y Y ts169 Y (one1 Y) (idx_le g105.1 g105.2 (vI_len _) (by decide)) (by rw [← e108]; exact (vI_set0 g105.1 g105.2)) ?_
 refine wk k75 (c_seq fun K109 k109 => csp 9 (by kernel_rfl) ?_)
 intro K110 k110
 obtain ⟨g118, H⟩ := grd_s H
 obtain ⟨g127, H⟩ := grd_s H
 obtain ⟨t138, e143, H⟩ := bnd H
 refine dV [([], [2]), ([], [2]), ([(1, 40)], [5]), ([(2, 41)], []), ([], [3]), ([(4, 43)], [5]), ([(5, 44)], []), ([(3, 42), (6, 45)], []), ([(7, 46)], [])] (by kernel_rfl) (aV (pz Y fun _ f s => r_move (f.ev Y)) (aV (pz Y fun _ f s => r_move (f.ev Y)) (aV (pz Y fun _ f s => r_iaI underlying209 ts169 (f.ev Y) (f.ev Y) g118.1 g118.2) (aV (pz Y fun _ f s => r_load1 ta169 (f.ev Y) (s.blk (i := 0) Y) (vI_get0 g118.1 g118.2)) (aV (pz Y fun _ f s => r_move (f.ev Y)) (aV (pz Y fun _ f s => r_iaI underlying209 ts169 (f.ev Y) (f.ev Y) g127.1 g127.2) (aV (pz Y fun _ f s => r_load1 ta169 (f.ev Y) (s.blk (i := 0) Y) (vI_get0 g127.1 g127.2)) (aV (pz Y fun _ f s => r_xor (f.ev Y) (f.ev Y)) (aV (pzc cf213 Y Y fun _ _ w s => ref03_rotl.calls s (bits .xor .u32 (rd z106.toList p2) (rd z106.toList p3)) 12 _ e143) aV0))))))))) Y fun M144 l145 => ni k110 ?_
 obtain ⟨g148, H⟩ := grd_s H
 refine wv Y (fun f s => r_iaI underlying209 ts169 (f.ev Y) (f.ev Y) g148.1 g148.2) (w_store (i := 0) (A' := vI .u32 (vs z106 p2 t138)) trivial Y Y Y Y ts169 Y (one1 Y) (idx_le g148.1 g148.2 (vI_len _) (by decide)) (vI_set0 g148.1 g148.2) (wk k109 (c_seq fun K149 k149 => csp 8 (by kernel_rfl) ?_)))
 intro K150 k150
 obtain ⟨g158, H⟩ := grd_s H
 obtain ⟨g167, H⟩ := grd_s H
 refine dV [([], [1]), ([], [1]), ([(1, 50)], [5]), ([(2, 51)], []), ([], [2]), ([(4, 53)], [5]), ([(5, 54)], []), ([(3, 52), (6, 55)], [])] (by kernel_rfl) (aV (pz Y fun _ f s => r_move (f.ev Y)) (aV (pz Y fun _ f s => r_move (f.ev Y)) (aV (pz Y fun _ f s => r_iaI underlying209 ts169 (f.ev Y) (f.ev Y) g158.1 g158.2) (aV (pz Y fun _ f s => r_load1 ta169 (f.ev Y) (s.blk (i := 0) Y) (vI_get0 g158.1 g158.2)) (aV (pz Y fun _ f s => r_move (f.ev Y)) (aV (pz Y fun _ f s => r_iaI underlying209 ts169 (f.ev Y) (f.ev Y) g167.1 g167.2) (aV (pz Y fun _ f s => r_load1 ta169 (f.ev Y) (s.blk (i := 0) Y) (vI_get0 g167.1 g167.2)) (aV (pz Y fun _ f s => r_add (f.ev Y) (f.ev Y)) aV0)))))))) Y fun M175 l176 => ni k150 ?_
 obtain ⟨g179, H⟩ := grd_s H
 refine wv Y (fun f s => r_iaI underlying209 ts169 (f.ev Y) (f.ev Y) g179.1 g179.2) (w_store (i := 0) (A' := vI .u32 (vs (vs z106 p2 t138) p1 (u32.wrap ((rd (vs z106 p2 t138).toList p1) + (rd (vs z106 p2 t138).toList p2))))) trivial Y Y Y Y ts169 Y (one1 Y) (idx_le g179.1 g179.2 (vI_len _) (by decide)) (vI_set0 g179.1 g179.2) (wk k149 (c_seq fun K180 k180 => csp 9 (by kernel_rfl) ?_)))
 intro K181 k181
 obtain ⟨g189, H⟩ := grd_s H
 obtain ⟨g198, H⟩ := grd_s H
 obtain ⟨t209, e214, H⟩ := bnd H
 refine dV [([], [4]), ([], [4]), ([(1, 59)], [5]), ([(2, 60)], []), ([], [1]), ([(4, 62)], [5]), ([(5, 63)], []), ([(3, 61), (6, 64)], []), ([(7, 65)], [])] (by kernel_rfl) (aV (pz Y fun _ f s => r_move (f.ev Y)) (aV (pz Y fun _ f s => r_move (f.ev Y)) (aV (pz Y fun _ f s => r_iaI underlying209 ts169 (f.ev Y) (f.ev Y) g189.1 g189.2) (aV (pz Y fun _ f s => r_load1 ta169 (f.ev Y) (s.blk (i := 0) Y) (vI_get0 g189.1 g189.2)) (aV (pz Y fun _ f s => r_move (f.ev Y)) (aV (pz Y fun _ f s => r_iaI underlying209 ts169 (f.ev Y) (f.ev Y) g198.1 g198.2) (aV (pz Y fun _ f s => r_load1 ta169 (f.ev Y) (s.blk (i := 0) Y) (vI_get0 g198.1 g198.2)) (aV (pz Y fun _ f s => r_xor (f.ev Y) (f.ev Y)) (aV (pzc cf213 Y Y fun _ _ w s => ref03_rotl.calls s (bits .xor .u32 (rd (vs (vs z106 p2 t138) p1 (u32.wrap ((rd (vs z106 p2 t138).toList p1) + (rd (vs z106 p2 t138).toList p2)))).toList p4) (rd (vs (vs z106 p2 t138) p1 (u32.wrap ((rd (vs z106 p2 t138).toList p1) + (rd (vs z106 p2 t138).toList p2)))).toList p1)) 8 _ e214) aV0))))))))) Y fun M215 l216 => ?_
 refine ni k181 ?_
 obtain ⟨g219, H⟩ := grd_s H
 refine wv Y (fun f s => r_iaI underlying209 ts169 (f.ev Y) (f.ev Y) g219.1 g219.2) (w_store (i := 0) (A' := vI .u32 (vs (vs (vs z106 p2 t138) p1 (u32.wrap ((rd (vs z106 p2 t138).toList p1) + (rd (vs z106 p2 t138).toList p2)))) p4 t209)) trivial Y Y Y Y ts169 Y (one1 Y) (idx_le g219.1 g219.2 (vI_len _) (by decide)) (vI_set0 g219.1 g219.2) (wk k180 (c_seq fun K220 k220 => csp 8 (by kernel_rfl) ?_)))
 intro K221 k221
 obtain ⟨g229, H⟩ := grd_s H
 obtain ⟨g238, H⟩ := grd_s H
 refine dV [([], [3]), ([], [3]), ([(1, 69)], [5]), ([(2, 70)], []), ([], [4]), ([(4, 72)], [5]), ([(5, 73)], []), ([(3, 71), (6, 74)], [])] (by kernel_rfl) (aV (pz Y fun _ f s => r_move (f.ev Y)) (aV (pz Y fun _ f s => r_move (f.ev Y)) (aV (pz Y fun _ f s => r_iaI underlying209 ts169 (f.ev Y) (f.ev Y) g229.1 g229.2) (aV (pz Y fun _ f s => r_load1 ta169 (f.ev Y) (s.blk (i := 0) Y) (vI_get0 g229.1 g229.2)) (aV (pz Y fun _ f s => r_move (f.ev Y)) (aV (pz Y fun _ f s => r_iaI underlying209 ts169 (f.ev Y) (f.ev Y) g238.1 g238.2) (aV (pz Y fun _ f s => r_load1 ta169 (f.ev Y) (s.blk (i := 0) Y) (vI_get0 g238.1 g238.2)) (aV (pz Y fun _ f s => r_add (f.ev Y) (f.ev Y)) aV0)))))))) Y fun M246 l247 => ni k221 ?_
 obtain ⟨g250, H⟩ := grd_s H
 refine wv Y (fun f s => r_iaI underlying209 ts169 (f.ev Y) (f.ev Y) g250.1 g250.2) ?_
 obtain ⟨z251, e252, H⟩ := bnd H
 have e253 := some_r e252
 refine w_store (i := 0) (A' := vI .u32 z251) trivial Y Y Y Y ts169 Y (one1 Y) (idx_le g250.1 g250.2 (vI_len _) (by decide)) (by rw [← e253]; exact (vI_set0 g250.1 g250.2)) ?_
 refine wk k220 (c_seq fun K254 k254 => csp 9 (by kernel_rfl) ?_)
 intro K255 k255
 obtain ⟨g263, H⟩ := grd_s H
 obtain ⟨g272, H⟩ := grd_s H
 obtain ⟨t283, e288, H⟩ := bnd H
 refine dV [([], [2]), ([], [2]), ([(1, 78)], [5]), ([(2, 79)], []), ([], [3]), ([(4, 81)], [5]), ([(5, 82)], []), ([(3, 80), (6, 83)], []), ([(7, 84)], [])] (by kernel_rfl) (aV (pz Y fun _ f s => r_move (f.ev Y)) (aV (pz Y fun _ f s => r_move (f.ev Y)) (aV (pz Y fun _ f s => r_iaI underlying209 ts169 (f.ev Y) (f.ev Y) g263.1 g263.2) (aV (pz Y fun _ f s => r_load1 ta169 (f.ev Y) (s.blk (i := 0) Y) (vI_get0 g263.1 g263.2)) (aV (pz Y fun _ f s => r_move (f.ev Y)) (aV (pz Y fun _ f s => r_iaI underlying209 ts169 (f.ev Y) (f.ev Y) g272.1 g272.2) (aV (pz Y fun _ f s => r_load1 ta169 (f.ev Y) (s.blk (i := 0) Y) (vI_get0 g272.1 g272.2)) (aV (pz Y fun _ f s => r_xor (f.ev Y) (f.ev Y)) (aV (pzc cf213 Y Y fun _ _ w s => ref03_rotl.calls s (bits .xor .u32 (rd z251.toList p2) (rd z251.toList p3)) 7 _ e288) aV0))))))))) Y fun M289 l290 => ni k255 ?_
 obtain ⟨g293, H⟩ := grd_s H
 refine wv Y (fun f s => r_iaI underlying209 ts169 (f.ev Y) (f.ev Y) g293.1 g293.2) (w_store (i := 0) (A' := vI .u32 (vs z251 p2 t283)) trivial Y Y Y Y ts169 Y (one1 Y) (idx_le g293.1 g293.2 (vI_len _) (by decide)) (vI_set0 g293.1 g293.2) (wk k254 (c_sr fun _ k294 => wv Y (fun f s => r_loadA ta209 ts209 (f.ev Y) (s.blk (i := 0) Y) (vI_all _) (vI_len _)) (w_store (i := 1) (A' := vI .u32 (vs z251 p2 t283)) trivial Y Y Y Y ts209 (vI_len _) (vI_one _) (by rw [vI_len]; decide) (vI_whole _ _) (wk k294 ?_)))))
 obtain rfl := some_r H
 exact cx hret Y fun f s => ⟨_, _, Res.of1 Y ⟨_, f.get _ _ Y, run_loadA (s.blk (i := 1) Y) ta209 ts209 (vI_all _) (vI_len _)⟩, s.ext, Y⟩
theorem ref03_Rounds.calls (hM : Sub M w) (p0 : (Vector Int 16)) (r : (Vector Int 16)) (H : ref03_Rounds p0 = some r) :
  Calls prog 188 [.agg (vI .u32 p0).toArray].toArray w (Post M w fun M' v => v = (.agg (vI .u32 r).toArray)) := by
 refine enter 44 [(0, .agg (vI .u32 p0).toArray)] func188 Y Y Y hM ?_
 intro Q hret
 unfold ref03_Rounds at H
 refine c_sr fun _ k1 => w_boxL trivial Y Y Y ?_
 intro b2
 refine w_allocL (A := vI .u32 (replicate 16 0)) tz209 trivial Y Y ?_
 intro b3
 refine wk k1 (c_sr fun _ k4 => ?_)
 obtain ⟨t5, e10, H⟩ := bnd H
 refine w_call cf203 trivial Y Y (fun w s => ref03_Order.calls s  _ e10) ?_
 rintro v155 M7 l8 ⟨v11, hv_, h12⟩
 replace hv_ := hv_.symm
 subst hv_
 refine va Y Y (wk k4 ?_)
 refine c_cut (fun a' w' => ∃ (x13 : (Vector Int 16)) (M14 : Heap), HLe M7 M14 ∧ Fr 44 [(1, ptr b2 0), (2, ptr b3 0)] a' ∧ St none' M w M14 (lt [bk b2 (vI .u32 x13) 209, bk b3 (vI .u32 (replicate 16 0)) 209]) w' ∧ ref03_Rounds.j1 x13 = some r) ?_ ?_
 ·refine c_seq ?_
  intro K17 k17
  refine c_reg (va Y Y (wk k17 (c_block ?_)))
  refine c_loop (fun (s18 : ((Vector Int 16) × Int)) a' w' => ∃ (M19 : Heap), HLe M7 M19 ∧ Fr 44 [(1, ptr b2 0), (2, ptr b3 0), (3, v11), (4, .int .i64 s18.2)] a' ∧ St none' M w M19 (lt [bk b2 (vI .u32 s18.1) 209, bk b3 (vI .u32 (replicate 16 0)) 209]) w') (p0, 0) H ?_ ?_
  ·intro a w' f s
   exact ⟨_, HLe.refl _, f.pk Y, s.selD [some 0, some 1] (by decide) Y⟩
  intro s18 y22 H r21 a w' hJ
  obtain ⟨M19, l20, f, s⟩ := hJ
  refine cof f s ?_
  unfold ref03_Rounds.l4 at H
  replace h12 := h12.mono l20
  refine c_seq fun K23 k23 => c_sr fun _ k24 => vm Y Y (v_lss Y Y Y (wk k24 (c_if Y (fun b25 => ?_) (fun b25 => ?_))))
  ·replace H := if_t b25 H
   refine cs k23 ?_
   refine c_cut (fun a' w' => ∃ (x26 : (Vector Int 16)) (M27 : Heap), HLe M19 M27 ∧ Fr 44 [(1, ptr b2 0), (2, ptr b3 0), (3, v11), (4, .int .i64 s18.2)] a' ∧ St none' M w M27 (lt [bk b2 (vI .u32 x26) 209, bk b3 (vI .u32 (replicate 16 0)) 209]) w' ∧ ref03_Rounds.j2 x26 s18 = some y22) ?_ ?_
   ·refine c_block (c_sr fun _ k29 => va Y Y (wk k29 (c_block ?_)))
    refine c_loop (fun (s30 : ((Vector Int 16) × Int)) a' w' => ∃ (M31 : Heap), HLe M19 M31 ∧ Fr 44 [(1, ptr b2 0), (2, ptr b3 0), (3, v11), (4, .int .i64 s18.2), (5, .int .i64 s30.2)] a' ∧ St none' M w M31 (lt [bk b2 (vI .u32 s30.1) 209, bk b3 (vI .u32 (replicate 16 0)) 209]) w') (s18.1, 0) H ?_ ?_
    ·intro a w' f s
     exact ⟨_, HLe.refl _, f.pk Y, s.selD [some 0, some 1] (by decide) Y⟩
    intro s30 y34 H r33 a w' hJ
    obtain ⟨M31, l32, f, s⟩ := hJ
    refine cof f s ?_
    unfold ref03_Rounds.l3 at H
    replace h12 := h12.mono l32
    refine c_seq fun K35 k35 => c_sr fun _ k36 => vm Y Y (vm Y Y (wv Y (fun f s => r_lenSS underlying254 h12 (f.ev Y)) (v_lss Y Y Y (wk k36 (c_if Y (fun b37 => ?_) (fun b37 => ?_))))))
    ·replace H := if_t b37 H
     refine cs k35 (c_seq fun K38 k38 => c_block (csp 25 (by kernel_rfl) ?_))
     intro K39 k39
     obtain ⟨g50, H⟩ := grd_s H
     obtain ⟨g61, H⟩ := grd_s H
     obtain ⟨g75, H⟩ := grd_s H
     obtain ⟨g86, H⟩ := grd_s H
     obtain ⟨g100, H⟩ := grd_s H
     obtain ⟨g111, H⟩ := grd_s H
     obtain ⟨g125, H⟩ := grd_s H
     obtain ⟨g136, H⟩ := grd_s H
     refine d_drawP [([], [1]), ([], [3]), ([], [5]), ([(1, 18), (2, 19)], []), ([(3, 20)], []), ([(4, 21)], []), ([(5, 22)], []), ([], [3]), ([], [5]), ([(7, 24), (8, 25)], []), ([(9, 26)], []), ([(10, 27)], []), ([(11, 28)], []), ([], [3]), ([], [5]), ([(13, 30), (14, 31)], []), ([(15, 32)], []), ([(16, 33)], []), ([(17, 34)], []), ([], [3]), ([], [5]), ([(19, 36), (20, 37)], []), ([(21, 38)], []), ([(22, 39)], []), ([(23, 40)], [])] [vq (.agg (vI .u32 s30.1).toArray), vq v11, vq (.int .i64 s30.2), vq (eP v11 s30.2 1 0), fun v M => ∃ (v54 : Value), v = v54 ∧ RS (FI .i64) M v54 (rd t5 s30.2), fun v M => ∃ (v58 : Value), v = (eP v58 0 1 0) ∧ RS (FI .i64) M v58 (rd t5 s30.2), vq (.int .i64 (rd (rd t5 s30.2) 0)), vq v11, vq (.int .i64 s30.2), vq (eP v11 s30.2 1 0), fun v M => ∃ (v79 : Value), v = v79 ∧ RS (FI .i64) M v79 (rd t5 s30.2), fun v M => ∃ (v83 : Value), v = (eP v83 1 1 0) ∧ RS (FI .i64) M v83 (rd t5 s30.2), vq (.int .i64 (rd (rd t5 s30.2) 1)), vq v11, vq (.int .i64 s30.2), vq (eP v11 s30.2 1 0), fun v M => ∃ (v104 : Value), v = v104 ∧ RS (FI .i64) M v104 (rd t5 s30.2), fun v M => ∃ (v108 : Value), v = (eP v108 2 1 0) ∧ RS (FI .i64) M v108 (rd t5 s30.2), vq (.int .i64 (rd (rd t5 s30.2) 2)), vq v11, vq (.int .i64 s30.2), vq (eP v11 s30.2 1 0), fun v M => ∃ (v129 : Value), v = v129 ∧ RS (FI .i64) M v129 (rd t5 s30.2), fun v M => ∃ (v133 : Value), v = (eP v133 3 1 0) ∧ RS (FI .i64) M v133 (rd t5 s30.2), vq (.int .i64 (rd (rd t5 s30.2) 3))] (by kernel_rfl) (by kernel_rfl) ?_ (aT ?_ (aT ?_ (aT ?_ (aT ?_ (aT ?_ (aT ?_ (aT ?_ (aT ?_ (aT ?_ (aT ?_ (aT ?_ (aT ?_ (aT ?_ (aT ?_ (aT ?_ (aT ?_ (aT ?_ (aT ?_ (aT ?_ (aT ?_ (aT ?_ (aT ?_ (aT ?_ (aT ?_ (aT ?_ AllT.nil))))))))))))))))))))))))) ?_
     ·exact (mC (mC (mC (mC (MonoA.cons (fun _ _ _ hM h => by obtain ⟨v54, e_, q0⟩ := h; exact ⟨v54, e_, q0.mono hM⟩) (MonoA.cons (fun _ _ _ hM h => by obtain ⟨v58, e_, q0⟩ := h; exact ⟨v58, e_, q0.mono hM⟩) (mC (mC (mC (mC (MonoA.cons (fun _ _ _ hM h => by obtain ⟨v79, e_, q0⟩ := h; exact ⟨v79, e_, q0.mono hM⟩) (MonoA.cons (fun _ _ _ hM h => by obtain ⟨v83, e_, q0⟩ := h; exact ⟨v83, e_, q0.mono hM⟩) (mC (mC (mC (mC (MonoA.cons (fun _ _ _ hM h => by obtain ⟨v104, e_, q0⟩ := h; exact ⟨v104, e_, q0.mono hM⟩) (MonoA.cons (fun _ _ _ hM h => by obtain ⟨v108, e_, q0⟩ := h; exact ⟨v108, e_, q0.mono hM⟩) (mC (mC (mC (mC (MonoA.cons (fun _ _ _ hM h => by obtain ⟨v129, e_, q0⟩ := h; exact ⟨v129, e_, q0.mono hM⟩) (MonoA.cons (fun _ _ _ hM h => by obtain ⟨v133, e_, q0⟩ := h; exact ⟨v133, e_, q0.mono hM⟩) (mC MonoA.nil)))))))))))))))))))))))))
     ·intro a w' _ _ hd s
      exact pv (hd.fr.add (hd.base 1 _ Y Y)) s Y (fun f s => r_loadA ta209 ts209 (f.ev Y) (s.blk (i := 0) Y) (vI_all _) (vI_len _)) Y
     ·intro a w' _ l43 hd s
      replace h12 := h12.mono l43
      exact pv (hd.fr.add (hd.base 3 _ Y Y)) s Y (fun f s => r_move (f.ev Y)) Y
     ·intro a w' _ _ hd s
      exact pv (hd.fr.add (hd.base 5 _ Y Y)) s Y (fun f s => r_move (f.ev Y)) Y
     ·intro a w' _ l47 hd s
      exact pv ((hd.fr.add (hd.val 2 19 _ Y Y)).add (hd.val 1 18 _ Y Y)) s Y (fun f s => r_iSS underlying254 ts70 (h12.mono l47) (f.ev Y) (f.ev Y) g50.1 g50.2) Y
     ·intro a w' M51 l52 hd s
      have e53 := hd.val 3 20 _ Y Y
      replace h12 := h12.mono l52
      refine OP.ofW (hd.fr.add e53) s Y (w_ex (Φ := fun v => RS (FI .i64) M51 v (rd t5 s30.2)) trivial Y (fun a w f s => r_loadSS ta70 h12 (St.sub s) g50.1 g50.2 (f.ev Y)) ?_)
      intro v54 h55
      exact w_nil fun a w' f s => ⟨Y, f.df, _, HLe.refl _, s, ⟨v54, f.get _ _ Y, h55⟩⟩
     ·intro a w' _ _ hd s
      obtain ⟨v58, e60, h59⟩ := hd.val 4 21 _ Y Y
      exact OP.ofW (hd.fr.add e60) s Y (wv Y (fun f s => r_iR underlying70 ts3 h59 (f.ev Y) (f.ev Y) g61.1 g61.2) (w_nil fun a w' f s => ⟨Y, f.df, _, HLe.refl _, s, ⟨v58, f.get _ _ Y, h59⟩⟩))
     ·intro a w' _ _ hd s
      obtain ⟨v64, e66, h65⟩ := hd.val 5 22 _ Y Y
      exact pv (hd.fr.add e66) s Y (fun f s => r_loadE1 ta3 h65 s.sub g61.1 g61.2 (f.ev Y) Y) Y
     ·intro a w' _ l68 hd s
      replace h12 := h12.mono l68
      exact pv (hd.fr.add (hd.base 3 _ Y Y)) s Y (fun f s => r_move (f.ev Y)) Y
     ·intro a w' _ _ hd s
      exact pv (hd.fr.add (hd.base 5 _ Y Y)) s Y (fun f s => r_move (f.ev Y)) Y
     ·intro a w' _ l72 hd s
      exact pv ((hd.fr.add (hd.val 8 25 _ Y Y)).add (hd.val 7 24 _ Y Y)) s Y (fun f s => r_iSS underlying254 ts70 (h12.mono l72) (f.ev Y) (f.ev Y) g75.1 g75.2) Y
     ·intro a w' M76 l77 hd s
      have e78 := hd.val 9 26 _ Y Y
      replace h12 := h12.mono l77
      refine OP.ofW (hd.fr.add e78) s Y (w_ex (Φ := fun v => RS (FI .i64) M76 v (rd t5 s30.2)) trivial Y (fun a w f s => r_loadSS ta70 h12 (St.sub s) g75.1 g75.2 (f.ev Y)) ?_)
      intro v79 h80
      exact w_nil fun a w' f s => ⟨Y, f.df, _, HLe.refl _, s, ⟨v79, f.get _ _ Y, h80⟩⟩
     ·intro a w' _ _ hd s
      obtain ⟨v83, e85, h84⟩ := hd.val 10 27 _ Y Y
      exact OP.ofW (hd.fr.add e85) s Y (wv Y (fun f s => r_iR underlying70 ts3 h84 (f.ev Y) (f.ev Y) g86.1 g86.2) (w_nil fun a w' f s => ⟨Y, f.df, _, HLe.refl _, s, ⟨v83, f.get _ _ Y, h84⟩⟩))
     ·intro a w' _ _ hd s
      obtain ⟨v89, e91, h90⟩ := hd.val 11 28 _ Y Y
      exact pv (hd.fr.add e91) s Y (fun f s => r_loadE1 ta3 h90 s.sub g86.1 g86.2 (f.ev Y) Y) Y
     ·intro a w' _ l93 hd s
      replace h12 := h12.mono l93
      exact pv (hd.fr.add (hd.base 3 _ Y Y)) s Y (fun f s => r_move (f.ev Y)) Y
     ·intro a w' _ _ hd s
      exact pv (hd.fr.add (hd.base 5 _ Y Y)) s Y (fun f s => r_move (f.ev Y)) Y
     ·intro a w' _ l97 hd s
      exact pv ((hd.fr.add (hd.val 14 31 _ Y Y)).add (hd.val 13 30 _ Y Y)) s Y (fun f s => r_iSS underlying254 ts70 (h12.mono l97) (f.ev Y) (f.ev Y) g100.1 g100.2) Y
     ·intro a w' M101 l102 hd s
      have e103 := hd.val 15 32 _ Y Y
      replace h12 := h12.mono l102
      refine OP.ofW (hd.fr.add e103) s Y (w_ex (Φ := fun v => RS (FI .i64) M101 v (rd t5 s30.2)) trivial Y (fun a w f s => r_loadSS ta70 h12 (St.sub s) g100.1 g100.2 (f.ev Y)) ?_)
      intro v104 h105
      exact w_nil fun a w' f s => ⟨Y, f.df, _, HLe.refl _, s, ⟨v104, f.get _ _ Y, h105⟩⟩
     ·intro a w' _ _ hd s
      obtain ⟨v108, e110, h109⟩ := hd.val 16 33 _ Y Y
      exact OP.ofW (hd.fr.add e110) s Y (wv Y (fun f s => r_iR underlying70 ts3 h109 (f.ev Y) (f.ev Y) g111.1 g111.2) (w_nil fun a w' f s => ⟨Y, f.df, _, HLe.refl _, s, ⟨v108, f.get _ _ Y, h109⟩⟩))
     ·intro a w' _ _ hd s
      obtain ⟨v114, e116, h115⟩ := hd.val 17 34 _ Y Y
      exact pv (hd.fr.add e116) s Y (fun f s => r_loadE1 ta3 h115 s.sub g111.1 g111.2 (f.ev Y) Y) Y
     ·intro a w' _ l118 hd s
      replace h12 := h12.mono l118
      exact pv (hd.fr.add (hd.base 3 _ Y Y)) s Y (fun f s => r_move (f.ev Y)) Y
     ·intro a w' _ _ hd s
      exact pv (hd.fr.add (hd.base 5 _ Y Y)) s Y (fun f s => r_move (f.ev Y)) Y
     ·intro a w' _ l122 hd s
      exact pv ((hd.fr.add (hd.val 20 37 _ Y Y)).add (hd.val 19 36 _ Y Y)) s Y (fun f s => r_iSS underlying254 ts70 (h12.mono l122) (f.ev Y) (f.ev Y) g125.1 g125.2) Y
     ·intro a w' M126 l127 hd s
      have e128 := hd.val 21 38 _ Y Y
      replace h12 := h12.mono l127
      refine OP.ofW (hd.fr.add e128) s Y (w_ex (Φ := fun v => RS (FI .i64) M126 v (rd t5 s30.2)) trivial Y (fun a w f s => r_loadSS ta70 h12 (St.sub s) g125.1 g125.2 (f.ev Y)) ?_)
      intro v129 h130
      exact w_nil fun a w' f s => ⟨Y, f.df, _, HLe.refl _, s, ⟨v129, f.get _ _ Y, h130⟩⟩
     ·intro a w' _ _ hd s
      obtain ⟨v133, e135, h134⟩ := hd.val 22 39 _ Y Y
      exact OP.ofW (hd.fr.add e135) s Y (wv Y (fun f s => r_iR underlying70 ts3 h134 (f.ev Y) (f.ev Y) g136.1 g136.2) (w_nil fun a w' f s => ⟨Y, f.df, _, HLe.refl _, s, ⟨v133, f.get _ _ Y, h134⟩⟩))
     ·intro a w' _ _ hd s
      obtain ⟨v139, e141, h140⟩ := hd.val 23 40 _ Y Y
      exact pv (hd.fr.add e141) s Y (fun f s => r_loadE1 ta3 h140 s.sub g136.1 g136.2 (f.ev Y) Y) Y
     intro a w' M142 l143 hdf hsz hb hv s
     have e144 := hv 0 17 _ Y Y
     have e145 := hv 6 23 _ Y Y
     have e146 := hv 12 29 _ Y Y
     have e147 := hv 18 35 _ Y Y
     have e148 := hv 24 41 _ Y Y
     refine n_of (c := (Cx.mk prog 44 none' M w)) ?_ (((((((((((Fr.start hdf hsz).add e148).add e147).add e146).add e145).add e144).add (hb 5 _ Y Y)).add (hb 4 _ Y Y)).add (hb 3 _ Y Y)).add (hb 2 _ Y Y)).add (hb 1 _ Y Y)) s
     refine ni k39 ?_
     obtain ⟨t149, e154, H⟩ := bnd H
     refine w_call cf204 trivial Y Y (fun w s => ref03_quarter.calls s s30.1 (rd (rd t5 s30.2) 0) (rd (rd t5 s30.2) 1) (rd (rd t5 s30.2) 2) (rd (rd t5 s30.2) 3) _ e154) ?_
     rintro _ M151 l152 rfl
     exact w_store (i := 0) (A' := vI .u32 t149) trivial Y Y Y Y ts209 (vI_len _) (vI_one _) (by rw [vI_len]; decide) (vI_whole _ _) (wk k38 (c_reg (vm Y Y (v_add Y Y Y (va Y Y (w_nil fun a w' f s => ⟨_, (some_r H).symm, _, l32.trans (l143.trans l152), f.pk Y, s.selD [some 0, some 1] (by decide) Y⟩))))))
    replace H := if_f b37 H
    replace H := map_inr H r33
    refine c_exit ?_
    intro a w' f s
    exact ⟨s30.1, _, l32, f.pk Y, s.selD [some 0, some 1] (by decide) Y, H⟩
   rintro a w' ⟨x26, M27, l28, f, s, H⟩
   refine cof f s ?_
   unfold ref03_Rounds.j2 at H
   exact c_reg (vm Y Y (v_add Y Y Y (va Y Y (w_nil fun a w' f s => ⟨_, (some_r H).symm, _, l20.trans l28, f.pk Y, s.selD [some 0, some 1] (by decide) Y⟩))))
  replace H := if_f b25 H
  replace H := map_inr H r21
  refine c_exit ?_
  intro a w' f s
  exact ⟨s18.1, _, l20, f.pk Y, s.selD [some 0, some 1] (by decide) Y, H⟩
 rintro a w' ⟨x13, M14, l15, f, s, H⟩
 refine cof f s ?_
 unfold ref03_Rounds.j1 at H
 refine c_sr fun _ k16 => wv Y (fun f s => r_loadA ta209 ts209 (f.ev Y) (s.blk (i := 0) Y) (vI_all _) (vI_len _)) (w_store (i := 1) (A' := vI .u32 x13) trivial Y Y Y Y ts209 (vI_len _) (vI_one _) (by rw [vI_len]; decide) (vI_whole _ _) (wk k16 ?_))
 obtain rfl := some_r H
 exact cx hret Y fun f s => ⟨_, _, Res.of1 Y ⟨_, f.get _ _ Y, run_loadA (s.blk (i := 1) Y) ta209 ts209 (vI_all _) (vI_len _)⟩, s.ext, Y⟩
theorem ref03_Block.calls (hM : Sub M w) (p0 : (List UInt8)) (p1 : Int) (p2 : (List UInt8)) (r : ((List UInt8) × Int)) (H : ref03_Block p0 p1 p2 = some r) :
  Calls prog 163 [str p0, .int .u32 p1, str p2].toArray w (Post M w fun M' v => v = .tuple #[str r.1, .int .i64 r.2]) := by
 refine enter 53 [(0, str p0), (1, .int .u32 p1), (2, str p2)] func163 Y Y Y hM ?_
 intro Q hret
 unfold ref03_Block at H
 refine c_sr fun _ k1 => va Y Y (va Y Y (wk k1 (c_sr fun _ k2 => vm Y Y (vm Y Y (vm Y Y ?_)))))
 obtain ⟨t3, e8, H⟩ := bnd H
 refine w_call cf162 trivial Y Y (fun w s => ref03_State.calls s p0 p1 p2 _ e8) ?_
 rintro _ M5 l6 rfl
 refine vm Y Y (v_extract Y Y Y (v_extract Y Y Y (w_allocL (A := vI .u32 (replicate 16 0)) tz209 trivial Y Y ?_)))
 intro b9
 refine w_store (i := 0) (A' := vI .u32 t3.1) trivial Y Y Y Y ts209 (vI_len _) (vI_one _) (by rw [vI_len]; decide) (vI_whole _ _) (va Y Y (wk k2 (c_seq fun K10 k10 => c_sr fun _ k11 => vm Y Y (wv Y (fun f s => r_neq (f.ev Y) (f.ev Y)) (wk k11 (c_if Y (fun b12 => ?_) (fun b12 => ?_)))))))
 ·replace H := if_t b12 H
  refine c_sr fun _ k13 => vm Y Y (va Y Y (va Y Y (wk k13 ?_)))
  obtain rfl := some_r H
  exact cx2 hret Y Y Y Y Y
 replace H := if_f b12 H
 refine cs k10 (c_sr fun _ k14 => wv Y (fun f s => r_loadA ta209 ts209 (f.ev Y) (s.blk (i := 0) Y) (vI_all _) (vI_len _)) ?_)
 obtain ⟨t15, e20, H⟩ := bnd H
 refine w_call cf188 trivial Y Y (fun w s => ref03_Rounds.calls s t3.1 _ e20) ?_
 rintro _ M17 l18 rfl
 refine w_allocL (A := vI .u32 (replicate 16 0)) tz209 trivial Y Y ?_
 intro b21
 refine w_store (i := 1) (A' := vI .u32 t15) trivial Y Y Y Y ts209 (vI_len _) (vI_one _) (by rw [vI_len]; decide) (vI_whole _ _) (wk k14 (c_sr fun _ k22 => va Y Y (wk k22 (c_row0 5 1 ?_))))
 refine c_cut (fun a' w' => ∃ (x23 : (List Int)) (v24 : Value) (M25 : Heap), HLe M17 M25 ∧ Fr 53 [(11, v24)] a' ∧ St none' M w M25 (lt [dead, dead, rowI (FI .u8) v24 5 x23]) w' ∧ ref03_Block.j1 x23 = some r) ?_ ?_
 ·refine c_seq ?_
  intro K31 k31
  refine c_reg (va Y Y (wk k31 (c_block ?_)))
  refine c_loop (fun (s32 : ((List Int) × Int)) a' w' => ∃ (v33 : Value) (M34 : Heap), HLe M17 M34 ∧ Fr 53 [(8, ptr b9 0), (10, ptr b21 0), (11, v33), (12, .int .i64 s32.2)] a' ∧ St none' M w M34 (lt [bk b9 (vI .u32 t3.1) 209, bk b21 (vI .u32 t15) 209, rowI (FI .u8) v33 5 s32.1]) w') (([] : (List Int)), 0) H ?_ ?_
  ·intro a w' f s
   exact ⟨.slice none 0 0, _, HLe.refl _, f.pk Y, s.selD [some 0, some 1, some 2] (by decide) Y⟩
  intro s32 y37 H r36 a w' hJ
  obtain ⟨v33, M34, l35, f, s⟩ := hJ
  refine cof f s ?_
  unfold ref03_Block.l2 at H
  refine c_seq fun K38 k38 => c_sr fun _ k39 => vm Y Y (v_lss Y Y Y (wk k39 (c_if Y (fun b40 => ?_) (fun b40 => ?_))))
  ·replace H := if_t b40 H
   refine cs k38 (c_seq fun K41 k41 => c_block (c_seq fun K42 k42 => ?_))
   obtain ⟨g48, H⟩ := grd_s H
   obtain ⟨g57, H⟩ := grd_s H
   refine cV [([], [12]), ([(0, 30)], [8]), ([(1, 31)], []), ([], [12]), ([(3, 33)], [10]), ([(4, 34)], []), ([(2, 32), (5, 35)], []), ([(6, 36)], [])] (by kernel_rfl) (aV (pz Y fun _ f s => r_move (f.ev Y)) (aV (pz Y fun _ f s => r_iaI underlying209 ts169 (f.ev Y) (f.ev Y) g48.1 g48.2) (aV (pz Y fun _ f s => r_load1 ta169 (f.ev Y) (s.blk (i := 0) Y) (vI_get0 g48.1 g48.2)) (aV (pz Y fun _ f s => r_move (f.ev Y)) (aV (pz Y fun _ f s => r_iaI underlying209 ts169 (f.ev Y) (f.ev Y) g57.1 g57.2) (aV (pz Y fun _ f s => r_load1 ta169 (f.ev Y) (s.blk (i := 1) Y) (vI_get0 g57.1 g57.2)) (aV (pz Y fun _ f s => r_add (f.ev Y) (f.ev Y)) (aV (pz Y fun _ f s => r_assign (f.ev Y)) aV0)))))))) Y fun M68 l69 => ni k42 (c_reg (vm Y Y (vm Y Y (wv Y (fun f s => r_conv underlying169 underlying5 (f.ev Y)) (vm Y Y (wv Y (fun f s => r_shr (f.ev Y) (f.ev Y) (by decide)) (wv Y (fun f s => r_conv underlying169 underlying5 (f.ev Y)) (vm Y Y (wv Y (fun f s => r_shr (f.ev Y) (f.ev Y) (by decide)) (wv Y (fun f s => r_conv underlying169 underlying5 (f.ev Y)) ?_))))))))))
   refine vm Y Y (wv Y (fun f s => r_shr (f.ev Y) (f.ev Y) (by decide)) (wv Y (fun f s => r_conv underlying169 underlying5 (f.ev Y)) (w_bsl (F := (FI .u8)) (es := ([u8.wrap (u32.wrap ((rd t3.1.toList s32.2) + (rd t15.toList s32.2))), u8.wrap (shrI .u32 (u32.wrap ((rd t3.1.toList s32.2) + (rd t15.toList s32.2))) 8), u8.wrap (shrI .u32 (u32.wrap ((rd t3.1.toList s32.2) + (rd t15.toList s32.2))) 16), u8.wrap (shrI .u32 (u32.wrap ((rd t3.1.toList s32.2) + (rd t15.toList s32.2))) 24)] : List Int)) (xs := [.tmp 39, .tmp 42, .tmp 45, .tmp 48]) underlying91 te5 trivial Y Y Y Y Y (by decide) ?_)))
   intro v71 M72 l73 h74 c75
   obtain ⟨g76, H⟩ := grd_s H
   refine w_app (F := (FI .u8)) (m2 := ([u8.wrap (u32.wrap ((rd t3.1.toList s32.2) + (rd t15.toList s32.2))), u8.wrap (shrI .u32 (u32.wrap ((rd t3.1.toList s32.2) + (rd t15.toList s32.2))) 8), u8.wrap (shrI .u32 (u32.wrap ((rd t3.1.toList s32.2) + (rd t15.toList s32.2))) 16), u8.wrap (shrI .u32 (u32.wrap ((rd t3.1.toList s32.2) + (rd t15.toList s32.2))) 24)] : List Int)) (i := 2) underlying91 te5 underlying91 (.inl ⟨_, Y⟩) trivial Y Y Y Y (Src.rs (FI.one _) h74) g76 ?_
   intro v77
   exact va Y Y (wk k41 (c_reg (vm Y Y (v_add Y Y Y (va Y Y (w_nil fun a w' f s => ⟨_, (some_r H).symm, v77, _, l35.trans (l69.trans l73), f.pk Y, s.selD [some 0, some 1, some 2] (by decide) Y⟩))))))
  replace H := if_f b40 H
  replace H := map_inr H r36
  refine c_exit ?_
  intro a w' f s
  exact ⟨s32.1, v33, _, l35, f.pk Y, s.selD [none, none, some 2] (by decide) Y, H⟩
 rintro a w' ⟨x23, v24, M25, l26, f, s, H⟩
 refine cof f s ?_
 unfold ref03_Block.j1 at H
 refine c_sr fun _ k27 => vm Y Y (w_give 2 Y (fun _ h => h) ?_)
 intro M28 l29 h30
 refine wv Y (fun f s => r_b2s underlying91 underlying5 underlying9 h30 s.sub (f.ev Y)) (va Y Y (va Y Y (wk k27 ?_)))
 obtain rfl := some_r H
 exact cx2 hret Y Y Y Y Y
theorem ref03_Xor.calls (hM : Sub M w) (p0 : (List UInt8)) (p1 : Int) (p2 : (List UInt8)) (p3 : (List UInt8)) (r : ((List UInt8) × Int)) (H : ref03_Xor p0 p1 p2 p3 = some r) :
  Calls prog 118 [str p0, .int .u32 p1, str p2, str p3].toArray w (Post M w fun M' v => v = .tuple #[str r.1, .int .i64 r.2]) := by
 refine enter 62 [(0, str p0), (1, .int .u32 p1), (2, str p2), (3, str p3)] func118 Y Y Y hM ?_
 intro Q hret
 unfold ref03_Xor at H
 refine c_sr fun _ k1 => va Y Y (va Y Y (wk k1 (c_sr fun _ k2 => vm Y Y (vm Y Y (vm Y Y ?_)))))
 obtain ⟨t3, e8, H⟩ := bnd H
 refine w_call cf162 trivial Y Y (fun w s => ref03_State.calls s p0 p1 p2 _ e8) ?_
 rintro _ M5 l6 rfl
 refine vm Y Y (v_extract Y Y Y (v_extract Y Y Y (w_allocL (A := vI .u32 (replicate 16 0)) tz209 trivial Y Y ?_)))
 intro b9
 refine w_store (i := 0) (A' := vI .u32 t3.1) trivial Y Y Y Y ts209 (vI_len _) (vI_one _) (by rw [vI_len]; decide) (vI_whole _ _) (va Y Y (wk k2 (c_seq fun K10 k10 => c_sr fun _ k11 => vm Y Y (wv Y (fun f s => r_neq (f.ev Y) (f.ev Y)) (wk k11 (c_if Y (fun b12 => ?_) (fun b12 => ?_)))))))
 ·replace H := if_t b12 H
  refine c_sr fun _ k13 => vm Y Y (va Y Y (va Y Y (wk k13 ?_)))
  obtain rfl := some_r H
  exact cx2 hret Y Y Y Y Y
 replace H := if_f b12 H
 refine cs k10 (c_sr fun _ k14 => va Y Y (wk k14 (c_row0 5 1 ?_)))
 refine c_cut (fun a' w' => ∃ (x15 : (List Int)) (v16 : Value) (M17 : Heap), HLe M5 M17 ∧ Fr 62 [(12, v16)] a' ∧ St none' M w M17 (lt [dead, rowI (FI .u8) v16 5 x15]) w' ∧ ref03_Xor.j1 x15 = some r) ?_ ?_
 ·refine c_block ?_
  refine c_loop (fun (s23 : ((List Int) × Int × (List UInt8))) a' w' => ∃ (v24 : Value) (M25 : Heap), HLe M5 M25 ∧ Fr 62 [(0, str p0), (1, .int .u32 s23.2.1), (2, str p2), (3, str s23.2.2), (12, v24)] a' ∧ St none' M w M25 (lt [dead, rowI (FI .u8) v24 5 s23.1]) w') (([] : (List Int)), p1, p3) H ?_ ?_
  ·intro a w' f s
   exact ⟨.slice none 0 0, _, HLe.refl _, f.pk Y, s.selD [none, some 1] (by decide) Y⟩
  intro s23 y28 H r27 a w' hJ
  obtain ⟨v24, M25, l26, f, s⟩ := hJ
  refine cof f s ?_
  unfold ref03_Xor.l4 at H
  refine c_seq fun K29 k29 => c_sr fun _ k30 => vm Y Y (wv Y (fun f s => r_slen underlying9 (f.ev Y)) (wv Y (fun f s => r_gtr (f.ev Y) (f.ev Y)) (wk k30 (c_if Y (fun b31 => ?_) (fun b31 => ?_)))))
  ·replace H := if_t b31 H
   refine cs k29 (c_block (c_sr fun _ k32 => vm Y Y (vm Y Y (vm Y Y ?_))))
   obtain ⟨t33, e38, H⟩ := bnd H
   refine w_call cf163 trivial Y Y (fun w s => ref03_Block.calls s p0 s23.2.1 p2 _ e38) ?_
   rintro _ M35 l36 rfl
   refine vm Y Y (v_extract Y Y Y (v_extract Y Y Y (va Y Y (va Y Y (wk k32 (c_sr fun _ k39 => vm Y Y (wv Y (fun f s => r_slen underlying9 (f.ev Y)) (wv Y (fun f s => r_min (f.ev Y) (f.ev Y)) (va Y Y (wk k39 ?_))))))))))
   refine c_cut (fun a' w' => ∃ (x40 : (List Int)) (v41 : Value) (M42 : Heap), HLe M35 M42 ∧ Fr 62 [(0, str p0), (1, .int .u32 s23.2.1), (2, str p2), (3, str s23.2.2), (12, v41), (15, .int .i64 (if (s23.2.2.length : Int) < 64 then (s23.2.2.length : Int) else 64))] a' ∧ St none' M w M42 (lt [dead, rowI (FI .u8) v41 5 x40]) w' ∧ ref03_Xor.j2 s23 x40 = some y28) ?_ ?_
   ·refine c_seq ?_
    intro K46 k46
    refine c_reg (va Y Y (wk k46 (c_block ?_)))
    refine c_loop (fun (s47 : ((List Int) × Int)) a' w' => ∃ (v48 : Value) (M49 : Heap), HLe M35 M49 ∧ Fr 62 [(0, str p0), (1, .int .u32 s23.2.1), (2, str p2), (3, str s23.2.2), (12, v48), (13, str t33.1), (15, .int .i64 (if (s23.2.2.length : Int) < 64 then (s23.2.2.length : Int) else 64)), (16, .int .i64 s47.2)] a' ∧ St none' M w M49 (lt [dead, rowI (FI .u8) v48 5 s47.1]) w') (s23.1, 0) H ?_ ?_
    ·intro a w' f s
     exact ⟨v24, _, HLe.refl _, f.pk Y, s.selD [none, some 1] (by decide) Y⟩
    intro s47 y52 H r51 a w' hJ
    obtain ⟨v48, M49, l50, f, s⟩ := hJ
    refine cof f s ?_
    unfold ref03_Xor.l3 at H
    refine c_seq fun K53 k53 => c_sr fun _ k54 => vm Y Y (vm Y Y (v_lss Y Y Y (wk k54 (c_if Y (fun b55 => ?_) (fun b55 => ?_)))))
    ·replace H := if_t b55 H
     refine cs k53 (c_seq fun K56 k56 => c_block (csp 9 (by kernel_rfl) ?_))
     intro K57 k57
     obtain ⟨g68, H⟩ := grd_s H
     obtain ⟨g77, H⟩ := grd_s H
     refine d_drawP [([], [12]), ([], [3]), ([], [16]), ([(1, 46), (2, 47)], []), ([], [13]), ([], [16]), ([(4, 49), (5, 50)], []), ([(3, 48), (6, 51)], []), ([(7, 52)], [])] [vq v48, vq (str s23.2.2), vq (.int .i64 s47.2), vq (.int .u8 (sbyte s23.2.2 s47.2)), vq (str t33.1), vq (.int .i64 s47.2), vq (.int .u8 (sbyte t33.1 s47.2)), vq (.int .u8 (bits .xor .u8 (sbyte s23.2.2 s47.2) (sbyte t33.1 s47.2))), fun v M => ∃ (v85 : Value), v = v85 ∧ RS (FI .u8) M v85 ([bits .xor .u8 (sbyte s23.2.2 s47.2) (sbyte t33.1 s47.2)] : List Int) ∧ ∃ A, v85 = .slice A ([bits .xor .u8 (sbyte s23.2.2 s47.2) (sbyte t33.1 s47.2)] : List Int).length ([bits .xor .u8 (sbyte s23.2.2 s47.2) (sbyte t33.1 s47.2)] : List Int).length] (by kernel_rfl) (by kernel_rfl) ?_ (aT ?_ (aT ?_ (aT ?_ (aT ?_ (aT ?_ (aT ?_ (aT ?_ (aT ?_ (aT ?_ AllT.nil))))))))) ?_
     ·exact (mC (mC (mC (mC (mC (mC (mC (mC (MonoA.cons (fun _ _ _ hM h => by obtain ⟨v85, e_, q0, q1⟩ := h; exact ⟨v85, e_, q0.mono hM, q1⟩) MonoA.nil)))))))))
     ·intro a w' _ _ hd s
      exact pv (hd.fr.add (hd.base 12 _ Y Y)) s Y (fun f s => r_move (f.ev Y)) Y
     ·intro a w' _ _ hd s
      exact pv (hd.fr.add (hd.base 3 _ Y Y)) s Y (fun f s => r_move (f.ev Y)) Y
     ·intro a w' _ _ hd s
      exact pv (hd.fr.add (hd.base 16 _ Y Y)) s Y (fun f s => r_move (f.ev Y)) Y
     ·intro a w' _ _ hd s
      exact pv ((hd.fr.add (hd.val 2 47 _ Y Y)).add (hd.val 1 46 _ Y Y)) s Y (fun f s => r_sidx underlying9 (f.ev Y) (f.ev Y) g68.1 g68.2) Y
     ·intro a w' _ _ hd s
      exact pv (hd.fr.add (hd.base 13 _ Y Y)) s Y (fun f s => r_move (f.ev Y)) Y
     ·intro a w' _ _ hd s
      exact pv (hd.fr.add (hd.base 16 _ Y Y)) s Y (fun f s => r_move (f.ev Y)) Y
     ·intro a w' _ _ hd s
      exact pv ((hd.fr.add (hd.val 5 50 _ Y Y)).add (hd.val 4 49 _ Y Y)) s Y (fun f s => r_sidx underlying9 (f.ev Y) (f.ev Y) g77.1 g77.2) Y
     ·intro a w' _ _ hd s
      exact pv ((hd.fr.add (hd.val 6 51 _ Y Y)).add (hd.val 3 48 _ Y Y)) s Y (fun f s => r_xor (f.ev Y) (f.ev Y)) Y
     ·intro a w' _ _ hd s
      have e84 := hd.val 7 52 _ Y Y
      refine OP.ofW (hd.fr.add e84) s Y (w_bsl (F := (FI .u8)) (es := ([bits .xor .u8 (sbyte s23.2.2 s47.2) (sbyte t33.1 s47.2)] : List Int)) (xs := [.tmp 52]) underlying91 te5 trivial Y Y Y Y Y (by decide) ?_)
      intro v85 M86 l87 h88 c89
      exact w_nil fun a w' f s => ⟨Y, f.df, _, l87, s, ⟨v85, f.get _ _ Y, h88, c89⟩⟩
     intro a w' M90 l91 hdf hsz hb hv s
     have e92 := hv 0 45 _ Y Y
     obtain ⟨v93, e97, h94, h96⟩ := hv 8 53 _ Y Y
     refine n_of (c := (Cx.mk prog 62 none' M w)) ?_ ((((((((((Fr.start hdf hsz).add e97).add e92).add (hb 16 _ Y Y)).add (hb 15 _ Y Y)).add (hb 13 _ Y Y)).add (hb 3 _ Y Y)).add (hb 2 _ Y Y)).add (hb 1 _ Y Y)).add (hb 0 _ Y Y)) s
     refine ni k57 ?_
     obtain ⟨g98, H⟩ := grd_s H
     refine w_app (F := (FI .u8)) (m2 := ([bits .xor .u8 (sbyte s23.2.2 s47.2) (sbyte t33.1 s47.2)] : List Int)) (i := 1) underlying91 te5 underlying91 (.inl ⟨_, Y⟩) trivial Y Y Y Y (Src.rs (FI.one _) h94) g98 ?_
     intro v99
     exact va Y Y (wk k56 (c_reg (vm Y Y (v_add Y Y Y (va Y Y (w_nil fun a w' f s => ⟨_, (some_r H).symm, v99, _, l50.trans l91, f.pk Y, s.selD [none, some 1] (by decide) Y⟩))))))
    replace H := if_f b55 H
    replace H := map_inr H r51
    refine c_exit ?_
    intro a w' f s
    exact ⟨s47.1, v48, _, l50, f.pk Y, s.selD [none, some 1] (by decide) Y, H⟩
   rintro a w' ⟨x40, v41, M42, l43, f, s, H⟩
   refine cof f s ?_
   unfold ref03_Xor.j2 at H
   refine c_sr fun _ k44 => vm Y Y (vm Y Y ?_)
   obtain ⟨g45, H⟩ := grd_s H
   exact wv Y (fun f s => r_sslice underlying9 (f.ev Y) ⟨_, f.ev Y⟩ rfl g45.1 g45.2.1 g45.2.2) (va Y Y (wk k44 (c_reg (vm Y Y (v_add Y Y Y (va Y Y (w_nil fun a w' f s => ⟨_, (some_r H).symm, v41, _, l26.trans (l36.trans l43), f.pk Y, s.selD [none, some 1] (by decide) Y⟩)))))))
  replace H := if_f b31 H
  replace H := map_inr H r27
  refine c_exit ?_
  intro a w' f s
  exact ⟨s23.1, v24, _, l26, f.pk Y, s.selD [none, some 1] (by decide) Y, H⟩
 rintro a w' ⟨x15, v16, M17, l18, f, s, H⟩
 refine cof f s ?_
 unfold ref03_Xor.j1 at H
 refine c_sr fun _ k19 => vm Y Y (w_give 1 Y (fun _ h => h) ?_)
 intro M20 l21 h22
 refine wv Y (fun f s => r_b2s underlying91 underlying5 underlying9 h22 s.sub (f.ev Y)) (va Y Y (va Y Y (wk k19 ?_)))
 obtain rfl := some_r H
 exact cx2 hret Y Y Y Y Y
theorem ref04_tag.calls (hM : Sub M w) (hG : Gl M) (p0 : (List UInt8)) (p1 : (List UInt8)) (p2 : (List UInt8)) (p3 : (List UInt8)) (r : (List UInt8)) (H : ref04_tag p0 p1 p2 p3 = some r) :
  Calls prog 119 [str p0, str p1, str p2, str p3].toArray w (Post M w fun M' v => v = (str r)) := by
 refine enter 20 [(0, str p0), (1, str p1), (2, str p2), (3, str p3)] func119 Y Y Y hM ?_
 intro Q hret
 unfold ref04_tag at H
 refine c_sr fun _ k1 => va Y Y (wk k1 (c_sr fun _ k2 => vm Y Y (vm Y Y ?_)))
 obtain ⟨g3, H⟩ := grd_s H
 refine wv Y (fun f s => r_sadd (f.ev Y) (f.ev Y) g3) (vm Y Y ?_)
 obtain ⟨t4, e9, H⟩ := bnd H
 refine w_call cf60 trivial Y Y (fun w s => ref01_Bytes.calls s p2 _ e9) ?_
 rintro v21 M6 l7 ⟨v10, hv_, h11⟩
 replace hv_ := hv_.symm
 subst hv_
 replace hG := hG.mono l7
 refine wv Y (fun f s => r_b2s underlying91 underlying5 underlying9 h11 s.sub (f.ev Y)) ?_
 obtain ⟨g12, H⟩ := grd_s H
 refine wv Y (fun f s => r_sadd (f.ev Y) (f.ev Y) g12) (vm Y Y ?_)
 obtain ⟨g13, H⟩ := grd_s H
 refine wv Y (fun f s => r_sadd (f.ev Y) (f.ev Y) g13) ?_
 obtain ⟨t14, e19, H⟩ := bnd H
 refine w_call cf120 trivial Y Y (fun w s => ref02_Mac.calls s hG p0 (((([116, 97, 103] : List UInt8) ++ p1) ++ (intsB t4)) ++ p3) _ e19) ?_
 rintro _ M16 l17 rfl
 obtain ⟨g20, H⟩ := grd_s H
 refine wv Y (fun f s => r_sslice underlying9 (f.ev Y) Y ⟨_, f.ev Y⟩ g20.1 g20.2.1 g20.2.2) (va Y Y (wk k2 ?_))
 obtain rfl := some_r H
 exact cx1 hret Y Y Y Y
theorem ref01_Same.calls (hM : Sub M w) (p0 : (List Int)) (v1 : Value) (h2 : RS (FI .u8) M v1 p0) (p1 : (List Int)) (v3 : Value) (h4 : RS (FI .u8) M v3 p1) (r : Bool) (H : ref01_Same p0 p1 = some r) :
  Calls prog 169 [v1, v3].toArray w (Post M w fun M' v => v = (.bool r)) := by
 refine enter 26 [(0, v1), (1, v3)] func169 Y Y Y hM ?_
 intro Q hret
 unfold ref01_Same at H
 refine c_sr fun _ k5 => va Y Y (wk k5 (c_seq fun K6 k6 => c_sr fun _ k7 => vm Y Y (wv Y (fun f s => r_lenR underlying91 h2 (f.ev Y)) (vm Y Y (wv Y (fun f s => r_lenR underlying91 h4 (f.ev Y)) (wv Y (fun f s => r_neq (f.ev Y) (f.ev Y)) (wk k7 (c_if Y (fun b8 => ?_) (fun b8 => ?_)))))))))
 ·replace H := if_t b8 H
  refine c_sr fun _ k9 => va Y Y (wk k9 ?_)
  obtain rfl := some_r H
  exact cx1 hret Y Y Y Y
 replace H := if_f b8 H
 refine cs k6 ?_
 refine c_cut (fun a' w' => ∃ (M10 : Heap), HLe M M10 ∧ Fr 26 [] a' ∧ St none' M w M10 (lt []) w' ∧ ref01_Same.j1  = some r) ?_ ?_
 ·refine c_seq ?_
  intro K13 k13
  refine c_reg (va Y Y (wk k13 (c_block ?_)))
  refine c_loop (fun (s14 : Int) a' w' => ∃ (M15 : Heap), HLe M M15 ∧ Fr 26 [(0, v1), (1, v3), (5, .int .i64 s14)] a' ∧ St none' M w M15 (lt []) w') 0 H ?_ ?_
  ·intro a w' f s
   exact ⟨_, HLe.refl _, f.pk Y, s.selD [] (by decide) Y⟩
  intro s14 y18 H r17 a w' hJ
  obtain ⟨M15, l16, f, s⟩ := hJ
  refine cof f s ?_
  unfold ref01_Same.l2 at H
  replace h2 := h2.mono l16
  replace h4 := h4.mono l16
  refine c_seq fun K19 k19 => c_sr fun _ k20 => vm Y Y (vm Y Y (wv Y (fun f s => r_lenR underlying91 h2 (f.ev Y)) (v_lss Y Y Y (wk k20 (c_if Y (fun b21 => ?_) (fun b21 => ?_))))))
  ·replace H := if_t b21 H
   refine cs k19 (c_seq fun K22 k22 => c_block (c_seq fun K23 k23 => ?_))
   obtain ⟨g32, H⟩ := grd_s H
   obtain ⟨g44, H⟩ := grd_s H
   refine cV [([], [0]), ([], [5]), ([(0, 17), (1, 18)], []), ([(2, 19)], []), ([], [1]), ([], [5]), ([(4, 21), (5, 22)], []), ([(6, 23)], []), ([(3, 20), (7, 24)], [])] (by kernel_rfl) (aV (pz Y fun _ f s => r_move (f.ev Y)) (aV (pz Y fun _ f s => r_move (f.ev Y)) (aV (pz Y fun l29 f s => r_iR underlying91 ts5 (h2.mono l29) (f.ev Y) (f.ev Y) g32.1 g32.2) (aV (pz Y fun l34 f s => r_loadE1 ta5 (h2.mono l34) s.sub g32.1 g32.2 (f.ev Y) Y) (aV (pz Y fun _ f s => r_move (f.ev Y)) (aV (pz Y fun _ f s => r_move (f.ev Y)) (aV (pz Y fun l41 f s => r_iR underlying91 ts5 (h4.mono l41) (f.ev Y) (f.ev Y) g44.1 g44.2) (aV (pz Y fun l46 f s => r_loadE1 ta5 (h4.mono l46) s.sub g44.1 g44.2 (f.ev Y) Y) (aV (pz Y fun _ f s => r_neq (f.ev Y) (f.ev Y)) aV0))))))))) Y fun M52 l53 => ni k23 (c_if Y (fun b55 => ?_) (fun b55 => ?_))
   ·replace H := if_t b55 H
    refine c_sr fun _ k56 => va Y Y (wk k56 ?_)
    obtain rfl := (r17 _ (Option.some.inj H).symm)
    exact cx1 hret Y Y Y Y
   replace H := if_f b55 H
   exact cs k22 (c_reg (vm Y Y (v_add Y Y Y (va Y Y (w_nil fun a w' f s => ⟨_, (some_r H).symm, _, l16.trans l53, f.pk Y, s.selD [] (by decide) Y⟩)))))
  replace H := if_f b21 H
  replace H := map_inr H r17
  refine c_exit ?_
  intro a w' f s
  exact ⟨_, l16, f.nil, s.selD [] (by decide) Y, H⟩
 rintro a w' ⟨M10, l11, f, s, H⟩
 refine cof f s ?_
 unfold ref01_Same.j1 at H
 refine c_sr fun _ k12 => va Y Y (wk k12 ?_)
 obtain rfl := some_r H
 exact cx1 hret Y Y Y Y
theorem ref01_GetInt.calls (hM : Sub M w) (p0 : (List Int)) (v1 : Value) (h2 : RS (FI .u8) M v1 p0) (r : (Int × Int × Int)) (H : ref01_GetInt p0 = some r) :
  Calls prog 139 [v1].toArray w (Post M w fun M' v => v = .tuple #[.int .i64 r.1, .int .i64 r.2.1, .int .i64 r.2.2]) := by
 refine enter 71 [(0, v1)] func139 Y Y Y hM ?_
 intro Q hret
 unfold ref01_GetInt at H
 refine c_sr fun _ k3 => va Y Y (va Y Y (va Y Y (wk k3 (c_seq fun K4 k4 => c_sr fun _ k5 => vm Y Y (wv Y (fun f s => r_lenR underlying91 h2 (f.ev Y)) (wv Y (fun f s => r_eql (f.ev Y) (f.ev Y)) (wk k5 (c_if Y (fun b6 => ?_) (fun b6 => ?_)))))))))
 ·replace H := if_t b6 H
  refine c_sr fun _ k7 => va Y Y (va Y Y (va Y Y (wk k7 ?_)))
  obtain rfl := some_r H
  exact cx3 hret Y Y Y Y Y Y
 replace H := if_f b6 H
 refine cs k4 (c_sr fun _ k8 => vm Y Y ?_)
 obtain ⟨g9, H⟩ := grd_s H
 refine wv Y (fun f s => r_iR underlying91 ts5 h2 (f.ev Y) (f.ev Y) g9.1 g9.2) (wv Y (fun f s => r_loadE1 ta5 h2 s.sub g9.1 g9.2 (f.ev Y) Y) (wv Y (fun f s => r_conv underlying5 underlying3 (f.ev Y)) (va Y Y (wk k8 (c_seq fun K10 k10 => ?_)))))
 obtain ⟨t11, H1, H⟩ := bnd H
 refine c_cut (fun a' w' => ∃ (M12 : Heap), HLe M M12 ∧ Fr 71 [(0, v1), (5, .int .i64 (i64.wrap (rd p0 0))), (23, .bool t11)] a' ∧ St none' M w M12 (lt []) w') ?_ ?_
 ·replace H := H1
  refine c_reg (vm Y Y (v_lss Y Y Y (vm Y Y ?_)))
  by_cases b14 : (decide ((i64.wrap (rd p0 0)) < 119)) = true
  ·replace H := if_t b14 H
   refine wq b14 Y Y Y (wq b14 Y Y Y (wv Y (fun f s => r_pickT (f.ev Y) b14 (f.ev Y)) ?_))
   obtain rfl := some_r H
   exact w_nil fun a w' f s => ⟨_, HLe.refl _, f.pk Y, s.sel [] (by decide) Y⟩
  replace b14 := Bool.eq_false_iff.2 b14
  replace H := if_f b14 H
  refine wg b14 Y Y Y (fun f s => r_move (f.ev Y)) (wg b14 Y Y Y (fun f s => r_gtr (f.ev Y) (f.ev Y)) (wv Y (fun f s => r_pickF (f.ev Y) b14 (f.ev Y)) ?_))
  obtain rfl := some_r H
  exact w_nil fun a w' f s => ⟨_, HLe.refl _, f.pk Y, s.sel [] (by decide) Y⟩
 rintro a w' ⟨M12, l13, f, s⟩
 refine cof f s ?_
 replace h2 := h2.mono l13
 refine c_if Y (fun b15 => ?_) (fun b15 => ?_)
 ·replace H := if_t b15 H
  refine c_sr fun _ k16 => va Y Y (va Y Y (va Y Y (wk k16 ?_)))
  obtain rfl := some_r H
  exact cx3 hret Y Y Y Y Y Y
 replace H := if_f b15 H
 refine cs k10 (c_sr fun _ k17 => vm Y Y (wv Y (fun f s => r_sub (f.ev Y) (f.ev Y)) (va Y Y (wk k17 ?_))))
 refine c_cut (fun a' w' => ∃ (x18 : Int) (M19 : Heap), HLe M12 M19 ∧ Fr 71 [(0, v1), (5, .int .i64 (i64.wrap (rd p0 0))), (6, .int .i64 x18)] a' ∧ St none' M w M19 (lt []) w' ∧ ref01_GetInt.j5 p0 x18 = some r) ?_ ?_
 ·refine c_seq ?_
  intro K109 k109
  refine c_reg (vm Y Y (v_lss Y Y Y (wk k109 (c_if Y (fun b110 => ?_) (fun b110 => ?_)))))
  ·replace H := if_t b110 H
   exact c_reg (vm Y Y (wv Y (fun f s => r_sub (f.ev Y) (f.ev Y)) (va Y Y (w_nil fun a w' f s => ⟨i64.wrap (127 - (i64.wrap (rd p0 0))), _, HLe.refl _, f.pk Y, s.selD [] (by decide) Y, H⟩))))
  replace H := if_f b110 H
  refine c_skip ?_
  intro a w' f s
  exact ⟨i64.wrap ((i64.wrap (rd p0 0)) - 128), _, HLe.refl _, f.pk Y, s.selD [] (by decide) Y, H⟩
 rintro a w' ⟨x18, M19, l20, f, s, H⟩
 refine cof f s ?_
 unfold ref01_GetInt.j5 at H
 replace h2 := h2.mono l20
 refine c_seq fun K21 k21 => c_sr fun _ k22 => vm Y Y (wv Y (fun f s => r_lenR underlying91 h2 (f.ev Y)) (vm Y Y (v_add Y Y Y (v_lss Y Y Y (wk k22 (c_if Y (fun b23 => ?_) (fun b23 => ?_)))))))
 ·replace H := if_t b23 H
  refine c_sr fun _ k24 => va Y Y (va Y Y (va Y Y (wk k24 ?_)))
  obtain rfl := some_r H
  exact cx3 hret Y Y Y Y Y Y
 replace H := if_f b23 H
 refine cs k21 (c_sr fun _ k25 => va Y Y (wk k25 ?_))
 refine c_cut (fun a' w' => ∃ (x26 : Int) (M27 : Heap), HLe M19 M27 ∧ Fr 71 [(0, v1), (5, .int .i64 (i64.wrap (rd p0 0))), (6, .int .i64 x18), (7, .int .i64 x26)] a' ∧ St none' M w M27 (lt []) w' ∧ ref01_GetInt.j2 p0 x26 x18 = some r) ?_ ?_
 ·refine c_seq ?_
  intro K88 k88
  refine c_reg (va Y Y (wk k88 (c_block ?_)))
  refine c_loop (fun (s89 : (Int × Int)) a' w' => ∃ (M90 : Heap), HLe M19 M90 ∧ Fr 71 [(0, v1), (5, .int .i64 (i64.wrap (rd p0 0))), (6, .int .i64 x18), (7, .int .i64 s89.1), (8, .int .i64 s89.2)] a' ∧ St none' M w M90 (lt []) w') (0, 1) H ?_ ?_
  ·intro a w' f s
   exact ⟨_, HLe.refl _, f.pk Y, s.selD [] (by decide) Y⟩
  intro s89 y93 H r92 a w' hJ
  obtain ⟨M90, l91, f, s⟩ := hJ
  refine cof f s ?_
  unfold ref01_GetInt.l4 at H
  replace h2 := h2.mono l91
  refine c_seq fun K94 k94 => c_sr fun _ k95 => vm Y Y (vm Y Y (wv Y (fun f s => r_leq (f.ev Y) (f.ev Y)) (wk k95 (c_if Y (fun b96 => ?_) (fun b96 => ?_)))))
  ·replace H := if_t b96 H
   refine cs k94 (c_seq fun K97 k97 => c_block (c_sr fun _ k98 => vm Y Y (vm Y Y ?_)))
   obtain ⟨g99, H⟩ := grd_s H
   refine wv Y (fun f s => r_iR underlying91 ts5 h2 (f.ev Y) (f.ev Y) g99.1 g99.2) (wv Y (fun f s => r_loadE1 ta5 h2 s.sub g99.1 g99.2 (f.ev Y) Y) (wv Y (fun f s => r_conv underlying5 underlying3 (f.ev Y)) (va Y Y (wk k98 ?_))))
   refine c_cut (fun a' w' => ∃ (x100 : Int) (M101 : Heap), HLe M90 M101 ∧ Fr 71 [(0, v1), (5, .int .i64 (i64.wrap (rd p0 0))), (6, .int .i64 x18), (7, .int .i64 s89.1), (8, .int .i64 s89.2), (9, .int .i64 x100)] a' ∧ St none' M w M101 (lt []) w' ∧ ref01_GetInt.j3 s89 x100 = some y93) ?_ ?_
   ·refine c_seq ?_
    intro K107 k107
    refine c_reg (vm Y Y (v_lss Y Y Y (wk k107 (c_if Y (fun b108 => ?_) (fun b108 => ?_)))))
    ·replace H := if_t b108 H
     exact c_reg (vm Y Y (wv Y (fun f s => r_sub (f.ev Y) (f.ev Y)) (va Y Y (w_nil fun a w' f s => ⟨i64.wrap (255 - (i64.wrap (rd p0 s89.2))), _, HLe.refl _, f.pk Y, s.selD [] (by decide) Y, H⟩))))
    replace H := if_f b108 H
    refine c_skip ?_
    intro a w' f s
    exact ⟨i64.wrap (rd p0 s89.2), _, HLe.refl _, f.pk Y, s.selD [] (by decide) Y, H⟩
   rintro a w' ⟨x100, M101, l102, f, s, H⟩
   refine cof f s ?_
   unfold ref01_GetInt.j3 at H
   replace h2 := h2.mono l102
   refine c_seq fun K103 k103 => c_sr fun _ k104 => vm Y Y (wv Y (fun f s => r_gtr (f.ev Y) (f.ev Y)) (wk k104 (c_if Y (fun b105 => ?_) (fun b105 => ?_))))
   ·replace H := if_t b105 H
    refine c_sr fun _ k106 => va Y Y (va Y Y (va Y Y (wk k106 ?_)))
    obtain rfl := (r92 _ (Option.some.inj H).symm)
    exact cx3 hret Y Y Y Y Y Y
   replace H := if_f b105 H
   exact cs k103 (c_reg (vm Y Y (wv Y (fun f s => r_mul (f.ev Y) (f.ev Y)) (vm Y Y (v_add Y Y Y (va Y Y (wk k97 (c_reg (vm Y Y (v_add Y Y Y (va Y Y (w_nil fun a w' f s => ⟨_, (some_r H).symm, _, l91.trans l102, f.pk Y, s.selD [] (by decide) Y⟩))))))))))))
  replace H := if_f b96 H
  replace H := map_inr H r92
  refine c_exit ?_
  intro a w' f s
  exact ⟨s89.1, _, l91, f.pk Y, s.selD [] (by decide) Y, H⟩
 rintro a w' ⟨x26, M27, l28, f, s, H⟩
 refine cof f s ?_
 unfold ref01_GetInt.j2 at H
 replace h2 := h2.mono l28
 refine c_sr fun _ k29 => vm Y Y (va Y Y (wk k29 ?_))
 refine c_cut (fun a' w' => ∃ (x30 : Int) (M31 : Heap), HLe M27 M31 ∧ Fr 71 [(0, v1), (6, .int .i64 x18), (10, .int .i64 x30)] a' ∧ St none' M w M31 (lt []) w' ∧ ref01_GetInt.j1 x30 x18 p0 = some r) ?_ ?_
 ·refine c_seq ?_
  intro K86 k86
  refine c_reg (vm Y Y (v_lss Y Y Y (wk k86 (c_if Y (fun b87 => ?_) (fun b87 => ?_)))))
  ·replace H := if_t b87 H
   exact c_reg (vm Y Y (wv Y (fun f s => r_sub (f.ev Y) (f.ev Y)) (va Y Y (w_nil fun a w' f s => ⟨i64.wrap ((-1 : Int) - x26), _, HLe.refl _, f.pk Y, s.selD [] (by decide) Y, H⟩))))
  replace H := if_f b87 H
  refine c_skip ?_
  intro a w' f s
  exact ⟨x26, _, HLe.refl _, f.pk Y, s.selD [] (by decide) Y, H⟩
 rintro a w' ⟨x30, M31, l32, f, s, H⟩
 refine cof f s ?_
 unfold ref01_GetInt.j1 at H
 replace h2 := h2.mono l32
 refine c_seq fun K33 k33 => c_seq fun K34 k34 => ?_
 obtain ⟨t40, e45, H⟩ := bnd H
 obtain ⟨g62, H⟩ := grd_s H
 obtain ⟨t71, e76, H⟩ := bnd H
 refine c_drawP [([], [10]), ([(0, 60)], []), ([], [0]), ([], [6]), ([(3, 63)], []), ([(2, 62), (4, 64)], []), ([(1, 61), (5, 65)], []), ([(6, 66)], [])] [vq (.int .i64 x30), fun v M => ∃ (v46 : Value), v = v46 ∧ RS (FI .u8) M v46 t40, vq v1, vq (.int .i64 x18), vq (.int .i64 (i64.wrap (x18 + 1))), fun v M => ∃ (v60 : Value), v = v60 ∧ RS (FI .u8) M v60 ((p0.take (i64.wrap (x18 + (1 : Int))).toNat).drop ((0 : Int)).toNat), vq (.bool t71), vq (.bool (!t71))] (by kernel_rfl) (by kernel_rfl) ?_ (aT ?_ (aT ?_ (aT ?_ (aT ?_ (aT ?_ (aT ?_ (aT ?_ (aT ?_ AllT.nil)))))))) ?_
 ·exact (mC (MonoA.cons (fun _ _ _ hM h => by obtain ⟨v46, e_, q0⟩ := h; exact ⟨v46, e_, q0.mono hM⟩) (mC (mC (mC (MonoA.cons (fun _ _ _ hM h => by obtain ⟨v60, e_, q0⟩ := h; exact ⟨v60, e_, q0.mono hM⟩) (mC (mC MonoA.nil))))))))
 ·intro a w' _ _ hd s
  exact pv (hd.fr.add (hd.base 10 _ Y Y)) s Y (fun f s => r_move (f.ev Y)) Y
 ·intro a w' _ _ hd s
  have e39 := hd.val 0 60 _ Y Y
  refine OP.ofW (hd.fr.add e39) s Y (w_call cf123 trivial Y Y (fun w s => ref01_Int.calls s x30 _ e45) ?_)
  rintro v48 M42 l43 ⟨v46, hv_, h47⟩
  replace hv_ := hv_.symm
  subst hv_
  exact w_nil fun a w' f s => ⟨Y, f.df, _, l43, s, ⟨v46, f.get _ _ Y, h47⟩⟩
 ·intro a w' _ l50 hd s
  replace h2 := h2.mono l50
  exact pv (hd.fr.add (hd.base 0 _ Y Y)) s Y (fun f s => r_move (f.ev Y)) Y
 ·intro a w' _ _ hd s
  exact pv (hd.fr.add (hd.base 6 _ Y Y)) s Y (fun f s => r_move (f.ev Y)) Y
 ·intro a w' _ _ hd s
  exact pv (hd.fr.add (hd.val 3 63 _ Y Y)) s Y (fun f s => r_add (f.ev Y) (f.ev Y)) Y
 ·intro a w' M56 l57 hd s
  have e58 := hd.val 2 62 _ Y Y
  replace h2 := h2.mono l57
  have e59 := hd.val 4 64 _ Y Y
  refine OP.ofW ((hd.fr.add e59).add e58) s Y (w_ex (Φ := fun v => RS (FI .u8) M56 v ((p0.take (i64.wrap (x18 + (1 : Int))).toNat).drop ((0 : Int)).toNat)) trivial Y (fun a w f s => r_slR underlying91 ts5 (f.ev Y) h2 Y ⟨_, f.ev Y⟩ g62.1 g62.2.1 g62.2.2) ?_)
  intro v60 h61
  exact w_nil fun a w' f s => ⟨Y, f.df, _, HLe.refl _, s, ⟨v60, f.get _ _ Y, h61⟩⟩
 ·intro a w' _ _ hd s
  obtain ⟨v65, e67, h66⟩ := hd.val 1 61 _ Y Y
  obtain ⟨v68, e70, h69⟩ := hd.val 5 65 _ Y Y
  refine OP.ofW ((hd.fr.add e70).add e67) s Y (w_call cf169 trivial Y Y (fun w s => ref01_Same.calls s t40 v65 h66 ((p0.take (i64.wrap (x18 + (1 : Int))).toNat).drop ((0 : Int)).toNat) v68 h69 _ e76) ?_)
  rintro _ M73 l74 rfl
  exact w_nil fun a w' f s => ⟨Y, f.df, _, l74, s, f.get _ _ Y⟩
 ·intro a w' _ _ hd s
  exact pv (hd.fr.add (hd.val 6 66 _ Y Y)) s Y (fun f s => r_not (f.ev Y)) Y
 intro a w' M80 l81 hdf hsz hb hv s
 have e82 := hv 7 67 _ Y Y
 refine n_of (c := (Cx.mk prog 71 none' M w)) ?_ ((((Fr.start hdf hsz).add e82).add (hb 10 _ Y Y)).add (hb 6 _ Y Y)) s
 refine ni k34 (c_if Y (fun b83 => ?_) (fun b83 => ?_))
 ·replace H := if_t b83 H
  refine c_sr fun _ k84 => va Y Y (va Y Y (va Y Y (wk k84 ?_)))
  obtain rfl := some_r H
  exact cx3 hret Y Y Y Y Y Y
 replace H := if_f b83 H
 refine cs k33 (c_sr fun _ k85 => vm Y Y (vm Y Y (v_add Y Y Y (va Y Y (va Y Y (va Y Y (wk k85 ?_)))))))
 obtain rfl := some_r H
 exact cx3 hret Y Y Y Y Y Y
theorem ref01_count.calls (hM : Sub M w) (p0 : (List Int)) (v1 : Value) (h2 : RS (FI .u8) M v1 p0) (p1 : Int) (r : (Int × Int × Int)) (H : ref01_count p0 p1 = some r) :
  Calls prog 138 [v1, .int .i64 p1].toArray w (Post M w fun M' v => v = .tuple #[.int .i64 r.1, .int .i64 r.2.1, .int .i64 r.2.2]) := by
 refine enter 37 [(0, v1), (1, .int .i64 p1)] func138 Y Y Y hM ?_
 intro Q hret
 unfold ref01_count at H
 refine c_sr fun _ k3 => va Y Y (va Y Y (va Y Y (wk k3 (c_sr fun _ k4 => vm Y Y ?_))))
 obtain ⟨t5, e10, H⟩ := bnd H
 refine w_call cf139 trivial Y Y (fun w s => ref01_GetInt.calls s p0 v1 h2 _ e10) ?_
 rintro _ M7 l8 rfl
 replace h2 := h2.mono l8
 refine vm Y Y (v_extract Y Y Y (v_extract Y Y Y (v_extract Y Y Y (va Y Y (va Y Y (va Y Y (wk k4 (c_seq fun K11 k11 => c_sr fun _ k12 => vm Y Y (wv Y (fun f s => r_neq (f.ev Y) (f.ev Y)) (wk k12 (c_if Y (fun b13 => ?_) (fun b13 => ?_))))))))))))
 ·replace H := if_t b13 H
  refine c_sr fun _ k14 => vm Y Y (va Y Y (va Y Y (va Y Y (wk k14 ?_))))
  obtain rfl := some_r H
  exact cx3 hret Y Y Y Y Y Y
 replace H := if_f b13 H
 refine cs k11 (c_seq fun K15 k15 => c_sr fun _ k16 => vm Y Y (v_lss Y Y Y (wk k16 (c_if Y (fun b17 => ?_) (fun b17 => ?_)))))
 ·replace H := if_t b17 H
  refine c_sr fun _ k18 => va Y Y (va Y Y (va Y Y (wk k18 ?_)))
  obtain rfl := some_r H
  exact cx3 hret Y Y Y Y Y Y
 replace H := if_f b17 H
 refine cs k15 (c_seq fun K19 k19 => ?_)
 obtain ⟨t20, H1, H⟩ := bnd H
 refine c_cut (fun a' w' => ∃ (M21 : Heap), HLe M7 M21 ∧ Fr 37 [(7, .int .i64 t5.1), (8, .int .i64 t5.2.1), (34, .bool t20)] a' ∧ St none' M w M21 (lt []) w') ?_ ?_
 ·replace H := H1
  refine c_reg (vm Y Y (vm Y Y (wv Y (fun f s => r_lenR underlying91 h2 (f.ev Y)) (wv Y (fun f s => r_gtr (f.ev Y) (f.ev Y)) (vm Y Y ?_)))))
  by_cases b23 : (decide ((p0.length : Int) < t5.1)) = true
  ·replace H := if_t b23 H
   refine wq b23 Y Y Y (wq b23 Y Y Y (wq b23 Y Y Y (wq b23 Y Y Y (wq b23 Y Y Y (wq b23 Y Y Y (wq b23 Y Y Y (wq b23 Y Y Y (wv Y (fun f s => r_pickT (f.ev Y) b23 (f.ev Y)) ?_))))))))
   obtain rfl := some_r H
   exact w_nil fun a w' f s => ⟨_, HLe.refl _, f.pk Y, s.sel [] (by decide) Y⟩
  replace b23 := Bool.eq_false_iff.2 b23
  replace H := if_f b23 H
  refine wg b23 Y Y Y (fun f s => r_move (f.ev Y)) (wg b23 Y Y Y (fun f s => r_move (f.ev Y)) (wg b23 Y Y Y (fun f s => r_mul (f.ev Y) (f.ev Y)) (wg b23 Y Y Y (fun f s => r_move (f.ev Y)) (wg b23 Y Y Y (fun f s => r_lenR underlying91 h2 (f.ev Y)) (wg b23 Y Y Y (fun f s => r_move (f.ev Y)) (wg b23 Y Y Y (fun f s => r_sub (f.ev Y) (f.ev Y)) (wg b23 Y Y Y (fun f s => r_gtr (f.ev Y) (f.ev Y)) (wv Y (fun f s => r_pickF (f.ev Y) b23 (f.ev Y)) ?_))))))))
  obtain rfl := some_r H
  exact w_nil fun a w' f s => ⟨_, HLe.refl _, f.pk Y, s.sel [] (by decide) Y⟩
 rintro a w' ⟨M21, l22, f, s⟩
 refine cof f s ?_
 refine c_if Y (fun b24 => ?_) (fun b24 => ?_)
 ·replace H := if_t b24 H
  refine c_sr fun _ k25 => va Y Y (va Y Y (va Y Y (wk k25 ?_)))
  obtain rfl := some_r H
  exact cx3 hret Y Y Y Y Y Y
 replace H := if_f b24 H
 refine cs k19 (c_sr fun _ k26 => vm Y Y (vm Y Y (va Y Y (va Y Y (va Y Y (wk k26 ?_))))))
 obtain rfl := some_r H
 exact cx3 hret Y Y Y Y Y Y
theorem ref01_GetBytes.calls (hM : Sub M w) (p0 : (List Int)) (v1 : Value) (h2 : RS (FI .u8) M v1 p0) (r : ((List UInt8) × Int × Int)) (H : ref01_GetBytes p0 = some r) :
  Calls prog 75 [v1].toArray w (Post M w fun M' v => v = .tuple #[str r.1, .int .i64 r.2.1, .int .i64 r.2.2]) := by
 refine enter 27 [(0, v1)] func75 Y Y Y hM ?_
 intro Q hret
 unfold ref01_GetBytes at H
 refine c_sr fun _ k3 => va Y Y (va Y Y (va Y Y (wk k3 (c_sr fun _ k4 => vm Y Y ?_))))
 obtain ⟨t5, e10, H⟩ := bnd H
 refine w_call cf138 trivial Y Y (fun w s => ref01_count.calls s p0 v1 h2 1 _ e10) ?_
 rintro _ M7 l8 rfl
 replace h2 := h2.mono l8
 refine vm Y Y (v_extract Y Y Y (v_extract Y Y Y (v_extract Y Y Y (va Y Y (va Y Y (va Y Y (wk k4 (c_seq fun K11 k11 => c_sr fun _ k12 => vm Y Y (wv Y (fun f s => r_neq (f.ev Y) (f.ev Y)) (wk k12 (c_if Y (fun b13 => ?_) (fun b13 => ?_))))))))))))
 ·replace H := if_t b13 H
  refine c_sr fun _ k14 => vm Y Y (va Y Y (va Y Y (va Y Y (wk k14 ?_))))
  obtain rfl := some_r H
  exact cx3 hret Y Y Y Y Y Y
 replace H := if_f b13 H
 refine cs k11 (c_sr fun _ k15 => vm Y Y (vm Y Y (vm Y Y (vm Y Y (v_add Y Y Y ?_)))))
 obtain ⟨g18, H⟩ := grd_s H
 refine w_ex (Φ := fun v => RS (FI .u8) M7 v ((p0.take (i64.wrap (t5.2.1 + t5.1)).toNat).drop (t5.2.1).toNat)) trivial Y (fun a w f s => r_slR underlying91 ts5 (f.ev Y) h2 ⟨_, f.ev Y⟩ ⟨_, f.ev Y⟩ g18.1 g18.2.1 g18.2.2) ?_
 intro v16 h17
 refine wv Y (fun f s => r_b2s underlying91 underlying5 underlying9 h17 s.sub (f.ev Y)) (vm Y Y (vm Y Y (v_add Y Y Y (va Y Y (va Y Y (va Y Y (wk k15 ?_)))))))
 obtain rfl := some_r H
 exact cx3 hret Y Y Y Y Y Y
theorem ref01_GetInts.calls (hM : Sub M w) (p0 : (List Int)) (v1 : Value) (h2 : RS (FI .u8) M v1 p0) (r : ((List Int) × Int × Int)) (H : ref01_GetInts p0 = some r) :
  Calls prog 76 [v1].toArray w (Post M w fun M' v => ∃ v58, v = .tuple #[v58, .int .i64 r.2.1, .int .i64 r.2.2] ∧ RS (FI .i64) M' v58 r.1) := by
 refine enter 47 [(0, v1)] func76 Y Y Y hM ?_
 intro Q hret
 unfold ref01_GetInts at H
 refine c_sr fun _ k3 => va Y Y (va Y Y (va Y Y (wk k3 (c_sr fun _ k4 => vm Y Y ?_))))
 obtain ⟨t5, e10, H⟩ := bnd H
 refine w_call cf138 trivial Y Y (fun w s => ref01_count.calls s p0 v1 h2 1 _ e10) ?_
 rintro _ M7 l8 rfl
 replace h2 := h2.mono l8
 refine vm Y Y (v_extract Y Y Y (v_extract Y Y Y (v_extract Y Y Y (va Y Y (va Y Y (va Y Y (wk k4 (c_seq fun K11 k11 => c_sr fun _ k12 => vm Y Y (wv Y (fun f s => r_neq (f.ev Y) (f.ev Y)) (wk k12 (c_if Y (fun b13 => ?_) (fun b13 => ?_))))))))))))
 ·replace H := if_t b13 H
  refine c_sr fun _ k14 => vm Y Y (va Y Y (va Y Y (va Y Y (wk k14 ?_))))
  obtain rfl := some_r H
  exact cx3 hret Y Y Y Y Y ⟨_, Y, RS.none⟩
 replace H := if_f b13 H
 refine cs k11 (c_sr fun _ k15 => va Y Y (wk k15 (c_row0 3 1 ?_)))
 refine c_cut (fun a' w' => ∃ (x16 : (List Int)) (v17 : Value) (x18 : Int) (M19 : Heap), HLe M7 M19 ∧ Fr 47 [(6, .int .i64 x18), (8, v17)] a' ∧ St none' M w M19 (lt [rowI (FI .i64) v17 3 x16]) w' ∧ ref01_GetInts.j1 x16 x18 = some r) ?_ ?_
 ·refine c_seq ?_
  intro K25 k25
  refine c_reg (va Y Y (wk k25 (c_block ?_)))
  refine c_loop (fun (s26 : ((List Int) × Int × Int)) a' w' => ∃ (v27 : Value) (M28 : Heap), HLe M7 M28 ∧ Fr 47 [(0, v1), (5, .int .i64 t5.1), (6, .int .i64 s26.2.1), (8, v27), (9, .int .i64 s26.2.2)] a' ∧ St none' M w M28 (lt [rowI (FI .i64) v27 3 s26.1]) w') (([] : (List Int)), t5.2.1, 0) H ?_ ?_
  ·intro a w' f s
   exact ⟨.slice none 0 0, _, HLe.refl _, f.pk Y, s.selD [some 0] (by decide) Y⟩
  intro s26 y31 H r30 a w' hJ
  obtain ⟨v27, M28, l29, f, s⟩ := hJ
  refine cof f s ?_
  unfold ref01_GetInts.l2 at H
  replace h2 := h2.mono l29
  refine c_seq fun K32 k32 => c_sr fun _ k33 => vm Y Y (vm Y Y (v_lss Y Y Y (wk k33 (c_if Y (fun b34 => ?_) (fun b34 => ?_)))))
  ·replace H := if_t b34 H
   refine cs k32 (c_seq fun K35 k35 => c_block (c_sr fun _ k36 => vm Y Y (vm Y Y ?_)))
   obtain ⟨g39, H⟩ := grd_s H
   refine w_ex (Φ := fun v => RS (FI .u8) M28 v ((p0.take ((p0.length : Int)).toNat).drop (s26.2.1).toNat)) trivial Y (fun a w f s => r_slR underlying91 ts5 (f.ev Y) h2 ⟨_, f.ev Y⟩ rfl g39.1 g39.2.1 g39.2.2) ?_
   intro v37 h38
   obtain ⟨t40, e45, H⟩ := bnd H
   refine w_call cf139 trivial Y Y (fun w s => ref01_GetInt.calls s ((p0.take ((p0.length : Int)).toNat).drop (s26.2.1).toNat) v37 h38 _ e45) ?_
   rintro _ M42 l43 rfl
   refine vm Y Y (v_extract Y Y Y (v_extract Y Y Y (v_extract Y Y Y (va Y Y (va Y Y (va Y Y (wk k36 (c_seq fun K46 k46 => c_sr fun _ k47 => vm Y Y (wv Y (fun f s => r_neq (f.ev Y) (f.ev Y)) (wk k47 (c_if Y (fun b48 => ?_) (fun b48 => ?_))))))))))))
   ·replace H := if_t b48 H
    refine c_sr fun _ k49 => vm Y Y (va Y Y (va Y Y (va Y Y (wk k49 ?_))))
    obtain rfl := (r30 _ (Option.some.inj H).symm)
    exact cx3 hret Y Y Y Y Y ⟨_, Y, RS.none⟩
   replace H := if_f b48 H
   refine cs k46 (c_sr fun _ k50 => vm Y Y (vm Y Y (w_bsl (F := (FI .i64)) (es := ([t40.1] : List Int)) (xs := [.tmp 39]) underlying70 te3 trivial Y Y Y Y Y (by decide) ?_)))
   intro v51 M52 l53 h54 c55
   obtain ⟨g56, H⟩ := grd_s H
   refine w_app (F := (FI .i64)) (m2 := ([t40.1] : List Int)) (i := 0) underlying70 te3 underlying70 (.inl ⟨_, Y⟩) trivial Y Y Y Y (Src.rs (FI.one _) h54) g56 ?_
   intro v57
   exact va Y Y (wk k50 (c_reg (vm Y Y (vm Y Y (v_add Y Y Y (va Y Y (wk k35 (c_reg (vm Y Y (v_add Y Y Y (va Y Y (w_nil fun a w' f s => ⟨_, (some_r H).symm, v57, _, l29.trans (l43.trans l53), f.pk Y, s.selD [some 0] (by decide) Y⟩))))))))))))
  replace H := if_f b34 H
  replace H := map_inr H r30
  refine c_exit ?_
  intro a w' f s
  exact ⟨s26.1, v27, s26.2.1, _, l29, f.pk Y, s.selD [some 0] (by decide) Y, H⟩
 rintro a w' ⟨x16, v17, x18, M19, l20, f, s, H⟩
 refine cof f s ?_
 unfold ref01_GetInts.j1 at H
 refine c_sr fun _ k21 => vm Y Y (vm Y Y (va Y Y (va Y Y (va Y Y (wk k21 ?_)))))
 obtain rfl := some_r H
 refine c_ret (n_give 0 Y (fun _ h => h) ?_)
 intro M22 l23 h24
 intro a w' f s
 exact hret _ (.inl Y) a w' f.df ⟨_, _, Res.of3 Y (RV.t f Y) (RV.t f Y) (RV.t f Y), s.ext, ⟨_, Y, h24⟩⟩
theorem ref36_digest.calls (hM : Sub M w) (p0 : (List UInt8)) (r : (Vector Int 16)) (H : ref36_digest p0 = some r) :
  Calls prog 77 [str p0].toArray w (Post M w fun M' v => v = (.agg (vI .u8 r).toArray)) := by
 refine enter 15 [(0, str p0)] func77 Y Y Y hM ?_
 intro Q hret
 unfold ref36_digest at H
 refine c_sr fun _ k1 => w_allocL (A := vI .u8 (replicate 16 0)) tz23 trivial Y Y ?_
 intro b2
 refine wk k1 (c_sr fun _ k3 => w_allocL (A := vI .u8 (replicate 16 0)) tz23 trivial Y Y ?_)
 intro b4
 refine wk k3 ?_
 refine c_cut (fun a' w' => ∃ (x5 : (Vector Int 16)) (M6 : Heap), HLe M M6 ∧ Fr 15 [(2, ptr b2 0), (3, ptr b4 0)] a' ∧ St none' M w M6 (lt [bk b2 (vI .u8 (replicate 16 0)) 23, bk b4 (vI .u8 x5) 23]) w' ∧ ref36_digest.j1 x5 = some r) ?_ ?_
 ·refine c_seq ?_
  intro K9 k9
  refine c_reg (va Y Y (wk k9 (c_block ?_)))
  refine c_loop (fun (s10 : ((Vector Int 16) × Int)) a' w' => ∃ (M11 : Heap), HLe M M11 ∧ Fr 15 [(0, str p0), (2, ptr b2 0), (3, ptr b4 0), (4, .int .i64 s10.2)] a' ∧ St none' M w M11 (lt [bk b2 (vI .u8 (replicate 16 0)) 23, bk b4 (vI .u8 s10.1) 23]) w') (replicate 16 0, 0) H ?_ ?_
  ·intro a w' f s
   exact ⟨_, HLe.refl _, f.pk Y, s.selD [some 0, some 1] (by decide) Y⟩
  intro s10 y14 H r13 a w' hJ
  obtain ⟨M11, l12, f, s⟩ := hJ
  refine cof f s ?_
  unfold ref36_digest.l2 at H
  refine c_seq fun K15 k15 => c_sr fun _ k16 => vm Y Y (v_lss Y Y Y (wk k16 (c_if Y (fun b17 => ?_) (fun b17 => ?_))))
  ·replace H := if_t b17 H
   refine cs k15 (c_seq fun K18 k18 => c_block (c_reg (vm Y Y (vm Y Y (vm Y Y ?_)))))
   obtain ⟨g19, H⟩ := grd_s H
   refine wv Y (fun f s => r_sidx underlying9 (f.ev Y) (f.ev Y) g19.1 g19.2) ?_
   obtain ⟨g20, H⟩ := grd_s H
   exact wv Y (fun f s => r_iaI underlying23 ts5 (f.ev Y) (f.ev Y) g20.1 g20.2) (w_store (i := 1) (A' := vI .u8 (vs s10.1 s10.2 (sbyte p0 s10.2))) trivial Y Y Y Y ts5 Y (one1 Y) (idx_le g20.1 g20.2 (vI_len _) (by decide)) (vI_set0 g20.1 g20.2) (wk k18 (c_reg (vm Y Y (v_add Y Y Y (va Y Y (w_nil fun a w' f s => ⟨_, (some_r H).symm, _, l12.trans (HLe.refl _), f.pk Y, s.selD [some 0, some 1] (by decide) Y⟩)))))))
  replace H := if_f b17 H
  replace H := map_inr H r13
  refine c_exit ?_
  intro a w' f s
  exact ⟨s10.1, _, l12, f.pk Y, s.selD [some 0, some 1] (by decide) Y, H⟩
 rintro a w' ⟨x5, M6, l7, f, s, H⟩
 refine cof f s ?_
 unfold ref36_digest.j1 at H
 refine c_sr fun _ k8 => wv Y (fun f s => r_loadA ta23 ts23 (f.ev Y) (s.blk (i := 1) Y) (vI_all _) (vI_len _)) (w_store (i := 0) (A' := vI .u8 x5) trivial Y Y Y Y ts23 (vI_len _) (vI_one _) (by rw [vI_len]; decide) (vI_whole _ _) (wk k8 ?_))
 obtain rfl := some_r H
 exact cx hret Y fun f s => ⟨_, _, Res.of1 Y ⟨_, f.get _ _ Y, run_loadA (s.blk (i := 0) Y) ta23 ts23 (vI_all _) (vI_len _)⟩, s.ext, Y⟩
theorem ref36_Peek.calls (hM : Sub M w) (p0 : (List UInt8)) (r : (Backup × Int)) (H : ref36_Peek p0 = some r) :
  Calls prog 27 [str p0].toArray w (Post M w fun M' v => v = .tuple #[.agg (Backup.C r.1 (.slice none 0 0)).toArray, .int .i64 r.2] ∧ r.1.Keys = []) := by
 refine enter 98 [(0, str p0)] func27 Y Y Y hM ?_
 intro Q hret
 unfold ref36_Peek at H
 refine c_sr fun _ k1 => w_allocL (A := Backup.C (⟨replicate 16 0, 0, 0, 0, 0, replicate 16 0, [], []⟩ : Backup) (.slice none 0 0)) tz26 trivial Y Y ?_
 intro b2
 refine va Y Y (wk k1 (c_sr fun _ k3 => vm Y Y (w_s2b underlying9 underlying91 underlying5 trivial Y Y ?_)))
 intro v4 M5 l6 h7
 obtain ⟨t8, e13, H⟩ := bnd H
 refine w_call cf75 trivial Y Y (fun w s => ref01_GetBytes.calls s (bytesI p0) v4 h7 _ e13) ?_
 rintro _ M10 l11 rfl
 refine vm Y Y (v_extract Y Y Y (v_extract Y Y Y (v_extract Y Y Y (va Y Y (va Y Y (va Y Y (wk k3 (c_seq fun K14 k14 => c_sr fun _ k15 => vm Y Y (wv Y (fun f s => r_neq (f.ev Y) (f.ev Y)) (wk k15 (c_if Y (fun b16 => ?_) (fun b16 => ?_))))))))))))
 ·replace H := if_t b16 H
  refine c_sr fun _ k17 => wv Y (fun f s => r_build (is := []) (xs := []) (A := Backup.C (⟨replicate 16 0, 0, 0, 0, 0, replicate 16 0, [], []⟩ : Backup) (.slice none 0 0)) Y (f.evs Y) (built_of (pl := [(0, 16), (16, 1), (17, 1), (18, 1), (19, 1), (20, 16), (36, 1), (37, 1)]) (A0 := Backup.C (⟨replicate 16 0, 0, 0, 0, 0, replicate 16 0, [], []⟩ : Backup) (.slice none 0 0)) tz26 underlying26 (by kernel_rfl) Y .nil)) (vm Y Y ?_)
  obtain ⟨z18, e20, H⟩ := bnd H
  have e19 := some_r e20
  refine w_store (i := 0) (A' := Backup.C z18 (.slice none 0 0)) trivial Y Y Y Y ts26 (Backup.len _ _) (Backup.C_one _ Y) (by rw [Backup.len]; decide) (by rw [← e19]; exact (splice_all _ _ (by simp [Backup.C]))) ?_
  have h21 : RS Key.F M10 (.slice none 0 0) z18.Keys := by rw [← e19]; exact RS.none
  refine va Y Y (wk k17 ?_)
  obtain rfl := some_r H
  exact cx hret Y fun f s => ⟨_, _, Res.of2 Y ⟨_, f.get _ _ Y, run_loadA (s.blk (i := 0) Y) ta26 ts26 (Backup.d0_38 _ _) (Backup.len _ _)⟩ (RV.t f Y), s.ext, ⟨Y, (by first | rfl | exact rs_nil (by assumption))⟩⟩
 replace H := if_f b16 H
 refine cs k14 (c_seq fun K22 k22 => c_sr fun _ k23 => vm Y Y (wv Y (fun f s => r_slen underlying9 (f.ev Y)) (v_lss Y Y Y (wk k23 (c_if Y (fun b24 => ?_) (fun b24 => ?_))))))
 ·replace H := if_t b24 H
  refine c_sr fun _ k25 => wv Y (fun f s => r_build (is := []) (xs := []) (A := Backup.C (⟨replicate 16 0, 0, 0, 0, 0, replicate 16 0, [], []⟩ : Backup) (.slice none 0 0)) Y (f.evs Y) (built_of (pl := [(0, 16), (16, 1), (17, 1), (18, 1), (19, 1), (20, 16), (36, 1), (37, 1)]) (A0 := Backup.C (⟨replicate 16 0, 0, 0, 0, 0, replicate 16 0, [], []⟩ : Backup) (.slice none 0 0)) tz26 underlying26 (by kernel_rfl) Y .nil)) ?_
  obtain ⟨z26, e28, H⟩ := bnd H
  have e27 := some_r e28
  refine w_store (i := 0) (A' := Backup.C z26 (.slice none 0 0)) trivial Y Y Y Y ts26 (Backup.len _ _) (Backup.C_one _ Y) (by rw [Backup.len]; decide) (by rw [← e27]; exact (splice_all _ _ (by simp [Backup.C]))) ?_
  have h29 : RS Key.F M10 (.slice none 0 0) z26.Keys := by rw [← e27]; exact RS.none
  refine va Y Y (wk k25 ?_)
  obtain rfl := some_r H
  exact cx hret Y fun f s => ⟨_, _, Res.of2 Y ⟨_, f.get _ _ Y, run_loadA (s.blk (i := 0) Y) ta26 ts26 (Backup.d0_38 _ _) (Backup.len _ _)⟩ (RV.t f Y), s.ext, ⟨Y, (by first | rfl | exact rs_nil (by assumption))⟩⟩
 replace H := if_f b24 H
 refine cs k22 (c_sr fun _ k30 => vm Y Y ?_)
 obtain ⟨g31, H⟩ := grd_s H
 refine wv Y (fun f s => r_sslice underlying9 (f.ev Y) ⟨_, f.ev Y⟩ rfl g31.1 g31.2.1 g31.2.2) (w_s2b underlying9 underlying91 underlying5 trivial Y Y ?_)
 intro v32 M33 l34 h35
 obtain ⟨t36, e41, H⟩ := bnd H
 refine w_call cf76 trivial Y Y (fun w s => ref01_GetInts.calls s (bytesI ((t8.1.take ((t8.1.length : Int)).toNat).drop ((16 : Int)).toNat)) v32 h35 _ e41) ?_
 rintro v192 M38 l39 ⟨v42, hv_, h43⟩
 replace hv_ := hv_.symm
 subst hv_
 refine vm Y Y (v_extract Y Y Y (v_extract Y Y Y (v_extract Y Y Y (va Y Y (va Y Y (va Y Y (wk k30 (c_seq fun K44 k44 => c_sr fun _ k45 => vm Y Y (wv Y (fun f s => r_neq (f.ev Y) (f.ev Y)) (wk k45 (c_if Y (fun b46 => ?_) (fun b46 => ?_))))))))))))
 ·replace H := if_t b46 H
  refine c_sr fun _ k47 => wv Y (fun f s => r_build (is := []) (xs := []) (A := Backup.C (⟨replicate 16 0, 0, 0, 0, 0, replicate 16 0, [], []⟩ : Backup) (.slice none 0 0)) Y (f.evs Y) (built_of (pl := [(0, 16), (16, 1), (17, 1), (18, 1), (19, 1), (20, 16), (36, 1), (37, 1)]) (A0 := Backup.C (⟨replicate 16 0, 0, 0, 0, 0, replicate 16 0, [], []⟩ : Backup) (.slice none 0 0)) tz26 underlying26 (by kernel_rfl) Y .nil)) (vm Y Y ?_)
  obtain ⟨z48, e50, H⟩ := bnd H
  have e49 := some_r e50
  refine w_store (i := 0) (A' := Backup.C z48 (.slice none 0 0)) trivial Y Y Y Y ts26 (Backup.len _ _) (Backup.C_one _ Y) (by rw [Backup.len]; decide) (by rw [← e49]; exact (splice_all _ _ (by simp [Backup.C]))) ?_
  have h51 : RS Key.F M38 (.slice none 0 0) z48.Keys := by rw [← e49]; exact RS.none
  refine va Y Y (wk k47 ?_)
  obtain rfl := some_r H
  exact cx hret Y fun f s => ⟨_, _, Res.of2 Y ⟨_, f.get _ _ Y, run_loadA (s.blk (i := 0) Y) ta26 ts26 (Backup.d0_38 _ _) (Backup.len _ _)⟩ (RV.t f Y), s.ext, ⟨Y, (by first | rfl | exact rs_nil (by assumption))⟩⟩
 replace H := if_f b46 H
 refine cs k44 (c_seq fun K52 k52 => c_sr fun _ k53 => vm Y Y (wv Y (fun f s => r_lenR underlying70 h43 (f.ev Y)) (wv Y (fun f s => r_neq (f.ev Y) (f.ev Y)) (wk k53 (c_if Y (fun b54 => ?_) (fun b54 => ?_))))))
 ·replace H := if_t b54 H
  refine c_sr fun _ k55 => wv Y (fun f s => r_build (is := []) (xs := []) (A := Backup.C (⟨replicate 16 0, 0, 0, 0, 0, replicate 16 0, [], []⟩ : Backup) (.slice none 0 0)) Y (f.evs Y) (built_of (pl := [(0, 16), (16, 1), (17, 1), (18, 1), (19, 1), (20, 16), (36, 1), (37, 1)]) (A0 := Backup.C (⟨replicate 16 0, 0, 0, 0, 0, replicate 16 0, [], []⟩ : Backup) (.slice none 0 0)) tz26 underlying26 (by kernel_rfl) Y .nil)) ?_
  obtain ⟨z56, e58, H⟩ := bnd H
  have e57 := some_r e58
  refine w_store (i := 0) (A' := Backup.C z56 (.slice none 0 0)) trivial Y Y Y Y ts26 (Backup.len _ _) (Backup.C_one _ Y) (by rw [Backup.len]; decide) (by rw [← e57]; exact (splice_all _ _ (by simp [Backup.C]))) ?_
  have h59 : RS Key.F M38 (.slice none 0 0) z56.Keys := by rw [← e57]; exact RS.none
  refine va Y Y (wk k55 ?_)
  obtain rfl := some_r H
  exact cx hret Y fun f s => ⟨_, _, Res.of2 Y ⟨_, f.get _ _ Y, run_loadA (s.blk (i := 0) Y) ta26 ts26 (Backup.d0_38 _ _) (Backup.len _ _)⟩ (RV.t f Y), s.ext, ⟨Y, (by first | rfl | exact rs_nil (by assumption))⟩⟩
 replace H := if_f b54 H
 refine cs k52 (c_sr fun _ k60 => vm Y Y (vm Y Y (v_add Y Y Y ?_)))
 obtain ⟨g61, H⟩ := grd_s H
 refine wv Y (fun f s => r_sslice underlying9 (f.ev Y) ⟨_, f.ev Y⟩ rfl g61.1 g61.2.1 g61.2.2) (va Y Y (wk k60 (c_seq fun K62 k62 => c_sr fun _ k63 => vm Y Y (wv Y (fun f s => r_slen underlying9 (f.ev Y)) (v_lss Y Y Y (wk k63 (c_if Y (fun b64 => ?_) (fun b64 => ?_))))))))
 ·replace H := if_t b64 H
  refine c_sr fun _ k65 => wv Y (fun f s => r_build (is := []) (xs := []) (A := Backup.C (⟨replicate 16 0, 0, 0, 0, 0, replicate 16 0, [], []⟩ : Backup) (.slice none 0 0)) Y (f.evs Y) (built_of (pl := [(0, 16), (16, 1), (17, 1), (18, 1), (19, 1), (20, 16), (36, 1), (37, 1)]) (A0 := Backup.C (⟨replicate 16 0, 0, 0, 0, 0, replicate 16 0, [], []⟩ : Backup) (.slice none 0 0)) tz26 underlying26 (by kernel_rfl) Y .nil)) ?_
  obtain ⟨z66, e68, H⟩ := bnd H
  have e67 := some_r e68
  refine w_store (i := 0) (A' := Backup.C z66 (.slice none 0 0)) trivial Y Y Y Y ts26 (Backup.len _ _) (Backup.C_one _ Y) (by rw [Backup.len]; decide) (by rw [← e67]; exact (splice_all _ _ (by simp [Backup.C]))) ?_
  have h69 : RS Key.F M38 (.slice none 0 0) z66.Keys := by rw [← e67]; exact RS.none
  refine va Y Y (wk k65 ?_)
  obtain rfl := some_r H
  exact cx hret Y fun f s => ⟨_, _, Res.of2 Y ⟨_, f.get _ _ Y, run_loadA (s.blk (i := 0) Y) ta26 ts26 (Backup.d0_38 _ _) (Backup.len _ _)⟩ (RV.t f Y), s.ext, ⟨Y, (by first | rfl | exact rs_nil (by assumption))⟩⟩
 replace H := if_f b64 H
 refine cs k62 (c_sr fun _ k70 => vm Y Y ?_)
 obtain ⟨g71, H⟩ := grd_s H
 refine wv Y (fun f s => r_sslice underlying9 (f.ev Y) ⟨_, f.ev Y⟩ rfl g71.1 g71.2.1 g71.2.2) (w_s2b underlying9 underlying91 underlying5 trivial Y Y ?_)
 intro v72 M73 l74 h75
 replace h43 := h43.mono l74
 obtain ⟨t76, e81, H⟩ := bnd H
 refine w_call cf75 trivial Y Y (fun w s => ref01_GetBytes.calls s (bytesI ((((t8.1.take ((t8.1.length : Int)).toNat).drop (i64.wrap (16 + t36.2.1)).toNat).take ((((t8.1.take ((t8.1.length : Int)).toNat).drop (i64.wrap (16 + t36.2.1)).toNat).length : Int)).toNat).drop ((16 : Int)).toNat)) v72 h75 _ e81) ?_
 rintro _ M78 l79 rfl
 replace h43 := h43.mono l79
 refine vm Y Y (v_extract Y Y Y (v_extract Y Y Y (v_extract Y Y Y (va Y Y (va Y Y (va Y Y (wk k70 (c_seq fun K82 k82 => c_sr fun _ k83 => vm Y Y (wv Y (fun f s => r_neq (f.ev Y) (f.ev Y)) (wk k83 (c_if Y (fun b84 => ?_) (fun b84 => ?_))))))))))))
 ·replace H := if_t b84 H
  refine c_sr fun _ k85 => wv Y (fun f s => r_build (is := []) (xs := []) (A := Backup.C (⟨replicate 16 0, 0, 0, 0, 0, replicate 16 0, [], []⟩ : Backup) (.slice none 0 0)) Y (f.evs Y) (built_of (pl := [(0, 16), (16, 1), (17, 1), (18, 1), (19, 1), (20, 16), (36, 1), (37, 1)]) (A0 := Backup.C (⟨replicate 16 0, 0, 0, 0, 0, replicate 16 0, [], []⟩ : Backup) (.slice none 0 0)) tz26 underlying26 (by kernel_rfl) Y .nil)) (vm Y Y ?_)
  obtain ⟨z86, e88, H⟩ := bnd H
  have e87 := some_r e88
  refine w_store (i := 0) (A' := Backup.C z86 (.slice none 0 0)) trivial Y Y Y Y ts26 (Backup.len _ _) (Backup.C_one _ Y) (by rw [Backup.len]; decide) (by rw [← e87]; exact (splice_all _ _ (by simp [Backup.C]))) ?_
  have h89 : RS Key.F M78 (.slice none 0 0) z86.Keys := by rw [← e87]; exact RS.none
  refine va Y Y (wk k85 ?_)
  obtain rfl := some_r H
  exact cx hret Y fun f s => ⟨_, _, Res.of2 Y ⟨_, f.get _ _ Y, run_loadA (s.blk (i := 0) Y) ta26 ts26 (Backup.d0_38 _ _) (Backup.len _ _)⟩ (RV.t f Y), s.ext, ⟨Y, (by first | rfl | exact rs_nil (by assumption))⟩⟩
 replace H := if_f b84 H
 refine cs k82 (c_seq fun K90 k90 => csp 19 (by kernel_rfl) ?_)
 intro K91 k91
 obtain ⟨t97, e102, H⟩ := bnd H
 obtain ⟨g108, H⟩ := grd_s H
 obtain ⟨g117, H⟩ := grd_s H
 obtain ⟨g126, H⟩ := grd_s H
 obtain ⟨g135, H⟩ := grd_s H
 obtain ⟨t144, e149, H⟩ := bnd H
 refine d_drawN [18] [[], []] [⟨[], [4], [], none, none⟩, ⟨[(0, 67)], [], [], none, none⟩, ⟨[], [7], [], none, none⟩, ⟨[(2, 69)], [], [], none, none⟩, ⟨[(3, 70)], [], [], none, none⟩, ⟨[], [7], [], none, none⟩, ⟨[(5, 72)], [], [], none, none⟩, ⟨[(6, 73)], [], [], none, none⟩, ⟨[], [7], [], none, none⟩, ⟨[(8, 75)], [], [], none, none⟩, ⟨[(9, 76)], [], [], none, none⟩, ⟨[], [7], [], none, none⟩, ⟨[(11, 78)], [], [], none, none⟩, ⟨[(12, 79)], [], [], none, none⟩, ⟨[], [10], [], none, none⟩, ⟨[(14, 81)], [], [], none, none⟩, ⟨[], [11], [], none, none⟩, ⟨[(1, 68), (4, 71), (7, 74), (10, 77), (13, 80), (15, 82), (16, 83)], [], [], none, none⟩, ⟨[], [], [], none, some 0⟩] [vq (str t8.1), vq (.agg (vI .u8 t97).toArray), vq v42, vq (eP v42 0 1 0), vq (.int .i64 (rd t36.1 0)), vq v42, vq (eP v42 1 1 0), vq (.int .i64 (rd t36.1 1)), vq v42, vq (eP v42 2 1 0), vq (.int .i64 (rd t36.1 2)), vq v42, vq (eP v42 3 1 0), vq (.int .i64 (rd t36.1 3)), vq (str ((t8.1.take ((t8.1.length : Int)).toNat).drop (i64.wrap (16 + t36.2.1)).toNat)), vq (.agg (vI .u8 t144).toArray), vq (str t76.1), vq (.agg (Backup.C (⟨t97, rd t36.1 0, rd t36.1 1, rd t36.1 2, rd t36.1 3, t144, t76.1, []⟩ : Backup) (.slice none 0 0)).toArray), fun _ _ => True] [[fun y M => y = bk b2 (Backup.C (⟨replicate 16 0, 0, 0, 0, 0, replicate 16 0, [], []⟩ : Backup) (.slice none 0 0)) 26], [fun y M => ∃ (b163 : Nat), y = bk b163 (Backup.C (⟨replicate 16 0, 0, 0, 0, 0, replicate 16 0, [], []⟩ : Backup) (.slice none 0 0)) 26]] (by kernel_rfl) (by kernel_rfl) ?_ ?_ Y ?_ (AllN.cons ?_ (AllN.cons ?_ (AllN.cons ?_ (AllN.cons ?_ (AllN.cons ?_ (AllN.cons ?_ (AllN.cons ?_ (AllN.cons ?_ (AllN.cons ?_ (AllN.cons ?_ (AllN.cons ?_ (AllN.cons ?_ (AllN.cons ?_ (AllN.cons ?_ (AllN.cons ?_ (AllN.cons ?_ (AllN.cons ?_ (AllN.cons ?_ (AllN.cons ?_ AllN.nil))))))))))))))))))) ?_
 ·exact (mC (mC (mC (mC (mC (mC (mC (mC (mC (mC (mC (mC (mC (mC (mC (mC (mC (mC (mC MonoA.nil)))))))))))))))))))
 ·exact (MonoK.cons (mono_cons (fun _ _ _ _ h => h) mono_nil) (MonoK.cons (mono_cons (fun _ _ _ _ h => h) mono_nil) MonoK.nil))
 ·exact (All0N.cons Y All0N.nil)
 ·intro a w' _ _ _ hL hd s
  obtain ⟨x0_, x1_, rfl⟩ := ln2 hL
  exact pw (hd.fr.add (hd.base 4 _ Y Y)) s Y (fun f s => r_move (f.ev Y)) Y Y
 ·intro a w' _ _ _ hL hd s
  have e96 := hd.val 0 67 _ Y Y
  obtain ⟨x0_, x1_, rfl⟩ := ln2 hL
  refine OP.ofW (hd.fr.add e96) s Y (w_call cf77 trivial Y Y (fun w s => ref36_digest.calls s t8.1 _ e102) ?_)
  rintro _ M99 l100 rfl
  exact w_nil fun a w' f s => ⟨Y, f.df, _, _, l100, s, f.get _ _ Y, Y⟩
 ·intro a w' _ _ l104 hL hd s
  replace h43 := h43.mono l104
  obtain ⟨x0_, x1_, rfl⟩ := ln2 hL
  exact pw (hd.fr.add (hd.base 7 _ Y Y)) s Y (fun f s => r_move (f.ev Y)) Y Y
 ·intro a w' _ _ l106 hL hd s
  obtain ⟨x0_, x1_, rfl⟩ := ln2 hL
  exact pw (hd.fr.add (hd.val 2 69 _ Y Y)) s Y (fun f s => r_iR underlying70 ts3 (h43.mono l106) (f.ev Y) (f.ev Y) g108.1 g108.2) Y Y
 ·intro a w' _ _ l110 hL hd s
  obtain ⟨x0_, x1_, rfl⟩ := ln2 hL
  exact pw (hd.fr.add (hd.val 3 70 _ Y Y)) s Y (fun f s => r_loadE1 ta3 (h43.mono l110) s.sub g108.1 g108.2 (f.ev Y) Y) Y Y
 ·intro a w' _ _ l113 hL hd s
  replace h43 := h43.mono l113
  obtain ⟨x0_, x1_, rfl⟩ := ln2 hL
  exact pw (hd.fr.add (hd.base 7 _ Y Y)) s Y (fun f s => r_move (f.ev Y)) Y Y
 ·intro a w' _ _ l115 hL hd s
  obtain ⟨x0_, x1_, rfl⟩ := ln2 hL
  exact pw (hd.fr.add (hd.val 5 72 _ Y Y)) s Y (fun f s => r_iR underlying70 ts3 (h43.mono l115) (f.ev Y) (f.ev Y) g117.1 g117.2) Y Y
 ·intro a w' _ _ l119 hL hd s
  obtain ⟨x0_, x1_, rfl⟩ := ln2 hL
  exact pw (hd.fr.add (hd.val 6 73 _ Y Y)) s Y (fun f s => r_loadE1 ta3 (h43.mono l119) s.sub g117.1 g117.2 (f.ev Y) Y) Y Y
 ·intro a w' _ _ l122 hL hd s
  replace h43 := h43.mono l122
  obtain ⟨x0_, x1_, rfl⟩ := ln2 hL
  exact pw (hd.fr.add (hd.base 7 _ Y Y)) s Y (fun f s => r_move (f.ev Y)) Y Y
 ·intro a w' _ _ l124 hL hd s
  obtain ⟨x0_, x1_, rfl⟩ := ln2 hL
  exact pw (hd.fr.add (hd.val 8 75 _ Y Y)) s Y (fun f s => r_iR underlying70 ts3 (h43.mono l124) (f.ev Y) (f.ev Y) g126.1 g126.2) Y Y
 ·intro a w' _ _ l128 hL hd s
  obtain ⟨x0_, x1_, rfl⟩ := ln2 hL
  exact pw (hd.fr.add (hd.val 9 76 _ Y Y)) s Y (fun f s => r_loadE1 ta3 (h43.mono l128) s.sub g126.1 g126.2 (f.ev Y) Y) Y Y
 ·intro a w' _ _ l131 hL hd s
  replace h43 := h43.mono l131
  obtain ⟨x0_, x1_, rfl⟩ := ln2 hL
  exact pw (hd.fr.add (hd.base 7 _ Y Y)) s Y (fun f s => r_move (f.ev Y)) Y Y
 ·intro a w' _ _ l133 hL hd s
  obtain ⟨x0_, x1_, rfl⟩ := ln2 hL
  exact pw (hd.fr.add (hd.val 11 78 _ Y Y)) s Y (fun f s => r_iR underlying70 ts3 (h43.mono l133) (f.ev Y) (f.ev Y) g135.1 g135.2) Y Y
 ·intro a w' _ _ l137 hL hd s
  obtain ⟨x0_, x1_, rfl⟩ := ln2 hL
  exact pw (hd.fr.add (hd.val 12 79 _ Y Y)) s Y (fun f s => r_loadE1 ta3 (h43.mono l137) s.sub g135.1 g135.2 (f.ev Y) Y) Y Y
 ·intro a w' _ _ _ hL hd s
  obtain ⟨x0_, x1_, rfl⟩ := ln2 hL
  exact pw (hd.fr.add (hd.base 10 _ Y Y)) s Y (fun f s => r_move (f.ev Y)) Y Y
 ·intro a w' _ _ _ hL hd s
  have e143 := hd.val 14 81 _ Y Y
  obtain ⟨x0_, x1_, rfl⟩ := ln2 hL
  refine OP.ofW (hd.fr.add e143) s Y (w_call cf77 trivial Y Y (fun w s => ref36_digest.calls s ((t8.1.take ((t8.1.length : Int)).toNat).drop (i64.wrap (16 + t36.2.1)).toNat) _ e149) ?_)
  rintro _ M146 l147 rfl
  exact w_nil fun a w' f s => ⟨Y, f.df, _, _, l147, s, f.get _ _ Y, Y⟩
 ·intro a w' _ _ _ hL hd s
  obtain ⟨x0_, x1_, rfl⟩ := ln2 hL
  exact pw (hd.fr.add (hd.base 11 _ Y Y)) s Y (fun f s => r_move (f.ev Y)) Y Y
 ·intro a w' _ _ _ hL hd s
  obtain ⟨x0_, x1_, rfl⟩ := ln2 hL
  exact pw (((((((hd.fr.add (hd.val 16 83 _ Y Y)).add (hd.val 15 82 _ Y Y)).add (hd.val 13 80 _ Y Y)).add (hd.val 10 77 _ Y Y)).add (hd.val 7 74 _ Y Y)).add (hd.val 4 71 _ Y Y)).add (hd.val 1 68 _ Y Y)) s Y (fun f s => r_build (is := [0, 1, 2, 3, 4, 5, 6]) (xs := [.tmp 68, .tmp 71, .tmp 74, .tmp 77, .tmp 80, .tmp 82, .tmp 83]) (A := Backup.C (⟨t97, rd t36.1 0, rd t36.1 1, rd t36.1 2, rd t36.1 3, t144, t76.1, []⟩ : Backup) (.slice none 0 0)) Y (f.evs Y) (built_of (pl := [(0, 16), (16, 1), (17, 1), (18, 1), (19, 1), (20, 16), (36, 1), (37, 1)]) (A0 := Backup.C (⟨replicate 16 0, 0, 0, 0, 0, replicate 16 0, [], []⟩ : Backup) (.slice none 0 0)) tz26 underlying26 (by kernel_rfl) Y (.cons (vs := vI .u8 t97) (B := Backup.C (⟨t97, 0, 0, 0, 0, replicate 16 0, [], []⟩ : Backup) (.slice none 0 0)) Y Y (by simp) (by rw [Backup.len]; decide) (Backup.s0_16 _ _) (.cons (vs := [.int .i64 (rd t36.1 0)]) (B := Backup.C (⟨t97, rd t36.1 0, 0, 0, 0, replicate 16 0, [], []⟩ : Backup) (.slice none 0 0)) Y Y Y (by rw [Backup.len]; decide) (Backup.s16_1 _ _) (.cons (vs := [.int .i64 (rd t36.1 1)]) (B := Backup.C (⟨t97, rd t36.1 0, rd t36.1 1, 0, 0, replicate 16 0, [], []⟩ : Backup) (.slice none 0 0)) Y Y Y (by rw [Backup.len]; decide) (Backup.s17_1 _ _) (.cons (vs := [.int .i64 (rd t36.1 2)]) (B := Backup.C (⟨t97, rd t36.1 0, rd t36.1 1, rd t36.1 2, 0, replicate 16 0, [], []⟩ : Backup) (.slice none 0 0)) Y Y Y (by rw [Backup.len]; decide) (Backup.s18_1 _ _) (.cons (vs := [.int .i64 (rd t36.1 3)]) (B := Backup.C (⟨t97, rd t36.1 0, rd t36.1 1, rd t36.1 2, rd t36.1 3, replicate 16 0, [], []⟩ : Backup) (.slice none 0 0)) Y Y Y (by rw [Backup.len]; decide) (Backup.s19_1 _ _) (.cons (vs := vI .u8 t144) (B := Backup.C (⟨t97, rd t36.1 0, rd t36.1 1, rd t36.1 2, rd t36.1 3, t144, [], []⟩ : Backup) (.slice none 0 0)) Y Y (by simp) (by rw [Backup.len]; decide) (Backup.s20_16 _ _) (.cons (vs := [str t76.1]) (B := Backup.C (⟨t97, rd t36.1 0, rd t36.1 1, rd t36.1 2, rd t36.1 3, t144, t76.1, []⟩ : Backup) (.slice none 0 0)) Y Y Y (by rw [Backup.len]; decide) (Backup.s36_1 _ _) .nil))))))))) Y Y
 ·intro a w' _ _ _ hL hd s
  obtain ⟨x0_, x1_, rfl⟩ := ln2 hL
  refine OP.ofW hd.fr s Y (w_allocL (A := Backup.C (⟨replicate 16 0, 0, 0, 0, 0, replicate 16 0, [], []⟩ : Backup) (.slice none 0 0)) tz26 trivial Y Y ?_)
  intro b163
  exact w_nil fun a w' f s => ⟨Y, f.df, _, _, HLe.refl _, s.sel [0, 2] (by decide) Y, trivial, ⟨bk b163 (Backup.C (⟨replicate 16 0, 0, 0, 0, 0, replicate 16 0, [], []⟩ : Backup) (.slice none 0 0)) 26, Y, of_some (q := fun y M => ∃ (b163 : Nat), y = bk b163 (Backup.C (⟨replicate 16 0, 0, 0, 0, 0, replicate 16 0, [], []⟩ : Backup) (.slice none 0 0)) 26) ⟨b163, Y⟩, (f.get _ _ Y).symm⟩⟩
 intro a w' M164 L_ l165 hL hdf hsz hb hv hi hk_ s
 have e166 := hv 17 84 _ Y Y
 obtain ⟨x0_, x1_, rfl⟩ := ln2 hL
 obtain ⟨_, hy, rfl⟩ := hi 0 _ Y
 obtain rfl := Option.some.inj hy
 obtain ⟨_, hy, b167, rfl⟩ := hi 1 _ Y
 have e168 := (hk_ 0 18 14 _ Y Y hy).symm
 obtain rfl := Option.some.inj hy
 refine n_of (c := (Cx.mk prog 98 none' M w)) ?_ ((((((Fr.start hdf hsz).add e168).add e166).add (hb 12 _ Y Y)).add (hb 10 _ Y Y)).add (hb 2 _ Y Y)) s
 refine ni k91 ?_
 obtain ⟨z169, e171, H⟩ := bnd H
 have e170 := some_r e171
 refine w_store (i := 1) (A' := Backup.C z169 (.slice none 0 0)) trivial Y Y Y Y ts26 (Backup.len _ _) (Backup.C_one _ Y) (by rw [Backup.len]; decide) (by rw [← e170]; exact (splice_all _ _ (by simp [Backup.C]))) ?_
 have h172 : RS Key.F M164 (.slice none 0 0) z169.Keys := by rw [← e170]; exact RS.none
 refine wk k90 (c_sr fun _ k173 => wv Y (fun f s => r_loadA ta26 ts26 (f.ev Y) (s.blk (i := 1) Y) (Backup.d0_38 _ _) (Backup.len _ _)) ?_)
 obtain ⟨t174, e179, H⟩ := bnd H
 refine w_call cf20 trivial Y Y (fun w s => ref36_Valid.calls s z169 (.slice none 0 0) h172 _ e179) ?_
 rintro _ M176 l177 rfl
 refine va Y Y (wk k173 (c_seq fun K180 k180 => ?_))
 obtain ⟨t181, H1, H⟩ := bnd H
 refine c_cut (fun a' w' => ∃ (M182 : Heap), HLe M176 M182 ∧ Fr 98 [(2, ptr b2 0), (14, ptr b167 0), (95, .bool t181)] a' ∧ St none' M w M182 (lt [bk b2 (Backup.C (⟨replicate 16 0, 0, 0, 0, 0, replicate 16 0, [], []⟩ : Backup) (.slice none 0 0)) 26, bk b167 (Backup.C z169 (.slice none 0 0)) 26]) w') ?_ ?_
 ·replace H := H1
  refine c_reg (vm Y Y (vm Y Y (wv Y (fun f s => r_slen underlying9 (f.ev Y)) (wv Y (fun f s => r_sub (f.ev Y) (f.ev Y)) (wv Y (fun f s => r_neq (f.ev Y) (f.ev Y)) (vm Y Y ?_))))))
  by_cases b184 : (t76.2.1 != (i64.wrap ((((t8.1.take ((t8.1.length : Int)).toNat).drop (i64.wrap (16 + t36.2.1)).toNat).length : Int) - 16))) = true
  ·replace H := if_t b184 H
   refine wq b184 Y Y Y (wq b184 Y Y Y (wv Y (fun f s => r_pickT (f.ev Y) b184 (f.ev Y)) ?_))
   obtain rfl := some_r H
   exact w_nil fun a w' f s => ⟨_, HLe.refl _, f.pk Y, s.sel [0, 1] (by decide) Y⟩
  replace b184 := Bool.eq_false_iff.2 b184
  replace H := if_f b184 H
  refine wg b184 Y Y Y (fun f s => r_move (f.ev Y)) (wg b184 Y Y Y (fun f s => r_not (f.ev Y)) (wv Y (fun f s => r_pickF (f.ev Y) b184 (f.ev Y)) ?_))
  obtain rfl := some_r H
  exact w_nil fun a w' f s => ⟨_, HLe.refl _, f.pk Y, s.sel [0, 1] (by decide) Y⟩
 rintro a w' ⟨M182, l183, f, s⟩
 refine cof f s ?_
 refine c_if Y (fun b185 => ?_) (fun b185 => ?_)
 ·replace H := if_t b185 H
  refine c_sr fun _ k186 => wv Y (fun f s => r_build (is := []) (xs := []) (A := Backup.C (⟨replicate 16 0, 0, 0, 0, 0, replicate 16 0, [], []⟩ : Backup) (.slice none 0 0)) Y (f.evs Y) (built_of (pl := [(0, 16), (16, 1), (17, 1), (18, 1), (19, 1), (20, 16), (36, 1), (37, 1)]) (A0 := Backup.C (⟨replicate 16 0, 0, 0, 0, 0, replicate 16 0, [], []⟩ : Backup) (.slice none 0 0)) tz26 underlying26 (by kernel_rfl) Y .nil)) ?_
  obtain ⟨z187, e189, H⟩ := bnd H
  have e188 := some_r e189
  refine w_store (i := 0) (A' := Backup.C z187 (.slice none 0 0)) trivial Y Y Y Y ts26 (Backup.len _ _) (Backup.C_one _ Y) (by rw [Backup.len]; decide) (by rw [← e188]; exact (splice_all _ _ (by simp [Backup.C]))) ?_
  have h190 : RS Key.F M182 (.slice none 0 0) z187.Keys := by rw [← e188]; exact RS.none
  refine va Y Y (wk k186 ?_)
  obtain rfl := some_r H
  exact cx hret Y fun f s => ⟨_, _, Res.of2 Y ⟨_, f.get _ _ Y, run_loadA (s.blk (i := 0) Y) ta26 ts26 (Backup.d0_38 _ _) (Backup.len _ _)⟩ (RV.t f Y), s.ext, ⟨Y, (by first | rfl | exact rs_nil (by assumption))⟩⟩
 replace H := if_f b185 H
 refine cs k180 (c_sr fun _ k191 => wv Y (fun f s => r_loadA ta26 ts26 (f.ev Y) (s.blk (i := 1) Y) (Backup.d0_38 _ _) (Backup.len _ _)) (w_store (i := 0) (A' := Backup.C z169 (.slice none 0 0)) trivial Y Y Y Y ts26 (Backup.len _ _) (Backup.C_one _ Y) (by rw [Backup.len]; decide) (splice_all _ _ (by simp [Backup.C])) (va Y Y (wk k191 ?_))))
 obtain rfl := some_r H
 exact cx hret Y fun f s => ⟨_, _, Res.of2 Y ⟨_, f.get _ _ Y, run_loadA (s.blk (i := 0) Y) ta26 ts26 (Backup.d0_38 _ _) (Backup.len _ _)⟩ (RV.t f Y), s.ext, ⟨Y, (by first | rfl | exact rs_nil (by assumption))⟩⟩
theorem ref04_Open.calls (hM : Sub M w) (hG : Gl M) (p0 : (List UInt8)) (p1 : (List UInt8)) (p2 : (List UInt8)) (r : ((List UInt8) × Int)) (H : ref04_Open p0 p1 p2 = some r) :
  Calls prog 83 [str p0, str p1, str p2].toArray w (Post M w fun M' v => v = .tuple #[str r.1, .int .i64 r.2]) := by
 refine enter 67 [(0, str p0), (1, str p1), (2, str p2)] func83 Y Y Y hM ?_
 intro Q hret
 unfold ref04_Open at H
 refine c_sr fun _ k1 => va Y Y (va Y Y (wk k1 (c_sr fun _ k2 => vm Y Y ?_)))
 obtain ⟨t3, e8, H⟩ := bnd H
 refine w_call cf116 trivial Y Y (fun w s => ref04_Keys.calls s hG p0 _ e8) ?_
 rintro _ M5 l6 rfl
 replace hG := hG.mono l6
 refine vm Y Y (v_extract Y Y Y (v_extract Y Y Y (v_extract Y Y Y (va Y Y (va Y Y (va Y Y (wk k2 (c_seq fun K9 k9 => c_sr fun _ k10 => vm Y Y (wv Y (fun f s => r_neq (f.ev Y) (f.ev Y)) (wk k10 (c_if Y (fun b11 => ?_) (fun b11 => ?_))))))))))))
 ·replace H := if_t b11 H
  refine c_sr fun _ k12 => vm Y Y (va Y Y (va Y Y (wk k12 ?_)))
  obtain rfl := some_r H
  exact cx2 hret Y Y Y Y Y
 replace H := if_f b11 H
 refine cs k9 (c_seq fun K13 k13 => ?_)
 obtain ⟨t14, H1, H⟩ := bnd H
 refine c_cut (fun a' w' => ∃ (M15 : Heap), HLe M5 M15 ∧ Fr 67 [(1, str p1), (2, str p2), (8, str t3.1), (9, str t3.2.1), (31, .bool t14)] a' ∧ St none' M w M15 (lt []) w') ?_ ?_
 ·replace H := H1
  refine c_reg (vm Y Y (wv Y (fun f s => r_slen underlying9 (f.ev Y)) (wv Y (fun f s => r_gtr (f.ev Y) (f.ev Y)) (vm Y Y ?_))))
  by_cases b17 : (decide ((1048576 : Int) < (p1.length : Int))) = true
  ·replace H := if_t b17 H
   refine wq b17 Y Y Y (wq b17 Y Y Y (wq b17 Y Y Y (wv Y (fun f s => r_pickT (f.ev Y) b17 (f.ev Y)) ?_)))
   obtain rfl := some_r H
   exact w_nil fun a w' f s => ⟨_, HLe.refl _, f.pk Y, s.sel [] (by decide) Y⟩
  replace b17 := Bool.eq_false_iff.2 b17
  replace H := if_f b17 H
  refine wg b17 Y Y Y (fun f s => r_move (f.ev Y)) (wg b17 Y Y Y (fun f s => r_slen underlying9 (f.ev Y)) (wg b17 Y Y Y (fun f s => r_gtr (f.ev Y) (f.ev Y)) (wv Y (fun f s => r_pickF (f.ev Y) b17 (f.ev Y)) ?_)))
  obtain rfl := some_r H
  exact w_nil fun a w' f s => ⟨_, HLe.refl _, f.pk Y, s.sel [] (by decide) Y⟩
 rintro a w' ⟨M15, l16, f, s⟩
 refine cof f s ?_
 replace hG := hG.mono l16
 refine c_if Y (fun b18 => ?_) (fun b18 => ?_)
 ·replace H := if_t b18 H
  refine c_sr fun _ k19 => va Y Y (va Y Y (wk k19 ?_))
  obtain rfl := some_r H
  exact cx2 hret Y Y Y Y Y
 replace H := if_f b18 H
 refine cs k13 (c_seq fun K20 k20 => c_sr fun _ k21 => vm Y Y (wv Y (fun f s => r_slen underlying9 (f.ev Y)) (v_lss Y Y Y (wk k21 (c_if Y (fun b22 => ?_) (fun b22 => ?_))))))
 ·replace H := if_t b22 H
  refine c_sr fun _ k23 => va Y Y (va Y Y (wk k23 ?_))
  obtain rfl := some_r H
  exact cx2 hret Y Y Y Y Y
 replace H := if_f b22 H
 refine cs k20 (c_sr fun _ k24 => vm Y Y ?_)
 obtain ⟨g25, H⟩ := grd_s H
 refine wv Y (fun f s => r_sslice underlying9 (f.ev Y) Y ⟨_, f.ev Y⟩ g25.1 g25.2.1 g25.2.2) (va Y Y (wk k24 (c_sr fun _ k26 => vm Y Y (vm Y Y (wv Y (fun f s => r_slen underlying9 (f.ev Y)) (wv Y (fun f s => r_sub (f.ev Y) (f.ev Y)) ?_))))))
 obtain ⟨g27, H⟩ := grd_s H
 refine wv Y (fun f s => r_sslice underlying9 (f.ev Y) ⟨_, f.ev Y⟩ ⟨_, f.ev Y⟩ g27.1 g27.2.1 g27.2.2) (va Y Y (wk k26 (c_seq fun K28 k28 => c_seq fun K29 k29 => ?_)))
 obtain ⟨g44, H⟩ := grd_s H
 obtain ⟨t59, e64, H⟩ := bnd H
 refine c_drawV [([], [2]), ([], [2]), ([(1, 43)], []), ([(2, 44)], []), ([(0, 42), (3, 45)], []), ([], [9]), ([], [11]), ([], [1]), ([], [12]), ([(5, 47), (6, 48), (7, 49), (8, 50)], []), ([(4, 46), (9, 51)], [])] [_, _, _, _, str ((p2.take ((p2.length : Int)).toNat).drop (i64.wrap ((p2.length : Int) - (16 : Int))).toNat), _, _, _, _, _, _] (by kernel_rfl) (by kernel_rfl) Y (aV (pz Y fun _ f s => r_move (f.ev Y)) (aV (pz Y fun _ f s => r_move (f.ev Y)) (aV (pz Y fun _ f s => r_slen underlying9 (f.ev Y)) (aV (pz Y fun _ f s => r_sub (f.ev Y) (f.ev Y)) (aV (pz Y fun _ f s => r_sslice underlying9 (f.ev Y) ⟨_, f.ev Y⟩ rfl g44.1 g44.2.1 g44.2.2) (aV (pz Y fun _ f s => r_move (f.ev Y)) (aV (pz Y fun _ f s => r_move (f.ev Y)) (aV (pz Y fun _ f s => r_move (f.ev Y)) (aV (pz Y fun _ f s => r_move (f.ev Y)) (aV (pzc cf119 Y Y fun _ l54 w s => ref04_tag.calls s (hG.mono l54) t3.2.1 ((p2.take ((12 : Int)).toNat).drop ((0 : Int)).toNat) p1 ((p2.take (i64.wrap ((p2.length : Int) - (16 : Int))).toNat).drop ((12 : Int)).toNat) _ e64) (aV (pz Y fun _ f s => r_sneq (f.ev Y) (f.ev Y)) aV0))))))))))) fun M69 l70 => ?_
 replace hG := hG.mono l70
 refine ni k29 (c_if Y (fun b72 => ?_) (fun b72 => ?_))
 ·replace H := if_t b72 H
  refine c_sr fun _ k73 => va Y Y (va Y Y (wk k73 ?_))
  obtain rfl := some_r H
  exact cx2 hret Y Y Y Y Y
 replace H := if_f b72 H
 refine cs k28 (c_sr fun _ k74 => vm Y Y (vm Y Y (vm Y Y ?_)))
 obtain ⟨t75, e80, H⟩ := bnd H
 refine w_call cf118 trivial Y Y (fun w s => ref03_Xor.calls s t3.1 1 ((p2.take ((12 : Int)).toNat).drop ((0 : Int)).toNat) ((p2.take (i64.wrap ((p2.length : Int) - (16 : Int))).toNat).drop ((12 : Int)).toNat) _ e80) ?_
 rintro _ M77 l78 rfl
 replace hG := hG.mono l78
 refine vm Y Y (v_extract Y Y Y (v_extract Y Y Y (va Y Y (va Y Y (wk k74 (c_seq fun K81 k81 => c_sr fun _ k82 => vm Y Y (vm Y Y (vm Y Y ?_))))))))
 obtain ⟨t83, e88, H⟩ := bnd H
 refine w_call cf117 trivial Y Y (fun w s => ref04_nonce.calls s hG t3.2.1 p1 t75.1 _ e88) ?_
 rintro _ M85 l86 rfl
 refine vm Y Y (wv Y (fun f s => r_sneq (f.ev Y) (f.ev Y)) (wk k82 (c_if Y (fun b89 => ?_) (fun b89 => ?_))))
 ·replace H := if_t b89 H
  refine c_sr fun _ k90 => va Y Y (va Y Y (wk k90 ?_))
  obtain rfl := some_r H
  exact cx2 hret Y Y Y Y Y
 replace H := if_f b89 H
 refine cs k81 (c_sr fun _ k91 => vm Y Y (va Y Y (va Y Y (wk k91 ?_))))
 obtain rfl := some_r H
 exact cx2 hret Y Y Y Y Y
theorem ref01_GetStrings.calls (hM : Sub M w) (p0 : (List Int)) (v1 : Value) (h2 : RS (FI .u8) M v1 p0) (r : ((List (List UInt8)) × Int × Int)) (H : ref01_GetStrings p0 = some r) :
  Calls prog 84 [v1].toArray w (Post M w fun M' v => ∃ v58, v = .tuple #[v58, .int .i64 r.2.1, .int .i64 r.2.2] ∧ RS FS M' v58 r.1) := by
 refine enter 47 [(0, v1)] func84 Y Y Y hM ?_
 intro Q hret
 unfold ref01_GetStrings at H
 refine c_sr fun _ k3 => va Y Y (va Y Y (va Y Y (wk k3 (c_sr fun _ k4 => vm Y Y ?_))))
 obtain ⟨t5, e10, H⟩ := bnd H
 refine w_call cf138 trivial Y Y (fun w s => ref01_count.calls s p0 v1 h2 1 _ e10) ?_
 rintro _ M7 l8 rfl
 replace h2 := h2.mono l8
 refine vm Y Y (v_extract Y Y Y (v_extract Y Y Y (v_extract Y Y Y (va Y Y (va Y Y (va Y Y (wk k4 (c_seq fun K11 k11 => c_sr fun _ k12 => vm Y Y (wv Y (fun f s => r_neq (f.ev Y) (f.ev Y)) (wk k12 (c_if Y (fun b13 => ?_) (fun b13 => ?_))))))))))))
 ·replace H := if_t b13 H
  refine c_sr fun _ k14 => vm Y Y (va Y Y (va Y Y (va Y Y (wk k14 ?_))))
  obtain rfl := some_r H
  exact cx3 hret Y Y Y Y Y ⟨_, Y, RS.none⟩
 replace H := if_f b13 H
 refine cs k11 (c_sr fun _ k15 => va Y Y (wk k15 (c_row0 9 1 ?_)))
 refine c_cut (fun a' w' => ∃ (x16 : (List (List UInt8))) (v17 : Value) (x18 : Int) (M19 : Heap), HLe M7 M19 ∧ Fr 47 [(6, .int .i64 x18), (8, v17)] a' ∧ St none' M w M19 (lt [rowI FS v17 9 x16]) w' ∧ ref01_GetStrings.j1 x16 x18 = some r) ?_ ?_
 ·refine c_seq ?_
  intro K25 k25
  refine c_reg (va Y Y (wk k25 (c_block ?_)))
  refine c_loop (fun (s26 : ((List (List UInt8)) × Int × Int)) a' w' => ∃ (v27 : Value) (M28 : Heap), HLe M7 M28 ∧ Fr 47 [(0, v1), (5, .int .i64 t5.1), (6, .int .i64 s26.2.1), (8, v27), (9, .int .i64 s26.2.2)] a' ∧ St none' M w M28 (lt [rowI FS v27 9 s26.1]) w') (([] : (List (List UInt8))), t5.2.1, 0) H ?_ ?_
  ·intro a w' f s
   exact ⟨.slice none 0 0, _, HLe.refl _, f.pk Y, s.selD [some 0] (by decide) Y⟩
  intro s26 y31 H r30 a w' hJ
  obtain ⟨v27, M28, l29, f, s⟩ := hJ
  refine cof f s ?_
  unfold ref01_GetStrings.l2 at H
  replace h2 := h2.mono l29
  refine c_seq fun K32 k32 => c_sr fun _ k33 => vm Y Y (vm Y Y (v_lss Y Y Y (wk k33 (c_if Y (fun b34 => ?_) (fun b34 => ?_)))))
  ·replace H := if_t b34 H
   refine cs k32 (c_seq fun K35 k35 => c_block (c_sr fun _ k36 => vm Y Y (vm Y Y ?_)))
   obtain ⟨g39, H⟩ := grd_s H
   refine w_ex (Φ := fun v => RS (FI .u8) M28 v ((p0.take ((p0.length : Int)).toNat).drop (s26.2.1).toNat)) trivial Y (fun a w f s => r_slR underlying91 ts5 (f.ev Y) h2 ⟨_, f.ev Y⟩ rfl g39.1 g39.2.1 g39.2.2) ?_
   intro v37 h38
   obtain ⟨t40, e45, H⟩ := bnd H
   refine w_call cf75 trivial Y Y (fun w s => ref01_GetBytes.calls s ((p0.take ((p0.length : Int)).toNat).drop (s26.2.1).toNat) v37 h38 _ e45) ?_
   rintro _ M42 l43 rfl
   refine vm Y Y (v_extract Y Y Y (v_extract Y Y Y (v_extract Y Y Y (va Y Y (va Y Y (va Y Y (wk k36 (c_seq fun K46 k46 => c_sr fun _ k47 => vm Y Y (wv Y (fun f s => r_neq (f.ev Y) (f.ev Y)) (wk k47 (c_if Y (fun b48 => ?_) (fun b48 => ?_))))))))))))
   ·replace H := if_t b48 H
    refine c_sr fun _ k49 => vm Y Y (va Y Y (va Y Y (va Y Y (wk k49 ?_))))
    obtain rfl := (r30 _ (Option.some.inj H).symm)
    exact cx3 hret Y Y Y Y Y ⟨_, Y, RS.none⟩
   replace H := if_f b48 H
   refine cs k46 (c_sr fun _ k50 => vm Y Y (vm Y Y (w_bsl (F := FS) (es := ([t40.1] : List (List UInt8))) (xs := [.tmp 39]) underlying127 te9 trivial Y Y Y Y Y (by decide) ?_)))
   intro v51 M52 l53 h54 c55
   obtain ⟨g56, H⟩ := grd_s H
   refine w_app (F := FS) (m2 := ([t40.1] : List (List UInt8))) (i := 0) underlying127 te9 underlying127 (.inl ⟨_, Y⟩) trivial Y Y Y Y (Src.rs FS.one h54) g56 ?_
   intro v57
   exact va Y Y (wk k50 (c_reg (vm Y Y (vm Y Y (v_add Y Y Y (va Y Y (wk k35 (c_reg (vm Y Y (v_add Y Y Y (va Y Y (w_nil fun a w' f s => ⟨_, (some_r H).symm, v57, _, l29.trans (l43.trans l53), f.pk Y, s.selD [some 0] (by decide) Y⟩))))))))))))
  replace H := if_f b34 H
  replace H := map_inr H r30
  refine c_exit ?_
  intro a w' f s
  exact ⟨s26.1, v27, s26.2.1, _, l29, f.pk Y, s.selD [some 0] (by decide) Y, H⟩
 rintro a w' ⟨x16, v17, x18, M19, l20, f, s, H⟩
 refine cof f s ?_
 unfold ref01_GetStrings.j1 at H
 refine c_sr fun _ k21 => vm Y Y (vm Y Y (va Y Y (va Y Y (va Y Y (wk k21 ?_)))))
 obtain rfl := some_r H
 refine c_ret (n_give 0 Y (fun _ h => h) ?_)
 intro M22 l23 h24
 intro a w' f s
 exact hret _ (.inl Y) a w' f.df ⟨_, _, Res.of3 Y (RV.t f Y) (RV.t f Y) (RV.t f Y), s.ext, ⟨_, Y, h24⟩⟩
theorem ref36_one.calls (hM : Sub M w) (p0 : (List UInt8)) (r : (Key × Int)) (H : ref36_one p0 = some r) :
  Calls prog 85 [str p0].toArray w (Post M w fun M' v => v = .tuple #[.agg (Key.C r.1).toArray, .int .i64 r.2]) := by
 refine enter 96 [(0, str p0)] func85 Y Y Y hM ?_
 intro Q hret
 unfold ref36_one at H
 refine c_sr fun _ k1 => w_allocL (A := Key.C (⟨0, 0, [], 0, 0, 0, 0, 0, false⟩ : Key)) tz97 trivial Y Y ?_
 intro b2
 refine va Y Y (wk k1 (c_sr fun _ k3 => vm Y Y (w_s2b underlying9 underlying91 underlying5 trivial Y Y ?_)))
 intro v4 M5 l6 h7
 obtain ⟨t8, e13, H⟩ := bnd H
 refine w_call cf84 trivial Y Y (fun w s => ref01_GetStrings.calls s (bytesI p0) v4 h7 _ e13) ?_
 rintro v163 M10 l11 ⟨v14, hv_, h15⟩
 replace hv_ := hv_.symm
 subst hv_
 refine vm Y Y (v_extract Y Y Y (v_extract Y Y Y (v_extract Y Y Y (va Y Y (va Y Y (va Y Y (wk k3 (c_seq fun K16 k16 => c_sr fun _ k17 => vm Y Y (wv Y (fun f s => r_neq (f.ev Y) (f.ev Y)) (wk k17 (c_if Y (fun b18 => ?_) (fun b18 => ?_))))))))))))
 ·replace H := if_t b18 H
  refine c_sr fun _ k19 => wv Y (fun f s => r_build (is := []) (xs := []) (A := Key.C (⟨0, 0, [], 0, 0, 0, 0, 0, false⟩ : Key)) Y (f.evs Y) (by kernel_rfl)) (vm Y Y (w_store (i := 0) (A' := Key.C (⟨0, 0, [], 0, 0, 0, 0, 0, false⟩ : Key)) trivial Y Y Y Y ts97 Y (Key.F_one _) (Nat.le_of_ble_eq_true Y) Y (va Y Y (wk k19 ?_))))
  obtain rfl := some_r H
  exact cx hret Y fun f s => ⟨_, _, Res.of2 Y ⟨_, f.get _ _ Y, run_loadA (s.blk (i := 0) Y) ta97 ts97 Y Y⟩ (RV.t f Y), s.ext, Y⟩
 replace H := if_f b18 H
 refine cs k16 (c_seq fun K20 k20 => ?_)
 obtain ⟨t21, H1, H⟩ := bnd H
 refine c_cut (fun a' w' => ∃ (M22 : Heap), HLe M10 M22 ∧ Fr 96 [(2, ptr b2 0), (4, v14), (29, .bool t21)] a' ∧ St none' M w M22 (lt [bk b2 (Key.C (⟨0, 0, [], 0, 0, 0, 0, 0, false⟩ : Key)) 97]) w') ?_ ?_
 ·replace H := H1
  refine c_reg (vm Y Y (vm Y Y (wv Y (fun f s => r_slen underlying9 (f.ev Y)) (wv Y (fun f s => r_neq (f.ev Y) (f.ev Y)) (vm Y Y ?_)))))
  by_cases b24 : (t8.2.1 != (p0.length : Int)) = true
  ·replace H := if_t b24 H
   refine wq b24 Y Y Y (wq b24 Y Y Y (wq b24 Y Y Y (wv Y (fun f s => r_pickT (f.ev Y) b24 (f.ev Y)) ?_)))
   obtain rfl := some_r H
   exact w_nil fun a w' f s => ⟨_, HLe.refl _, f.pk Y, s.sel [0] (by decide) Y⟩
  replace b24 := Bool.eq_false_iff.2 b24
  replace H := if_f b24 H
  refine wg b24 Y Y Y (fun f s => r_move (f.ev Y)) (wg b24 Y Y Y (fun f s => r_lenR underlying127 h15 (f.ev Y)) (wg b24 Y Y Y (fun f s => r_neq (f.ev Y) (f.ev Y)) (wv Y (fun f s => r_pickF (f.ev Y) b24 (f.ev Y)) ?_)))
  obtain rfl := some_r H
  exact w_nil fun a w' f s => ⟨_, HLe.refl _, f.pk Y, s.sel [0] (by decide) Y⟩
 rintro a w' ⟨M22, l23, f, s⟩
 refine cof f s ?_
 replace h15 := h15.mono l23
 refine c_if Y (fun b25 => ?_) (fun b25 => ?_)
 ·replace H := if_t b25 H
  refine c_sr fun _ k26 => wv Y (fun f s => r_build (is := []) (xs := []) (A := Key.C (⟨0, 0, [], 0, 0, 0, 0, 0, false⟩ : Key)) Y (f.evs Y) (by kernel_rfl)) (w_store (i := 0) (A' := Key.C (⟨0, 0, [], 0, 0, 0, 0, 0, false⟩ : Key)) trivial Y Y Y Y ts97 Y (Key.F_one _) (Nat.le_of_ble_eq_true Y) Y (va Y Y (wk k26 ?_)))
  obtain rfl := some_r H
  exact cx hret Y fun f s => ⟨_, _, Res.of2 Y ⟨_, f.get _ _ Y, run_loadA (s.blk (i := 0) Y) ta97 ts97 Y Y⟩ (RV.t f Y), s.ext, Y⟩
 replace H := if_f b25 H
 refine cs k20 (c_sr fun _ k27 => vm Y Y ?_)
 obtain ⟨g28, H⟩ := grd_s H
 refine wv Y (fun f s => r_iR underlying127 ts9 h15 (f.ev Y) (f.ev Y) g28.1 g28.2) (wv Y (fun f s => r_loadE1 ta9 h15 s.sub g28.1 g28.2 (f.ev Y) Y) (w_s2b underlying9 underlying91 underlying5 trivial Y Y ?_))
 intro v29 M30 l31 h32
 replace h15 := h15.mono l31
 obtain ⟨t33, e38, H⟩ := bnd H
 refine w_call cf76 trivial Y Y (fun w s => ref01_GetInts.calls s (bytesI (rd t8.1 0)) v29 h32 _ e38) ?_
 rintro v162 M35 l36 ⟨v39, hv_, h40⟩
 replace hv_ := hv_.symm
 subst hv_
 replace h15 := h15.mono l36
 refine vm Y Y (v_extract Y Y Y (v_extract Y Y Y (v_extract Y Y Y (va Y Y (va Y Y (va Y Y (wk k27 (c_seq fun K41 k41 => c_sr fun _ k42 => vm Y Y (wv Y (fun f s => r_neq (f.ev Y) (f.ev Y)) (wk k42 (c_if Y (fun b43 => ?_) (fun b43 => ?_))))))))))))
 ·replace H := if_t b43 H
  refine c_sr fun _ k44 => wv Y (fun f s => r_build (is := []) (xs := []) (A := Key.C (⟨0, 0, [], 0, 0, 0, 0, 0, false⟩ : Key)) Y (f.evs Y) (by kernel_rfl)) (vm Y Y (w_store (i := 0) (A' := Key.C (⟨0, 0, [], 0, 0, 0, 0, 0, false⟩ : Key)) trivial Y Y Y Y ts97 Y (Key.F_one _) (Nat.le_of_ble_eq_true Y) Y (va Y Y (wk k44 ?_))))
  obtain rfl := some_r H
  exact cx hret Y fun f s => ⟨_, _, Res.of2 Y ⟨_, f.get _ _ Y, run_loadA (s.blk (i := 0) Y) ta97 ts97 Y Y⟩ (RV.t f Y), s.ext, Y⟩
 replace H := if_f b43 H
 refine cs k41 (c_seq fun K45 k45 => ?_)
 obtain ⟨t46, H1, H⟩ := bnd H
 refine c_cut (fun a' w' => ∃ (M47 : Heap), HLe M35 M47 ∧ Fr 96 [(2, ptr b2 0), (4, v14), (7, v39), (54, .bool t46)] a' ∧ St none' M w M47 (lt [bk b2 (Key.C (⟨0, 0, [], 0, 0, 0, 0, 0, false⟩ : Key)) 97]) w') ?_ ?_
 ·replace H := H1
  refine c_reg (vm Y Y (vm Y Y ?_))
  obtain ⟨g49, H⟩ := grd_s H
  refine wv Y (fun f s => r_iR underlying127 ts9 h15 (f.ev Y) (f.ev Y) g49.1 g49.2) (wv Y (fun f s => r_loadE1 ta9 h15 s.sub g49.1 g49.2 (f.ev Y) Y) (wv Y (fun f s => r_slen underlying9 (f.ev Y)) (wv Y (fun f s => r_neq (f.ev Y) (f.ev Y)) (vm Y Y ?_))))
  by_cases b50 : (t33.2.1 != ((rd t8.1 0).length : Int)) = true
  ·replace H := if_t b50 H
   refine wq b50 Y Y Y (wq b50 Y Y Y (wq b50 Y Y Y (wv Y (fun f s => r_pickT (f.ev Y) b50 (f.ev Y)) ?_)))
   obtain rfl := some_r H
   exact w_nil fun a w' f s => ⟨_, HLe.refl _, f.pk Y, s.sel [0] (by decide) Y⟩
  replace b50 := Bool.eq_false_iff.2 b50
  replace H := if_f b50 H
  refine wg b50 Y Y Y (fun f s => r_move (f.ev Y)) (wg b50 Y Y Y (fun f s => r_lenR underlying70 h40 (f.ev Y)) (wg b50 Y Y Y (fun f s => r_neq (f.ev Y) (f.ev Y)) (wv Y (fun f s => r_pickF (f.ev Y) b50 (f.ev Y)) ?_)))
  obtain rfl := some_r H
  exact w_nil fun a w' f s => ⟨_, HLe.refl _, f.pk Y, s.sel [0] (by decide) Y⟩
 rintro a w' ⟨M47, l48, f, s⟩
 refine cof f s ?_
 replace h15 := h15.mono l48
 replace h40 := h40.mono l48
 refine c_if Y (fun b51 => ?_) (fun b51 => ?_)
 ·replace H := if_t b51 H
  refine c_sr fun _ k52 => wv Y (fun f s => r_build (is := []) (xs := []) (A := Key.C (⟨0, 0, [], 0, 0, 0, 0, 0, false⟩ : Key)) Y (f.evs Y) (by kernel_rfl)) (w_store (i := 0) (A' := Key.C (⟨0, 0, [], 0, 0, 0, 0, 0, false⟩ : Key)) trivial Y Y Y Y ts97 Y (Key.F_one _) (Nat.le_of_ble_eq_true Y) Y (va Y Y (wk k52 ?_)))
  obtain rfl := some_r H
  exact cx hret Y fun f s => ⟨_, _, Res.of2 Y ⟨_, f.get _ _ Y, run_loadA (s.blk (i := 0) Y) ta97 ts97 Y Y⟩ (RV.t f Y), s.ext, Y⟩
 replace H := if_f b51 H
 refine cs k45 (c_seq fun K53 k53 => ?_)
 obtain ⟨t54, H1, H⟩ := bnd H
 refine c_cut (fun a' w' => ∃ (M55 : Heap), HLe M47 M55 ∧ Fr 96 [(2, ptr b2 0), (4, v14), (7, v39), (65, .bool t54)] a' ∧ St none' M w M55 (lt [bk b2 (Key.C (⟨0, 0, [], 0, 0, 0, 0, 0, false⟩ : Key)) 97]) w') ?_ ?_
 ·replace H := H1
  refine c_reg (vm Y Y ?_)
  obtain ⟨g57, H⟩ := grd_s H
  refine wv Y (fun f s => r_iR underlying70 ts3 h40 (f.ev Y) (f.ev Y) g57.1 g57.2) (wv Y (fun f s => r_loadE1 ta3 h40 s.sub g57.1 g57.2 (f.ev Y) Y) (wv Y (fun f s => r_neq (f.ev Y) (f.ev Y)) (vm Y Y ?_)))
  by_cases b58 : ((rd t33.1 7) != 0) = true
  ·replace H := if_t b58 H
   refine wg b58 Y Y Y (fun f s => r_move (f.ev Y)) ?_
   obtain ⟨g59, H⟩ := grd_s H
   refine wg b58 Y Y Y (fun f s => r_iR underlying70 ts3 h40 (f.ev Y) (f.ev Y) g59.1 g59.2) (wg b58 Y Y Y (fun f s => r_loadE1 ta3 h40 s.sub g59.1 g59.2 (f.ev Y) Y) (wg b58 Y Y Y (fun f s => r_neq (f.ev Y) (f.ev Y)) (wv Y (fun f s => r_pickT (f.ev Y) b58 (f.ev Y)) ?_)))
   obtain rfl := some_r H
   exact w_nil fun a w' f s => ⟨_, HLe.refl _, f.pk Y, s.sel [0] (by decide) Y⟩
  replace b58 := Bool.eq_false_iff.2 b58
  replace H := if_f b58 H
  refine wq b58 Y Y Y (wq b58 Y Y Y (wq b58 Y Y Y (wq b58 Y Y Y (wv Y (fun f s => r_pickF (f.ev Y) b58 (f.ev Y)) ?_))))
  obtain rfl := some_r H
  exact w_nil fun a w' f s => ⟨_, HLe.refl _, f.pk Y, s.sel [0] (by decide) Y⟩
 rintro a w' ⟨M55, l56, f, s⟩
 refine cof f s ?_
 replace h15 := h15.mono l56
 replace h40 := h40.mono l56
 refine c_if Y (fun b60 => ?_) (fun b60 => ?_)
 ·replace H := if_t b60 H
  refine c_sr fun _ k61 => wv Y (fun f s => r_build (is := []) (xs := []) (A := Key.C (⟨0, 0, [], 0, 0, 0, 0, 0, false⟩ : Key)) Y (f.evs Y) (by kernel_rfl)) (w_store (i := 0) (A' := Key.C (⟨0, 0, [], 0, 0, 0, 0, 0, false⟩ : Key)) trivial Y Y Y Y ts97 Y (Key.F_one _) (Nat.le_of_ble_eq_true Y) Y (va Y Y (wk k61 ?_)))
  obtain rfl := some_r H
  exact cx hret Y fun f s => ⟨_, _, Res.of2 Y ⟨_, f.get _ _ Y, run_loadA (s.blk (i := 0) Y) ta97 ts97 Y Y⟩ (RV.t f Y), s.ext, Y⟩
 replace H := if_f b60 H
 refine cs k53 (c_seq fun K62 k62 => csp 28 (by kernel_rfl) ?_)
 intro K63 k63
 obtain ⟨g69, H⟩ := grd_s H
 obtain ⟨g78, H⟩ := grd_s H
 obtain ⟨g87, H⟩ := grd_s H
 obtain ⟨g96, H⟩ := grd_s H
 obtain ⟨g105, H⟩ := grd_s H
 obtain ⟨g114, H⟩ := grd_s H
 obtain ⟨g123, H⟩ := grd_s H
 obtain ⟨g132, H⟩ := grd_s H
 obtain ⟨g141, H⟩ := grd_s H
 refine dV [([], [7]), ([(0, 67)], []), ([(1, 68)], []), ([], [7]), ([(3, 70)], []), ([(4, 71)], []), ([], [4]), ([(6, 73)], []), ([(7, 74)], []), ([], [7]), ([(9, 76)], []), ([(10, 77)], []), ([], [7]), ([(12, 79)], []), ([(13, 80)], []), ([], [7]), ([(15, 82)], []), ([(16, 83)], []), ([], [7]), ([(18, 85)], []), ([(19, 86)], []), ([], [7]), ([(21, 88)], []), ([(22, 89)], []), ([], [7]), ([(24, 91)], []), ([(25, 92)], []), ([(26, 93)], [])] (by kernel_rfl) (aV (pz Y fun _ f s => r_move (f.ev Y)) (aV (pz Y fun l67 f s => r_iR underlying70 ts3 (h40.mono l67) (f.ev Y) (f.ev Y) g69.1 g69.2) (aV (pz Y fun l71 f s => r_loadE1 ta3 (h40.mono l71) s.sub g69.1 g69.2 (f.ev Y) Y) (aV (pz Y fun _ f s => r_move (f.ev Y)) (aV (pz Y fun l76 f s => r_iR underlying70 ts3 (h40.mono l76) (f.ev Y) (f.ev Y) g78.1 g78.2) (aV (pz Y fun l80 f s => r_loadE1 ta3 (h40.mono l80) s.sub g78.1 g78.2 (f.ev Y) Y) (aV (pz Y fun _ f s => r_move (f.ev Y)) (aV (pz Y fun l85 f s => r_iR underlying127 ts9 (h15.mono l85) (f.ev Y) (f.ev Y) g87.1 g87.2) (aV (pz Y fun l89 f s => r_loadE1 ta9 (h15.mono l89) s.sub g87.1 g87.2 (f.ev Y) Y) (aV (pz Y fun _ f s => r_move (f.ev Y)) (aV (pz Y fun l94 f s => r_iR underlying70 ts3 (h40.mono l94) (f.ev Y) (f.ev Y) g96.1 g96.2) (aV (pz Y fun l98 f s => r_loadE1 ta3 (h40.mono l98) s.sub g96.1 g96.2 (f.ev Y) Y) (aV (pz Y fun _ f s => r_move (f.ev Y)) (aV (pz Y fun l103 f s => r_iR underlying70 ts3 (h40.mono l103) (f.ev Y) (f.ev Y) g105.1 g105.2) (aV (pz Y fun l107 f s => r_loadE1 ta3 (h40.mono l107) s.sub g105.1 g105.2 (f.ev Y) Y) (aV (pz Y fun _ f s => r_move (f.ev Y)) (aV (pz Y fun l112 f s => r_iR underlying70 ts3 (h40.mono l112) (f.ev Y) (f.ev Y) g114.1 g114.2) (aV (pz Y fun l116 f s => r_loadE1 ta3 (h40.mono l116) s.sub g114.1 g114.2 (f.ev Y) Y) (aV (pz Y fun _ f s => r_move (f.ev Y)) (aV (pz Y fun l121 f s => r_iR underlying70 ts3 (h40.mono l121) (f.ev Y) (f.ev Y) g123.1 g123.2) (aV (pz Y fun l125 f s => r_loadE1 ta3 (h40.mono l125) s.sub g123.1 g123.2 (f.ev Y) Y) (aV (pz Y fun _ f s => r_move (f.ev Y)) (aV (pz Y fun l130 f s => r_iR underlying70 ts3 (h40.mono l130) (f.ev Y) (f.ev Y) g132.1 g132.2) (aV (pz Y fun l134 f s => r_loadE1 ta3 (h40.mono l134) s.sub g132.1 g132.2 (f.ev Y) Y) (aV (pz Y fun _ f s => r_move (f.ev Y)) (aV (pz Y fun l139 f s => r_iR underlying70 ts3 (h40.mono l139) (f.ev Y) (f.ev Y) g141.1 g141.2) (aV (pz Y fun l143 f s => r_loadE1 ta3 (h40.mono l143) s.sub g141.1 g141.2 (f.ev Y) Y) (aV (pz Y fun _ f s => r_eql (f.ev Y) (f.ev Y)) aV0)))))))))))))))))))))))))))) Y fun M148 l149 => ?_
 refine ni k63 (wv Y (fun f s => r_build (is := [0, 1, 2, 3, 4, 5, 6, 7, 8]) (xs := [.tmp 69, .tmp 72, .tmp 75, .tmp 78, .tmp 81, .tmp 84, .tmp 87, .tmp 90, .tmp 94]) (A := Key.C (⟨rd t33.1 0, rd t33.1 1, rd t8.1 1, rd t33.1 2, rd t33.1 3, rd t33.1 4, rd t33.1 5, rd t33.1 6, (rd t33.1 7) == 1⟩ : Key)) Y (f.evs Y) (by kernel_rfl)) ?_)
 obtain ⟨z159, e161, H⟩ := bnd H
 have e160 := some_r e161
 refine w_store (i := 0) (A' := Key.C z159) trivial Y Y Y Y ts97 Y (Key.F_one _) (Nat.le_of_ble_eq_true Y) (by rw [← e160]; exact Y) ?_
 refine va Y Y (wk k62 ?_)
 obtain rfl := some_r H
 exact cx hret Y fun f s => ⟨_, _, Res.of2 Y ⟨_, f.get _ _ Y, run_loadA (s.blk (i := 0) Y) ta97 ts97 Y Y⟩ (RV.t f Y), s.ext, Y⟩
theorem ref36_Open.calls (hM : Sub M w) (hG : Gl M) (p0 : (List UInt8)) (p1 : (List UInt8)) (r : (Backup × Int)) (H : ref36_Open p0 p1 = some r) :
  Calls prog 29 [str p0, str p1].toArray w (Post M w fun M' v => ∃ v191, v = .tuple #[.agg (Backup.C r.1 v191).toArray, .int .i64 r.2] ∧ RS Key.F M' v191 r.1.Keys) := by
 refine enter 100 [(0, str p0), (1, str p1)] func29 Y Y Y hM ?_
 intro Q hret
 unfold ref36_Open at H
 refine c_sr fun _ k1 => w_allocL (A := Backup.C (⟨replicate 16 0, 0, 0, 0, 0, replicate 16 0, [], []⟩ : Backup) (.slice none 0 0)) tz26 trivial Y Y ?_
 intro b2
 refine va Y Y (wk k1 (c_seq fun K3 k3 => c_sr fun _ k4 => vm Y Y (wv Y (fun f s => r_slen underlying9 (f.ev Y)) (wv Y (fun f s => r_neq (f.ev Y) (f.ev Y)) (wk k4 (c_if Y (fun b5 => ?_) (fun b5 => ?_)))))))
 ·replace H := if_t b5 H
  refine c_sr fun _ k6 => wv Y (fun f s => r_build (is := []) (xs := []) (A := Backup.C (⟨replicate 16 0, 0, 0, 0, 0, replicate 16 0, [], []⟩ : Backup) (.slice none 0 0)) Y (f.evs Y) (built_of (pl := [(0, 16), (16, 1), (17, 1), (18, 1), (19, 1), (20, 16), (36, 1), (37, 1)]) (A0 := Backup.C (⟨replicate 16 0, 0, 0, 0, 0, replicate 16 0, [], []⟩ : Backup) (.slice none 0 0)) tz26 underlying26 (by kernel_rfl) Y .nil)) ?_
  obtain ⟨z7, e9, H⟩ := bnd H
  have e8 := some_r e9
  refine w_store (i := 0) (A' := Backup.C z7 (.slice none 0 0)) trivial Y Y Y Y ts26 (Backup.len _ _) (Backup.C_one _ Y) (by rw [Backup.len]; decide) (by rw [← e8]; exact (splice_all _ _ (by simp [Backup.C]))) ?_
  have h10 : RS Key.F M (.slice none 0 0) z7.Keys := by rw [← e8]; exact RS.none
  refine va Y Y (wk k6 ?_)
  obtain rfl := some_r H
  exact cx hret Y fun f s => ⟨_, _, Res.of2 Y ⟨_, f.get _ _ Y, run_loadA (s.blk (i := 0) Y) ta26 ts26 (Backup.d0_38 _ _) (Backup.len _ _)⟩ (RV.t f Y), s.ext, ⟨_, Y, h10⟩⟩
 replace H := if_f b5 H
 refine cs k3 (c_sr fun _ k11 => vm Y Y ?_)
 obtain ⟨t12, e17, H⟩ := bnd H
 refine w_call cf27 trivial Y Y (fun w s => ref36_Peek.calls s p1 _ e17) ?_
 rintro _ M14 l15 ⟨rfl, n20⟩
 replace hG := hG.mono l15
 refine vm Y Y (v_extract Y Y Y (v_extract Y Y Y (w_allocL (A := Backup.C (⟨replicate 16 0, 0, 0, 0, 0, replicate 16 0, [], []⟩ : Backup) (.slice none 0 0)) tz26 trivial Y Y ?_)))
 intro b21
 refine w_store (i := 1) (A' := Backup.C t12.1 (.slice none 0 0)) trivial Y Y Y Y ts26 (Backup.len _ _) (Backup.C_one _ Y) (by rw [Backup.len]; decide) (splice_all _ _ (by simp [Backup.C])) (va Y Y (wk k11 (c_seq fun K22 k22 => c_sr fun _ k23 => vm Y Y (wv Y (fun f s => r_neq (f.ev Y) (f.ev Y)) (wk k23 (c_if Y (fun b24 => ?_) (fun b24 => ?_)))))))
 ·replace H := if_t b24 H
  refine c_sr fun _ k25 => wv Y (fun f s => r_build (is := []) (xs := []) (A := Backup.C (⟨replicate 16 0, 0, 0, 0, 0, replicate 16 0, [], []⟩ : Backup) (.slice none 0 0)) Y (f.evs Y) (built_of (pl := [(0, 16), (16, 1), (17, 1), (18, 1), (19, 1), (20, 16), (36, 1), (37, 1)]) (A0 := Backup.C (⟨replicate 16 0, 0, 0, 0, 0, replicate 16 0, [], []⟩ : Backup) (.slice none 0 0)) tz26 underlying26 (by kernel_rfl) Y .nil)) (vm Y Y ?_)
  obtain ⟨z26, e28, H⟩ := bnd H
  have e27 := some_r e28
  refine w_store (i := 0) (A' := Backup.C z26 (.slice none 0 0)) trivial Y Y Y Y ts26 (Backup.len _ _) (Backup.C_one _ Y) (by rw [Backup.len]; decide) (by rw [← e27]; exact (splice_all _ _ (by simp [Backup.C]))) ?_
  have h29 : RS Key.F M14 (.slice none 0 0) z26.Keys := by rw [← e27]; exact RS.none
  refine va Y Y (wk k25 ?_)
  obtain rfl := some_r H
  exact cx hret Y fun f s => ⟨_, _, Res.of2 Y ⟨_, f.get _ _ Y, run_loadA (s.blk (i := 0) Y) ta26 ts26 (Backup.d0_38 _ _) (Backup.len _ _)⟩ (RV.t f Y), s.ext, ⟨_, Y, h29⟩⟩
 replace H := if_f b24 H
 refine cs k22 (c_sr fun _ k30 => vm Y Y (w_s2b underlying9 underlying91 underlying5 trivial Y Y ?_))
 intro v31 M32 l33 h34
 replace hG := hG.mono l33
 obtain ⟨t35, e40, H⟩ := bnd H
 refine w_call cf75 trivial Y Y (fun w s => ref01_GetBytes.calls s (bytesI p1) v31 h34 _ e40) ?_
 rintro _ M37 l38 rfl
 replace hG := hG.mono l38
 refine vm Y Y (v_extract Y Y Y (v_extract Y Y Y (v_extract Y Y Y (va Y Y (va Y Y (va Y Y (wk k30 (c_seq fun K41 k41 => ?_))))))))
 obtain ⟨t47, e52, H⟩ := bnd H
 obtain ⟨g63, H⟩ := grd_s H
 obtain ⟨t69, e74, H⟩ := bnd H
 refine c_drawV [([], [0]), ([(0, 41)], []), ([], [8]), ([], [1]), ([], [9]), ([(3, 44), (4, 45)], []), ([(1, 42), (2, 43), (5, 46)], []), ([(6, 47)], []), ([(7, 40)], []), ([(7, 40)], []), ([(8, 48)], []), ([(9, 49)], [])] [_, _, _, _, _, str ((p1.take ((p1.length : Int)).toNat).drop (t35.2.1).toNat), _, _, _, _, _, _] (by kernel_rfl) (by kernel_rfl) Y (aV (pz Y fun _ f s => r_move (f.ev Y)) (aV (pzc cf58 Y Y fun _ l45 w s => ref05_Derive.calls s (hG.mono l45) p0 ([98, 97, 99, 107, 117, 112] : List UInt8) ([] : (List (List UInt8))) (.slice none 0 0) RS.none _ e52) (aV (pz Y fun _ f s => r_move (f.ev Y)) (aV (pz Y fun _ f s => r_move (f.ev Y)) (aV (pz Y fun _ f s => r_move (f.ev Y)) (aV (pz Y fun _ f s => r_sslice underlying9 (f.ev Y) ⟨_, f.ev Y⟩ rfl g63.1 g63.2.1 g63.2.2) (aV (pzc cf83 Y Y fun _ l65 w s => ref04_Open.calls s (hG.mono l65) t47 t35.1 ((p1.take ((p1.length : Int)).toNat).drop (t35.2.1).toNat) _ e74) (aV (pz Y fun _ f s => r_move (f.ev Y)) (aV (pz Y fun _ f s => r_extract (f.ev Y) Y) (aV (pz Y fun _ f s => r_extract (f.ev Y) Y) (aV (pz Y fun _ f s => r_assign (f.ev Y)) (aV (pz Y fun _ f s => r_assign (f.ev Y)) aV0)))))))))))) fun M90 l91 => ?_
 refine ni k41 (c_seq fun K94 k94 => c_sr fun _ k95 => vm Y Y (wv Y (fun f s => r_neq (f.ev Y) (f.ev Y)) (wk k95 (c_if Y (fun b96 => ?_) (fun b96 => ?_)))))
 ·replace H := if_t b96 H
  refine c_sr fun _ k97 => wv Y (fun f s => r_build (is := []) (xs := []) (A := Backup.C (⟨replicate 16 0, 0, 0, 0, 0, replicate 16 0, [], []⟩ : Backup) (.slice none 0 0)) Y (f.evs Y) (built_of (pl := [(0, 16), (16, 1), (17, 1), (18, 1), (19, 1), (20, 16), (36, 1), (37, 1)]) (A0 := Backup.C (⟨replicate 16 0, 0, 0, 0, 0, replicate 16 0, [], []⟩ : Backup) (.slice none 0 0)) tz26 underlying26 (by kernel_rfl) Y .nil)) (vm Y Y ?_)
  obtain ⟨z98, e100, H⟩ := bnd H
  have e99 := some_r e100
  refine w_store (i := 0) (A' := Backup.C z98 (.slice none 0 0)) trivial Y Y Y Y ts26 (Backup.len _ _) (Backup.C_one _ Y) (by rw [Backup.len]; decide) (by rw [← e99]; exact (splice_all _ _ (by simp [Backup.C]))) ?_
  have h101 : RS Key.F M90 (.slice none 0 0) z98.Keys := by rw [← e99]; exact RS.none
  refine va Y Y (wk k97 ?_)
  obtain rfl := some_r H
  exact cx hret Y fun f s => ⟨_, _, Res.of2 Y ⟨_, f.get _ _ Y, run_loadA (s.blk (i := 0) Y) ta26 ts26 (Backup.d0_38 _ _) (Backup.len _ _)⟩ (RV.t f Y), s.ext, ⟨_, Y, h101⟩⟩
 replace H := if_f b96 H
 refine cs k94 (c_sr fun _ k102 => vm Y Y (w_s2b underlying9 underlying91 underlying5 trivial Y Y ?_))
 intro v103 M104 l105 h106
 obtain ⟨t107, e112, H⟩ := bnd H
 refine w_call cf84 trivial Y Y (fun w s => ref01_GetStrings.calls s (bytesI t69.1) v103 h106 _ e112) ?_
 rintro v190 M109 l110 ⟨v113, hv_, h114⟩
 replace hv_ := hv_.symm
 subst hv_
 refine vm Y Y (v_extract Y Y Y (v_extract Y Y Y (v_extract Y Y Y (va Y Y (va Y Y (va Y Y (wk k102 (c_seq fun K115 k115 => c_sr fun _ k116 => vm Y Y (wv Y (fun f s => r_neq (f.ev Y) (f.ev Y)) (wk k116 (c_if Y (fun b117 => ?_) (fun b117 => ?_))))))))))))
 ·replace H := if_t b117 H
  refine c_sr fun _ k118 => wv Y (fun f s => r_build (is := []) (xs := []) (A := Backup.C (⟨replicate 16 0, 0, 0, 0, 0, replicate 16 0, [], []⟩ : Backup) (.slice none 0 0)) Y (f.evs Y) (built_of (pl := [(0, 16), (16, 1), (17, 1), (18, 1), (19, 1), (20, 16), (36, 1), (37, 1)]) (A0 := Backup.C (⟨replicate 16 0, 0, 0, 0, 0, replicate 16 0, [], []⟩ : Backup) (.slice none 0 0)) tz26 underlying26 (by kernel_rfl) Y .nil)) (vm Y Y ?_)
  obtain ⟨z119, e121, H⟩ := bnd H
  have e120 := some_r e121
  refine w_store (i := 0) (A' := Backup.C z119 (.slice none 0 0)) trivial Y Y Y Y ts26 (Backup.len _ _) (Backup.C_one _ Y) (by rw [Backup.len]; decide) (by rw [← e120]; exact (splice_all _ _ (by simp [Backup.C]))) ?_
  have h122 : RS Key.F M109 (.slice none 0 0) z119.Keys := by rw [← e120]; exact RS.none
  refine va Y Y (wk k118 ?_)
  obtain rfl := some_r H
  exact cx hret Y fun f s => ⟨_, _, Res.of2 Y ⟨_, f.get _ _ Y, run_loadA (s.blk (i := 0) Y) ta26 ts26 (Backup.d0_38 _ _) (Backup.len _ _)⟩ (RV.t f Y), s.ext, ⟨_, Y, h122⟩⟩
 replace H := if_f b117 H
 refine cs k115 (c_seq fun K123 k123 => c_sr fun _ k124 => vm Y Y (vm Y Y (wv Y (fun f s => r_slen underlying9 (f.ev Y)) (wv Y (fun f s => r_neq (f.ev Y) (f.ev Y)) (wk k124 (c_if Y (fun b125 => ?_) (fun b125 => ?_)))))))
 ·replace H := if_t b125 H
  refine c_sr fun _ k126 => wv Y (fun f s => r_build (is := []) (xs := []) (A := Backup.C (⟨replicate 16 0, 0, 0, 0, 0, replicate 16 0, [], []⟩ : Backup) (.slice none 0 0)) Y (f.evs Y) (built_of (pl := [(0, 16), (16, 1), (17, 1), (18, 1), (19, 1), (20, 16), (36, 1), (37, 1)]) (A0 := Backup.C (⟨replicate 16 0, 0, 0, 0, 0, replicate 16 0, [], []⟩ : Backup) (.slice none 0 0)) tz26 underlying26 (by kernel_rfl) Y .nil)) ?_
  obtain ⟨z127, e129, H⟩ := bnd H
  have e128 := some_r e129
  refine w_store (i := 0) (A' := Backup.C z127 (.slice none 0 0)) trivial Y Y Y Y ts26 (Backup.len _ _) (Backup.C_one _ Y) (by rw [Backup.len]; decide) (by rw [← e128]; exact (splice_all _ _ (by simp [Backup.C]))) ?_
  have h130 : RS Key.F M109 (.slice none 0 0) z127.Keys := by rw [← e128]; exact RS.none
  refine va Y Y (wk k126 ?_)
  obtain rfl := some_r H
  exact cx hret Y fun f s => ⟨_, _, Res.of2 Y ⟨_, f.get _ _ Y, run_loadA (s.blk (i := 0) Y) ta26 ts26 (Backup.d0_38 _ _) (Backup.len _ _)⟩ (RV.t f Y), s.ext, ⟨_, Y, h130⟩⟩
 replace H := if_f b125 H
 refine cs k123 (c_row0 97 9 ?_)
 refine c_cut (fun a' w' => ∃ (x131 : Backup) (v132 : Value) (M133 : Heap), HLe M109 M133 ∧ Fr 100 [(4, ptr b2 0), (6, ptr b21 0)] a' ∧ St none' M w M133 (lt [bk b2 (Backup.C (⟨replicate 16 0, 0, 0, 0, 0, replicate 16 0, [], []⟩ : Backup) (.slice none 0 0)) 26, bk b21 (Backup.C x131 v132) 26, rowI Key.F v132 97 x131.Keys]) w' ∧ ref36_Open.j1 x131 = some r) ?_ ?_
 ·refine c_seq ?_
  intro K154 k154
  refine c_reg (va Y Y (wk k154 (c_block ?_)))
  refine c_loop (fun (s155 : (Backup × Int)) a' w' => ∃ (v156 : Value) (M157 : Heap), HLe M109 M157 ∧ Fr 100 [(4, ptr b2 0), (6, ptr b21 0), (13, v113), (16, .int .i64 s155.2)] a' ∧ St none' M w M157 (lt [bk b2 (Backup.C (⟨replicate 16 0, 0, 0, 0, 0, replicate 16 0, [], []⟩ : Backup) (.slice none 0 0)) 26, bk b21 (Backup.C s155.1 v156) 26, rowI Key.F v156 97 s155.1.Keys]) w') (t12.1, 0) H ?_ ?_
  ·intro a w' f s
   exact ⟨.slice none 0 0, _, HLe.refl _, f.pk Y, s.selD [some 0, some 1, some 2] (by decide) (by first | rfl | (rw [n20]; rfl))⟩
  intro s155 y160 H r159 a w' hJ
  obtain ⟨v156, M157, l158, f, s⟩ := hJ
  refine cof f s ?_
  unfold ref36_Open.l2 at H
  replace h114 := h114.mono l158
  refine c_seq fun K161 k161 => c_sr fun _ k162 => vm Y Y (vm Y Y (wv Y (fun f s => r_lenR underlying127 h114 (f.ev Y)) (v_lss Y Y Y (wk k162 (c_if Y (fun b163 => ?_) (fun b163 => ?_))))))
  ·replace H := if_t b163 H
   refine cs k161 (c_seq fun K164 k164 => c_block (c_sr fun _ k165 => vm Y Y (vm Y Y ?_)))
   obtain ⟨g166, H⟩ := grd_s H
   refine wv Y (fun f s => r_iR underlying127 ts9 h114 (f.ev Y) (f.ev Y) g166.1 g166.2) (wv Y (fun f s => r_loadE1 ta9 h114 s.sub g166.1 g166.2 (f.ev Y) Y) ?_)
   obtain ⟨t167, e172, H⟩ := bnd H
   refine w_call cf85 trivial Y Y (fun w s => ref36_one.calls s (rd t107.1 s155.2) _ e172) ?_
   rintro _ M169 l170 rfl
   refine vm Y Y (v_extract Y Y Y (v_extract Y Y Y (w_allocL (A := Key.C (⟨0, 0, [], 0, 0, 0, 0, 0, false⟩ : Key)) tz97 trivial Y Y ?_)))
   intro b173
   refine w_store (i := 3) (A' := Key.C t167.1) trivial Y Y Y Y ts97 Y (Key.F_one _) (Nat.le_of_ble_eq_true Y) Y (va Y Y (wk k165 (c_seq fun K174 k174 => c_sr fun _ k175 => vm Y Y (wv Y (fun f s => r_neq (f.ev Y) (f.ev Y)) (wk k175 (c_if Y (fun b176 => ?_) (fun b176 => ?_)))))))
   ·replace H := if_t b176 H
    refine c_sr fun _ k177 => wv Y (fun f s => r_build (is := []) (xs := []) (A := Backup.C (⟨replicate 16 0, 0, 0, 0, 0, replicate 16 0, [], []⟩ : Backup) (.slice none 0 0)) Y (f.evs Y) (built_of (pl := [(0, 16), (16, 1), (17, 1), (18, 1), (19, 1), (20, 16), (36, 1), (37, 1)]) (A0 := Backup.C (⟨replicate 16 0, 0, 0, 0, 0, replicate 16 0, [], []⟩ : Backup) (.slice none 0 0)) tz26 underlying26 (by kernel_rfl) Y .nil)) (vm Y Y ?_)
    obtain ⟨z178, e180, H⟩ := bnd H
    have e179 := some_r e180
    refine w_store (i := 0) (A' := Backup.C z178 (.slice none 0 0)) trivial Y Y Y Y ts26 (Backup.len _ _) (Backup.C_one _ Y) (by rw [Backup.len]; decide) (by rw [← e179]; exact (splice_all _ _ (by simp [Backup.C]))) ?_
    have h181 : RS Key.F M169 (.slice none 0 0) z178.Keys := by rw [← e179]; exact RS.none
    refine va Y Y (wk k177 ?_)
    obtain rfl := (r159 _ (Option.some.inj H).symm)
    exact cx hret Y fun f s => ⟨_, _, Res.of2 Y ⟨_, f.get _ _ Y, run_loadA (s.blk (i := 0) Y) ta26 ts26 (Backup.d0_38 _ _) (Backup.len _ _)⟩ (RV.t f Y), s.ext, ⟨_, Y, h181⟩⟩
   replace H := if_f b176 H
   refine cs k174 (c_reg (v_fa fa26_7 Y Y (wv Y (fun f s => r_load1 ta24 (f.ev Y) (s.blk (i := 1) Y) (Backup.g37 _ _)) (wv Y (fun f s => r_loadA ta97 ts97 (f.ev Y) (s.blk (i := 3) Y) Y Y) (w_bsl (F := Key.F) (es := ([t167.1] : List Key)) (xs := [.tmp 90]) underlying24 te97 trivial Y Y Y Y Y (by decide) ?_)))))
   intro v182 M183 l184 h185 c186
   obtain ⟨g187, H⟩ := grd_s H
   refine w_app (F := Key.F) (m2 := ([t167.1] : List Key)) (i := 2) underlying24 te97 underlying24 (.inl ⟨_, Y⟩) trivial Y Y Y Y (Src.rs Key.F_one h185) g187 ?_
   intro v188
   refine v_fa fa26_7 Y Y (w_rcell 2 Y ?_)
   intro q189
   exact w_store (i := 1) (A' := Backup.C ({ s155.1 with Keys := (s155.1.Keys ++ ([t167.1] : List Key)) } : Backup) v188) trivial Y Y Y q189.1 ts24 Y (one1 q189.2) (by rw [Backup.len]; decide) (Backup.s37_1 _ _) (wk k164 (c_reg (vm Y Y (v_add Y Y Y (va Y Y (w_nil fun a w' f s => ⟨_, (some_r H).symm, v188, _, l158.trans (l170.trans l184), f.pk Y, s.selD [some 0, some 1, some 2] (by decide) (by first | rfl | (rw [n20]; rfl))⟩))))))
  replace H := if_f b163 H
  replace H := map_inr H r159
  refine c_exit ?_
  intro a w' f s
  exact ⟨s155.1, v156, _, l158, f.pk Y, s.selD [some 0, some 1, some 2] (by decide) (by first | rfl | (rw [n20]; rfl)), H⟩
 rintro a w' ⟨x131, v132, M133, l134, f, s, H⟩
 refine cof f s ?_
 unfold ref36_Open.j1 at H
 refine c_sr fun _ k135 => wv Y (fun f s => r_loadA ta26 ts26 (f.ev Y) (s.blk (i := 1) Y) (Backup.d0_38 _ _) (Backup.len _ _)) ?_
 obtain ⟨t139, e144, H⟩ := bnd H
 refine w_give 2 Y (fun _ h => h) ?_
 intro M136 l137 h138
 refine w_call cf20 trivial Y Y (fun w s => ref36_Valid.calls s x131 v132 h138 _ e144) ?_
 rintro _ M141 l142 rfl
 replace h138 := h138.mono l142
 refine va Y Y (wk k135 (c_seq fun K145 k145 => c_sr fun _ k146 => vm Y Y (wv Y (fun f s => r_not (f.ev Y)) (wk k146 (c_if Y (fun b147 => ?_) (fun b147 => ?_))))))
 ·replace H := if_t b147 H
  refine c_sr fun _ k148 => wv Y (fun f s => r_build (is := []) (xs := []) (A := Backup.C (⟨replicate 16 0, 0, 0, 0, 0, replicate 16 0, [], []⟩ : Backup) (.slice none 0 0)) Y (f.evs Y) (built_of (pl := [(0, 16), (16, 1), (17, 1), (18, 1), (19, 1), (20, 16), (36, 1), (37, 1)]) (A0 := Backup.C (⟨replicate 16 0, 0, 0, 0, 0, replicate 16 0, [], []⟩ : Backup) (.slice none 0 0)) tz26 underlying26 (by kernel_rfl) Y .nil)) ?_
  obtain ⟨z149, e151, H⟩ := bnd H
  have e150 := some_r e151
  refine w_store (i := 0) (A' := Backup.C z149 (.slice none 0 0)) trivial Y Y Y Y ts26 (Backup.len _ _) (Backup.C_one _ Y) (by rw [Backup.len]; decide) (by rw [← e150]; exact (splice_all _ _ (by simp [Backup.C]))) ?_
  have h152 : RS Key.F M141 (.slice none 0 0) z149.Keys := by rw [← e150]; exact RS.none
  refine va Y Y (wk k148 ?_)
  obtain rfl := some_r H
  exact cx hret Y fun f s => ⟨_, _, Res.of2 Y ⟨_, f.get _ _ Y, run_loadA (s.blk (i := 0) Y) ta26 ts26 (Backup.d0_38 _ _) (Backup.len _ _)⟩ (RV.t f Y), s.ext, ⟨_, Y, h152⟩⟩
 replace H := if_f b147 H
 refine cs k145 (c_sr fun _ k153 => wv Y (fun f s => r_loadA ta26 ts26 (f.ev Y) (s.blk (i := 1) Y) (Backup.d0_38 _ _) (Backup.len _ _)) (w_store (i := 0) (A' := Backup.C x131 v132) trivial Y Y Y Y ts26 (Backup.len _ _) (Backup.C_one _ h138.one) (by rw [Backup.len]; decide) (splice_all _ _ (by simp [Backup.C])) (va Y Y (wk k153 ?_))))
 obtain rfl := some_r H
 exact cx hret Y fun f s => ⟨_, _, Res.of2 Y ⟨_, f.get _ _ Y, run_loadA (s.blk (i := 0) Y) ta26 ts26 (Backup.d0_38 _ _) (Backup.len _ _)⟩ (RV.t f Y), s.ext, ⟨_, Y, h138⟩⟩
theorem law36_BackupNeedsItsKey.calls (hM : Sub M w) (hG : Gl M) (hs_law36_sanity : ∀ t, law36_sanity = some t → t = true) (p0 : (List UInt8)) (p1 : (List UInt8)) (p2 : Backup) (v1 : Value) (h2 : RS Key.F M v1 p2.Keys) (r : Bool) (hr_ : r = true) (H : law36_BackupNeedsItsKey p0 p1 p2 = some r) :
  Calls prog 5 [str p0, str p1, .agg (Backup.C p2 v1).toArray].toArray w (Post M w fun M' v => v = (.bool r)) := by
 refine enter 78 [(0, str p0), (1, str p1), (2, .agg (Backup.C p2 v1).toArray)] func5 Y Y Y hM ?_
 intro Q hret
 unfold law36_BackupNeedsItsKey at H
 refine c_sr fun _ k3 => w_boxL trivial Y Y Y ?_
 intro b4
 refine va Y Y (wk k3 (c_seq fun K5 k5 => ?_))
 obtain ⟨t6, H1, H⟩ := bnd H
 refine c_cut (fun a' w' => ∃ (M7 : Heap), HLe M M7 ∧ Fr 78 [(0, str p0), (1, str p1), (5, ptr b4 0), (28, .bool t6)] a' ∧ St none' M w M7 (lt [bk b4 (Backup.C p2 v1) 26]) w') ?_ ?_
 ·replace H := H1
  refine c_reg (wv Y (fun f s => r_loadA ta26 ts26 (f.ev Y) (s.blk (i := 0) Y) (Backup.d0_38 _ _) (Backup.len _ _)) ?_)
  obtain ⟨t9, e14, H⟩ := bnd H
  refine w_call cf12 trivial Y Y (fun w s => law36_few.calls s p2 v1 h2 _ e14) ?_
  rintro _ M11 l12 rfl
  replace hG := hG.mono l12
  replace h2 := h2.mono l12
  refine wv Y (fun f s => r_not (f.ev Y)) (vm Y Y ?_)
  by_cases b15 : (!t9) = true
  ·replace H := if_t b15 H
   refine wq b15 Y Y Y (wq b15 Y Y Y (wq b15 Y Y Y (wv Y (fun f s => r_pickT (f.ev Y) b15 (f.ev Y)) (vm Y Y (wqs 3 Y (wv Y (fun f s => r_pickT (f.ev Y) Y (f.ev Y)) ?_))))))
   obtain rfl := some_r H
   exact w_nil fun a w' f s => ⟨_, l12, f.pk Y, s.sel [0] (by decide) Y⟩
  replace b15 := Bool.eq_false_iff.2 b15
  replace H := if_f b15 H
  refine wg b15 Y Y Y (fun f s => r_move (f.ev Y)) (wg b15 Y Y Y (fun f s => r_slen underlying9 (f.ev Y)) (wg b15 Y Y Y (fun f s => r_gtr (f.ev Y) (f.ev Y)) (wv Y (fun f s => r_pickF (f.ev Y) b15 (f.ev Y)) (vm Y Y ?_))))
  by_cases b16 : (decide ((100 : Int) < (p0.length : Int))) = true
  ·replace H := if_t b16 H
   refine wq b16 Y Y Y (wq b16 Y Y Y (wq b16 Y Y Y (wv Y (fun f s => r_pickT (f.ev Y) b16 (f.ev Y)) ?_)))
   obtain rfl := some_r H
   exact w_nil fun a w' f s => ⟨_, l12, f.pk Y, s.sel [0] (by decide) Y⟩
  replace b16 := Bool.eq_false_iff.2 b16
  replace H := if_f b16 H
  refine wg b16 Y Y Y (fun f s => r_move (f.ev Y)) (wg b16 Y Y Y (fun f s => r_slen underlying9 (f.ev Y)) (wg b16 Y Y Y (fun f s => r_gtr (f.ev Y) (f.ev Y)) (wv Y (fun f s => r_pickF (f.ev Y) b16 (f.ev Y)) ?_)))
  obtain rfl := some_r H
  exact w_nil fun a w' f s => ⟨_, l12, f.pk Y, s.sel [0] (by decide) Y⟩
 rintro a w' ⟨M7, l8, f, s⟩
 refine cof f s ?_
 replace hG := hG.mono l8
 replace h2 := h2.mono l8
 refine c_if Y (fun b17 => ?_) (fun b17 => ?_)
 ·replace H := if_t b17 H
  refine c_sr fun _ k18 => ?_
  obtain ⟨t19, e24, H⟩ := bnd H
  refine w_call cf13 trivial Y Y (fun w s => law36_sanity.calls s hG  _ (hs_law36_sanity _ e24) e24) ?_
  rintro _ M21 l22 rfl
  replace hG := hG.mono l22
  replace h2 := h2.mono l22
  refine va Y Y (wk k18 ?_)
  obtain rfl := some_r H
  exact cx1 hret Y Y Y Y
 replace H := if_f b17 H
 refine cs k5 (c_sr fun _ k25 => vm Y Y (wv Y (fun f s => r_loadA ta26 ts26 (f.ev Y) (s.blk (i := 0) Y) (Backup.d0_38 _ _) (Backup.len _ _)) ?_))
 obtain ⟨t26, e31, H⟩ := bnd H
 refine w_call cf14 trivial Y Y (fun w s => backup_Make.calls s hG p0 p2 v1 h2 _ e31) ?_
 rintro _ M28 l29 rfl
 replace hG := hG.mono l29
 refine vm Y Y (v_extract Y Y Y (v_extract Y Y Y (va Y Y (va Y Y (wk k25 (c_seq fun K32 k32 => c_sr fun _ k33 => vm Y Y (wv Y (fun f s => r_neq (f.ev Y) (f.ev Y)) (wk k33 (c_if Y (fun b34 => ?_) (fun b34 => ?_))))))))))
 ·replace H := if_t b34 H
  refine c_sr fun _ k35 => ?_
  obtain ⟨t36, e41, H⟩ := bnd H
  refine w_call cf13 trivial Y Y (fun w s => law36_sanity.calls s hG  _ (hs_law36_sanity _ e41) e41) ?_
  rintro _ M38 l39 rfl
  replace hG := hG.mono l39
  refine va Y Y (wk k35 ?_)
  obtain rfl := some_r H
  exact cx1 hret Y Y Y Y
 replace H := if_f b34 H
 refine cs k32 (c_sr fun _ k42 => vm Y Y ?_)
 obtain ⟨t43, e48, H⟩ := bnd H
 refine w_call cf26 trivial Y Y (fun w s => backup_Peek.calls s t26.1 _ e48) ?_
 rintro v117 M45 l46 ⟨v49, hv_, h50⟩
 replace hv_ := hv_.symm
 subst hv_
 replace hG := hG.mono l46
 refine vm Y Y (v_extract Y Y Y (v_extract Y Y Y (w_allocL (A := Backup.C (⟨replicate 16 0, 0, 0, 0, 0, replicate 16 0, [], []⟩ : Backup) (.slice none 0 0)) tz26 trivial Y Y ?_)))
 intro b51
 refine w_store (i := 1) (A' := Backup.C t43.1 v49) trivial Y Y Y Y ts26 (Backup.len _ _) (Backup.C_one _ h50.one) (by rw [Backup.len]; decide) (splice_all _ _ (by simp [Backup.C])) (va Y Y (wk k42 (c_sr fun _ k52 => vm Y Y (vm Y Y ?_))))
 obtain ⟨t53, e58, H⟩ := bnd H
 refine w_call cf28 trivial Y Y (fun w s => backup_Open.calls s hG p1 t26.1 _ e58) ?_
 rintro v116 M55 l56 ⟨v59, hv_, h60⟩
 replace hv_ := hv_.symm
 subst hv_
 replace hG := hG.mono l56
 replace h50 := h50.mono l56
 refine vm Y Y (v_extract Y Y Y (v_extract Y Y Y (w_allocL (A := Backup.C (⟨replicate 16 0, 0, 0, 0, 0, replicate 16 0, [], []⟩ : Backup) (.slice none 0 0)) tz26 trivial Y Y ?_)))
 intro b61
 refine w_store (i := 2) (A' := Backup.C t53.1 v59) trivial Y Y Y Y ts26 (Backup.len _ _) (Backup.C_one _ h60.one) (by rw [Backup.len]; decide) (splice_all _ _ (by simp [Backup.C])) (va Y Y (wk k52 (c_sr fun _ k62 => vm Y Y (vm Y Y ?_))))
 obtain ⟨t63, e68, H⟩ := bnd H
 refine w_call cf29 trivial Y Y (fun w s => ref36_Open.calls s hG p1 t26.1 _ e68) ?_
 rintro v115 M65 l66 ⟨v69, hv_, h70⟩
 replace hv_ := hv_.symm
 subst hv_
 replace hG := hG.mono l66
 replace h50 := h50.mono l66
 replace h60 := h60.mono l66
 refine vm Y Y (v_extract Y Y Y (v_extract Y Y Y (w_allocL (A := Backup.C (⟨replicate 16 0, 0, 0, 0, 0, replicate 16 0, [], []⟩ : Backup) (.slice none 0 0)) tz26 trivial Y Y ?_)))
 intro b71
 refine w_store (i := 3) (A' := Backup.C t63.1 v69) trivial Y Y Y Y ts26 (Backup.len _ _) (Backup.C_one _ h70.one) (by rw [Backup.len]; decide) (splice_all _ _ (by simp [Backup.C])) (va Y Y (wk k62 (c_sr fun _ k72 => v_fa fa26_7 Y Y (w_store (i := 0) (A' := Backup.C ({ p2 with Keys := ([] : (List Key)) } : Backup) (.slice none 0 0)) trivial Y Y Y Y ts24 Y (one1 Y) (by rw [Backup.len]; decide) (Backup.s37_1 _ _) (wk k72 (c_sr fun _ k73 => wv Y (fun f s => r_loadA ta26 ts26 (f.ev Y) (s.blk (i := 1) Y) (Backup.d0_38 _ _) (Backup.len _ _)) (wv Y (fun f s => r_loadA ta26 ts26 (f.ev Y) (s.blk (i := 0) Y) (Backup.d0_38 _ _) (Backup.len _ _)) ?_)))))))
 obtain ⟨t74, e79, H⟩ := bnd H
 refine w_call cf18 trivial Y Y (fun w s => ref36_Same.calls s t43.1 v49 h50 ({ p2 with Keys := ([] : (List Key)) } : Backup) (.slice none 0 0) RS.none _ e79) ?_
 rintro _ M76 l77 rfl
 replace hG := hG.mono l77
 replace h60 := h60.mono l77
 replace h70 := h70.mono l77
 refine va Y Y (wk k73 ?_)
 obtain ⟨t80, H1, H⟩ := bnd H
 have ht_ := (some_r H).trans hr_
 refine c_cut (fun a' w' => ∃ (M81 : Heap), HLe M76 M81 ∧ Fr 78 [(6, .bool t80)] a' ∧ St none' M w M81 (lt [bk b4 (Backup.C ({ p2 with Keys := ([] : (List Key)) } : Backup) (.slice none 0 0)) 26, bk b51 (Backup.C t43.1 v49) 26, bk b61 (Backup.C t53.1 v59) 26, bk b71 (Backup.C t63.1 v69) 26]) w') ?_ ?_
 ·replace H := H1
  refine c_reg ?_
  obtain ⟨t99, e104, H⟩ := bnd H
  refine w_call cf13 trivial Y Y (fun w s => law36_sanity.calls s hG  _ (hs_law36_sanity _ e104) e104) ?_
  rintro _ M101 l102 rfl
  replace h60 := h60.mono l102
  replace h70 := h70.mono l102
  refine vm Y Y ?_
  by_cases b105 : t99 = true
  ·replace H := if_t b105 H
   refine wg b105 Y Y Y (fun f s => r_move (f.ev Y)) (wg b105 Y Y Y (fun f s => r_eql (f.ev Y) (f.ev Y)) (wv Y (fun f s => r_pickT (f.ev Y) b105 (f.ev Y)) (vm Y Y ?_)))
   by_cases b106 : (t43.2 == 0) = true
   ·replace H := if_t b106 H
    refine wg b106 Y Y Y (fun f s => r_move (f.ev Y)) (wv Y (fun f s => r_pickT (f.ev Y) b106 (f.ev Y)) (vm Y Y ?_))
    by_cases b107 : t74 = true
    ·replace H := if_t b107 H
     refine wg b107 Y Y Y (fun f s => r_move (f.ev Y)) (wg b107 Y Y Y (fun f s => r_move (f.ev Y)) (wg b107 Y Y Y (fun f s => r_eql (f.ev Y) (f.ev Y)) (wv Y (fun f s => r_pickT (f.ev Y) b107 (f.ev Y)) (vm Y Y ?_))))
     by_cases b108 : (t53.2 == t63.2) = true
     ·replace H := if_t b108 H
      refine wg b108 Y Y Y (fun f s => r_loadA ta26 ts26 (f.ev Y) (s.blk (i := 2) Y) (Backup.d0_38 _ _) (Backup.len _ _)) (wg b108 Y Y Y (fun f s => r_loadA ta26 ts26 (f.ev Y) (s.blk (i := 3) Y) (Backup.d0_38 _ _) (Backup.len _ _)) ?_)
      obtain ⟨t109, e114, H⟩ := bnd H
      refine w_call cf18 (Wnt.of Y Y b108) Y Y (fun w s => ref36_Same.calls s t53.1 v59 h60 t63.1 v69 h70 _ e114) ?_
      rintro _ M111 l112 rfl
      refine wv Y (fun f s => r_pickT (f.ev Y) b108 (f.ev Y)) (va Y Y ?_)
      obtain rfl := some_r H
      exact w_nil fun a w' f s => ⟨_, l102.trans l112, f.pk Y, s.sel [0, 1, 2, 3] (by decide) Y⟩
     replace b108 := Bool.eq_false_iff.2 b108
     replace H := if_f b108 H
     exact absurd ((some_r H).trans ht_) (by decide)
    replace b107 := Bool.eq_false_iff.2 b107
    replace H := if_f b107 H
    exact absurd ((some_r H).trans ht_) (by decide)
   replace b106 := Bool.eq_false_iff.2 b106
   replace H := if_f b106 H
   exact absurd ((some_r H).trans ht_) (by decide)
  replace b105 := Bool.eq_false_iff.2 b105
  replace H := if_f b105 H
  exact absurd ((some_r H).trans ht_) (by decide)
 rintro a w' ⟨M81, l82, f, s⟩
 refine cof f s ?_
 obtain rfl := some_r H
 exact cx1 hret Y Y Y Y
end Go.Cu
