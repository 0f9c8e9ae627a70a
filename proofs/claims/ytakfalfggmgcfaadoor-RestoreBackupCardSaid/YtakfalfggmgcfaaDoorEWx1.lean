/- Each Go function comes to its pure function; condition: that one is defined there. -/
import Derived.Test.YtakfalfggmgcfaaDoorEWx0
import Derived.Test.YtakfalfggmgcfaaDoorK1
import Derived.Shelf.Strings.Repeat
import Derived.Shelf.Strings.OnBuilder
import Derived.Ground.NamesProg
import Derived.Lib.Agree
import Derived.Test.YtakfalfggmgcfaaDoorProg
import Derived.KernelRfl
set_option linter.unusedVariables false
set_option linter.unusedSimpArgs false
set_option maxHeartbeats 4000000
set_option maxRecDepth 20000
namespace Go.Cu
open Go.Proofs Go.Proofs.Tryd Go.Shelf
theorem cipher_Rounds.calls {M : Heap} {w : World} (hM : Sub M w) (p0 : (Vector Int 16)) (r : (Vector Int 16)) (H : cipher_Rounds p0 = some r) :
  Calls Tryd.prog 119 [(.agg (vI .u32 p0).toArray)].toArray w (Post M w fun M' v => v = (.agg (vI .u32 r).toArray)) := by
 refine enter 47 [(0, (.agg (vI .u32 p0).toArray))] Tryd.func119 rfl rfl rfl hM ?_
 intro Q hret
 unfold cipher_Rounds at H
 refine c_sr fun _ hK1 => ?_
 refine w_boxL trivial rfl rfl rfl ?_
 intro b2
 refine w_allocL (A := vI .u32 (Vector.replicate 16 (0 : Int))) tz131 trivial rfl rfl ?_
 intro b3
 refine w_nil (hK1 _ _ _ ?_)
 refine c_cut (fun a' w' => ∃ (x4 : (Vector Int 16)) (M5 : Heap), HLe M M5 ∧ Fr 47 [(1, (ptr b2 0)), (2, (ptr b3 0))] a' ∧ St none' M w M5 (lt [.blk b2 (.cells (vI .u32 x4).toArray 131 (0, 0)), .blk b3 (.cells (vI .u32 (Vector.replicate 16 (0 : Int))).toArray 131 (0, 0))]) w' ∧ cipher_Rounds.j1 x4 = some r) ?_ ?_
 ·refine c_seq ?_
  intro K8 hK8
  refine c_reg ?_
  refine vm rfl rfl ?_
  refine w_nil (hK8 _ _ _ ?_)
  refine c_block ?_
  refine c_loop (fun (s9 : ((Vector Int 16) × Int)) a' w' => ∃ (M10 : Heap), HLe M M10 ∧ Fr 47 [(1, (ptr b2 0)), (2, (ptr b3 0)), (5, (.int .i64 s9.2))] a' ∧ St none' M w M10 (lt [.blk b2 (.cells (vI .u32 s9.1).toArray 131 (0, 0)), .blk b3 (.cells (vI .u32 (Vector.replicate 16 (0 : Int))).toArray 131 (0, 0))]) w') (p0, (0 : Int)) H ?_ ?_
  ·intro a w' hf hs
   exact ⟨_, HLe.refl _, (hf.pick (pk (pk (pk pk0 rfl) rfl) rfl)), hs.selD [some 0, some 1] (by decide) rfl⟩
  clear H
  intro s9 y13 H r12 a w' hJ
  obtain ⟨M10, l11, hf, hs⟩ := hJ
  refine c_of (c := (Cx.mk Tryd.prog 47 none' M w)) ?_ hf hs
  unfold cipher_Rounds.l6 at H
  clear hf hs
  refine c_sr fun _ hK14 => ?_
  refine v_lss rfl rfl rfl ?_
  refine w_nil (hK14 _ _ _ ?_)
  refine c_seq fun K15 hK15 => ?_
  refine c_if rfl (fun b16 => ?_) (fun b16 => ?_)
  ·replace H := if_t b16 H
   refine c_skip (hK15 _ _ _ ?_)
   refine c_cut (fun a' w' => ∃ (x17 : (Vector Int 16)) (M18 : Heap), HLe M10 M18 ∧ Fr 47 [(1, (ptr b2 0)), (2, (ptr b3 0)), (5, (.int .i64 s9.2))] a' ∧ St none' M w M18 (lt [.blk b2 (.cells (vI .u32 x17).toArray 131 (0, 0)), .blk b3 (.cells (vI .u32 (Vector.replicate 16 (0 : Int))).toArray 131 (0, 0))]) w' ∧ cipher_Rounds.j2 x17 s9 = some y13) ?_ ?_
   ·refine c_block ?_
    refine c_cut (fun a' w' => ∃ (x20 : (Vector Int 16)) (M21 : Heap), HLe M10 M21 ∧ Fr 47 [(1, (ptr b2 0)), (2, (ptr b3 0)), (5, (.int .i64 s9.2))] a' ∧ St none' M w M21 (lt [.blk b2 (.cells (vI .u32 x20).toArray 131 (0, 0)), .blk b3 (.cells (vI .u32 (Vector.replicate 16 (0 : Int))).toArray 131 (0, 0))]) w' ∧ cipher_Rounds.j4 s9 x20 = some y13) ?_ ?_
    ·refine c_seq ?_
     intro K96 hK96
     refine c_reg ?_
     refine vm rfl rfl ?_
     refine w_nil (hK96 _ _ _ ?_)
     refine c_block ?_
     refine c_loop (fun (s97 : ((Vector Int 16) × Int)) a' w' => ∃ (M98 : Heap), HLe M10 M98 ∧ Fr 47 [(1, (ptr b2 0)), (2, (ptr b3 0)), (5, (.int .i64 s9.2)), (7, (.int .i64 s97.2))] a' ∧ St none' M w M98 (lt [.blk b2 (.cells (vI .u32 s97.1).toArray 131 (0, 0)), .blk b3 (.cells (vI .u32 (Vector.replicate 16 (0 : Int))).toArray 131 (0, 0))]) w') (s9.1, (0 : Int)) H ?_ ?_
     ·intro a w' hf hs
      exact ⟨_, HLe.refl _, (hf.pick (pk (pk (pk (pk pk0 rfl) rfl) rfl) rfl)), hs.selD [some 0, some 1] (by decide) rfl⟩
     clear H
     intro s97 y101 H r100 a w' hJ
     obtain ⟨M98, l99, hf, hs⟩ := hJ
     refine c_of (c := (Cx.mk Tryd.prog 47 none' M w)) ?_ hf hs
     unfold cipher_Rounds.l5 at H
     clear hf hs
     refine c_sr fun _ hK102 => ?_
     refine v_lss rfl rfl rfl ?_
     refine w_nil (hK102 _ _ _ ?_)
     refine c_seq fun K103 hK103 => ?_
     refine c_if rfl (fun b104 => ?_) (fun b104 => ?_)
     ·replace H := if_t b104 H
      refine c_skip (hK103 _ _ _ ?_)
      refine c_seq fun K105 hK105 => ?_
      refine c_block ?_
      refine c_sr fun _ hK106 => ?_
      refine vm rfl rfl ?_
      refine va rfl rfl ?_
      refine w_nil (hK106 _ _ _ ?_)
      refine c_split2 11 (by kernel_rfl) (by kernel_rfl) (by kernel_rfl) (by kernel_rfl) rfl ?_
      intro K107 hK107
      obtain ⟨g113, H⟩ := grd_s H
      obtain ⟨g122, H⟩ := grd_s H
      obtain ⟨g131, H⟩ := grd_s H
      obtain ⟨g140, H⟩ := grd_s H
      refine d_drawP [([], [3]), ([(0, 10)], [1]), ([], [3]), ([(2, 12)], []), ([(3, 13)], [1]), ([], [3]), ([(5, 15)], []), ([(6, 16)], [1]), ([], [3]), ([(8, 18)], []), ([(9, 19)], [1])] [vq (.int .i64 s97.2), vq (ptr b2 (0 + (s97.2).toNat)), vq (.int .i64 s97.2), vq (.int .i64 (IntKind.i64.wrap ((4 : Int) + s97.2))), vq (ptr b2 (0 + ((IntKind.i64.wrap ((4 : Int) + s97.2))).toNat)), vq (.int .i64 s97.2), vq (.int .i64 (IntKind.i64.wrap ((8 : Int) + s97.2))), vq (ptr b2 (0 + ((IntKind.i64.wrap ((8 : Int) + s97.2))).toNat)), vq (.int .i64 s97.2), vq (.int .i64 (IntKind.i64.wrap ((12 : Int) + s97.2))), vq (ptr b2 (0 + ((IntKind.i64.wrap ((12 : Int) + s97.2))).toNat))] (by kernel_rfl) (by kernel_rfl) ?_ (aT ?_ (aT ?_ (aT ?_ (aT ?_ (aT ?_ (aT ?_ (aT ?_ (aT ?_ (aT ?_ (aT ?_ (aT ?_ AllT.nil))))))))))) ?_
      ·exact (mC (mC (mC (mC (mC (mC (mC (mC (mC (mC (mC MonoA.nil)))))))))))
      ·intro a w' _ _ hd hs
       exact pv (hd.fr.add (hd.base 3 _ rfl rfl)) hs rfl (fun hf hs => r_move (hf.ev rfl)) rfl
      ·intro a w' _ _ hd hs
       exact pv ((hd.fr.add (hd.val 0 10 _ rfl rfl)).add (hd.base 1 _ rfl rfl)) hs rfl (fun hf hs => r_iaI Tryd.underlying131 ts70 (hf.ev rfl) (hf.ev rfl) g113.1 g113.2) rfl
      ·intro a w' _ _ hd hs
       exact pv (hd.fr.add (hd.base 3 _ rfl rfl)) hs rfl (fun hf hs => r_move (hf.ev rfl)) rfl
      ·intro a w' _ _ hd hs
       exact pv (hd.fr.add (hd.val 2 12 _ rfl rfl)) hs rfl (fun hf hs => r_add (hf.ev rfl) (hf.ev rfl)) rfl
      ·intro a w' _ _ hd hs
       exact pv ((hd.fr.add (hd.val 3 13 _ rfl rfl)).add (hd.base 1 _ rfl rfl)) hs rfl (fun hf hs => r_iaI Tryd.underlying131 ts70 (hf.ev rfl) (hf.ev rfl) g122.1 g122.2) rfl
      ·intro a w' _ _ hd hs
       exact pv (hd.fr.add (hd.base 3 _ rfl rfl)) hs rfl (fun hf hs => r_move (hf.ev rfl)) rfl
      ·intro a w' _ _ hd hs
       exact pv (hd.fr.add (hd.val 5 15 _ rfl rfl)) hs rfl (fun hf hs => r_add (hf.ev rfl) (hf.ev rfl)) rfl
      ·intro a w' _ _ hd hs
       exact pv ((hd.fr.add (hd.val 6 16 _ rfl rfl)).add (hd.base 1 _ rfl rfl)) hs rfl (fun hf hs => r_iaI Tryd.underlying131 ts70 (hf.ev rfl) (hf.ev rfl) g131.1 g131.2) rfl
      ·intro a w' _ _ hd hs
       exact pv (hd.fr.add (hd.base 3 _ rfl rfl)) hs rfl (fun hf hs => r_move (hf.ev rfl)) rfl
      ·intro a w' _ _ hd hs
       exact pv (hd.fr.add (hd.val 8 18 _ rfl rfl)) hs rfl (fun hf hs => r_add (hf.ev rfl) (hf.ev rfl)) rfl
      ·intro a w' _ _ hd hs
       exact pv ((hd.fr.add (hd.val 9 19 _ rfl rfl)).add (hd.base 1 _ rfl rfl)) hs rfl (fun hf hs => r_iaI Tryd.underlying131 ts70 (hf.ev rfl) (hf.ev rfl) g140.1 g140.2) rfl
      intro a w' M141 l142 hdf hsz hb hv hs
      have e143 := hv 1 11 _ rfl rfl
      have e144 := hv 4 14 _ rfl rfl
      have e145 := hv 7 17 _ rfl rfl
      have e146 := hv 10 20 _ rfl rfl
      refine n_of (c := (Cx.mk Tryd.prog 47 none' M w)) (l := [(1, (ptr b2 0)), (2, (ptr b3 0)), (5, (.int .i64 s9.2)), (7, (.int .i64 s97.2)), (11, (ptr b2 (0 + (s97.2).toNat))), (14, (ptr b2 (0 + ((IntKind.i64.wrap ((4 : Int) + s97.2))).toNat))), (17, (ptr b2 (0 + ((IntKind.i64.wrap ((8 : Int) + s97.2))).toNat))), (20, (ptr b2 (0 + ((IntKind.i64.wrap ((12 : Int) + s97.2))).toNat)))]) ?_ (((((((((Fr.start hdf hsz).add e146).add e145).add e144).add e143).add (hb 7 _ rfl rfl)).add (hb 5 _ rfl rfl)).add (hb 2 _ rfl rfl)).add (hb 1 _ rfl rfl)) hs
      clear hdf hsz hb hv hs e143 e144 e145 e146
      refine n_id (hK107 _ _ _ ?_)
      obtain ⟨t147, e148, H⟩ := bnd H
      refine w_callI 0 cf134 trivial rfl rfl rfl (fun X' w hs => cipher_quarter.calls hs g113.1 g113.2 g122.1 g122.2 g131.1 g131.2 g140.1 g140.2 _ e148) ?_
      rintro _ M149 _ l150 ⟨rfl, rfl⟩
      refine w_nil (hK105 _ _ _ ?_)
      refine c_reg ?_
      refine v_add rfl rfl rfl ?_
      refine vm rfl rfl ?_
      exact w_nil fun a w' hf hs => ⟨_, (some_r H).symm, _, l99.trans (l142.trans l150), (hf.pick (pk (pk (pk (pk pk0 rfl) rfl) rfl) rfl)), hs.selD [some 0, some 1] (by decide) rfl⟩
     replace H := if_f b104 H
     replace H := map_inr H r100
     refine c_exit ?_
     intro a w' hf hs
     exact ⟨s97.1, _, l99, (hf.pick (pk (pk (pk pk0 rfl) rfl) rfl)), hs.selD [some 0, some 1] (by decide) rfl, H⟩
    rintro a w' ⟨x20, M21, l22, hf, hs, H⟩
    refine c_of (c := (Cx.mk Tryd.prog 47 none' M w)) ?_ hf hs
    unfold cipher_Rounds.j4 at H
    clear hf hs
    refine c_sr fun _ hK23 => ?_
    refine vm rfl rfl ?_
    refine w_nil (hK23 _ _ _ ?_)
    refine c_block ?_
    refine c_loop (fun (s24 : ((Vector Int 16) × Int)) a' w' => ∃ (M25 : Heap), HLe M21 M25 ∧ Fr 47 [(1, (ptr b2 0)), (2, (ptr b3 0)), (5, (.int .i64 s9.2)), (23, (.int .i64 s24.2))] a' ∧ St none' M w M25 (lt [.blk b2 (.cells (vI .u32 s24.1).toArray 131 (0, 0)), .blk b3 (.cells (vI .u32 (Vector.replicate 16 (0 : Int))).toArray 131 (0, 0))]) w') (x20, (0 : Int)) H ?_ ?_
    ·intro a w' hf hs
     exact ⟨_, HLe.refl _, (hf.pick (pk (pk (pk (pk pk0 rfl) rfl) rfl) rfl)), hs.selD [some 0, some 1] (by decide) rfl⟩
    clear H
    intro s24 y28 H r27 a w' hJ
    obtain ⟨M25, l26, hf, hs⟩ := hJ
    refine c_of (c := (Cx.mk Tryd.prog 47 none' M w)) ?_ hf hs
    unfold cipher_Rounds.l3 at H
    clear hf hs
    refine c_sr fun _ hK29 => ?_
    refine v_lss rfl rfl rfl ?_
    refine w_nil (hK29 _ _ _ ?_)
    refine c_seq fun K30 hK30 => ?_
    refine c_if rfl (fun b31 => ?_) (fun b31 => ?_)
    ·replace H := if_t b31 H
     refine c_skip (hK30 _ _ _ ?_)
     refine c_seq fun K32 hK32 => ?_
     refine c_block ?_
     refine c_sr fun _ hK33 => ?_
     refine vm rfl rfl ?_
     refine va rfl rfl ?_
     refine w_nil (hK33 _ _ _ ?_)
     refine c_split2 17 (by kernel_rfl) (by kernel_rfl) (by kernel_rfl) (by kernel_rfl) rfl ?_
     intro K34 hK34
     obtain ⟨g40, H⟩ := grd_s H
     obtain ⟨g55, H⟩ := grd_s H
     obtain ⟨g70, H⟩ := grd_s H
     obtain ⟨g85, H⟩ := grd_s H
     refine d_drawP [([], [4]), ([(0, 26)], [1]), ([], [4]), ([(2, 28)], []), ([(3, 29)], []), ([(4, 30)], []), ([(5, 31)], [1]), ([], [4]), ([(7, 33)], []), ([(8, 34)], []), ([(9, 35)], []), ([(10, 36)], [1]), ([], [4]), ([(12, 38)], []), ([(13, 39)], []), ([(14, 40)], []), ([(15, 41)], [1])] [vq (.int .i64 s24.2), vq (ptr b2 (0 + (s24.2).toNat)), vq (.int .i64 s24.2), vq (.int .i64 (IntKind.i64.wrap (s24.2 + (1 : Int)))), vq (.int .i64 (Int.tmod (IntKind.i64.wrap (s24.2 + (1 : Int))) (4 : Int))), vq (.int .i64 (IntKind.i64.wrap ((4 : Int) + (Int.tmod (IntKind.i64.wrap (s24.2 + (1 : Int))) (4 : Int))))), vq (ptr b2 (0 + ((IntKind.i64.wrap ((4 : Int) + (Int.tmod (IntKind.i64.wrap (s24.2 + (1 : Int))) (4 : Int))))).toNat)), vq (.int .i64 s24.2), vq (.int .i64 (IntKind.i64.wrap (s24.2 + (2 : Int)))), vq (.int .i64 (Int.tmod (IntKind.i64.wrap (s24.2 + (2 : Int))) (4 : Int))), vq (.int .i64 (IntKind.i64.wrap ((8 : Int) + (Int.tmod (IntKind.i64.wrap (s24.2 + (2 : Int))) (4 : Int))))), vq (ptr b2 (0 + ((IntKind.i64.wrap ((8 : Int) + (Int.tmod (IntKind.i64.wrap (s24.2 + (2 : Int))) (4 : Int))))).toNat)), vq (.int .i64 s24.2), vq (.int .i64 (IntKind.i64.wrap (s24.2 + (3 : Int)))), vq (.int .i64 (Int.tmod (IntKind.i64.wrap (s24.2 + (3 : Int))) (4 : Int))), vq (.int .i64 (IntKind.i64.wrap ((12 : Int) + (Int.tmod (IntKind.i64.wrap (s24.2 + (3 : Int))) (4 : Int))))), vq (ptr b2 (0 + ((IntKind.i64.wrap ((12 : Int) + (Int.tmod (IntKind.i64.wrap (s24.2 + (3 : Int))) (4 : Int))))).toNat))] (by kernel_rfl) (by kernel_rfl) ?_ (aT ?_ (aT ?_ (aT ?_ (aT ?_ (aT ?_ (aT ?_ (aT ?_ (aT ?_ (aT ?_ (aT ?_ (aT ?_ (aT ?_ (aT ?_ (aT ?_ (aT ?_ (aT ?_ (aT ?_ AllT.nil))))))))))))))))) ?_
     ·exact (mC (mC (mC (mC (mC (mC (mC (mC (mC (mC (mC (mC (mC (mC (mC (mC (mC MonoA.nil)))))))))))))))))
     ·intro a w' _ _ hd hs
      exact pv (hd.fr.add (hd.base 4 _ rfl rfl)) hs rfl (fun hf hs => r_move (hf.ev rfl)) rfl
     ·intro a w' _ _ hd hs
      exact pv ((hd.fr.add (hd.val 0 26 _ rfl rfl)).add (hd.base 1 _ rfl rfl)) hs rfl (fun hf hs => r_iaI Tryd.underlying131 ts70 (hf.ev rfl) (hf.ev rfl) g40.1 g40.2) rfl
     ·intro a w' _ _ hd hs
      exact pv (hd.fr.add (hd.base 4 _ rfl rfl)) hs rfl (fun hf hs => r_move (hf.ev rfl)) rfl
     ·intro a w' _ _ hd hs
      exact pv (hd.fr.add (hd.val 2 28 _ rfl rfl)) hs rfl (fun hf hs => r_add (hf.ev rfl) (hf.ev rfl)) rfl
     ·intro a w' _ _ hd hs
      exact pv (hd.fr.add (hd.val 3 29 _ rfl rfl)) hs rfl (fun hf hs => r_rem (hf.ev rfl) (hf.ev rfl) (by decide)) rfl
     ·intro a w' _ _ hd hs
      exact pv (hd.fr.add (hd.val 4 30 _ rfl rfl)) hs rfl (fun hf hs => r_add (hf.ev rfl) (hf.ev rfl)) rfl
     ·intro a w' _ _ hd hs
      exact pv ((hd.fr.add (hd.val 5 31 _ rfl rfl)).add (hd.base 1 _ rfl rfl)) hs rfl (fun hf hs => r_iaI Tryd.underlying131 ts70 (hf.ev rfl) (hf.ev rfl) g55.1 g55.2) rfl
     ·intro a w' _ _ hd hs
      exact pv (hd.fr.add (hd.base 4 _ rfl rfl)) hs rfl (fun hf hs => r_move (hf.ev rfl)) rfl
     ·intro a w' _ _ hd hs
      exact pv (hd.fr.add (hd.val 7 33 _ rfl rfl)) hs rfl (fun hf hs => r_add (hf.ev rfl) (hf.ev rfl)) rfl
     ·intro a w' _ _ hd hs
      exact pv (hd.fr.add (hd.val 8 34 _ rfl rfl)) hs rfl (fun hf hs => r_rem (hf.ev rfl) (hf.ev rfl) (by decide)) rfl
     ·intro a w' _ _ hd hs
      exact pv (hd.fr.add (hd.val 9 35 _ rfl rfl)) hs rfl (fun hf hs => r_add (hf.ev rfl) (hf.ev rfl)) rfl
     ·intro a w' _ _ hd hs
      exact pv ((hd.fr.add (hd.val 10 36 _ rfl rfl)).add (hd.base 1 _ rfl rfl)) hs rfl (fun hf hs => r_iaI Tryd.underlying131 ts70 (hf.ev rfl) (hf.ev rfl) g70.1 g70.2) rfl
     ·intro a w' _ _ hd hs
      exact pv (hd.fr.add (hd.base 4 _ rfl rfl)) hs rfl (fun hf hs => r_move (hf.ev rfl)) rfl
     ·intro a w' _ _ hd hs
      exact pv (hd.fr.add (hd.val 12 38 _ rfl rfl)) hs rfl (fun hf hs => r_add (hf.ev rfl) (hf.ev rfl)) rfl
     ·intro a w' _ _ hd hs
      exact pv (hd.fr.add (hd.val 13 39 _ rfl rfl)) hs rfl (fun hf hs => r_rem (hf.ev rfl) (hf.ev rfl) (by decide)) rfl
     ·intro a w' _ _ hd hs
      exact pv (hd.fr.add (hd.val 14 40 _ rfl rfl)) hs rfl (fun hf hs => r_add (hf.ev rfl) (hf.ev rfl)) rfl
     ·intro a w' _ _ hd hs
      exact pv ((hd.fr.add (hd.val 15 41 _ rfl rfl)).add (hd.base 1 _ rfl rfl)) hs rfl (fun hf hs => r_iaI Tryd.underlying131 ts70 (hf.ev rfl) (hf.ev rfl) g85.1 g85.2) rfl
     intro a w' M86 l87 hdf hsz hb hv hs
     have e88 := hv 1 27 _ rfl rfl
     have e89 := hv 6 32 _ rfl rfl
     have e90 := hv 11 37 _ rfl rfl
     have e91 := hv 16 42 _ rfl rfl
     refine n_of (c := (Cx.mk Tryd.prog 47 none' M w)) (l := [(1, (ptr b2 0)), (2, (ptr b3 0)), (5, (.int .i64 s9.2)), (23, (.int .i64 s24.2)), (27, (ptr b2 (0 + (s24.2).toNat))), (32, (ptr b2 (0 + ((IntKind.i64.wrap ((4 : Int) + (Int.tmod (IntKind.i64.wrap (s24.2 + (1 : Int))) (4 : Int))))).toNat))), (37, (ptr b2 (0 + ((IntKind.i64.wrap ((8 : Int) + (Int.tmod (IntKind.i64.wrap (s24.2 + (2 : Int))) (4 : Int))))).toNat))), (42, (ptr b2 (0 + ((IntKind.i64.wrap ((12 : Int) + (Int.tmod (IntKind.i64.wrap (s24.2 + (3 : Int))) (4 : Int))))).toNat)))]) ?_ (((((((((Fr.start hdf hsz).add e91).add e90).add e89).add e88).add (hb 23 _ rfl rfl)).add (hb 5 _ rfl rfl)).add (hb 2 _ rfl rfl)).add (hb 1 _ rfl rfl)) hs
     clear hdf hsz hb hv hs e88 e89 e90 e91
     refine n_id (hK34 _ _ _ ?_)
     obtain ⟨t92, e93, H⟩ := bnd H
     refine w_callI 0 cf134 trivial rfl rfl rfl (fun X' w hs => cipher_quarter.calls hs g40.1 g40.2 g55.1 g55.2 g70.1 g70.2 g85.1 g85.2 _ e93) ?_
     rintro _ M94 _ l95 ⟨rfl, rfl⟩
     refine w_nil (hK32 _ _ _ ?_)
     refine c_reg ?_
     refine v_add rfl rfl rfl ?_
     refine vm rfl rfl ?_
     exact w_nil fun a w' hf hs => ⟨_, (some_r H).symm, _, l26.trans (l87.trans l95), (hf.pick (pk (pk (pk (pk pk0 rfl) rfl) rfl) rfl)), hs.selD [some 0, some 1] (by decide) rfl⟩
    replace H := if_f b31 H
    replace H := map_inr H r27
    refine c_exit ?_
    intro a w' hf hs
    exact ⟨s24.1, _, (l22.trans l26), (hf.pick (pk (pk (pk pk0 rfl) rfl) rfl)), hs.selD [some 0, some 1] (by decide) rfl, H⟩
   rintro a w' ⟨x17, M18, l19, hf, hs, H⟩
   refine c_of (c := (Cx.mk Tryd.prog 47 none' M w)) ?_ hf hs
   unfold cipher_Rounds.j2 at H
   clear hf hs
   refine c_reg ?_
   refine v_add rfl rfl rfl ?_
   refine vm rfl rfl ?_
   exact w_nil fun a w' hf hs => ⟨_, (some_r H).symm, _, l11.trans l19, (hf.pick (pk (pk (pk pk0 rfl) rfl) rfl)), hs.selD [some 0, some 1] (by decide) rfl⟩
  replace H := if_f b16 H
  replace H := map_inr H r12
  refine c_exit ?_
  intro a w' hf hs
  exact ⟨s9.1, _, l11, (hf.pick (pk (pk pk0 rfl) rfl)), hs.selD [some 0, some 1] (by decide) rfl, H⟩
 rintro a w' ⟨x4, M5, l6, hf, hs, H⟩
 refine c_of (c := (Cx.mk Tryd.prog 47 none' M w)) ?_ hf hs
 unfold cipher_Rounds.j1 at H
 clear hf hs
 refine c_sr fun _ hK7 => ?_
 refine wv rfl (fun hf hs => r_loadA ta131 ts131 (hf.ev rfl) (hs.blk (i := 0) rfl) (vI_all _) (vI_len _)) ?_
 refine w_store (i := 1) (vs := vI .u32 x4) (A' := vI .u32 x4) trivial rfl rfl rfl rfl ts131 (vI_len _) (vI_one _) (by rw [vI_len]; decide) (vI_whole _ _) ?_
 refine w_nil (hK7 _ _ _ ?_)
 obtain rfl := some_r H
 exact c_ret fun a w' hf hs => hret _ (.inl rfl) a w' hf.df ⟨_, _, Res.of1 rfl ⟨_, hf.get _ _ rfl, run_loadA (hs.blk (i := 1) rfl) ta131 ts131 (vI_all _) (vI_len _)⟩, hs.ext, rfl⟩
theorem cipher_put.calls {X : Nat → Prop} {M : Heap} {w : World} {v0 : Value} {p0 : (List Int)} (hs : St X M w M (lt [rowI (FI .u8) v0 5 p0]) w) (p1 : Int) (r : (List Int)) (H : cipher_put p0 p1 = some r) :
  Calls Tryd.prog 120 [v0, (.int .u32 p1)].toArray w (PostI X M w fun M' x v => x = rowI (FI .u8) v 5 r) := by
 refine enterI 19 [(0, v0), (1, (.int .u32 p1))] Tryd.func120 rfl rfl rfl hs ?_
 clear hs
 intro Q hret
 unfold cipher_put at H
 refine c_sr fun _ hK1 => ?_
 refine va rfl rfl ?_
 refine w_nil (hK1 _ _ _ ?_)
 refine c_sr fun _ hK2 => ?_
 refine vm rfl rfl ?_
 refine vm rfl rfl ?_
 refine wv rfl (fun hf hs => r_conv Tryd.underlying70 Tryd.underlying5 (hf.ev rfl)) ?_
 refine vm rfl rfl ?_
 refine wv rfl (fun hf hs => r_shr (hf.ev rfl) (hf.ev rfl) (by decide)) ?_
 refine wv rfl (fun hf hs => r_conv Tryd.underlying70 Tryd.underlying5 (hf.ev rfl)) ?_
 refine vm rfl rfl ?_
 refine wv rfl (fun hf hs => r_shr (hf.ev rfl) (hf.ev rfl) (by decide)) ?_
 refine wv rfl (fun hf hs => r_conv Tryd.underlying70 Tryd.underlying5 (hf.ev rfl)) ?_
 refine vm rfl rfl ?_
 refine wv rfl (fun hf hs => r_shr (hf.ev rfl) (hf.ev rfl) (by decide)) ?_
 refine wv rfl (fun hf hs => r_conv Tryd.underlying70 Tryd.underlying5 (hf.ev rfl)) ?_
 refine w_bsl (F := (FI .u8)) (es := ([(IntKind.u8.wrap p1), (IntKind.u8.wrap (shrI .u32 p1 (8 : Int))), (IntKind.u8.wrap (shrI .u32 p1 (16 : Int))), (IntKind.u8.wrap (shrI .u32 p1 (24 : Int)))] : List Int)) (xs := [.tmp 7, .tmp 10, .tmp 13, .tmp 16]) (vs := [(.int .u8 (IntKind.u8.wrap p1)), (.int .u8 (IntKind.u8.wrap (shrI .u32 p1 (8 : Int)))), (.int .u8 (IntKind.u8.wrap (shrI .u32 p1 (16 : Int)))), (.int .u8 (IntKind.u8.wrap (shrI .u32 p1 (24 : Int))))]) Tryd.underlying66 te5 trivial rfl rfl rfl rfl rfl (by decide) ?_
 intro v3 M4 l5 h6 c7
 obtain ⟨g8, H⟩ := grd_s H
 refine w_app (F := (FI .u8)) (m2 := ([(IntKind.u8.wrap p1), (IntKind.u8.wrap (shrI .u32 p1 (8 : Int))), (IntKind.u8.wrap (shrI .u32 p1 (16 : Int))), (IntKind.u8.wrap (shrI .u32 p1 (24 : Int)))] : List Int)) (i := 0) Tryd.underlying66 te5 Tryd.underlying66 (.inl ⟨_, rfl⟩) trivial rfl rfl rfl rfl (Src.rs (FI.one _) h6) g8 ?_
 intro v9
 refine va rfl rfl ?_
 refine w_nil (hK2 _ _ _ ?_)
 obtain rfl := some_r H
 exact c_ret fun a w' hf hs => hret _ (.inl rfl) a w' hf.df ⟨_, _, _, Res.of1 rfl (RV.t hf rfl), hs.sel [0] (by decide) rfl, rfl⟩
theorem cipher_Block.calls {M : Heap} {w : World} (hM : Sub M w) (p0 : (List UInt8)) (p1 : Int) (p2 : (List UInt8)) (r : ((List UInt8) × Int)) (H : cipher_Block p0 p1 p2 = some r) :
  Calls Tryd.prog 87 [(str p0), (.int .u32 p1), (str p2)].toArray w (Post M w fun M' v => v = .tuple #[(str r.1), (.int .i64 r.2)]) := by
 refine enter 40 [(0, (str p0)), (1, (.int .u32 p1)), (2, (str p2))] Tryd.func87 rfl rfl rfl hM ?_
 intro Q hret
 unfold cipher_Block at H
 refine c_sr fun _ hK1 => ?_
 refine va rfl rfl ?_
 refine va rfl rfl ?_
 refine w_nil (hK1 _ _ _ ?_)
 refine c_sr fun _ hK2 => ?_
 refine vm rfl rfl ?_
 refine vm rfl rfl ?_
 refine vm rfl rfl ?_
 obtain ⟨t3, e8, H⟩ := bnd H
 refine w_call cf86 trivial rfl rfl (fun w hs => cipher_State.calls hs p0 p1 p2 _ e8) ?_
 rintro _ M5 l6 rfl
 refine vm rfl rfl ?_
 refine v_extract rfl rfl rfl ?_
 refine v_extract rfl rfl rfl ?_
 refine w_allocL (A := vI .u32 (Vector.replicate 16 (0 : Int))) tz131 trivial rfl rfl ?_
 intro b9
 refine w_store (i := 0) (vs := vI .u32 t3.1) (A' := vI .u32 t3.1) trivial rfl rfl rfl rfl ts131 (vI_len _) (vI_one _) (by rw [vI_len]; decide) (vI_whole _ _) ?_
 refine va rfl rfl ?_
 refine w_nil (hK2 _ _ _ ?_)
 refine c_seq fun K10 hK10 => ?_
 refine c_sr fun _ hK11 => ?_
 refine vm rfl rfl ?_
 refine wv rfl (fun hf hs => r_neq (hf.ev rfl) (hf.ev rfl)) ?_
 refine w_nil (hK11 _ _ _ ?_)
 refine c_if rfl (fun b12 => ?_) (fun b12 => ?_)
 ·replace H := if_t b12 H
  refine c_sr fun _ hK13 => ?_
  refine vm rfl rfl ?_
  refine va rfl rfl ?_
  refine va rfl rfl ?_
  refine w_nil (hK13 _ _ _ ?_)
  obtain rfl := some_r H
  exact c_ret fun a w' hf hs => hret _ (.inl rfl) a w' hf.df ⟨_, _, Res.of2 rfl (RV.t hf rfl) (RV.t hf rfl), hs.ext, rfl⟩
 replace H := if_f b12 H
 refine c_skip (hK10 _ _ _ ?_)
 refine c_sr fun _ hK14 => ?_
 obtain ⟨g16, H⟩ := grd_s H
 refine w_mk (F := (FI .u8)) Tryd.underlying66 fz5 trivial rfl rfl rfl g16.1 g16.2.1 g16.2.2 ?_
 intro v15
 refine va rfl rfl ?_
 refine w_nil (hK14 _ _ _ ?_)
 refine c_cut (fun a' w' => ∃ (x17 : (List Int)) (v18 : Value) (M19 : Heap), HLe M5 M19 ∧ Fr 40 [(10, v18)] a' ∧ St none' M w M19 (lt [dead, rowI (FI .u8) v18 5 x17]) w' ∧ cipher_Block.j1 x17 = some r) ?_ ?_
 ·refine c_seq ?_
  intro K25 hK25
  refine c_reg ?_
  refine wv rfl (fun hf hs => r_loadA ta131 ts131 (hf.ev rfl) (hs.blk (i := 0) rfl) (vI_all _) (vI_len _)) ?_
  obtain ⟨t26, e31, H⟩ := bnd H
  refine w_call cf119 trivial rfl rfl (fun w hs => cipher_Rounds.calls hs t3.1 _ e31) ?_
  rintro _ M28 l29 rfl
  refine vm rfl rfl ?_
  refine w_nil (hK25 _ _ _ ?_)
  refine c_block ?_
  refine c_loop (fun (s32 : ((List Int) × Int)) a' w' => ∃ (v33 : Value) (M34 : Heap), HLe M28 M34 ∧ Fr 40 [(8, (ptr b9 0)), (10, v33), (25, (.agg (vI .u32 t26).toArray)), (26, (.int .i64 s32.2))] a' ∧ St none' M w M34 (lt [.blk b9 (.cells (vI .u32 t3.1).toArray 131 (0, 0)), rowI (FI .u8) v33 5 s32.1]) w') ((List.replicate ((0 : Int)).toNat (0 : Int)), (0 : Int)) H ?_ ?_
  ·intro a w' hf hs
   exact ⟨v15, _, HLe.refl _, (hf.pick (pk (pk (pk (pk pk0 rfl) rfl) rfl) rfl)), hs.selD [some 0, some 1] (by decide) rfl⟩
  clear H
  intro s32 y37 H r36 a w' hJ
  obtain ⟨v33, M34, l35, hf, hs⟩ := hJ
  refine c_of (c := (Cx.mk Tryd.prog 40 none' M w)) ?_ hf hs
  unfold cipher_Block.l2 at H
  clear hf hs
  refine c_sr fun _ hK38 => ?_
  refine v_lss rfl rfl rfl ?_
  refine w_nil (hK38 _ _ _ ?_)
  refine c_seq fun K39 hK39 => ?_
  refine c_if rfl (fun b40 => ?_) (fun b40 => ?_)
  ·replace H := if_t b40 H
   refine c_skip (hK39 _ _ _ ?_)
   refine c_seq fun K41 hK41 => ?_
   refine c_block ?_
   refine c_sr fun _ hK42 => ?_
   refine vm rfl rfl ?_
   obtain ⟨g43, H⟩ := grd_s H
   refine wv rfl (fun hf hs => r_index Tryd.underlying131 ta70 ts70 (hf.ev rfl) (hf.ev rfl) g43.1 g43.2 (vI_get g43.1 g43.2)) ?_
   refine va rfl rfl ?_
   refine va rfl rfl ?_
   refine w_nil (hK42 _ _ _ ?_)
   refine c_reg ?_
   refine vm rfl rfl ?_
   refine vm rfl rfl ?_
   refine vm rfl rfl ?_
   obtain ⟨g44, H⟩ := grd_s H
   refine wv rfl (fun hf hs => r_iaI Tryd.underlying131 ts70 (hf.ev rfl) (hf.ev rfl) g44.1 g44.2) ?_
   refine wv rfl (fun hf hs => r_load1 ta70 (hf.ev rfl) (hs.blk (i := 0) rfl) (vI_get0 g44.1 g44.2)) ?_
   refine v_add rfl rfl rfl ?_
   obtain ⟨t45, e46, H⟩ := bnd H
   refine w_callI 1 cf120 trivial rfl rfl rfl (fun X' w hs => cipher_put.calls hs (IntKind.u32.wrap ((rd t26.toList s32.2) + (rd t3.1.toList s32.2))) _ e46) ?_
   rintro v49 M47 _ l48 rfl
   refine va rfl rfl ?_
   refine w_nil (hK41 _ _ _ ?_)
   refine c_reg ?_
   refine v_add rfl rfl rfl ?_
   refine vm rfl rfl ?_
   exact w_nil fun a w' hf hs => ⟨_, (some_r H).symm, v49, _, l35.trans l48, (hf.pick (pk (pk (pk (pk pk0 rfl) rfl) rfl) rfl)), hs.selD [some 0, some 1] (by decide) rfl⟩
  replace H := if_f b40 H
  replace H := map_inr H r36
  refine c_exit ?_
  intro a w' hf hs
  exact ⟨s32.1, v33, _, (l29.trans l35), (hf.pick (pk pk0 rfl)), hs.selD [none, some 1] (by decide) rfl, H⟩
 rintro a w' ⟨x17, v18, M19, l20, hf, hs, H⟩
 refine c_of (c := (Cx.mk Tryd.prog 40 none' M w)) ?_ hf hs
 unfold cipher_Block.j1 at H
 clear hf hs
 refine c_sr fun _ hK21 => ?_
 refine vm rfl rfl ?_
 refine w_give 1 rfl (fun _ h => h) ?_
 intro M22 l23 h24
 refine wv rfl (fun hf hs => r_b2s Tryd.underlying66 Tryd.underlying5 Tryd.underlying9 h24 hs.sub (hf.ev rfl)) ?_
 refine va rfl rfl ?_
 refine va rfl rfl ?_
 refine w_nil (hK21 _ _ _ ?_)
 obtain rfl := some_r H
 exact c_ret fun a w' hf hs => hret _ (.inl rfl) a w' hf.df ⟨_, _, Res.of2 rfl (RV.t hf rfl) (RV.t hf rfl), hs.ext, rfl⟩
theorem cipher_Xor.calls {M : Heap} {w : World} (hM : Sub M w) (p0 : (List UInt8)) (p1 : Int) (p2 : (List UInt8)) (p3 : (List UInt8)) (r : ((List UInt8) × Int)) (H : cipher_Xor p0 p1 p2 p3 = some r) :
  Calls Tryd.prog 40 [(str p0), (.int .u32 p1), (str p2), (str p3)].toArray w (Post M w fun M' v => v = .tuple #[(str r.1), (.int .i64 r.2)]) := by
 refine enter 57 [(0, (str p0)), (1, (.int .u32 p1)), (2, (str p2)), (3, (str p3))] Tryd.func40 rfl rfl rfl hM ?_
 intro Q hret
 unfold cipher_Xor at H
 refine c_sr fun _ hK1 => ?_
 refine va rfl rfl ?_
 refine va rfl rfl ?_
 refine w_nil (hK1 _ _ _ ?_)
 refine c_seq fun K2 hK2 => ?_
 refine c_sr fun _ hK3 => ?_
 refine vm rfl rfl ?_
 refine vm rfl rfl ?_
 refine vm rfl rfl ?_
 obtain ⟨t4, e9, H⟩ := bnd H
 refine w_call cf86 trivial rfl rfl (fun w hs => cipher_State.calls hs p0 p1 p2 _ e9) ?_
 rintro _ M6 l7 rfl
 refine vm rfl rfl ?_
 refine v_extract rfl rfl rfl ?_
 refine v_extract rfl rfl rfl ?_
 refine w_allocL (A := vI .u32 (Vector.replicate 16 (0 : Int))) tz131 trivial rfl rfl ?_
 intro b10
 refine w_store (i := 0) (vs := vI .u32 t4.1) (A' := vI .u32 t4.1) trivial rfl rfl rfl rfl ts131 (vI_len _) (vI_one _) (by rw [vI_len]; decide) (vI_whole _ _) ?_
 refine va rfl rfl ?_
 refine w_nil (hK3 _ _ _ ?_)
 refine c_sr fun _ hK11 => ?_
 refine vm rfl rfl ?_
 refine wv rfl (fun hf hs => r_neq (hf.ev rfl) (hf.ev rfl)) ?_
 refine w_nil (hK11 _ _ _ ?_)
 refine c_if rfl (fun b12 => ?_) (fun b12 => ?_)
 ·replace H := if_t b12 H
  refine c_sr fun _ hK13 => ?_
  refine vm rfl rfl ?_
  refine va rfl rfl ?_
  refine va rfl rfl ?_
  refine w_nil (hK13 _ _ _ ?_)
  obtain rfl := some_r H
  exact c_ret fun a w' hf hs => hret _ (.inl rfl) a w' hf.df ⟨_, _, Res.of2 rfl (RV.t hf rfl) (RV.t hf rfl), hs.ext, rfl⟩
 replace H := if_f b12 H
 refine c_skip (hK2 _ _ _ ?_)
 refine c_sr fun _ hK14 => ?_
 refine vm rfl rfl ?_
 refine w_s2bW Tryd.underlying9 Tryd.underlying66 Tryd.underlying5 trivial rfl rfl ?_
 intro v15
 refine va rfl rfl ?_
 refine va rfl rfl ?_
 refine w_nil (hK14 _ _ _ ?_)
 refine c_cut (fun a' w' => ∃ (x16 : (List Int)) (v17 : Value) (M18 : Heap), HLe M6 M18 ∧ Fr 57 [(12, v17)] a' ∧ St none' M w M18 (lt [dead, rowI (FI .u8) v17 5 x16]) w' ∧ cipher_Xor.j1 x16 = some r) ?_ ?_
 ·refine c_seq ?_
  intro K24 hK24
  refine c_reg ?_
  refine vm rfl rfl ?_
  refine wv rfl (fun hf hs => r_lenW 1 hs rfl Tryd.underlying66 (hf.ev rfl)) ?_
  refine vm rfl rfl ?_
  refine w_nil (hK24 _ _ _ ?_)
  refine c_block ?_
  refine c_loop (fun (s25 : ((List Int) × Int × (List UInt8) × Int)) a' w' => ∃ (v26 : Value) (M27 : Heap), HLe M6 M27 ∧ Fr 57 [(0, (str p0)), (1, (.int .u32 s25.2.1)), (2, (str p2)), (12, v26), (13, (str s25.2.2.1)), (28, (.int .i64 ((bytesI p3).length : Int))), (29, (.int .i64 s25.2.2.2))] a' ∧ St none' M w M27 (lt [dead, rowI (FI .u8) v26 5 s25.1]) w') ((bytesI p3), p1, ([] : List UInt8), (0 : Int)) H ?_ ?_
  ·intro a w' hf hs
   exact ⟨v15, _, HLe.refl _, (hf.pick (pk (pk (pk (pk (pk (pk (pk pk0 rfl) rfl) rfl) rfl) rfl) rfl) rfl)), hs.selD [none, some 1] (by decide) rfl⟩
  clear H
  intro s25 y30 H r29 a w' hJ
  obtain ⟨v26, M27, l28, hf, hs⟩ := hJ
  refine c_of (c := (Cx.mk Tryd.prog 57 none' M w)) ?_ hf hs
  unfold cipher_Xor.l3 at H
  clear hf hs
  refine c_sr fun _ hK31 => ?_
  refine v_lss rfl rfl rfl ?_
  refine w_nil (hK31 _ _ _ ?_)
  refine c_seq fun K32 hK32 => ?_
  refine c_if rfl (fun b33 => ?_) (fun b33 => ?_)
  ·replace H := if_t b33 H
   refine c_skip (hK32 _ _ _ ?_)
   refine c_seq fun K34 hK34 => ?_
   refine c_block ?_
   refine c_sr fun _ hK35 => ?_
   refine vm rfl rfl ?_
   refine va rfl rfl ?_
   refine w_nil (hK35 _ _ _ ?_)
   refine c_cut (fun a' w' => ∃ (x36 : Int) (x37 : (List UInt8)) (M38 : Heap), HLe M27 M38 ∧ Fr 57 [(0, (str p0)), (1, (.int .u32 x36)), (2, (str p2)), (12, v26), (13, (str x37)), (14, (.int .i64 s25.2.2.2)), (28, (.int .i64 ((bytesI p3).length : Int))), (29, (.int .i64 s25.2.2.2))] a' ∧ St none' M w M38 (lt [dead, rowI (FI .u8) v26 5 s25.1]) w' ∧ cipher_Xor.j2 s25 x37 x36 = some y30) ?_ ?_
   ·refine c_seq ?_
    intro K72 hK72
    refine c_reg ?_
    refine vm rfl rfl ?_
    refine wv rfl (fun hf hs => r_rem (hf.ev rfl) (hf.ev rfl) (by decide)) ?_
    refine wv rfl (fun hf hs => r_eql (hf.ev rfl) (hf.ev rfl)) ?_
    refine w_nil (hK72 _ _ _ ?_)
    refine c_if rfl (fun b73 => ?_) (fun b73 => ?_)
    ·replace H := if_t b73 H
     refine c_sr fun _ hK74 => ?_
     refine vm rfl rfl ?_
     refine vm rfl rfl ?_
     refine vm rfl rfl ?_
     obtain ⟨t75, e80, H⟩ := bnd H
     refine w_call cf87 trivial rfl rfl (fun w hs => cipher_Block.calls hs p0 s25.2.1 p2 _ e80) ?_
     rintro _ M77 l78 rfl
     refine vm rfl rfl ?_
     refine v_extract rfl rfl rfl ?_
     refine v_extract rfl rfl rfl ?_
     refine va rfl rfl ?_
     refine w_nil (hK74 _ _ _ ?_)
     refine c_reg ?_
     refine vm rfl rfl ?_
     refine v_add rfl rfl rfl ?_
     refine va rfl rfl ?_
     exact w_nil fun a w' hf hs => ⟨(IntKind.u32.wrap (s25.2.1 + (1 : Int))), t75.1, _, l78, (hf.pick (pk (pk (pk (pk (pk (pk (pk (pk pk0 rfl) rfl) rfl) rfl) rfl) rfl) rfl) rfl)), hs.selD [none, some 1] (by decide) rfl, H⟩
    replace H := if_f b73 H
    refine c_skip ?_
    intro a w' hf hs
    exact ⟨s25.2.1, s25.2.2.1, _, (HLe.refl _), (hf.pick (pk (pk (pk (pk (pk (pk (pk (pk pk0 rfl) rfl) rfl) rfl) rfl) rfl) rfl) rfl)), hs.selD [none, some 1] (by decide) rfl, H⟩
   rintro a w' ⟨x36, x37, M38, l39, hf, hs, H⟩
   refine c_of (c := (Cx.mk Tryd.prog 57 none' M w)) ?_ hf hs
   unfold cipher_Xor.j2 at H
   clear hf hs
   refine c_split2 8 (by kernel_rfl) (by kernel_rfl) (by kernel_rfl) (by kernel_rfl) rfl ?_
   intro K40 hK40
   obtain ⟨g49, H⟩ := grd_s H
   obtain ⟨g64, H⟩ := grd_s H
   refine d_drawP [([], [12]), ([], [14]), ([(0, 44), (1, 45)], []), ([(2, 46)], []), ([], [13]), ([], [14]), ([(5, 49)], []), ([(4, 48), (6, 50)], [])] [vq v26, vq (.int .i64 s25.2.2.2), vq (eP v26 s25.2.2.2 1 0), vq (.int .u8 (rd s25.1 s25.2.2.2)), vq (str x37), vq (.int .i64 s25.2.2.2), vq (.int .i64 (Int.tmod s25.2.2.2 (64 : Int))), vq (.int .u8 (sbyte x37 (Int.tmod s25.2.2.2 (64 : Int))))] (by kernel_rfl) (by kernel_rfl) ?_ (aT ?_ (aT ?_ (aT ?_ (aT ?_ (aT ?_ (aT ?_ (aT ?_ (aT ?_ AllT.nil)))))))) ?_
   ·exact (mC (mC (mC (mC (mC (mC (mC (mC MonoA.nil))))))))
   ·intro a w' _ _ hd hs
    exact pv (hd.fr.add (hd.base 12 _ rfl rfl)) hs rfl (fun hf hs => r_move (hf.ev rfl)) rfl
   ·intro a w' _ _ hd hs
    exact pv (hd.fr.add (hd.base 14 _ rfl rfl)) hs rfl (fun hf hs => r_move (hf.ev rfl)) rfl
   ·intro a w' _ _ hd hs
    exact pv ((hd.fr.add (hd.val 1 45 _ rfl rfl)).add (hd.val 0 44 _ rfl rfl)) hs rfl (fun hf hs => r_iW 1 hs rfl Tryd.underlying66 ts5 (hf.ev rfl) (hf.ev rfl) g49.1 g49.2) rfl
   ·intro a w' _ _ hd hs
    exact pv (hd.fr.add (hd.val 2 46 _ rfl rfl)) hs rfl (fun hf hs => r_loadW1 1 ta5 hs rfl g49.1 g49.2 (hf.ev rfl) rfl) rfl
   ·intro a w' _ _ hd hs
    exact pv (hd.fr.add (hd.base 13 _ rfl rfl)) hs rfl (fun hf hs => r_move (hf.ev rfl)) rfl
   ·intro a w' _ _ hd hs
    exact pv (hd.fr.add (hd.base 14 _ rfl rfl)) hs rfl (fun hf hs => r_move (hf.ev rfl)) rfl
   ·intro a w' _ _ hd hs
    exact pv (hd.fr.add (hd.val 5 49 _ rfl rfl)) hs rfl (fun hf hs => r_rem (hf.ev rfl) (hf.ev rfl) (by decide)) rfl
   ·intro a w' _ _ hd hs
    exact pv ((hd.fr.add (hd.val 6 50 _ rfl rfl)).add (hd.val 4 48 _ rfl rfl)) hs rfl (fun hf hs => r_sidx Tryd.underlying9 (hf.ev rfl) (hf.ev rfl) g64.1 g64.2) rfl
   intro a w' M65 l66 hdf hsz hb hv hs
   have e67 := hv 0 44 _ rfl rfl
   have e68 := hv 1 45 _ rfl rfl
   have e69 := hv 3 47 _ rfl rfl
   have e70 := hv 7 51 _ rfl rfl
   refine n_of (c := (Cx.mk Tryd.prog 57 none' M w)) (l := [(0, (str p0)), (1, (.int .u32 x36)), (2, (str p2)), (12, v26), (13, (str x37)), (28, (.int .i64 ((bytesI p3).length : Int))), (29, (.int .i64 s25.2.2.2)), (44, v26), (45, (.int .i64 s25.2.2.2)), (47, (.int .u8 (rd s25.1 s25.2.2.2))), (51, (.int .u8 (sbyte x37 (Int.tmod s25.2.2.2 (64 : Int)))))]) ?_ ((((((((((((Fr.start hdf hsz).add e70).add e69).add e68).add e67).add (hb 29 _ rfl rfl)).add (hb 28 _ rfl rfl)).add (hb 13 _ rfl rfl)).add (hb 12 _ rfl rfl)).add (hb 2 _ rfl rfl)).add (hb 1 _ rfl rfl)).add (hb 0 _ rfl rfl)) hs
   clear hdf hsz hb hv hs e67 e68 e69 e70
   refine n_id (hK40 _ _ _ ?_)
   refine wv rfl (fun hf hs => r_xor (hf.ev rfl) (hf.ev rfl)) ?_
   obtain ⟨g71, H⟩ := grd_s H
   refine wv rfl (fun hf hs => r_iW 1 hs rfl Tryd.underlying66 ts5 (hf.ev rfl) (hf.ev rfl) g71.1 g71.2) ?_
   refine w_storeW (e := (bits .xor .u8 (rd s25.1 s25.2.2.2) (sbyte x37 (Int.tmod s25.2.2.2 (64 : Int))))) 1 (FI.one _) trivial rfl rfl rfl rfl ts5 g71.1 g71.2 ?_
   refine w_nil (hK34 _ _ _ ?_)
   refine c_reg ?_
   refine v_add rfl rfl rfl ?_
   refine vm rfl rfl ?_
   exact w_nil fun a w' hf hs => ⟨_, (some_r H).symm, v26, _, l28.trans (l39.trans l66), (hf.pick (pk (pk (pk (pk (pk (pk (pk pk0 rfl) rfl) rfl) rfl) rfl) rfl) rfl)), hs.selD [none, some 1] (by decide) rfl⟩
  replace H := if_f b33 H
  replace H := map_inr H r29
  refine c_exit ?_
  intro a w' hf hs
  exact ⟨s25.1, v26, _, l28, (hf.pick (pk pk0 rfl)), hs.selD [none, some 1] (by decide) rfl, H⟩
 rintro a w' ⟨x16, v17, M18, l19, hf, hs, H⟩
 refine c_of (c := (Cx.mk Tryd.prog 57 none' M w)) ?_ hf hs
 unfold cipher_Xor.j1 at H
 clear hf hs
 refine c_sr fun _ hK20 => ?_
 refine vm rfl rfl ?_
 refine w_give 1 rfl (fun _ h => h) ?_
 intro M21 l22 h23
 refine wv rfl (fun hf hs => r_b2s Tryd.underlying66 Tryd.underlying5 Tryd.underlying9 h23 hs.sub (hf.ev rfl)) ?_
 refine va rfl rfl ?_
 refine va rfl rfl ?_
 refine w_nil (hK20 _ _ _ ?_)
 obtain rfl := some_r H
 exact c_ret fun a w' hf hs => hret _ (.inl rfl) a w' hf.df ⟨_, _, Res.of2 rfl (RV.t hf rfl) (RV.t hf rfl), hs.ext, rfl⟩
theorem seal_Seal.calls {M : Heap} {w : World} (hM : Sub M w) (hG : Gl M) (p0 : (List UInt8)) (p1 : (List UInt8)) (p2 : (List UInt8)) (r : ((List UInt8) × Int)) (H : seal_Seal p0 p1 p2 = some r) :
  Calls Tryd.prog 15 [(str p0), (str p1), (str p2)].toArray w (Post M w fun M' v => v = .tuple #[(str r.1), (.int .i64 r.2)]) := by
 refine enter 58 [(0, (str p0)), (1, (str p1)), (2, (str p2))] Tryd.func15 rfl rfl rfl hM ?_
 intro Q hret
 unfold seal_Seal at H
 refine c_sr fun _ hK1 => ?_
 refine va rfl rfl ?_
 refine va rfl rfl ?_
 refine w_nil (hK1 _ _ _ ?_)
 refine c_sr fun _ hK2 => ?_
 refine vm rfl rfl ?_
 obtain ⟨t3, e8, H⟩ := bnd H
 refine w_call cf13 trivial rfl rfl (fun w hs => seal_Keys.calls hs hG p0 _ e8) ?_
 rintro _ M5 l6 rfl
 replace hG := hG.mono l6
 refine vm rfl rfl ?_
 refine v_extract rfl rfl rfl ?_
 refine v_extract rfl rfl rfl ?_
 refine v_extract rfl rfl rfl ?_
 refine va rfl rfl ?_
 refine va rfl rfl ?_
 refine va rfl rfl ?_
 refine w_nil (hK2 _ _ _ ?_)
 refine c_seq fun K9 hK9 => ?_
 refine c_block ?_
 refine c_sr fun _ hK10 => ?_
 refine vm rfl rfl ?_
 refine wv rfl (fun hf hs => r_neq (hf.ev rfl) (hf.ev rfl)) ?_
 refine va rfl rfl ?_
 refine w_nil (hK10 _ _ _ ?_)
 refine c_if rfl (fun b11 => ?_) (fun b11 => ?_)
 ·replace H := if_t b11 H
  refine c_sr fun _ hK12 => ?_
  refine vm rfl rfl ?_
  refine va rfl rfl ?_
  refine va rfl rfl ?_
  refine w_nil (hK12 _ _ _ ?_)
  obtain rfl := some_r H
  exact c_ret fun a w' hf hs => hret _ (.inl rfl) a w' hf.df ⟨_, _, Res.of2 rfl (RV.t hf rfl) (RV.t hf rfl), hs.ext, rfl⟩
 replace H := if_f b11 H
 obtain ⟨t13, H1, H⟩ := bnd H
 refine c_cut (fun a' w' => ∃ (M14 : Heap), HLe M5 M14 ∧ Fr 58 [(1, (str p1)), (2, (str p2)), (8, (str t3.1)), (9, (str t3.2.1)), (24, (.bool t13))] a' ∧ St none' M w M14 (lt []) w') ?_ ?_
 ·replace H := H1
  clear H1
  refine c_reg ?_
  refine vm rfl rfl ?_
  refine wv rfl (fun hf hs => r_slen Tryd.underlying9 (hf.ev rfl)) ?_
  refine wv rfl (fun hf hs => r_gtr (hf.ev rfl) (hf.ev rfl)) ?_
  refine vm rfl rfl ?_
  by_cases b16 : (decide ((1048576 : Int) < (p1.length : Int))) = true
  ·replace H := if_t b16 H
   refine wq b16 rfl rfl rfl ?_
   refine wq b16 rfl rfl rfl ?_
   refine wq b16 rfl rfl rfl ?_
   refine wv rfl (fun hf hs => r_pickT (hf.ev rfl) b16 (hf.ev rfl)) ?_
   refine va rfl rfl ?_
   obtain rfl := some_r H
   exact w_nil fun a w' hf hs => ⟨_, (HLe.refl _), (hf.pick (pk (pk (pk (pk (pk pk0 rfl) rfl) rfl) rfl) rfl)), hs.sel [] (by decide) rfl⟩
  replace b16 := Bool.eq_false_iff.2 b16
  replace H := if_f b16 H
  refine wg b16 rfl rfl rfl (fun hf hs => r_move (hf.ev rfl)) ?_
  refine wg b16 rfl rfl rfl (fun hf hs => r_slen Tryd.underlying9 (hf.ev rfl)) ?_
  refine wg b16 rfl rfl rfl (fun hf hs => r_gtr (hf.ev rfl) (hf.ev rfl)) ?_
  refine wv rfl (fun hf hs => r_pickF (hf.ev rfl) b16 (hf.ev rfl)) ?_
  refine va rfl rfl ?_
  obtain rfl := some_r H
  exact w_nil fun a w' hf hs => ⟨_, (HLe.refl _), (hf.pick (pk (pk (pk (pk (pk pk0 rfl) rfl) rfl) rfl) rfl)), hs.sel [] (by decide) rfl⟩
 clear H1
 rintro a w' ⟨M14, l15, hf, hs⟩
 refine c_of (c := (Cx.mk Tryd.prog 58 none' M w)) ?_ hf hs
 clear hf hs
 replace hG := hG.mono l15
 refine c_if rfl (fun b17 => ?_) (fun b17 => ?_)
 ·replace H := if_t b17 H
  refine c_sr fun _ hK18 => ?_
  refine va rfl rfl ?_
  refine va rfl rfl ?_
  refine w_nil (hK18 _ _ _ ?_)
  obtain rfl := some_r H
  exact c_ret fun a w' hf hs => hret _ (.inl rfl) a w' hf.df ⟨_, _, Res.of2 rfl (RV.t hf rfl) (RV.t hf rfl), hs.ext, rfl⟩
 replace H := if_f b17 H
 refine c_skip (hK9 _ _ _ ?_)
 refine c_sr fun _ hK19 => ?_
 refine vm rfl rfl ?_
 obtain ⟨t20, e25, H⟩ := bnd H
 refine w_call cf38 trivial rfl rfl (fun w hs => wire_Bytes.calls hs p1 _ e25) ?_
 rintro v61 M22 l23 ⟨v26, hv_, h27⟩
 replace hv_ := hv_.symm
 subst hv_
 replace hG := hG.mono l23
 refine wv rfl (fun hf hs => r_b2s Tryd.underlying66 Tryd.underlying5 Tryd.underlying9 h27 hs.sub (hf.ev rfl)) ?_
 refine va rfl rfl ?_
 refine w_nil (hK19 _ _ _ ?_)
 refine c_sr fun _ hK28 => ?_
 refine vm rfl rfl ?_
 refine vm rfl rfl ?_
 refine vm rfl rfl ?_
 refine w_bsl (F := FS) (es := ([([110, 111, 110, 99, 101] : List UInt8), (intsB t20), p2] : List (List UInt8))) (xs := [.const (str ([110, 111, 110, 99, 101] : List UInt8)), .tmp 37, .tmp 38]) (vs := [(str ([110, 111, 110, 99, 101] : List UInt8)), (str (intsB t20)), (str p2)]) Tryd.underlying63 te9 trivial rfl rfl rfl rfl rfl (by decide) ?_
 intro v29 M30 l31 h32 c33
 replace hG := hG.mono l31
 obtain ⟨t34, e39, H⟩ := bnd H
 refine w_call cf39 trivial rfl rfl (fun w hs => seal_code.calls hs hG t3.2.1 (12 : Int) ([([110, 111, 110, 99, 101] : List UInt8), (intsB t20), p2] : List (List UInt8)) v29 h32 _ e39) ?_
 rintro _ M36 l37 rfl
 replace hG := hG.mono l37
 refine va rfl rfl ?_
 refine w_nil (hK28 _ _ _ ?_)
 refine c_sr fun _ hK40 => ?_
 refine vm rfl rfl ?_
 refine vm rfl rfl ?_
 refine vm rfl rfl ?_
 obtain ⟨t41, e46, H⟩ := bnd H
 refine w_call cf40 trivial rfl rfl (fun w hs => cipher_Xor.calls hs t3.1 (1 : Int) t34 p2 _ e46) ?_
 rintro _ M43 l44 rfl
 replace hG := hG.mono l44
 refine vm rfl rfl ?_
 refine v_extract rfl rfl rfl ?_
 refine v_extract rfl rfl rfl ?_
 refine va rfl rfl ?_
 refine va rfl rfl ?_
 refine w_nil (hK40 _ _ _ ?_)
 refine c_sr fun _ hK47 => ?_
 refine vm rfl rfl ?_
 refine vm rfl rfl ?_
 obtain ⟨g48, H⟩ := grd_s H
 refine wv rfl (fun hf hs => r_sadd (hf.ev rfl) (hf.ev rfl) g48) ?_
 refine vm rfl rfl ?_
 refine vm rfl rfl ?_
 refine vm rfl rfl ?_
 refine vm rfl rfl ?_
 refine w_bsl (F := FS) (es := ([([116, 97, 103] : List UInt8), t34, (intsB t20), t41.1] : List (List UInt8))) (xs := [.const (str ([116, 97, 103] : List UInt8)), .tmp 52, .tmp 53, .tmp 54]) (vs := [(str ([116, 97, 103] : List UInt8)), (str t34), (str (intsB t20)), (str t41.1)]) Tryd.underlying63 te9 trivial rfl rfl rfl rfl rfl (by decide) ?_
 intro v49 M50 l51 h52 c53
 replace hG := hG.mono l51
 obtain ⟨t54, e59, H⟩ := bnd H
 refine w_call cf39 trivial rfl rfl (fun w hs => seal_code.calls hs hG t3.2.1 (16 : Int) ([([116, 97, 103] : List UInt8), t34, (intsB t20), t41.1] : List (List UInt8)) v49 h52 _ e59) ?_
 rintro _ M56 l57 rfl
 obtain ⟨g60, H⟩ := grd_s H
 refine wv rfl (fun hf hs => r_sadd (hf.ev rfl) (hf.ev rfl) g60) ?_
 refine va rfl rfl ?_
 refine va rfl rfl ?_
 refine w_nil (hK47 _ _ _ ?_)
 obtain rfl := some_r H
 exact c_ret fun a w' hf hs => hret _ (.inl rfl) a w' hf.df ⟨_, _, Res.of2 rfl (RV.t hf rfl) (RV.t hf rfl), hs.ext, rfl⟩
theorem backup_Make.calls {M : Heap} {w : World} (hM : Sub M w) (hG : Gl M) (p0 : (List UInt8)) (p1 : Backup) (v1 : Value) (h2 : RS Key.F M v1 p1.Keys) (r : ((List UInt8) × Int)) (H : backup_Make p0 p1 = some r) :
  Calls Tryd.prog 21 [(str p0), (.agg (Backup.C p1 v1).toArray)].toArray w (Post M w fun M' v => v = .tuple #[(str r.1), (.int .i64 r.2)]) := by
 refine enter 37 [(0, (str p0)), (1, (.agg (Backup.C p1 v1).toArray))] Tryd.func21 rfl rfl rfl hM ?_
 intro Q hret
 unfold backup_Make at H
 refine c_sr fun _ hK3 => ?_
 refine w_boxM trivial rfl rfl rfl ?_
 intro b4 M5 l6 h7
 replace hG := hG.mono l6
 replace h2 := h2.mono l6
 refine va rfl rfl ?_
 refine va rfl rfl ?_
 refine w_nil (hK3 _ _ _ ?_)
 refine c_seq fun K8 hK8 => ?_
 obtain ⟨t9, H1, H⟩ := bnd H
 refine c_cut (fun a' w' => ∃ (M10 : Heap), HLe M5 M10 ∧ Fr 37 [(0, (str p0)), (3, (ptr b4 0)), (16, (.bool t9))] a' ∧ St none' M w M10 (lt []) w') ?_ ?_
 ·replace H := H1
  clear H1
  refine c_reg ?_
  refine vm rfl rfl ?_
  refine wv rfl (fun hf hs => r_slen Tryd.underlying9 (hf.ev rfl)) ?_
  refine wv rfl (fun hf hs => r_neq (hf.ev rfl) (hf.ev rfl)) ?_
  refine vm rfl rfl ?_
  by_cases b12 : ((p0.length : Int) != (32 : Int)) = true
  ·replace H := if_t b12 H
   refine wq b12 rfl rfl rfl ?_
   refine wq b12 rfl rfl rfl ?_
   refine wq b12 rfl rfl rfl ?_
   refine wv rfl (fun hf hs => r_pickT (hf.ev rfl) b12 (hf.ev rfl)) ?_
   obtain rfl := some_r H
   exact w_nil fun a w' hf hs => ⟨_, (HLe.refl _), (hf.pick (pk (pk (pk pk0 rfl) rfl) rfl)), hs.sel [] (by decide) rfl⟩
  replace b12 := Bool.eq_false_iff.2 b12
  replace H := if_f b12 H
  refine wg b12 rfl rfl rfl (fun hf hs => r_loadA ta36 ts36 (hf.ev rfl) (hs.sub _ _ h7) (Backup.d0_38 _ _) (Backup.len _ _)) ?_
  obtain ⟨t13, e18, H⟩ := bnd H
  refine w_call cf46 (Wnt.of rfl rfl b12) rfl rfl (fun w hs => backup_Valid.calls hs p1 v1 h2 _ e18) ?_
  rintro _ M15 l16 rfl
  replace hG := hG.mono l16
  replace h2 := h2.mono l16
  replace h7 := l16 _ _ h7
  refine wg b12 rfl rfl rfl (fun hf hs => r_not (hf.ev rfl)) ?_
  refine wv rfl (fun hf hs => r_pickF (hf.ev rfl) b12 (hf.ev rfl)) ?_
  obtain rfl := some_r H
  exact w_nil fun a w' hf hs => ⟨_, l16, (hf.pick (pk (pk (pk pk0 rfl) rfl) rfl)), hs.sel [] (by decide) rfl⟩
 clear H1
 rintro a w' ⟨M10, l11, hf, hs⟩
 refine c_of (c := (Cx.mk Tryd.prog 37 none' M w)) ?_ hf hs
 clear hf hs
 replace hG := hG.mono l11
 replace h2 := h2.mono l11
 replace h7 := l11 _ _ h7
 refine c_if rfl (fun b19 => ?_) (fun b19 => ?_)
 ·replace H := if_t b19 H
  refine c_sr fun _ hK20 => ?_
  refine va rfl rfl ?_
  refine va rfl rfl ?_
  refine w_nil (hK20 _ _ _ ?_)
  obtain rfl := some_r H
  exact c_ret fun a w' hf hs => hret _ (.inl rfl) a w' hf.df ⟨_, _, Res.of2 rfl (RV.t hf rfl) (RV.t hf rfl), hs.ext, rfl⟩
 replace H := if_f b19 H
 refine c_skip (hK8 _ _ _ ?_)
 refine c_sr fun _ hK21 => ?_
 refine wv rfl (fun hf hs => r_loadA ta36 ts36 (hf.ev rfl) (hs.sub _ _ h7) (Backup.d0_38 _ _) (Backup.len _ _)) ?_
 obtain ⟨t22, e27, H⟩ := bnd H
 refine w_call cf48 trivial rfl rfl (fun w hs => backup_Header.calls hs p1 v1 h2 _ e27) ?_
 rintro _ M24 l25 rfl
 replace hG := hG.mono l25
 replace h2 := h2.mono l25
 replace h7 := l25 _ _ h7
 refine va rfl rfl ?_
 refine w_nil (hK21 _ _ _ ?_)
 refine c_seq fun K28 hK28 => ?_
 obtain ⟨t34, e39, H⟩ := bnd H
 obtain ⟨t50, e55, H⟩ := bnd H
 obtain ⟨t61, e66, H⟩ := bnd H
 refine c_drawP [([], [0]), ([(0, 20)], []), ([], [6]), ([], [3]), ([(3, 23)], []), ([(4, 24)], []), ([(1, 21), (2, 22), (5, 25)], []), ([(6, 26)], []), ([(7, 19)], []), ([(7, 19)], []), ([(8, 27)], []), ([(9, 28)], [])] [vq (str p0), vq (str t34), vq (str t22), vq (ptr b4 37), vq v1, vq (str t50), vq (.tuple #[(str t61.1), (.int .i64 t61.2)]), vq (.tuple #[(str t61.1), (.int .i64 t61.2)]), vq (str t61.1), vq (.int .i64 t61.2), vq (str t61.1), vq (.int .i64 t61.2)] (by kernel_rfl) (by kernel_rfl) ?_ (aT ?_ (aT ?_ (aT ?_ (aT ?_ (aT ?_ (aT ?_ (aT ?_ (aT ?_ (aT ?_ (aT ?_ (aT ?_ (aT ?_ AllT.nil)))))))))))) ?_
 ·exact (mC (mC (mC (mC (mC (mC (mC (mC (mC (mC (mC (mC MonoA.nil))))))))))))
 ·intro a w' _ _ hd hs
  exact pv (hd.fr.add (hd.base 0 _ rfl rfl)) hs rfl (fun hf hs => r_move (hf.ev rfl)) rfl
 ·intro a w' _ l32 hd hs
  have e33 := hd.val 0 20 _ rfl rfl
  replace hG := hG.mono l32
  refine OP.ofW (l := [(20, (str p0))]) (hd.fr.add e33) hs rfl ?_
  refine w_call cf49 trivial rfl rfl (fun w hs => kdf_Derive.calls hs hG p0 ([98, 97, 99, 107, 117, 112] : List UInt8) ([] : (List (List UInt8))) (.slice none 0 0) RS.none _ e39) ?_
  rintro _ M36 l37 rfl
  exact w_nil fun a w' hf hs => ⟨rfl, hf.df, _, l37, hs, hf.get _ _ rfl⟩
 ·intro a w' _ _ hd hs
  exact pv (hd.fr.add (hd.base 6 _ rfl rfl)) hs rfl (fun hf hs => r_move (hf.ev rfl)) rfl
 ·intro a w' _ l43 hd hs
  replace h7 := l43 _ _ h7
  replace h2 := h2.mono l43
  exact pv (hd.fr.add (hd.base 3 _ rfl rfl)) hs rfl (fun hf hs => r_fa fa36_7 (hf.ev rfl)) rfl
 ·intro a w' _ l45 hd hs
  replace h2 := h2.mono l45
  exact pv (hd.fr.add (hd.val 3 23 _ rfl rfl)) hs rfl (fun hf hs => r_load1 ta34 (hf.ev rfl) (hs.sub _ _ (l45 _ _ h7)) (Backup.g37 _ _)) rfl
 ·intro a w' _ l48 hd hs
  have e49 := hd.val 4 24 _ rfl rfl
  replace h2 := h2.mono l48
  refine OP.ofW (l := [(24, v1)]) (hd.fr.add e49) hs rfl ?_
  refine w_call cf50 trivial rfl rfl (fun w hs => backup_content.calls hs p1.Keys v1 h2 _ e55) ?_
  rintro _ M52 l53 rfl
  exact w_nil fun a w' hf hs => ⟨rfl, hf.df, _, l53, hs, hf.get _ _ rfl⟩
 ·intro a w' _ l57 hd hs
  have e58 := hd.val 1 21 _ rfl rfl
  have e59 := hd.val 2 22 _ rfl rfl
  have e60 := hd.val 5 25 _ rfl rfl
  replace hG := hG.mono l57
  refine OP.ofW (l := [(21, (str t34)), (22, (str t22)), (25, (str t50))]) (((hd.fr.add e60).add e59).add e58) hs rfl ?_
  refine w_call cf15 trivial rfl rfl (fun w hs => seal_Seal.calls hs hG t34 t22 t50 _ e66) ?_
  rintro _ M63 l64 rfl
  exact w_nil fun a w' hf hs => ⟨rfl, hf.df, _, l64, hs, hf.get _ _ rfl⟩
 ·intro a w' _ _ hd hs
  exact pv (hd.fr.add (hd.val 6 26 _ rfl rfl)) hs rfl (fun hf hs => r_move (hf.ev rfl)) rfl
 ·intro a w' _ _ hd hs
  exact pv (hd.fr.add (hd.val 7 19 _ rfl rfl)) hs rfl (fun hf hs => r_extract (hf.ev rfl) rfl) rfl
 ·intro a w' _ _ hd hs
  exact pv (hd.fr.add (hd.val 7 19 _ rfl rfl)) hs rfl (fun hf hs => r_extract (hf.ev rfl) rfl) rfl
 ·intro a w' _ _ hd hs
  exact pv (hd.fr.add (hd.val 8 27 _ rfl rfl)) hs rfl (fun hf hs => r_assign (hf.ev rfl)) rfl
 ·intro a w' _ _ hd hs
  exact pv (hd.fr.add (hd.val 9 28 _ rfl rfl)) hs rfl (fun hf hs => r_assign (hf.ev rfl)) rfl
 intro a w' M82 l83 hdf hsz hb hv hs
 have e84 := hv 10 7 _ rfl rfl
 have e85 := hv 11 8 _ rfl rfl
 refine n_of (c := (Cx.mk Tryd.prog 37 none' M w)) (l := [(6, (str t22)), (7, (str t61.1)), (8, (.int .i64 t61.2))]) ?_ ((((Fr.start hdf hsz).add e85).add e84).add (hb 6 _ rfl rfl)) hs
 clear hdf hsz hb hv hs e84 e85
 refine n_id (hK28 _ _ _ ?_)
 refine c_seq fun K86 hK86 => ?_
 refine c_sr fun _ hK87 => ?_
 refine vm rfl rfl ?_
 refine wv rfl (fun hf hs => r_neq (hf.ev rfl) (hf.ev rfl)) ?_
 refine w_nil (hK87 _ _ _ ?_)
 refine c_if rfl (fun b88 => ?_) (fun b88 => ?_)
 ·replace H := if_t b88 H
  refine c_sr fun _ hK89 => ?_
  refine vm rfl rfl ?_
  refine va rfl rfl ?_
  refine va rfl rfl ?_
  refine w_nil (hK89 _ _ _ ?_)
  obtain rfl := some_r H
  exact c_ret fun a w' hf hs => hret _ (.inl rfl) a w' hf.df ⟨_, _, Res.of2 rfl (RV.t hf rfl) (RV.t hf rfl), hs.ext, rfl⟩
 replace H := if_f b88 H
 refine c_skip (hK86 _ _ _ ?_)
 refine c_sr fun _ hK90 => ?_
 refine vm rfl rfl ?_
 obtain ⟨t91, e96, H⟩ := bnd H
 refine w_call cf38 trivial rfl rfl (fun w hs => wire_Bytes.calls hs t22 _ e96) ?_
 rintro v100 M93 l94 ⟨v97, hv_, h98⟩
 replace hv_ := hv_.symm
 subst hv_
 refine wv rfl (fun hf hs => r_b2s Tryd.underlying66 Tryd.underlying5 Tryd.underlying9 h98 hs.sub (hf.ev rfl)) ?_
 refine vm rfl rfl ?_
 obtain ⟨g99, H⟩ := grd_s H
 refine wv rfl (fun hf hs => r_sadd (hf.ev rfl) (hf.ev rfl) g99) ?_
 refine va rfl rfl ?_
 refine va rfl rfl ?_
 refine w_nil (hK90 _ _ _ ?_)
 obtain rfl := some_r H
 exact c_ret fun a w' hf hs => hret _ (.inl rfl) a w' hf.df ⟨_, _, Res.of2 rfl (RV.t hf rfl) (RV.t hf rfl), hs.ext, rfl⟩
theorem backup_reader_check.calls {M : Heap} {w : World} {b : Nat} {T : TypeId} {q : List Value} {x_ : backup_reader} {v1 : Value} (hs : St (fun k => k = b) M w M (lt [.blk b (.cells ((backup_reader.C x_ v1 ++ q)).toArray T (0, 0))]) w) (h2 : RS (FI .u8) M v1 x_.rest_) (p1 : Bool) (p2 : Int) (r : (Bool × backup_reader)) (H : backup_reader_check x_ p1 p2 = some r) :
  Calls Tryd.prog 55 [(ptr b 0), (.bool p1), (.int .i64 p2)].toArray w (PostI (fun k => k = b) M w fun M' x v => ∃ (v15 : Value), v = (.bool r.1) ∧ RS (FI .u8) M' v15 r.2.rest_ ∧ x = .blk b (.cells ((backup_reader.C r.2 v15 ++ q)).toArray T (0, 0))) := by
 refine enterI 25 [(0, (ptr b 0)), (1, (.bool p1)), (2, (.int .i64 p2))] Tryd.func55 rfl rfl rfl hs ?_
 clear hs
 intro Q hret
 unfold backup_reader_check at H
 refine c_sr fun _ hK3 => ?_
 refine va rfl rfl ?_
 refine w_nil (hK3 _ _ _ ?_)
 refine c_cut (fun a' w' => ∃ (x4 : backup_reader) (v5 : Value) (M7 : Heap), HLe M M7 ∧ RS (FI .u8) M7 v5 x4.rest_ ∧ Fr 25 [(0, (ptr b 0))] a' ∧ St (fun k => k = b) M w M7 (lt [.blk b (.cells ((backup_reader.C x4 v5 ++ q)).toArray T (0, 0))]) w' ∧ backup_reader_check.j1 x4 = some r) ?_ ?_
 ·obtain ⟨t10, H1, H⟩ := bnd H
  refine c_cut (fun a' w' => ∃ (M11 : Heap), HLe M M11 ∧ Fr 25 [(0, (ptr b 0)), (2, (.int .i64 p2)), (15, (.bool t10))] a' ∧ St (fun k => k = b) M w M11 (lt [.blk b (.cells ((backup_reader.C x_ v1 ++ q)).toArray T (0, 0))]) w') ?_ ?_
  ·replace H := H1
   clear H1
   refine c_reg ?_
   refine vm rfl rfl ?_
   refine wv rfl (fun hf hs => r_nilCheck (hf.ev rfl)) ?_
   refine v_fa fa80_1 rfl rfl ?_
   refine wv rfl (fun hf hs => r_load1 ta24 (hf.ev rfl) (hs.blk (i := 0) rfl) rfl) ?_
   refine wv rfl (fun hf hs => r_eql (hf.ev rfl) (hf.ev rfl)) ?_
   refine vm rfl rfl ?_
   by_cases b13 : (x_.e == (0 : Int)) = true
   ·replace H := if_t b13 H
    refine wg b13 rfl rfl rfl (fun hf hs => r_move (hf.ev rfl)) ?_
    refine wg b13 rfl rfl rfl (fun hf hs => r_not (hf.ev rfl)) ?_
    refine wv rfl (fun hf hs => r_pickT (hf.ev rfl) b13 (hf.ev rfl)) ?_
    obtain rfl := some_r H
    exact w_nil fun a w' hf hs => ⟨_, (HLe.refl _), (hf.pick (pk (pk (pk pk0 rfl) rfl) rfl)), hs.sel [0] (by decide) rfl⟩
   replace b13 := Bool.eq_false_iff.2 b13
   replace H := if_f b13 H
   refine wq b13 rfl rfl rfl ?_
   refine wq b13 rfl rfl rfl ?_
   refine wv rfl (fun hf hs => r_pickF (hf.ev rfl) b13 (hf.ev rfl)) ?_
   obtain rfl := some_r H
   exact w_nil fun a w' hf hs => ⟨_, (HLe.refl _), (hf.pick (pk (pk (pk pk0 rfl) rfl) rfl)), hs.sel [0] (by decide) rfl⟩
  clear H1
  rintro a w' ⟨M11, l12, hf, hs⟩
  refine c_of (c := (Cx.mk Tryd.prog 25 (fun k => k = b) M w)) ?_ hf hs
  clear hf hs
  replace h2 := h2.mono l12
  refine c_if rfl (fun b14 => ?_) (fun b14 => ?_)
  ·replace H := if_t b14 H
   refine c_reg ?_
   refine vm rfl rfl ?_
   refine vm rfl rfl ?_
   refine wv rfl (fun hf hs => r_nilCheck (hf.ev rfl)) ?_
   refine v_fa fa80_1 rfl rfl ?_
   refine w_store (i := 0) (vs := [(.int .i64 p2)]) (A' := (backup_reader.C ({ x_ with e := p2 } : backup_reader) v1 ++ q)) trivial rfl rfl rfl rfl ts24 rfl (one1 rfl) (Nat.le_of_ble_eq_true rfl) rfl ?_
   exact w_nil fun a w' hf hs => ⟨({ x_ with e := p2 } : backup_reader), v1, _, l12, h2, (hf.pick (pk pk0 rfl)), hs.selD [some 0] (by decide) rfl, H⟩
  replace H := if_f b14 H
  refine c_skip ?_
  intro a w' hf hs
  exact ⟨x_, v1, _, l12, h2, (hf.pick (pk pk0 rfl)), hs.selD [some 0] (by decide) rfl, H⟩
 rintro a w' ⟨x4, v5, M7, l8, h6, hf, hs, H⟩
 refine c_of (c := (Cx.mk Tryd.prog 25 (fun k => k = b) M w)) ?_ hf hs
 unfold backup_reader_check.j1 at H
 clear hf hs
 refine c_sr fun _ hK9 => ?_
 refine vm rfl rfl ?_
 refine wv rfl (fun hf hs => r_nilCheck (hf.ev rfl)) ?_
 refine v_fa fa80_1 rfl rfl ?_
 refine wv rfl (fun hf hs => r_load1 ta24 (hf.ev rfl) (hs.blk (i := 0) rfl) rfl) ?_
 refine wv rfl (fun hf hs => r_eql (hf.ev rfl) (hf.ev rfl)) ?_
 refine va rfl rfl ?_
 refine w_nil (hK9 _ _ _ ?_)
 obtain rfl := some_r H
 exact c_ret fun a w' hf hs => hret _ (.inl rfl) a w' hf.df ⟨_, _, _, Res.of1 rfl (RV.t hf rfl), hs.sel [0] (by decide) rfl, ⟨_, rfl, h6, rfl⟩⟩
theorem wire_GetInt.calls {M : Heap} {w : World} (hM : Sub M w) (p0 : (List Int)) (v1 : Value) (h2 : RS (FI .u8) M v1 p0) (r : (Int × Int × Int)) (H : wire_GetInt p0 = some r) :
  Calls Tryd.prog 129 [v1].toArray w (Post M w fun M' v => v = .tuple #[(.int .i64 r.1), (.int .i64 r.2.1), (.int .i64 r.2.2)]) := by
 refine enter 71 [(0, v1)] Tryd.func129 rfl rfl rfl hM ?_
 intro Q hret
 unfold wire_GetInt at H
 refine c_sr fun _ hK3 => ?_
 refine va rfl rfl ?_
 refine va rfl rfl ?_
 refine va rfl rfl ?_
 refine w_nil (hK3 _ _ _ ?_)
 refine c_seq fun K4 hK4 => ?_
 refine c_sr fun _ hK5 => ?_
 refine vm rfl rfl ?_
 refine wv rfl (fun hf hs => r_lenR Tryd.underlying66 h2 (hf.ev rfl)) ?_
 refine wv rfl (fun hf hs => r_eql (hf.ev rfl) (hf.ev rfl)) ?_
 refine w_nil (hK5 _ _ _ ?_)
 refine c_if rfl (fun b6 => ?_) (fun b6 => ?_)
 ·replace H := if_t b6 H
  refine c_sr fun _ hK7 => ?_
  refine va rfl rfl ?_
  refine va rfl rfl ?_
  refine va rfl rfl ?_
  refine w_nil (hK7 _ _ _ ?_)
  obtain rfl := some_r H
  exact c_ret fun a w' hf hs => hret _ (.inl rfl) a w' hf.df ⟨_, _, Res.of3 rfl (RV.t hf rfl) (RV.t hf rfl) (RV.t hf rfl), hs.ext, rfl⟩
 replace H := if_f b6 H
 refine c_skip (hK4 _ _ _ ?_)
 refine c_sr fun _ hK8 => ?_
 refine va rfl rfl ?_
 refine w_nil (hK8 _ _ _ ?_)
 refine c_cut (fun a' w' => ∃ (x9 : Int) (M10 : Heap), HLe M M10 ∧ Fr 71 [(0, v1), (5, (.int .u8 x9))] a' ∧ St none' M w M10 (lt []) w' ∧ wire_GetInt.j4 p0 x9 = some r) ?_ ?_
 ·refine c_seq ?_
  intro K57 hK57
  refine c_reg ?_
  refine vm rfl rfl ?_
  obtain ⟨g58, H⟩ := grd_s H
  refine wv rfl (fun hf hs => r_iR Tryd.underlying66 ts5 h2 (hf.ev rfl) (hf.ev rfl) g58.1 g58.2) ?_
  refine wv rfl (fun hf hs => r_loadE1 ta5 h2 hs.sub g58.1 g58.2 (hf.ev rfl) rfl) ?_
  refine v_lss rfl rfl rfl ?_
  refine w_nil (hK57 _ _ _ ?_)
  refine c_if rfl (fun b59 => ?_) (fun b59 => ?_)
  ·replace H := if_t b59 H
   refine c_reg ?_
   refine va rfl rfl ?_
   exact w_nil fun a w' hf hs => ⟨(255 : Int), _, (HLe.refl _), (hf.pick (pk (pk pk0 rfl) rfl)), hs.selD [] (by decide) rfl, H⟩
  replace H := if_f b59 H
  refine c_skip ?_
  intro a w' hf hs
  exact ⟨(0 : Int), _, (HLe.refl _), (hf.pick (pk (pk pk0 rfl) rfl)), hs.selD [] (by decide) rfl, H⟩
 rintro a w' ⟨x9, M10, l11, hf, hs, H⟩
 refine c_of (c := (Cx.mk Tryd.prog 71 none' M w)) ?_ hf hs
 unfold wire_GetInt.j4 at H
 clear hf hs
 replace h2 := h2.mono l11
 refine c_sr fun _ hK12 => ?_
 refine vm rfl rfl ?_
 obtain ⟨g13, H⟩ := grd_s H
 refine wv rfl (fun hf hs => r_iR Tryd.underlying66 ts5 h2 (hf.ev rfl) (hf.ev rfl) g13.1 g13.2) ?_
 refine wv rfl (fun hf hs => r_loadE1 ta5 h2 hs.sub g13.1 g13.2 (hf.ev rfl) rfl) ?_
 refine vm rfl rfl ?_
 refine wv rfl (fun hf hs => r_xor (hf.ev rfl) (hf.ev rfl)) ?_
 refine wv rfl (fun hf hs => r_conv Tryd.underlying5 Tryd.underlying3 (hf.ev rfl)) ?_
 refine wv rfl (fun hf hs => r_sub (hf.ev rfl) (hf.ev rfl)) ?_
 refine va rfl rfl ?_
 refine w_nil (hK12 _ _ _ ?_)
 refine c_seq fun K14 hK14 => ?_
 refine c_block ?_
 refine c_sr fun _ hK15 => ?_
 refine vm rfl rfl ?_
 refine wv rfl (fun hf hs => r_gtr (hf.ev rfl) (hf.ev rfl)) ?_
 refine va rfl rfl ?_
 refine w_nil (hK15 _ _ _ ?_)
 refine c_if rfl (fun b16 => ?_) (fun b16 => ?_)
 ·replace H := if_t b16 H
  refine c_sr fun _ hK17 => ?_
  refine va rfl rfl ?_
  refine va rfl rfl ?_
  refine va rfl rfl ?_
  refine w_nil (hK17 _ _ _ ?_)
  obtain rfl := some_r H
  exact c_ret fun a w' hf hs => hret _ (.inl rfl) a w' hf.df ⟨_, _, Res.of3 rfl (RV.t hf rfl) (RV.t hf rfl) (RV.t hf rfl), hs.ext, rfl⟩
 replace H := if_f b16 H
 refine c_sr fun _ hK18 => ?_
 refine vm rfl rfl ?_
 refine wv rfl (fun hf hs => r_lenR Tryd.underlying66 h2 (hf.ev rfl)) ?_
 refine vm rfl rfl ?_
 refine wv rfl (fun hf hs => r_leq (hf.ev rfl) (hf.ev rfl)) ?_
 refine va rfl rfl ?_
 refine w_nil (hK18 _ _ _ ?_)
 refine c_if rfl (fun b19 => ?_) (fun b19 => ?_)
 ·replace H := if_t b19 H
  refine c_sr fun _ hK20 => ?_
  refine va rfl rfl ?_
  refine va rfl rfl ?_
  refine va rfl rfl ?_
  refine w_nil (hK20 _ _ _ ?_)
  obtain rfl := some_r H
  exact c_ret fun a w' hf hs => hret _ (.inl rfl) a w' hf.df ⟨_, _, Res.of3 rfl (RV.t hf rfl) (RV.t hf rfl) (RV.t hf rfl), hs.ext, rfl⟩
 replace H := if_f b19 H
 obtain ⟨t21, H1, H⟩ := bnd H
 refine c_cut (fun a' w' => ∃ (M22 : Heap), HLe M10 M22 ∧ Fr 71 [(0, v1), (5, (.int .u8 x9)), (6, (.int .i64 (IntKind.i64.wrap ((IntKind.i64.wrap (bits .xor .u8 (rd p0 0) x9)) - (128 : Int))))), (32, (.bool t21))] a' ∧ St none' M w M22 (lt []) w') ?_ ?_
 ·replace H := H1
  clear H1
  refine c_reg ?_
  refine vm rfl rfl ?_
  refine wv rfl (fun hf hs => r_gtr (hf.ev rfl) (hf.ev rfl)) ?_
  refine vm rfl rfl ?_
  by_cases b24 : (decide ((0 : Int) < (IntKind.i64.wrap ((IntKind.i64.wrap (bits .xor .u8 (rd p0 0) x9)) - (128 : Int))))) = true
  ·replace H := if_t b24 H
   refine wg b24 rfl rfl rfl (fun hf hs => r_move (hf.ev rfl)) ?_
   obtain ⟨g25, H⟩ := grd_s H
   refine wg b24 rfl rfl rfl (fun hf hs => r_iR Tryd.underlying66 ts5 h2 (hf.ev rfl) (hf.ev rfl) g25.1 g25.2) ?_
   refine wg b24 rfl rfl rfl (fun hf hs => r_loadE1 ta5 h2 hs.sub g25.1 g25.2 (hf.ev rfl) rfl) ?_
   refine wg b24 rfl rfl rfl (fun hf hs => r_move (hf.ev rfl)) ?_
   refine wg b24 rfl rfl rfl (fun hf hs => r_xor (hf.ev rfl) (hf.ev rfl)) ?_
   refine wg b24 rfl rfl rfl (fun hf hs => r_eql (hf.ev rfl) (hf.ev rfl)) ?_
   refine wv rfl (fun hf hs => r_pickT (hf.ev rfl) b24 (hf.ev rfl)) ?_
   refine va rfl rfl ?_
   obtain rfl := some_r H
   exact w_nil fun a w' hf hs => ⟨_, (HLe.refl _), (hf.pick (pk (pk (pk (pk pk0 rfl) rfl) rfl) rfl)), hs.sel [] (by decide) rfl⟩
  replace b24 := Bool.eq_false_iff.2 b24
  replace H := if_f b24 H
  refine wq b24 rfl rfl rfl ?_
  refine wq b24 rfl rfl rfl ?_
  refine wq b24 rfl rfl rfl ?_
  refine wq b24 rfl rfl rfl ?_
  refine wq b24 rfl rfl rfl ?_
  refine wq b24 rfl rfl rfl ?_
  refine wv rfl (fun hf hs => r_pickF (hf.ev rfl) b24 (hf.ev rfl)) ?_
  refine va rfl rfl ?_
  obtain rfl := some_r H
  exact w_nil fun a w' hf hs => ⟨_, (HLe.refl _), (hf.pick (pk (pk (pk (pk pk0 rfl) rfl) rfl) rfl)), hs.sel [] (by decide) rfl⟩
 clear H1
 rintro a w' ⟨M22, l23, hf, hs⟩
 refine c_of (c := (Cx.mk Tryd.prog 71 none' M w)) ?_ hf hs
 clear hf hs
 replace h2 := h2.mono l23
 refine c_if rfl (fun b26 => ?_) (fun b26 => ?_)
 ·replace H := if_t b26 H
  refine c_sr fun _ hK27 => ?_
  refine va rfl rfl ?_
  refine va rfl rfl ?_
  refine va rfl rfl ?_
  refine w_nil (hK27 _ _ _ ?_)
  obtain rfl := some_r H
  exact c_ret fun a w' hf hs => hret _ (.inl rfl) a w' hf.df ⟨_, _, Res.of3 rfl (RV.t hf rfl) (RV.t hf rfl) (RV.t hf rfl), hs.ext, rfl⟩
 replace H := if_f b26 H
 refine c_skip (hK14 _ _ _ ?_)
 refine c_sr fun _ hK28 => ?_
 refine va rfl rfl ?_
 refine w_nil (hK28 _ _ _ ?_)
 refine c_cut (fun a' w' => ∃ (x29 : Int) (M30 : Heap), HLe M22 M30 ∧ Fr 71 [(5, (.int .u8 x9)), (6, (.int .i64 (IntKind.i64.wrap ((IntKind.i64.wrap (bits .xor .u8 (rd p0 0) x9)) - (128 : Int))))), (7, (.int .u64 x29))] a' ∧ St none' M w M30 (lt []) w' ∧ wire_GetInt.j2 x29 x9 p0 = some r) ?_ ?_
 ·refine c_seq ?_
  intro K42 hK42
  refine c_reg ?_
  refine vm rfl rfl ?_
  refine vm rfl rfl ?_
  refine v_add rfl rfl rfl ?_
  obtain ⟨g45, H⟩ := grd_s H
  refine w_ex (Φ := fun v => RS (FI .u8) M22 v ((p0.take ((IntKind.i64.wrap ((IntKind.i64.wrap ((IntKind.i64.wrap (bits .xor .u8 (rd p0 0) x9)) - (128 : Int))) + (1 : Int)))).toNat).drop ((1 : Int)).toNat)) trivial rfl (fun a w hf hs => r_slR Tryd.underlying66 ts5 (hf.ev rfl) h2 ⟨_, hf.ev rfl⟩ ⟨_, hf.ev rfl⟩ g45.1 g45.2.1 g45.2.2) ?_
  intro v43 h44
  refine wv rfl (fun hf hs => r_lenR Tryd.underlying66 h44 (hf.ev rfl)) ?_
  refine vm rfl rfl ?_
  refine w_nil (hK42 _ _ _ ?_)
  refine c_block ?_
  refine c_loop (fun (s46 : (Int × Int)) a' w' => ∃ (M47 : Heap), HLe M22 M47 ∧ Fr 71 [(5, (.int .u8 x9)), (6, (.int .i64 (IntKind.i64.wrap ((IntKind.i64.wrap (bits .xor .u8 (rd p0 0) x9)) - (128 : Int))))), (7, (.int .u64 s46.1)), (46, v43), (47, (.int .i64 (((p0.take ((IntKind.i64.wrap ((IntKind.i64.wrap ((IntKind.i64.wrap (bits .xor .u8 (rd p0 0) x9)) - (128 : Int))) + (1 : Int)))).toNat).drop ((1 : Int)).toNat).length : Int))), (48, (.int .i64 s46.2))] a' ∧ St none' M w M47 (lt []) w') ((0 : Int), (0 : Int)) H ?_ ?_
  ·intro a w' hf hs
   exact ⟨_, HLe.refl _, (hf.pick (pk (pk (pk (pk (pk (pk pk0 rfl) rfl) rfl) rfl) rfl) rfl)), hs.selD [] (by decide) rfl⟩
  clear H
  intro s46 y50 H r49 a w' hJ
  obtain ⟨M47, l48, hf, hs⟩ := hJ
  refine c_of (c := (Cx.mk Tryd.prog 71 none' M w)) ?_ hf hs
  unfold wire_GetInt.l3 at H
  clear hf hs
  replace h44 := h44.mono l48
  refine c_sr fun _ hK51 => ?_
  refine v_lss rfl rfl rfl ?_
  refine w_nil (hK51 _ _ _ ?_)
  refine c_seq fun K52 hK52 => ?_
  refine c_if rfl (fun b53 => ?_) (fun b53 => ?_)
  ·replace H := if_t b53 H
   refine c_skip (hK52 _ _ _ ?_)
   refine c_seq fun K54 hK54 => ?_
   refine c_block ?_
   refine c_sr fun _ hK55 => ?_
   obtain ⟨g56, H⟩ := grd_s H
   refine wv rfl (fun hf hs => r_iR Tryd.underlying66 ts5 h44 (hf.ev rfl) (hf.ev rfl) g56.1 g56.2) ?_
   refine wv rfl (fun hf hs => r_loadE1 ta5 h44 hs.sub g56.1 g56.2 (hf.ev rfl) rfl) ?_
   refine va rfl rfl ?_
   refine w_nil (hK55 _ _ _ ?_)
   refine c_reg ?_
   refine vm rfl rfl ?_
   refine wv rfl (fun hf hs => r_shl (hf.ev rfl) (hf.ev rfl) (by decide)) ?_
   refine vm rfl rfl ?_
   refine vm rfl rfl ?_
   refine wv rfl (fun hf hs => r_xor (hf.ev rfl) (hf.ev rfl)) ?_
   refine wv rfl (fun hf hs => r_conv Tryd.underlying5 Tryd.underlying121 (hf.ev rfl)) ?_
   refine wv rfl (fun hf hs => r_or (hf.ev rfl) (hf.ev rfl)) ?_
   refine va rfl rfl ?_
   refine w_nil (hK54 _ _ _ ?_)
   refine c_reg ?_
   refine v_add rfl rfl rfl ?_
   refine vm rfl rfl ?_
   exact w_nil fun a w' hf hs => ⟨_, (some_r H).symm, _, l48.trans (HLe.refl _), (hf.pick (pk (pk (pk (pk (pk (pk pk0 rfl) rfl) rfl) rfl) rfl) rfl)), hs.selD [] (by decide) rfl⟩
  replace H := if_f b53 H
  replace H := map_inr H r49
  refine c_exit ?_
  intro a w' hf hs
  exact ⟨s46.1, _, l48, (hf.pick (pk (pk (pk pk0 rfl) rfl) rfl)), hs.selD [] (by decide) rfl, H⟩
 rintro a w' ⟨x29, M30, l31, hf, hs, H⟩
 refine c_of (c := (Cx.mk Tryd.prog 71 none' M w)) ?_ hf hs
 unfold wire_GetInt.j2 at H
 clear hf hs
 refine c_seq fun K32 hK32 => ?_
 refine c_sr fun _ hK33 => ?_
 refine vm rfl rfl ?_
 refine wv rfl (fun hf hs => r_shr (hf.ev rfl) (hf.ev rfl) (by decide)) ?_
 refine wv rfl (fun hf hs => r_gtr (hf.ev rfl) (hf.ev rfl)) ?_
 refine w_nil (hK33 _ _ _ ?_)
 refine c_if rfl (fun b34 => ?_) (fun b34 => ?_)
 ·replace H := if_t b34 H
  refine c_sr fun _ hK35 => ?_
  refine va rfl rfl ?_
  refine va rfl rfl ?_
  refine va rfl rfl ?_
  refine w_nil (hK35 _ _ _ ?_)
  obtain rfl := some_r H
  exact c_ret fun a w' hf hs => hret _ (.inl rfl) a w' hf.df ⟨_, _, Res.of3 rfl (RV.t hf rfl) (RV.t hf rfl) (RV.t hf rfl), hs.ext, rfl⟩
 replace H := if_f b34 H
 refine c_skip (hK32 _ _ _ ?_)
 refine c_cut (fun a' w' => ∃ (x36 : Int) (M37 : Heap), HLe M30 M37 ∧ Fr 71 [(6, (.int .i64 (IntKind.i64.wrap ((IntKind.i64.wrap (bits .xor .u8 (rd p0 0) x9)) - (128 : Int))))), (7, (.int .u64 x36))] a' ∧ St none' M w M37 (lt []) w' ∧ wire_GetInt.j1 x36 p0 x9 = some r) ?_ ?_
 ·refine c_seq ?_
  intro K40 hK40
  refine c_reg ?_
  refine vm rfl rfl ?_
  refine wv rfl (fun hf hs => r_gtr (hf.ev rfl) (hf.ev rfl)) ?_
  refine w_nil (hK40 _ _ _ ?_)
  refine c_if rfl (fun b41 => ?_) (fun b41 => ?_)
  ·replace H := if_t b41 H
   refine c_reg ?_
   refine vm rfl rfl ?_
   refine wv rfl (fun hf hs => r_com (hf.ev rfl)) ?_
   refine va rfl rfl ?_
   exact w_nil fun a w' hf hs => ⟨(bits .xor .u64 IntKind.u64.max x29), _, (HLe.refl _), (hf.pick (pk (pk pk0 rfl) rfl)), hs.selD [] (by decide) rfl, H⟩
  replace H := if_f b41 H
  refine c_skip ?_
  intro a w' hf hs
  exact ⟨x29, _, (HLe.refl _), (hf.pick (pk (pk pk0 rfl) rfl)), hs.selD [] (by decide) rfl, H⟩
 rintro a w' ⟨x36, M37, l38, hf, hs, H⟩
 refine c_of (c := (Cx.mk Tryd.prog 71 none' M w)) ?_ hf hs
 unfold wire_GetInt.j1 at H
 clear hf hs
 refine c_sr fun _ hK39 => ?_
 refine vm rfl rfl ?_
 refine wv rfl (fun hf hs => r_conv Tryd.underlying121 Tryd.underlying3 (hf.ev rfl)) ?_
 refine vm rfl rfl ?_
 refine v_add rfl rfl rfl ?_
 refine va rfl rfl ?_
 refine va rfl rfl ?_
 refine va rfl rfl ?_
 refine w_nil (hK39 _ _ _ ?_)
 obtain rfl := some_r H
 exact c_ret fun a w' hf hs => hret _ (.inl rfl) a w' hf.df ⟨_, _, Res.of3 rfl (RV.t hf rfl) (RV.t hf rfl) (RV.t hf rfl), hs.ext, rfl⟩
theorem wire_count.calls {M : Heap} {w : World} (hM : Sub M w) (p0 : (List Int)) (v1 : Value) (h2 : RS (FI .u8) M v1 p0) (p1 : Int) (r : (Int × Int × Int)) (H : wire_count p0 p1 = some r) :
  Calls Tryd.prog 105 [v1, (.int .i64 p1)].toArray w (Post M w fun M' v => v = .tuple #[(.int .i64 r.1), (.int .i64 r.2.1), (.int .i64 r.2.2)]) := by
 refine enter 31 [(0, v1), (1, (.int .i64 p1))] Tryd.func105 rfl rfl rfl hM ?_
 intro Q hret
 unfold wire_count at H
 refine c_sr fun _ hK3 => ?_
 refine va rfl rfl ?_
 refine va rfl rfl ?_
 refine va rfl rfl ?_
 refine w_nil (hK3 _ _ _ ?_)
 refine c_sr fun _ hK4 => ?_
 refine vm rfl rfl ?_
 obtain ⟨t5, e10, H⟩ := bnd H
 refine w_call cf129 trivial rfl rfl (fun w hs => wire_GetInt.calls hs p0 v1 h2 _ e10) ?_
 rintro _ M7 l8 rfl
 replace h2 := h2.mono l8
 refine vm rfl rfl ?_
 refine v_extract rfl rfl rfl ?_
 refine v_extract rfl rfl rfl ?_
 refine v_extract rfl rfl rfl ?_
 refine va rfl rfl ?_
 refine va rfl rfl ?_
 refine va rfl rfl ?_
 refine w_nil (hK4 _ _ _ ?_)
 refine c_cut (fun a' w' => ∃ (x11 : Int) (M12 : Heap), HLe M7 M12 ∧ Fr 31 [(4, (.int .i64 t5.1)), (5, (.int .i64 t5.2.1)), (6, (.int .i64 x11))] a' ∧ St none' M w M12 (lt []) w' ∧ wire_count.j1 t5 x11 = some r) ?_ ?_
 ·refine c_block ?_
  refine c_sr fun _ hK15 => ?_
  refine vm rfl rfl ?_
  refine wv rfl (fun hf hs => r_neq (hf.ev rfl) (hf.ev rfl)) ?_
  refine va rfl rfl ?_
  refine w_nil (hK15 _ _ _ ?_)
  refine c_if rfl (fun b16 => ?_) (fun b16 => ?_)
  ·replace H := if_t b16 H
   refine c_skip ?_
   intro a w' hf hs
   exact ⟨t5.2.2, _, (HLe.refl _), (hf.pick (pk (pk (pk pk0 rfl) rfl) rfl)), hs.selD [] (by decide) rfl, H⟩
  replace H := if_f b16 H
  refine c_sr fun _ hK17 => ?_
  refine vm rfl rfl ?_
  refine v_lss rfl rfl rfl ?_
  refine va rfl rfl ?_
  refine w_nil (hK17 _ _ _ ?_)
  refine c_if rfl (fun b18 => ?_) (fun b18 => ?_)
  ·replace H := if_t b18 H
   refine c_reg ?_
   refine va rfl rfl ?_
   exact w_nil fun a w' hf hs => ⟨(6 : Int), _, (HLe.refl _), (hf.pick (pk (pk (pk pk0 rfl) rfl) rfl)), hs.selD [] (by decide) rfl, H⟩
  replace H := if_f b18 H
  refine c_sr fun _ hK19 => ?_
  refine vm rfl rfl ?_
  refine vm rfl rfl ?_
  refine wv rfl (fun hf hs => r_lenR Tryd.underlying66 h2 (hf.ev rfl)) ?_
  refine vm rfl rfl ?_
  refine wv rfl (fun hf hs => r_sub (hf.ev rfl) (hf.ev rfl)) ?_
  refine vm rfl rfl ?_
  obtain ⟨g20, H⟩ := grd_s H
  refine wv rfl (fun hf hs => r_quo (hf.ev rfl) (hf.ev rfl) g20) ?_
  refine wv rfl (fun hf hs => r_gtr (hf.ev rfl) (hf.ev rfl)) ?_
  refine va rfl rfl ?_
  refine w_nil (hK19 _ _ _ ?_)
  refine c_if rfl (fun b21 => ?_) (fun b21 => ?_)
  ·replace H := if_t b21 H
   refine c_reg ?_
   refine va rfl rfl ?_
   exact w_nil fun a w' hf hs => ⟨(5 : Int), _, (HLe.refl _), (hf.pick (pk (pk (pk pk0 rfl) rfl) rfl)), hs.selD [] (by decide) rfl, H⟩
  replace H := if_f b21 H
  refine c_skip ?_
  intro a w' hf hs
  exact ⟨t5.2.2, _, (HLe.refl _), (hf.pick (pk (pk (pk pk0 rfl) rfl) rfl)), hs.selD [] (by decide) rfl, H⟩
 rintro a w' ⟨x11, M12, l13, hf, hs, H⟩
 refine c_of (c := (Cx.mk Tryd.prog 31 none' M w)) ?_ hf hs
 unfold wire_count.j1 at H
 clear hf hs
 refine c_sr fun _ hK14 => ?_
 refine vm rfl rfl ?_
 refine vm rfl rfl ?_
 refine vm rfl rfl ?_
 refine va rfl rfl ?_
 refine va rfl rfl ?_
 refine va rfl rfl ?_
 refine w_nil (hK14 _ _ _ ?_)
 obtain rfl := some_r H
 exact c_ret fun a w' hf hs => hret _ (.inl rfl) a w' hf.df ⟨_, _, Res.of3 rfl (RV.t hf rfl) (RV.t hf rfl) (RV.t hf rfl), hs.ext, rfl⟩
theorem wire_GetBytes.calls {M : Heap} {w : World} (hM : Sub M w) (p0 : (List Int)) (v1 : Value) (h2 : RS (FI .u8) M v1 p0) (r : ((List UInt8) × Int × Int)) (H : wire_GetBytes p0 = some r) :
  Calls Tryd.prog 98 [v1].toArray w (Post M w fun M' v => v = .tuple #[(str r.1), (.int .i64 r.2.1), (.int .i64 r.2.2)]) := by
 refine enter 27 [(0, v1)] Tryd.func98 rfl rfl rfl hM ?_
 intro Q hret
 unfold wire_GetBytes at H
 refine c_sr fun _ hK3 => ?_
 refine va rfl rfl ?_
 refine va rfl rfl ?_
 refine va rfl rfl ?_
 refine w_nil (hK3 _ _ _ ?_)
 refine c_sr fun _ hK4 => ?_
 refine vm rfl rfl ?_
 obtain ⟨t5, e10, H⟩ := bnd H
 refine w_call cf105 trivial rfl rfl (fun w hs => wire_count.calls hs p0 v1 h2 (1 : Int) _ e10) ?_
 rintro _ M7 l8 rfl
 replace h2 := h2.mono l8
 refine vm rfl rfl ?_
 refine v_extract rfl rfl rfl ?_
 refine v_extract rfl rfl rfl ?_
 refine v_extract rfl rfl rfl ?_
 refine va rfl rfl ?_
 refine va rfl rfl ?_
 refine va rfl rfl ?_
 refine w_nil (hK4 _ _ _ ?_)
 refine c_seq fun K11 hK11 => ?_
 refine c_sr fun _ hK12 => ?_
 refine vm rfl rfl ?_
 refine wv rfl (fun hf hs => r_neq (hf.ev rfl) (hf.ev rfl)) ?_
 refine w_nil (hK12 _ _ _ ?_)
 refine c_if rfl (fun b13 => ?_) (fun b13 => ?_)
 ·replace H := if_t b13 H
  refine c_sr fun _ hK14 => ?_
  refine vm rfl rfl ?_
  refine va rfl rfl ?_
  refine va rfl rfl ?_
  refine va rfl rfl ?_
  refine w_nil (hK14 _ _ _ ?_)
  obtain rfl := some_r H
  exact c_ret fun a w' hf hs => hret _ (.inl rfl) a w' hf.df ⟨_, _, Res.of3 rfl (RV.t hf rfl) (RV.t hf rfl) (RV.t hf rfl), hs.ext, rfl⟩
 replace H := if_f b13 H
 refine c_skip (hK11 _ _ _ ?_)
 refine c_sr fun _ hK15 => ?_
 refine vm rfl rfl ?_
 refine vm rfl rfl ?_
 refine vm rfl rfl ?_
 refine vm rfl rfl ?_
 refine v_add rfl rfl rfl ?_
 obtain ⟨g18, H⟩ := grd_s H
 refine w_ex (Φ := fun v => RS (FI .u8) M7 v ((p0.take ((IntKind.i64.wrap (t5.2.1 + t5.1))).toNat).drop (t5.2.1).toNat)) trivial rfl (fun a w hf hs => r_slR Tryd.underlying66 ts5 (hf.ev rfl) h2 ⟨_, hf.ev rfl⟩ ⟨_, hf.ev rfl⟩ g18.1 g18.2.1 g18.2.2) ?_
 intro v16 h17
 refine wv rfl (fun hf hs => r_b2s Tryd.underlying66 Tryd.underlying5 Tryd.underlying9 h17 hs.sub (hf.ev rfl)) ?_
 refine vm rfl rfl ?_
 refine vm rfl rfl ?_
 refine v_add rfl rfl rfl ?_
 refine va rfl rfl ?_
 refine va rfl rfl ?_
 refine va rfl rfl ?_
 refine w_nil (hK15 _ _ _ ?_)
 obtain rfl := some_r H
 exact c_ret fun a w' hf hs => hret _ (.inl rfl) a w' hf.df ⟨_, _, Res.of3 rfl (RV.t hf rfl) (RV.t hf rfl) (RV.t hf rfl), hs.ext, rfl⟩
theorem backup_read_string.calls {M : Heap} {w : World} {b : Nat} {T : TypeId} {q : List Value} {x_ : backup_reader} {v1 : Value} (hs : St (fun k => k = b) M w M (lt [.blk b (.cells ((backup_reader.C x_ v1 ++ q)).toArray T (0, 0))]) w) (h2 : RS (FI .u8) M v1 x_.rest_) (r : ((List UInt8) × backup_reader)) (H : backup_read_string x_ = some r) :
  Calls Tryd.prog 97 [(ptr b 0), (.func (.func 98) #[] #[])].toArray w (PostI (fun k => k = b) M w fun M' x v => ∃ (v31 : Value), v = (str r.1) ∧ RS (FI .u8) M' v31 r.2.rest_ ∧ x = .blk b (.cells ((backup_reader.C r.2 v31 ++ q)).toArray T (0, 0))) := by
 refine enterI 41 [(0, (ptr b 0)), (1, (.func (.func 98) #[] #[]))] Tryd.func97 rfl rfl rfl hs ?_
 clear hs
 intro Q hret
 unfold backup_read_string at H
 refine c_sr fun _ hK3 => ?_
 refine va rfl rfl ?_
 refine w_nil (hK3 _ _ _ ?_)
 refine c_seq fun K4 hK4 => ?_
 refine c_sr fun _ hK5 => ?_
 refine vm rfl rfl ?_
 refine wv rfl (fun hf hs => r_nilCheck (hf.ev rfl)) ?_
 refine v_fa fa80_1 rfl rfl ?_
 refine wv rfl (fun hf hs => r_load1 ta24 (hf.ev rfl) (hs.blk (i := 0) rfl) rfl) ?_
 refine wv rfl (fun hf hs => r_neq (hf.ev rfl) (hf.ev rfl)) ?_
 refine w_nil (hK5 _ _ _ ?_)
 refine c_if rfl (fun b6 => ?_) (fun b6 => ?_)
 ·replace H := if_t b6 H
  refine c_sr fun _ hK7 => ?_
  refine vm rfl rfl ?_
  refine va rfl rfl ?_
  refine w_nil (hK7 _ _ _ ?_)
  obtain rfl := some_r H
  exact c_ret fun a w' hf hs => hret _ (.inl rfl) a w' hf.df ⟨_, _, _, Res.of1 rfl (RV.t hf rfl), hs.sel [0] (by decide) rfl, ⟨_, rfl, h2, rfl⟩⟩
 replace H := if_f b6 H
 refine c_skip (hK4 _ _ _ ?_)
 refine c_sr fun _ hK8 => ?_
 refine vm rfl rfl ?_
 refine vm rfl rfl ?_
 refine wv rfl (fun hf hs => r_nilCheck (hf.ev rfl)) ?_
 refine v_fa fa80_0 rfl rfl ?_
 refine wv rfl (fun hf hs => r_load1 ta66 (hf.ev rfl) (hs.blk (i := 0) rfl) rfl) ?_
 obtain ⟨t9, e14, H⟩ := bnd H
 refine w_callV trivial rfl rfl rfl (fun _ h => by cases h) (fun w hs => ⟨_, _, _, rfl, cf98, wire_GetBytes.calls hs x_.rest_ v1 h2 _ e14⟩) ?_
 rintro _ M11 l12 rfl
 replace h2 := h2.mono l12
 refine vm rfl rfl ?_
 refine v_extract rfl rfl rfl ?_
 refine v_extract rfl rfl rfl ?_
 refine v_extract rfl rfl rfl ?_
 refine va rfl rfl ?_
 refine va rfl rfl ?_
 refine va rfl rfl ?_
 refine w_nil (hK8 _ _ _ ?_)
 refine c_seq fun K15 hK15 => ?_
 refine c_sr fun _ hK16 => ?_
 refine vm rfl rfl ?_
 refine vm rfl rfl ?_
 refine wv rfl (fun hf hs => r_eql (hf.ev rfl) (hf.ev rfl)) ?_
 refine vm rfl rfl ?_
 obtain ⟨t17, e18, H⟩ := bnd H
 refine w_callJ (b0 := b) 0 cf55 trivial rfl rfl rfl rfl (fun w hs => backup_reader_check.calls (b := b) (T := T) (q := (q)) (x_ := x_) hs h2 (t9.2.2 == (0 : Int)) t9.2.2 _ e18) ?_
 rintro v21 M19 _ l20 ⟨v22, hv_, h23, rfl⟩
 subst hv_
 refine wv rfl (fun hf hs => r_not (hf.ev rfl)) ?_
 refine w_nil (hK16 _ _ _ ?_)
 refine c_if rfl (fun b24 => ?_) (fun b24 => ?_)
 ·replace H := if_t b24 H
  refine c_sr fun _ hK25 => ?_
  refine vm rfl rfl ?_
  refine va rfl rfl ?_
  refine w_nil (hK25 _ _ _ ?_)
  obtain rfl := some_r H
  exact c_ret fun a w' hf hs => hret _ (.inl rfl) a w' hf.df ⟨_, _, _, Res.of1 rfl (RV.t hf rfl), hs.sel [0] (by decide) rfl, ⟨_, rfl, h23, rfl⟩⟩
 replace H := if_f b24 H
 refine c_skip (hK15 _ _ _ ?_)
 refine c_sr fun _ hK26 => ?_
 refine vm rfl rfl ?_
 refine vm rfl rfl ?_
 refine wv rfl (fun hf hs => r_nilCheck (hf.ev rfl)) ?_
 refine v_fa fa80_0 rfl rfl ?_
 refine wv rfl (fun hf hs => r_load1 ta66 (hf.ev rfl) (hs.blk (i := 0) rfl) rfl) ?_
 refine vm rfl rfl ?_
 obtain ⟨g29, H⟩ := grd_s H
 refine w_ex (Φ := fun v => RS (FI .u8) M19 v ((t17.2.rest_.take ((t17.2.rest_.length : Int)).toNat).drop (t9.2.1).toNat)) trivial rfl (fun a w hf hs => r_slR Tryd.underlying66 ts5 (hf.ev rfl) h23 ⟨_, hf.ev rfl⟩ rfl g29.1 g29.2.1 g29.2.2) ?_
 intro v27 h28
 refine wv rfl (fun hf hs => r_nilCheck (hf.ev rfl)) ?_
 refine v_fa fa80_0 rfl rfl ?_
 refine w_store (i := 0) (vs := [v27]) (A' := (backup_reader.C ({ t17.2 with rest_ := ((t17.2.rest_.take ((t17.2.rest_.length : Int)).toNat).drop (t9.2.1).toNat) } : backup_reader) v27 ++ q)) trivial rfl rfl rfl h28.cells1 ts66 rfl (one1 h28.one) (Nat.le_of_ble_eq_true rfl) rfl ?_
 refine w_nil (hK26 _ _ _ ?_)
 refine c_sr fun _ hK30 => ?_
 refine vm rfl rfl ?_
 refine va rfl rfl ?_
 refine w_nil (hK30 _ _ _ ?_)
 obtain rfl := some_r H
 exact c_ret fun a w' hf hs => hret _ (.inl rfl) a w' hf.df ⟨_, _, _, Res.of1 rfl (RV.t hf rfl), hs.sel [0] (by decide) rfl, ⟨_, rfl, h28, rfl⟩⟩
theorem backup_digest.calls {M : Heap} {w : World} (hM : Sub M w) (p0 : (List Int)) (v1 : Value) (h2 : RS (FI .u8) M v1 p0) (r : ((Vector Int 16) × Int × Int)) (H : backup_digest p0 = some r) :
  Calls Tryd.prog 100 [v1].toArray w (Post M w fun M' v => v = .tuple #[(.agg (vI .u8 r.1).toArray), (.int .i64 r.2.1), (.int .i64 r.2.2)]) := by
 refine enter 13 [(0, v1)] Tryd.func100 rfl rfl rfl hM ?_
 intro Q hret
 unfold backup_digest at H
 refine c_sr fun _ hK3 => ?_
 refine w_allocL (A := vI .u8 (Vector.replicate 16 (0 : Int))) tz33 trivial rfl rfl ?_
 intro b4
 refine va rfl rfl ?_
 refine va rfl rfl ?_
 refine w_nil (hK3 _ _ _ ?_)
 refine c_seq fun K5 hK5 => ?_
 refine c_sr fun _ hK6 => ?_
 refine vm rfl rfl ?_
 refine wv rfl (fun hf hs => r_lenR Tryd.underlying66 h2 (hf.ev rfl)) ?_
 refine v_lss rfl rfl rfl ?_
 refine w_nil (hK6 _ _ _ ?_)
 refine c_if rfl (fun b7 => ?_) (fun b7 => ?_)
 ·replace H := if_t b7 H
  refine c_sr fun _ hK8 => ?_
  refine wv rfl (fun hf hs => r_loadA ta33 ts33 (hf.ev rfl) (hs.blk (i := 0) rfl) (vI_all _) (vI_len _)) ?_
  refine w_store (i := 0) (vs := vI .u8 (Vector.replicate 16 (0 : Int))) (A' := vI .u8 (Vector.replicate 16 (0 : Int))) trivial rfl rfl rfl rfl ts33 (vI_len _) (vI_one _) (by rw [vI_len]; decide) (vI_whole _ _) ?_
  refine va rfl rfl ?_
  refine va rfl rfl ?_
  refine w_nil (hK8 _ _ _ ?_)
  obtain rfl := some_r H
  exact c_ret fun a w' hf hs => hret _ (.inl rfl) a w' hf.df ⟨_, _, Res.of3 rfl ⟨_, hf.get _ _ rfl, run_loadA (hs.blk (i := 0) rfl) ta33 ts33 (vI_all _) (vI_len _)⟩ (RV.t hf rfl) (RV.t hf rfl), hs.ext, rfl⟩
 replace H := if_f b7 H
 refine c_skip (hK5 _ _ _ ?_)
 refine c_sr fun _ hK9 => ?_
 refine vm rfl rfl ?_
 obtain ⟨g12, H⟩ := grd_s H
 refine w_ex (Φ := fun v => RS (FI .u8) M v ((p0.take ((16 : Int)).toNat).drop ((0 : Int)).toNat)) trivial rfl (fun a w hf hs => r_slR Tryd.underlying66 ts5 (hf.ev rfl) h2 rfl ⟨_, hf.ev rfl⟩ g12.1 g12.2.1 g12.2.2) ?_
 intro v10 h11
 obtain ⟨g13, H⟩ := grd_s H
 refine wv rfl (fun hf hs => r_s2aR Tryd.underlying33 h11 (hf.ev rfl) g13) ?_
 refine wv rfl (fun hf hs => r_loadSP ta33 ts33 h11 hs.sub g13 (hf.ev rfl)) ?_
 refine w_store (i := 0) (vs := vI .u8 (lv ((p0.take ((16 : Int)).toNat).drop ((0 : Int)).toNat) 0 16)) (A' := vI .u8 (lv ((p0.take ((16 : Int)).toNat).drop ((0 : Int)).toNat) 0 16)) trivial rfl rfl rfl rfl ts33 (vI_len _) (vI_one _) (by rw [vI_len]; decide) (vI_whole _ _) ?_
 refine va rfl rfl ?_
 refine va rfl rfl ?_
 refine w_nil (hK9 _ _ _ ?_)
 obtain rfl := some_r H
 exact c_ret fun a w' hf hs => hret _ (.inl rfl) a w' hf.df ⟨_, _, Res.of3 rfl ⟨_, hf.get _ _ rfl, run_loadA (hs.blk (i := 0) rfl) ta33 ts33 (vI_all _) (vI_len _)⟩ (RV.t hf rfl) (RV.t hf rfl), hs.ext, rfl⟩
theorem backup_read_Digest.calls {M : Heap} {w : World} {b : Nat} {T : TypeId} {q : List Value} {x_ : backup_reader} {v1 : Value} (hs : St (fun k => k = b) M w M (lt [.blk b (.cells ((backup_reader.C x_ v1 ++ q)).toArray T (0, 0))]) w) (h2 : RS (FI .u8) M v1 x_.rest_) (r : ((Vector Int 16) × backup_reader)) (H : backup_read_Digest x_ = some r) :
  Calls Tryd.prog 99 [(ptr b 0), (.func (.func 100) #[] #[])].toArray w (PostI (fun k => k = b) M w fun M' x v => ∃ (v33 : Value), v = (.agg (vI .u8 r.1).toArray) ∧ RS (FI .u8) M' v33 r.2.rest_ ∧ x = .blk b (.cells ((backup_reader.C r.2 v33 ++ q)).toArray T (0, 0))) := by
 refine enterI 41 [(0, (ptr b 0)), (1, (.func (.func 100) #[] #[]))] Tryd.func99 rfl rfl rfl hs ?_
 clear hs
 intro Q hret
 unfold backup_read_Digest at H
 refine c_sr fun _ hK3 => ?_
 refine w_allocL (A := vI .u8 (Vector.replicate 16 (0 : Int))) tz33 trivial rfl rfl ?_
 intro b4
 refine w_nil (hK3 _ _ _ ?_)
 refine c_seq fun K5 hK5 => ?_
 refine c_sr fun _ hK6 => ?_
 refine vm rfl rfl ?_
 refine wv rfl (fun hf hs => r_nilCheck (hf.ev rfl)) ?_
 refine v_fa fa80_1 rfl rfl ?_
 refine wv rfl (fun hf hs => r_load1 ta24 (hf.ev rfl) (hs.blk (i := 0) rfl) rfl) ?_
 refine wv rfl (fun hf hs => r_neq (hf.ev rfl) (hf.ev rfl)) ?_
 refine w_nil (hK6 _ _ _ ?_)
 refine c_if rfl (fun b7 => ?_) (fun b7 => ?_)
 ·replace H := if_t b7 H
  refine c_sr fun _ hK8 => ?_
  refine wv rfl (fun hf hs => r_loadA ta33 ts33 (hf.ev rfl) (hs.blk (i := 1) rfl) (vI_all _) (vI_len _)) ?_
  refine w_store (i := 1) (vs := vI .u8 (Vector.replicate 16 (0 : Int))) (A' := vI .u8 (Vector.replicate 16 (0 : Int))) trivial rfl rfl rfl rfl ts33 (vI_len _) (vI_one _) (by rw [vI_len]; decide) (vI_whole _ _) ?_
  refine w_nil (hK8 _ _ _ ?_)
  obtain rfl := some_r H
  exact c_ret fun a w' hf hs => hret _ (.inl rfl) a w' hf.df ⟨_, _, _, Res.of1 rfl ⟨_, hf.get _ _ rfl, run_loadA (hs.blk (i := 1) rfl) ta33 ts33 (vI_all _) (vI_len _)⟩, hs.sel [0] (by decide) rfl, ⟨_, rfl, h2, rfl⟩⟩
 replace H := if_f b7 H
 refine c_skip (hK5 _ _ _ ?_)
 refine c_sr fun _ hK9 => ?_
 refine vm rfl rfl ?_
 refine vm rfl rfl ?_
 refine wv rfl (fun hf hs => r_nilCheck (hf.ev rfl)) ?_
 refine v_fa fa80_0 rfl rfl ?_
 refine wv rfl (fun hf hs => r_load1 ta66 (hf.ev rfl) (hs.blk (i := 0) rfl) rfl) ?_
 obtain ⟨t10, e15, H⟩ := bnd H
 refine w_callV trivial rfl rfl rfl (fun _ h => by cases h) (fun w hs => ⟨_, _, _, rfl, cf100, backup_digest.calls hs x_.rest_ v1 h2 _ e15⟩) ?_
 rintro _ M12 l13 rfl
 replace h2 := h2.mono l13
 refine vm rfl rfl ?_
 refine v_extract rfl rfl rfl ?_
 refine v_extract rfl rfl rfl ?_
 refine v_extract rfl rfl rfl ?_
 refine w_allocL (A := vI .u8 (Vector.replicate 16 (0 : Int))) tz33 trivial rfl rfl ?_
 intro b16
 refine w_store (i := 2) (vs := vI .u8 t10.1) (A' := vI .u8 t10.1) trivial rfl rfl rfl rfl ts33 (vI_len _) (vI_one _) (by rw [vI_len]; decide) (vI_whole _ _) ?_
 refine va rfl rfl ?_
 refine va rfl rfl ?_
 refine w_nil (hK9 _ _ _ ?_)
 refine c_seq fun K17 hK17 => ?_
 refine c_sr fun _ hK18 => ?_
 refine vm rfl rfl ?_
 refine vm rfl rfl ?_
 refine wv rfl (fun hf hs => r_eql (hf.ev rfl) (hf.ev rfl)) ?_
 refine vm rfl rfl ?_
 obtain ⟨t19, e20, H⟩ := bnd H
 refine w_callJ (b0 := b) 0 cf55 trivial rfl rfl rfl rfl (fun w hs => backup_reader_check.calls (b := b) (T := T) (q := (q)) (x_ := x_) hs h2 (t10.2.2 == (0 : Int)) t10.2.2 _ e20) ?_
 rintro v23 M21 _ l22 ⟨v24, hv_, h25, rfl⟩
 subst hv_
 refine wv rfl (fun hf hs => r_not (hf.ev rfl)) ?_
 refine w_nil (hK18 _ _ _ ?_)
 refine c_if rfl (fun b26 => ?_) (fun b26 => ?_)
 ·replace H := if_t b26 H
  refine c_sr fun _ hK27 => ?_
  refine wv rfl (fun hf hs => r_loadA ta33 ts33 (hf.ev rfl) (hs.blk (i := 1) rfl) (vI_all _) (vI_len _)) ?_
  refine w_store (i := 1) (vs := vI .u8 (Vector.replicate 16 (0 : Int))) (A' := vI .u8 (Vector.replicate 16 (0 : Int))) trivial rfl rfl rfl rfl ts33 (vI_len _) (vI_one _) (by rw [vI_len]; decide) (vI_whole _ _) ?_
  refine w_nil (hK27 _ _ _ ?_)
  obtain rfl := some_r H
  exact c_ret fun a w' hf hs => hret _ (.inl rfl) a w' hf.df ⟨_, _, _, Res.of1 rfl ⟨_, hf.get _ _ rfl, run_loadA (hs.blk (i := 1) rfl) ta33 ts33 (vI_all _) (vI_len _)⟩, hs.sel [0] (by decide) rfl, ⟨_, rfl, h25, rfl⟩⟩
 replace H := if_f b26 H
 refine c_skip (hK17 _ _ _ ?_)
 refine c_sr fun _ hK28 => ?_
 refine vm rfl rfl ?_
 refine vm rfl rfl ?_
 refine wv rfl (fun hf hs => r_nilCheck (hf.ev rfl)) ?_
 refine v_fa fa80_0 rfl rfl ?_
 refine wv rfl (fun hf hs => r_load1 ta66 (hf.ev rfl) (hs.blk (i := 0) rfl) rfl) ?_
 refine vm rfl rfl ?_
 obtain ⟨g31, H⟩ := grd_s H
 refine w_ex (Φ := fun v => RS (FI .u8) M21 v ((t19.2.rest_.take ((t19.2.rest_.length : Int)).toNat).drop (t10.2.1).toNat)) trivial rfl (fun a w hf hs => r_slR Tryd.underlying66 ts5 (hf.ev rfl) h25 ⟨_, hf.ev rfl⟩ rfl g31.1 g31.2.1 g31.2.2) ?_
 intro v29 h30
 refine wv rfl (fun hf hs => r_nilCheck (hf.ev rfl)) ?_
 refine v_fa fa80_0 rfl rfl ?_
 refine w_store (i := 0) (vs := [v29]) (A' := (backup_reader.C ({ t19.2 with rest_ := ((t19.2.rest_.take ((t19.2.rest_.length : Int)).toNat).drop (t10.2.1).toNat) } : backup_reader) v29 ++ q)) trivial rfl rfl rfl h30.cells1 ts66 rfl (one1 h30.one) (Nat.le_of_ble_eq_true rfl) rfl ?_
 refine w_nil (hK28 _ _ _ ?_)
 refine c_sr fun _ hK32 => ?_
 refine wv rfl (fun hf hs => r_loadA ta33 ts33 (hf.ev rfl) (hs.blk (i := 2) rfl) (vI_all _) (vI_len _)) ?_
 refine w_store (i := 1) (vs := vI .u8 t10.1) (A' := vI .u8 t10.1) trivial rfl rfl rfl rfl ts33 (vI_len _) (vI_one _) (by rw [vI_len]; decide) (vI_whole _ _) ?_
 refine w_nil (hK32 _ _ _ ?_)
 obtain rfl := some_r H
 exact c_ret fun a w' hf hs => hret _ (.inl rfl) a w' hf.df ⟨_, _, _, Res.of1 rfl ⟨_, hf.get _ _ rfl, run_loadA (hs.blk (i := 1) rfl) ta33 ts33 (vI_all _) (vI_len _)⟩, hs.sel [0] (by decide) rfl, ⟨_, rfl, h30, rfl⟩⟩
theorem wire_reader_1.calls {M : Heap} {w : World} {b : Nat} {x_ : Int} (hs : St (fun k => k = b) M w M (lt [.blk b (.cells ([(.int .i64 x_)]).toArray 3 (0, 0))]) w) (c0_ : (List Int)) (cb0_ : Nat) (v1 : Value) (h2 : RS (FI .u8) M v1 c0_) (ch0_ : M cb0_ = some (.cells ([v1]).toArray 66 (0, 0))) (r : ((Int × Int × Int) × Int)) (H : wire_reader_1 c0_ x_ = some r) :
  Calls Tryd.prog 138 [(ptr cb0_ 0), (ptr b 0)].toArray w (PostI (fun k => k = b) M w fun M' x v => v = .tuple #[(.int .i64 r.1.1), (.int .i64 r.1.2.1), (.int .i64 r.1.2.2)] ∧ x = .blk b (.cells ([(.int .i64 r.2)]).toArray 3 (0, 0))) := by
 refine enterI 22 [(0, (ptr cb0_ 0)), (1, (ptr b 0))] Tryd.func138 rfl rfl rfl hs ?_
 clear hs
 intro Q hret
 unfold wire_reader_1 at H
 refine c_sr fun _ hK3 => ?_
 refine va rfl rfl ?_
 refine va rfl rfl ?_
 refine va rfl rfl ?_
 refine w_nil (hK3 _ _ _ ?_)
 refine c_sr fun _ hK4 => ?_
 refine wv rfl (fun hf hs => r_load1 ta66 (hf.ev rfl) (hs.sub _ _ ch0_) rfl) ?_
 refine wv rfl (fun hf hs => r_load1 ta3 (hf.ev rfl) (hs.blk (i := 0) rfl) rfl) ?_
 obtain ⟨g7, H⟩ := grd_s H
 refine w_ex (Φ := fun v => RS (FI .u8) M v ((c0_.take ((c0_.length : Int)).toNat).drop (x_).toNat)) trivial rfl (fun a w hf hs => r_slR Tryd.underlying66 ts5 (hf.ev rfl) h2 ⟨_, hf.ev rfl⟩ rfl g7.1 g7.2.1 g7.2.2) ?_
 intro v5 h6
 obtain ⟨t8, e13, H⟩ := bnd H
 refine w_call cf129 trivial rfl rfl (fun w hs => wire_GetInt.calls hs ((c0_.take ((c0_.length : Int)).toNat).drop (x_).toNat) v5 h6 _ e13) ?_
 rintro _ M10 l11 rfl
 refine vm rfl rfl ?_
 refine v_extract rfl rfl rfl ?_
 refine v_extract rfl rfl rfl ?_
 refine v_extract rfl rfl rfl ?_
 refine va rfl rfl ?_
 refine va rfl rfl ?_
 refine va rfl rfl ?_
 refine w_nil (hK4 _ _ _ ?_)
 refine c_sr fun _ hK14 => ?_
 refine wv rfl (fun hf hs => r_load1 ta3 (hf.ev rfl) (hs.blk (i := 0) rfl) rfl) ?_
 refine vm rfl rfl ?_
 refine v_add rfl rfl rfl ?_
 refine w_store (i := 0) (vs := [(.int .i64 (IntKind.i64.wrap (x_ + t8.2.1)))]) (A' := [(.int .i64 (IntKind.i64.wrap (x_ + t8.2.1)))]) trivial rfl rfl rfl rfl ts3 rfl (one1 rfl) (Nat.le_of_ble_eq_true rfl) rfl ?_
 refine w_nil (hK14 _ _ _ ?_)
 refine c_seq fun K15 hK15 => ?_
 refine c_drawP [([], [5]), ([], [1]), ([], [7]), ([(0, 19)], []), ([(1, 20)], []), ([(2, 21)], [])] [vq (.int .i64 t8.1), vq (.int .i64 (IntKind.i64.wrap (x_ + t8.2.1))), vq (.int .i64 t8.2.2), vq (.int .i64 t8.1), vq (.int .i64 (IntKind.i64.wrap (x_ + t8.2.1))), vq (.int .i64 t8.2.2)] (by kernel_rfl) (by kernel_rfl) ?_ (aT ?_ (aT ?_ (aT ?_ (aT ?_ (aT ?_ (aT ?_ AllT.nil)))))) ?_
 ·exact (mC (mC (mC (mC (mC (mC MonoA.nil))))))
 ·intro a w' _ _ hd hs
  exact pv (hd.fr.add (hd.base 5 _ rfl rfl)) hs rfl (fun hf hs => r_move (hf.ev rfl)) rfl
 ·intro a w' _ _ hd hs
  exact pv (hd.fr.add (hd.base 1 _ rfl rfl)) hs rfl (fun hf hs => r_load1 ta3 (hf.ev rfl) (hs.blk (i := 0) rfl) rfl) rfl
 ·intro a w' _ _ hd hs
  exact pv (hd.fr.add (hd.base 7 _ rfl rfl)) hs rfl (fun hf hs => r_move (hf.ev rfl)) rfl
 ·intro a w' _ _ hd hs
  exact pv (hd.fr.add (hd.val 0 19 _ rfl rfl)) hs rfl (fun hf hs => r_assign (hf.ev rfl)) rfl
 ·intro a w' _ _ hd hs
  exact pv (hd.fr.add (hd.val 1 20 _ rfl rfl)) hs rfl (fun hf hs => r_assign (hf.ev rfl)) rfl
 ·intro a w' _ _ hd hs
  exact pv (hd.fr.add (hd.val 2 21 _ rfl rfl)) hs rfl (fun hf hs => r_assign (hf.ev rfl)) rfl
 intro a w' M31 l32 hdf hsz hb hv hs
 have e33 := hv 3 2 _ rfl rfl
 have e34 := hv 4 3 _ rfl rfl
 have e35 := hv 5 4 _ rfl rfl
 refine n_of (c := (Cx.mk Tryd.prog 22 (fun k => k = b) M w)) (l := [(2, (.int .i64 t8.1)), (3, (.int .i64 (IntKind.i64.wrap (x_ + t8.2.1)))), (4, (.int .i64 t8.2.2))]) ?_ ((((Fr.start hdf hsz).add e35).add e34).add e33) hs
 clear hdf hsz hb hv hs e33 e34 e35
 refine n_id (hK15 _ _ _ ?_)
 obtain rfl := some_r H
 exact c_ret fun a w' hf hs => hret _ (.inl rfl) a w' hf.df ⟨_, _, _, Res.of3 rfl (RV.t hf rfl) (RV.t hf rfl) (RV.t hf rfl), hs.sel [0] (by decide) rfl, rfl, rfl⟩
theorem wire_reader.callsC {M : Heap} {w : World} (hM : Sub M w) (v0 : Value) (p1 : Int) (hc : v0.cells = [v0].toArray) :
  Calls Tryd.prog 128 [v0, (.int .i64 p1)].toArray w (PostI none' M w fun M' x v => ∃ b0 b1 : Nat, v = .func (.func 138) #[] #[ptr b0 0, ptr b1 0] ∧ M' b0 = some (.cells [v0].toArray 66 (0, 0)) ∧ x = .blk b1 (.cells [(.int .i64 p1)].toArray 3 (0, 0))) := by
 refine enterR 6 [(0, v0), (1, .int .i64 p1)] Tryd.func128 rfl rfl rfl hM ?_
 intro Q hret
 refine c_seq fun K1 hK1 => ?_
 refine c_reg ?_
 refine w_boxM trivial rfl rfl hc ?_
 intro b0 M2 hl hb
 refine w_boxL trivial rfl rfl rfl ?_
 intro b1
 refine va rfl rfl ?_
 refine w_nil (hK1 _ _ _ ?_)
 refine c_seq fun K2 hK2 => ?_
 refine c_reg ?_
 refine wv rfl (fun hf hs => r_makeFunc (hf.evs rfl)) ?_
 refine va rfl rfl ?_
 refine w_nil (hK2 _ _ _ ?_)
 exact c_ret fun a w' hf hs => hret _ (.inl rfl) a w' hf.df ⟨_, _, _, Res.of1 rfl (RV.t hf rfl), hs.sel [0] (by decide) rfl, b0, b1, rfl, hb, rfl⟩
theorem wire_GetInts.calls {M : Heap} {w : World} (hM : Sub M w) (p0 : (List Int)) (v1 : Value) (h2 : RS (FI .u8) M v1 p0) (r : ((List Int) × Int × Int)) (H : wire_GetInts p0 = some r) :
  Calls Tryd.prog 102 [v1].toArray w (Post M w fun M' v => ∃ v59, v = .tuple #[v59, (.int .i64 r.2.1), (.int .i64 r.2.2)] ∧ RS (FI .i64) M' v59 r.1) := by
 refine enter 45 [(0, v1)] Tryd.func102 rfl rfl rfl hM ?_
 intro Q hret
 unfold wire_GetInts at H
 refine c_sr fun _ hK3 => ?_
 refine va rfl rfl ?_
 refine va rfl rfl ?_
 refine va rfl rfl ?_
 refine w_nil (hK3 _ _ _ ?_)
 refine c_sr fun _ hK4 => ?_
 refine vm rfl rfl ?_
 obtain ⟨t5, e10, H⟩ := bnd H
 refine w_call cf105 trivial rfl rfl (fun w hs => wire_count.calls hs p0 v1 h2 (1 : Int) _ e10) ?_
 rintro _ M7 l8 rfl
 replace h2 := h2.mono l8
 refine vm rfl rfl ?_
 refine v_extract rfl rfl rfl ?_
 refine v_extract rfl rfl rfl ?_
 refine v_extract rfl rfl rfl ?_
 refine va rfl rfl ?_
 refine va rfl rfl ?_
 refine va rfl rfl ?_
 refine w_nil (hK4 _ _ _ ?_)
 refine c_seq fun K11 hK11 => ?_
 refine c_sr fun _ hK12 => ?_
 refine vm rfl rfl ?_
 refine wv rfl (fun hf hs => r_neq (hf.ev rfl) (hf.ev rfl)) ?_
 refine w_nil (hK12 _ _ _ ?_)
 refine c_if rfl (fun b13 => ?_) (fun b13 => ?_)
 ·replace H := if_t b13 H
  refine c_sr fun _ hK14 => ?_
  refine vm rfl rfl ?_
  refine va rfl rfl ?_
  refine va rfl rfl ?_
  refine va rfl rfl ?_
  refine w_nil (hK14 _ _ _ ?_)
  obtain rfl := some_r H
  exact c_ret fun a w' hf hs => hret _ (.inl rfl) a w' hf.df ⟨_, _, Res.of3 rfl (RV.t hf rfl) (RV.t hf rfl) (RV.t hf rfl), hs.ext, ⟨_, rfl, RS.none⟩⟩
 replace H := if_f b13 H
 refine c_skip (hK11 _ _ _ ?_)
 refine c_sr fun _ hK15 => ?_
 refine vm rfl rfl ?_
 refine vm rfl rfl ?_
 refine w_callR cf128 trivial rfl rfl (fun w hs => wire_reader.callsC hs v1 t5.2.1 (h2.cells1)) ?_
 rintro _ M16 _ l17 ⟨b18, b19, rfl, h20, rfl⟩
 replace h2 := h2.mono l17
 refine va rfl rfl ?_
 refine w_nil (hK15 _ _ _ ?_)
 refine c_sr fun _ hK22 => ?_
 refine va rfl rfl ?_
 refine w_nil (hK22 _ _ _ ?_)
 refine c_row0 3 1 ?_
 refine c_cut (fun a' w' => ∃ (x23 : (List Int)) (v24 : Value) (x25 : Int) (M26 : Heap), HLe M16 M26 ∧ Fr 45 [(6, (.int .i64 x25)), (9, v24)] a' ∧ St none' M w M26 (lt [dead, rowI (FI .i64) v24 3 x23]) w' ∧ wire_GetInts.j1 x23 x25 = some r) ?_ ?_
 ·refine c_seq ?_
  intro K32 hK32
  refine c_reg ?_
  refine vm rfl rfl ?_
  refine vm rfl rfl ?_
  refine w_nil (hK32 _ _ _ ?_)
  refine c_block ?_
  refine c_loop (fun (s33 : (Int × (List Int) × Int × Int)) a' w' => ∃ (v34 : Value) (M35 : Heap), HLe M16 M35 ∧ Fr 45 [(6, (.int .i64 s33.2.2.1)), (8, (.func (.func 138) #[] #[(ptr b18 0), (ptr b19 0)])), (9, v34), (25, (.int .i64 t5.1)), (26, (.int .i64 s33.2.2.2))] a' ∧ St none' M w M35 (lt [.blk b19 (.cells ([(.int .i64 s33.1)]).toArray 3 (0, 0)), rowI (FI .i64) v34 3 s33.2.1]) w') (t5.2.1, ([] : (List Int)), t5.2.1, (0 : Int)) H ?_ ?_
  ·intro a w' hf hs
   exact ⟨(.slice none 0 0), _, HLe.refl _, (hf.pick (pk (pk (pk (pk (pk pk0 rfl) rfl) rfl) rfl) rfl)), hs.selD [some 0, some 1] (by decide) rfl⟩
  clear H
  intro s33 y38 H r37 a w' hJ
  obtain ⟨v34, M35, l36, hf, hs⟩ := hJ
  refine c_of (c := (Cx.mk Tryd.prog 45 none' M w)) ?_ hf hs
  unfold wire_GetInts.l2 at H
  clear hf hs
  replace h2 := h2.mono l36
  replace h20 := l36 _ _ h20
  refine c_sr fun _ hK39 => ?_
  refine v_lss rfl rfl rfl ?_
  refine w_nil (hK39 _ _ _ ?_)
  refine c_seq fun K40 hK40 => ?_
  refine c_if rfl (fun b41 => ?_) (fun b41 => ?_)
  ·replace H := if_t b41 H
   refine c_skip (hK40 _ _ _ ?_)
   refine c_seq fun K42 hK42 => ?_
   refine c_block ?_
   refine c_sr fun _ hK43 => ?_
   refine vm rfl rfl ?_
   obtain ⟨t44, e45, H⟩ := bnd H
   refine w_callVJ (b0 := b19) (cap := [(ptr b18 0), (ptr b19 0)]) (vs := []) 0 cf138 trivial rfl rfl rfl (fun _ h => by cases h) rfl rfl (fun w hs => wire_reader_1.calls hs p0 b18 v1 h2 h20 _ e45) ?_
   rintro _ M46 _ l47 ⟨rfl, rfl⟩
   refine vm rfl rfl ?_
   refine v_extract rfl rfl rfl ?_
   refine v_extract rfl rfl rfl ?_
   refine v_extract rfl rfl rfl ?_
   refine va rfl rfl ?_
   refine va rfl rfl ?_
   refine va rfl rfl ?_
   refine w_nil (hK43 _ _ _ ?_)
   refine c_seq fun K48 hK48 => ?_
   refine c_sr fun _ hK49 => ?_
   refine vm rfl rfl ?_
   refine wv rfl (fun hf hs => r_neq (hf.ev rfl) (hf.ev rfl)) ?_
   refine w_nil (hK49 _ _ _ ?_)
   refine c_if rfl (fun b50 => ?_) (fun b50 => ?_)
   ·replace H := if_t b50 H
    refine c_sr fun _ hK51 => ?_
    refine vm rfl rfl ?_
    refine va rfl rfl ?_
    refine va rfl rfl ?_
    refine va rfl rfl ?_
    refine w_nil (hK51 _ _ _ ?_)
    obtain rfl := (r37 _ (Option.some.inj H).symm)
    exact c_ret fun a w' hf hs => hret _ (.inl rfl) a w' hf.df ⟨_, _, Res.of3 rfl (RV.t hf rfl) (RV.t hf rfl) (RV.t hf rfl), hs.ext, ⟨_, rfl, RS.none⟩⟩
   replace H := if_f b50 H
   refine c_skip (hK48 _ _ _ ?_)
   refine c_reg ?_
   refine vm rfl rfl ?_
   refine vm rfl rfl ?_
   refine w_bsl (F := (FI .i64)) (es := ([t44.1.1] : List Int)) (xs := [.tmp 38]) (vs := [(.int .i64 t44.1.1)]) Tryd.underlying51 te3 trivial rfl rfl rfl rfl rfl (by decide) ?_
   intro v52 M53 l54 h55 c56
   obtain ⟨g57, H⟩ := grd_s H
   refine w_app (F := (FI .i64)) (m2 := ([t44.1.1] : List Int)) (i := 1) Tryd.underlying51 te3 Tryd.underlying51 (.inl ⟨_, rfl⟩) trivial rfl rfl rfl rfl (Src.rs (FI.one _) h55) g57 ?_
   intro v58
   refine vm rfl rfl ?_
   refine va rfl rfl ?_
   refine va rfl rfl ?_
   refine w_nil (hK42 _ _ _ ?_)
   refine c_reg ?_
   refine v_add rfl rfl rfl ?_
   refine vm rfl rfl ?_
   exact w_nil fun a w' hf hs => ⟨_, (some_r H).symm, v58, _, l36.trans (l47.trans l54), (hf.pick (pk (pk (pk (pk (pk pk0 rfl) rfl) rfl) rfl) rfl)), hs.selD [some 0, some 1] (by decide) rfl⟩
  replace H := if_f b41 H
  replace H := map_inr H r37
  refine c_exit ?_
  intro a w' hf hs
  exact ⟨s33.2.1, v34, s33.2.2.1, _, l36, (hf.pick (pk (pk pk0 rfl) rfl)), hs.selD [none, some 1] (by decide) rfl, H⟩
 rintro a w' ⟨x23, v24, x25, M26, l27, hf, hs, H⟩
 refine c_of (c := (Cx.mk Tryd.prog 45 none' M w)) ?_ hf hs
 unfold wire_GetInts.j1 at H
 clear hf hs
 refine c_sr fun _ hK28 => ?_
 refine vm rfl rfl ?_
 refine vm rfl rfl ?_
 refine va rfl rfl ?_
 refine va rfl rfl ?_
 refine va rfl rfl ?_
 refine w_nil (hK28 _ _ _ ?_)
 obtain rfl := some_r H
 refine c_ret ?_
 refine n_give 1 rfl (fun _ h => h) ?_
 intro M29 l30 h31
 intro a w' hf hs
 exact hret _ (.inl rfl) a w' hf.df ⟨_, _, Res.of3 rfl (RV.t hf rfl) (RV.t hf rfl) (RV.t hf rfl), hs.ext, ⟨_, rfl, h31⟩⟩
theorem backup_read_LLint.calls {M : Heap} {w : World} {b : Nat} {T : TypeId} {q : List Value} {x_ : backup_reader} {v1 : Value} (hs : St (fun k => k = b) M w M (lt [.blk b (.cells ((backup_reader.C x_ v1 ++ q)).toArray T (0, 0))]) w) (h2 : RS (FI .u8) M v1 x_.rest_) (r : ((List Int) × backup_reader)) (H : backup_read_LLint x_ = some r) :
  Calls Tryd.prog 101 [(ptr b 0), (.func (.func 102) #[] #[])].toArray w (PostI (fun k => k = b) M w fun M' x v => ∃ (v34 : Value) (v36 : Value), v = v34 ∧ RS (FI .i64) M' v34 r.1 ∧ RS (FI .u8) M' v36 r.2.rest_ ∧ x = .blk b (.cells ((backup_reader.C r.2 v36 ++ q)).toArray T (0, 0))) := by
 refine enterI 41 [(0, (ptr b 0)), (1, (.func (.func 102) #[] #[]))] Tryd.func101 rfl rfl rfl hs ?_
 clear hs
 intro Q hret
 unfold backup_read_LLint at H
 refine c_sr fun _ hK3 => ?_
 refine va rfl rfl ?_
 refine w_nil (hK3 _ _ _ ?_)
 refine c_seq fun K4 hK4 => ?_
 refine c_sr fun _ hK5 => ?_
 refine vm rfl rfl ?_
 refine wv rfl (fun hf hs => r_nilCheck (hf.ev rfl)) ?_
 refine v_fa fa80_1 rfl rfl ?_
 refine wv rfl (fun hf hs => r_load1 ta24 (hf.ev rfl) (hs.blk (i := 0) rfl) rfl) ?_
 refine wv rfl (fun hf hs => r_neq (hf.ev rfl) (hf.ev rfl)) ?_
 refine w_nil (hK5 _ _ _ ?_)
 refine c_if rfl (fun b6 => ?_) (fun b6 => ?_)
 ·replace H := if_t b6 H
  refine c_sr fun _ hK7 => ?_
  refine vm rfl rfl ?_
  refine va rfl rfl ?_
  refine w_nil (hK7 _ _ _ ?_)
  obtain rfl := some_r H
  exact c_ret fun a w' hf hs => hret _ (.inl rfl) a w' hf.df ⟨_, _, _, Res.of1 rfl (RV.t hf rfl), hs.sel [0] (by decide) rfl, ⟨_, _, rfl, RS.none, h2, rfl⟩⟩
 replace H := if_f b6 H
 refine c_skip (hK4 _ _ _ ?_)
 refine c_sr fun _ hK8 => ?_
 refine vm rfl rfl ?_
 refine vm rfl rfl ?_
 refine wv rfl (fun hf hs => r_nilCheck (hf.ev rfl)) ?_
 refine v_fa fa80_0 rfl rfl ?_
 refine wv rfl (fun hf hs => r_load1 ta66 (hf.ev rfl) (hs.blk (i := 0) rfl) rfl) ?_
 obtain ⟨t9, e14, H⟩ := bnd H
 refine w_callV trivial rfl rfl rfl (fun _ h => by cases h) (fun w hs => ⟨_, _, _, rfl, cf102, wire_GetInts.calls hs x_.rest_ v1 h2 _ e14⟩) ?_
 rintro v33 M11 l12 ⟨v15, hv_, h16⟩
 replace hv_ := hv_.symm
 subst hv_
 replace h2 := h2.mono l12
 refine vm rfl rfl ?_
 refine v_extract rfl rfl rfl ?_
 refine v_extract rfl rfl rfl ?_
 refine v_extract rfl rfl rfl ?_
 refine va rfl rfl ?_
 refine va rfl rfl ?_
 refine va rfl rfl ?_
 refine w_nil (hK8 _ _ _ ?_)
 refine c_seq fun K17 hK17 => ?_
 refine c_sr fun _ hK18 => ?_
 refine vm rfl rfl ?_
 refine vm rfl rfl ?_
 refine wv rfl (fun hf hs => r_eql (hf.ev rfl) (hf.ev rfl)) ?_
 refine vm rfl rfl ?_
 obtain ⟨t19, e20, H⟩ := bnd H
 refine w_callJ (b0 := b) 0 cf55 trivial rfl rfl rfl rfl (fun w hs => backup_reader_check.calls (b := b) (T := T) (q := (q)) (x_ := x_) hs h2 (t9.2.2 == (0 : Int)) t9.2.2 _ e20) ?_
 rintro v23 M21 _ l22 ⟨v24, hv_, h25, rfl⟩
 subst hv_
 replace h16 := h16.mono l22
 refine wv rfl (fun hf hs => r_not (hf.ev rfl)) ?_
 refine w_nil (hK18 _ _ _ ?_)
 refine c_if rfl (fun b26 => ?_) (fun b26 => ?_)
 ·replace H := if_t b26 H
  refine c_sr fun _ hK27 => ?_
  refine vm rfl rfl ?_
  refine va rfl rfl ?_
  refine w_nil (hK27 _ _ _ ?_)
  obtain rfl := some_r H
  exact c_ret fun a w' hf hs => hret _ (.inl rfl) a w' hf.df ⟨_, _, _, Res.of1 rfl (RV.t hf rfl), hs.sel [0] (by decide) rfl, ⟨_, _, rfl, RS.none, h25, rfl⟩⟩
 replace H := if_f b26 H
 refine c_skip (hK17 _ _ _ ?_)
 refine c_sr fun _ hK28 => ?_
 refine vm rfl rfl ?_
 refine vm rfl rfl ?_
 refine wv rfl (fun hf hs => r_nilCheck (hf.ev rfl)) ?_
 refine v_fa fa80_0 rfl rfl ?_
 refine wv rfl (fun hf hs => r_load1 ta66 (hf.ev rfl) (hs.blk (i := 0) rfl) rfl) ?_
 refine vm rfl rfl ?_
 obtain ⟨g31, H⟩ := grd_s H
 refine w_ex (Φ := fun v => RS (FI .u8) M21 v ((t19.2.rest_.take ((t19.2.rest_.length : Int)).toNat).drop (t9.2.1).toNat)) trivial rfl (fun a w hf hs => r_slR Tryd.underlying66 ts5 (hf.ev rfl) h25 ⟨_, hf.ev rfl⟩ rfl g31.1 g31.2.1 g31.2.2) ?_
 intro v29 h30
 refine wv rfl (fun hf hs => r_nilCheck (hf.ev rfl)) ?_
 refine v_fa fa80_0 rfl rfl ?_
 refine w_store (i := 0) (vs := [v29]) (A' := (backup_reader.C ({ t19.2 with rest_ := ((t19.2.rest_.take ((t19.2.rest_.length : Int)).toNat).drop (t9.2.1).toNat) } : backup_reader) v29 ++ q)) trivial rfl rfl rfl h30.cells1 ts66 rfl (one1 h30.one) (Nat.le_of_ble_eq_true rfl) rfl ?_
 refine w_nil (hK28 _ _ _ ?_)
 refine c_sr fun _ hK32 => ?_
 refine vm rfl rfl ?_
 refine va rfl rfl ?_
 refine w_nil (hK32 _ _ _ ?_)
 obtain rfl := some_r H
 exact c_ret fun a w' hf hs => hret _ (.inl rfl) a w' hf.df ⟨_, _, _, Res.of1 rfl (RV.t hf rfl), hs.sel [0] (by decide) rfl, ⟨_, _, rfl, h16, h30, rfl⟩⟩
theorem backup_whole_string.calls {M : Heap} {w : World} {b : Nat} {T : TypeId} {q : List Value} {x_ : backup_reader} {v1 : Value} (hs : St (fun k => k = b) M w M (lt [.blk b (.cells ((backup_reader.C x_ v1 ++ q)).toArray T (0, 0))]) w) (h2 : RS (FI .u8) M v1 x_.rest_) (r : ((List UInt8) × backup_reader)) (H : backup_whole_string x_ = some r) :
  Calls Tryd.prog 103 [(ptr b 0), (.func (.func 98) #[] #[])].toArray w (PostI (fun k => k = b) M w fun M' x v => ∃ (v21 : Value), v = (str r.1) ∧ RS (FI .u8) M' v21 r.2.rest_ ∧ x = .blk b (.cells ((backup_reader.C r.2 v21 ++ q)).toArray T (0, 0))) := by
 refine enterI 18 [(0, (ptr b 0)), (1, (.func (.func 98) #[] #[]))] Tryd.func103 rfl rfl rfl hs ?_
 clear hs
 intro Q hret
 unfold backup_whole_string at H
 refine c_sr fun _ hK3 => ?_
 refine va rfl rfl ?_
 refine w_nil (hK3 _ _ _ ?_)
 refine c_sr fun _ hK4 => ?_
 refine vm rfl rfl ?_
 refine vm rfl rfl ?_
 obtain ⟨t5, e6, H⟩ := bnd H
 refine w_callJ (b0 := b) 0 cf97 trivial rfl rfl rfl rfl (fun w hs => backup_read_string.calls (b := b) (T := T) (q := (q)) (x_ := x_) hs h2 _ e6) ?_
 rintro v9 M7 _ l8 ⟨v10, hv_, h11, rfl⟩
 subst hv_
 refine va rfl rfl ?_
 refine w_nil (hK4 _ _ _ ?_)
 refine c_sr fun _ hK12 => ?_
 refine vm rfl rfl ?_
 refine vm rfl rfl ?_
 refine wv rfl (fun hf hs => r_nilCheck (hf.ev rfl)) ?_
 refine v_fa fa80_0 rfl rfl ?_
 refine wv rfl (fun hf hs => r_load1 ta66 (hf.ev rfl) (hs.blk (i := 0) rfl) rfl) ?_
 refine wv rfl (fun hf hs => r_lenR Tryd.underlying66 h11 (hf.ev rfl)) ?_
 refine wv rfl (fun hf hs => r_eql (hf.ev rfl) (hf.ev rfl)) ?_
 obtain ⟨t13, e14, H⟩ := bnd H
 refine w_callJ (b0 := b) 0 cf55 trivial rfl rfl rfl rfl (fun w hs => backup_reader_check.calls (b := b) (T := T) (q := (q)) (x_ := t5.2) hs h11 ((t5.2.rest_.length : Int) == (0 : Int)) (6 : Int) _ e14) ?_
 rintro v17 M15 _ l16 ⟨v18, hv_, h19, rfl⟩
 subst hv_
 refine w_nil (hK12 _ _ _ ?_)
 refine c_sr fun _ hK20 => ?_
 refine vm rfl rfl ?_
 refine va rfl rfl ?_
 refine w_nil (hK20 _ _ _ ?_)
 obtain rfl := some_r H
 exact c_ret fun a w' hf hs => hret _ (.inl rfl) a w' hf.df ⟨_, _, _, Res.of1 rfl (RV.t hf rfl), hs.sel [0] (by decide) rfl, ⟨_, rfl, h19, rfl⟩⟩
theorem backup_blobReader_peek.calls {M : Heap} {w : World} {b : Nat} {T : TypeId} {q : List Value} {x_ : backup_blobReader} {v1 : Value} (hs : St (fun k => k = b) M w M (lt [.blk b (.cells ((backup_blobReader.C x_ v1 ++ q)).toArray T (0, 0))]) w) (h2 : RS (FI .u8) M v1 x_.reader.rest_) (r : (Backup × backup_blobReader)) (H : backup_blobReader_peek x_ = some r) :
  Calls Tryd.prog 51 [(ptr b 0)].toArray w (PostI (fun k => k = b) M w fun M' x v => ∃ (v214 : Value), v = (.agg (Backup.C r.1 (.slice none 0 0)).toArray) ∧ RS (FI .u8) M' v214 r.2.reader.rest_ ∧ r.1.Keys = [] ∧ x = .blk b (.cells ((backup_blobReader.C r.2 v214 ++ q)).toArray T (0, 0))) := by
 refine enterI 69 [(0, (ptr b 0))] Tryd.func51 rfl rfl rfl hs ?_
 clear hs
 intro Q hret
 unfold backup_blobReader_peek at H
 refine c_sr fun _ hK3 => ?_
 refine w_allocL (A := Backup.C (⟨(Vector.replicate 16 0), 0, 0, 0, 0, (Vector.replicate 16 0), [], []⟩ : Backup) (.slice none 0 0)) tz36 trivial rfl rfl ?_
 intro b4
 refine w_nil (hK3 _ _ _ ?_)
 refine c_sr fun _ hK5 => ?_
 refine vm rfl rfl ?_
 refine vm rfl rfl ?_
 refine wv rfl (fun hf hs => r_nilCheck (hf.ev rfl)) ?_
 refine v_fa fa82_0 rfl rfl ?_
 obtain ⟨t6, e7, H⟩ := bnd H
 refine w_callJ (b0 := b) 0 cf97 trivial rfl rfl rfl rfl (fun w hs => backup_read_string.calls (b := b) (T := T) (q := ([(str x_.header)] ++ q)) (x_ := x_.reader) hs h2 _ e7) ?_
 rintro v10 M8 _ l9 ⟨v11, hv_, h12, rfl⟩
 subst hv_
 refine wv rfl (fun hf hs => r_nilCheck (hf.ev rfl)) ?_
 refine v_fa fa82_1 rfl rfl ?_
 refine w_store (i := 0) (vs := [(str t6.1)]) (A' := (backup_blobReader.C (⟨t6.2, t6.1⟩ : backup_blobReader) v11 ++ q)) trivial rfl rfl rfl rfl ts9 rfl (one1 rfl) (Nat.le_of_ble_eq_true rfl) rfl ?_
 refine w_nil (hK5 _ _ _ ?_)
 refine c_seq fun K13 hK13 => ?_
 refine c_split2 10 (by kernel_rfl) (by kernel_rfl) (by kernel_rfl) (by kernel_rfl) rfl ?_
 intro K14 hK14
 refine d_drawP [([], [0]), ([(0, 12)], []), ([(1, 13)], []), ([(2, 14)], []), ([(3, 15)], []), ([], [0]), ([(5, 17)], []), ([(6, 18)], []), ([(7, 19)], []), ([(8, 20)], [])] [vq (ptr b 0), vq (ptr b 0), vq (ptr b 2), vq (str t6.1), fun v M => ∃ (v29 : Value), v = v29 ∧ RS (FI .u8) M v29 (bytesI t6.1), vq (ptr b 0), vq (ptr b 0), vq (ptr b 0), vq (ptr b 1), vq (.int .i64 t6.2.e)] (by kernel_rfl) (by kernel_rfl) ?_ (aT ?_ (aT ?_ (aT ?_ (aT ?_ (aT ?_ (aT ?_ (aT ?_ (aT ?_ (aT ?_ (aT ?_ AllT.nil)))))))))) ?_
 ·exact (mC (mC (mC (mC (MonoA.cons (fun _ _ _ hM h => by obtain ⟨v29, e_, q0⟩ := h; exact ⟨v29, e_, q0.mono hM⟩) (mC (mC (mC (mC (mC MonoA.nil))))))))))
 ·intro a w' _ _ hd hs
  exact pv (hd.fr.add (hd.base 0 _ rfl rfl)) hs rfl (fun hf hs => r_move (hf.ev rfl)) rfl
 ·intro a w' _ _ hd hs
  exact pv (hd.fr.add (hd.val 0 12 _ rfl rfl)) hs rfl (fun hf hs => r_nilCheck (hf.ev rfl)) rfl
 ·intro a w' _ _ hd hs
  exact pv (hd.fr.add (hd.val 1 13 _ rfl rfl)) hs rfl (fun hf hs => r_fa fa82_1 (hf.ev rfl)) rfl
 ·intro a w' _ _ hd hs
  exact pv (hd.fr.add (hd.val 2 14 _ rfl rfl)) hs rfl (fun hf hs => r_load1 ta9 (hf.ev rfl) (hs.blk (i := 0) rfl) rfl) rfl
 ·intro a w' _ _ hd hs
  have e28 := hd.val 3 15 _ rfl rfl
  refine OP.ofW (l := [(15, (str t6.1))]) (hd.fr.add e28) hs rfl ?_
  refine w_s2b Tryd.underlying9 Tryd.underlying66 Tryd.underlying5 trivial rfl rfl ?_
  intro v29 M30 l31 h32
  exact w_nil fun a w' hf hs => ⟨rfl, hf.df, _, l31, hs, ⟨v29, hf.get _ _ rfl, h32⟩⟩
 ·intro a w' _ _ hd hs
  exact pv (hd.fr.add (hd.base 0 _ rfl rfl)) hs rfl (fun hf hs => r_move (hf.ev rfl)) rfl
 ·intro a w' _ _ hd hs
  exact pv (hd.fr.add (hd.val 5 17 _ rfl rfl)) hs rfl (fun hf hs => r_nilCheck (hf.ev rfl)) rfl
 ·intro a w' _ _ hd hs
  exact pv (hd.fr.add (hd.val 6 18 _ rfl rfl)) hs rfl (fun hf hs => r_fa fa82_0 (hf.ev rfl)) rfl
 ·intro a w' _ _ hd hs
  exact pv (hd.fr.add (hd.val 7 19 _ rfl rfl)) hs rfl (fun hf hs => r_fa fa80_1 (hf.ev rfl)) rfl
 ·intro a w' _ _ hd hs
  exact pv (hd.fr.add (hd.val 8 20 _ rfl rfl)) hs rfl (fun hf hs => r_load1 ta24 (hf.ev rfl) (hs.blk (i := 0) rfl) rfl) rfl
 intro a w' M47 l48 hdf hsz hb hv hs
 replace h12 := h12.mono l48
 obtain ⟨v49, e51, h50⟩ := hv 4 16 _ rfl rfl
 have e52 := hv 9 21 _ rfl rfl
 refine n_of (c := (Cx.mk Tryd.prog 69 (fun k => k = b) M w)) (l := [(0, (ptr b 0)), (2, (ptr b4 0)), (16, v49), (21, (.int .i64 t6.2.e))]) ?_ (((((Fr.start hdf hsz).add e52).add e51).add (hb 2 _ rfl rfl)).add (hb 0 _ rfl rfl)) hs
 clear hdf hsz hb hv hs e51 e52
 refine n_id (hK14 _ _ _ ?_)
 refine wv rfl (fun hf hs => r_build (is := [0, 1]) (xs := [.tmp 16, .tmp 21]) (vs := [v49, (.int .i64 t6.2.e)]) (A := backup_reader.C (⟨(bytesI t6.1), t6.2.e⟩ : backup_reader) v49) rfl (hf.evs rfl) (built_of (pl := [(0, 1), (1, 1)]) (A0 := backup_reader.C (⟨[], 0⟩ : backup_reader) (.slice none 0 0)) tz80 Tryd.underlying80 (by kernel_rfl) rfl (.cons (vs := [v49]) (B := backup_reader.C (⟨(bytesI t6.1), 0⟩ : backup_reader) v49) rfl (h50.cells1) rfl (by rw [backup_reader.len]; decide) rfl (.cons (vs := [(.int .i64 t6.2.e)]) (B := backup_reader.C (⟨(bytesI t6.1), t6.2.e⟩ : backup_reader) v49) rfl rfl rfl (by rw [backup_reader.len]; decide) rfl .nil)))) ?_
 refine w_boxL trivial rfl rfl rfl ?_
 intro b53
 refine va rfl rfl ?_
 refine w_nil (hK13 _ _ _ ?_)
 refine c_sr fun _ hK54 => ?_
 refine vm rfl rfl ?_
 obtain ⟨t55, e56, H⟩ := bnd H
 refine w_callJ (b0 := b53) 2 cf99 trivial rfl rfl rfl rfl (fun w hs => backup_read_Digest.calls (b := b53) (T := 80) (q := []) (x_ := (⟨(bytesI t6.1), t6.2.e⟩ : backup_reader)) hs h50 _ e56) ?_
 rintro v59 M57 _ l58 ⟨v60, hv_, h61, rfl⟩
 subst hv_
 replace h12 := h12.mono l58
 refine v_fa fa36_0 rfl rfl ?_
 refine w_store (i := 1) (vs := vI .u8 t55.1) (A' := Backup.C (⟨t55.1, 0, 0, 0, 0, (Vector.replicate 16 0), [], []⟩ : Backup) (.slice none 0 0)) trivial rfl rfl rfl rfl ts33 (vI_len _) (vI_one _) (by rw [Backup.len]; decide) (Backup.s0_16 _ _) ?_
 refine w_nil (hK54 _ _ _ ?_)
 refine c_seq fun K62 hK62 => ?_
 refine c_sr fun _ hK63 => ?_
 refine vm rfl rfl ?_
 obtain ⟨t64, e65, H⟩ := bnd H
 refine w_callJ (b0 := b53) 2 cf101 trivial rfl rfl rfl rfl (fun w hs => backup_read_LLint.calls (b := b53) (T := 80) (q := []) (x_ := t55.2) hs h61 _ e65) ?_
 rintro v68 M66 _ l67 ⟨v69, v71, hv_, h70, h72, rfl⟩
 replace hv_ := hv_.symm
 subst hv_
 replace h12 := h12.mono l67
 refine va rfl rfl ?_
 refine w_nil (hK63 _ _ _ ?_)
 refine c_sr fun _ hK73 => ?_
 refine vm rfl rfl ?_
 refine vm rfl rfl ?_
 refine wv rfl (fun hf hs => r_lenR Tryd.underlying51 h70 (hf.ev rfl)) ?_
 refine wv rfl (fun hf hs => r_eql (hf.ev rfl) (hf.ev rfl)) ?_
 obtain ⟨t74, e75, H⟩ := bnd H
 refine w_callJ (b0 := b53) 2 cf55 trivial rfl rfl rfl rfl (fun w hs => backup_reader_check.calls (b := b53) (T := 80) (q := []) (x_ := t64.2) hs h72 ((t64.1.length : Int) == (4 : Int)) (6 : Int) _ e75) ?_
 rintro v78 M76 _ l77 ⟨v79, hv_, h80, rfl⟩
 subst hv_
 replace h12 := h12.mono l77
 replace h70 := h70.mono l77
 refine w_nil (hK73 _ _ _ ?_)
 refine c_if rfl (fun b81 => ?_) (fun b81 => ?_)
 ·replace H := if_t b81 H
  refine c_split2 18 (by kernel_rfl) (by kernel_rfl) (by kernel_rfl) (by kernel_rfl) rfl ?_
  intro K82 hK82
  obtain ⟨g88, H⟩ := grd_s H
  obtain ⟨g97, H⟩ := grd_s H
  obtain ⟨g106, H⟩ := grd_s H
  obtain ⟨g115, H⟩ := grd_s H
  refine d_drawW [[], [13, 15, 17], []] [⟨[], [4], [], none⟩, ⟨[(0, 34)], [], [], none⟩, ⟨[(1, 35)], [], [], none⟩, ⟨[], [4], [], none⟩, ⟨[(3, 37)], [], [], none⟩, ⟨[(4, 38)], [], [], none⟩, ⟨[], [4], [], none⟩, ⟨[(6, 40)], [], [], none⟩, ⟨[(7, 41)], [], [], none⟩, ⟨[], [4], [], none⟩, ⟨[(9, 43)], [], [], none⟩, ⟨[(10, 44)], [], [], none⟩, ⟨[], [2], [], none⟩, ⟨[(12, 46), (2, 36)], [], [(1, 0)], some (1, 0)⟩, ⟨[], [2], [], none⟩, ⟨[(14, 47), (5, 39)], [], [(1, 1)], some (1, 1)⟩, ⟨[], [2], [], none⟩, ⟨[(16, 48), (8, 42)], [], [(1, 2)], some (1, 2)⟩] [vq v69, vq (eP v69 (0 : Int) 1 0), vq (.int .i64 (rd t64.1 0)), vq v69, vq (eP v69 (1 : Int) 1 0), vq (.int .i64 (rd t64.1 1)), vq v69, vq (eP v69 (2 : Int) 1 0), vq (.int .i64 (rd t64.1 2)), vq v69, vq (eP v69 (3 : Int) 1 0), vq (.int .i64 (rd t64.1 3)), vq (ptr b4 16), fun _ _ => True, vq (ptr b4 17), fun _ _ => True, vq (ptr b4 18), fun _ _ => True] [[fun y M => y = .blk b (.cells ((backup_blobReader.C (⟨t6.2, t6.1⟩ : backup_blobReader) v11 ++ q)).toArray T (0, 0))], [fun y M => y = .blk b4 (.cells (Backup.C (⟨t55.1, 0, 0, 0, 0, (Vector.replicate 16 0), [], []⟩ : Backup) (.slice none 0 0)).toArray 36 (0, 0)), fun y M => y = .blk b4 (.cells (Backup.C (⟨t55.1, (rd t64.1 0), 0, 0, 0, (Vector.replicate 16 0), [], []⟩ : Backup) (.slice none 0 0)).toArray 36 (0, 0)), fun y M => y = .blk b4 (.cells (Backup.C (⟨t55.1, (rd t64.1 0), (rd t64.1 1), 0, 0, (Vector.replicate 16 0), [], []⟩ : Backup) (.slice none 0 0)).toArray 36 (0, 0)), fun y M => y = .blk b4 (.cells (Backup.C (⟨t55.1, (rd t64.1 0), (rd t64.1 1), (rd t64.1 2), 0, (Vector.replicate 16 0), [], []⟩ : Backup) (.slice none 0 0)).toArray 36 (0, 0))], [fun y M => y = .blk b53 (.cells (backup_reader.C t74.2 v79).toArray 80 (0, 0))]] (by kernel_rfl) (by kernel_rfl) ?_ ?_ rfl ?_ (AllW.cons ?_ (AllW.cons ?_ (AllW.cons ?_ (AllW.cons ?_ (AllW.cons ?_ (AllW.cons ?_ (AllW.cons ?_ (AllW.cons ?_ (AllW.cons ?_ (AllW.cons ?_ (AllW.cons ?_ (AllW.cons ?_ (AllW.cons ?_ (AllW.cons ?_ (AllW.cons ?_ (AllW.cons ?_ (AllW.cons ?_ (AllW.cons ?_ AllW.nil)))))))))))))))))) ?_
  ·exact (mC (mC (mC (mC (mC (mC (mC (mC (mC (mC (mC (mC (mC (mC (mC (mC (mC (mC MonoA.nil))))))))))))))))))
  ·exact (MonoK.cons (mono_cons (fun _ _ _ _ h => h) mono_nil) (MonoK.cons (mono_cons (fun _ _ _ _ h => h) (mono_cons (fun _ _ _ _ h => h) (mono_cons (fun _ _ _ _ h => h) (mono_cons (fun _ _ _ _ h => h) mono_nil)))) (MonoK.cons (mono_cons (fun _ _ _ _ h => h) mono_nil) MonoK.nil)))
  ·exact (All0.cons rfl (All0.cons rfl (All0.cons rfl All0.nil)))
  ·intro a w' _ _ l84 hL hd hs
   replace h70 := h70.mono l84
   obtain ⟨x0_, L0_, rfl, hL0⟩ := lenS hL
   obtain ⟨x1_, L1_, rfl, hL1⟩ := lenS hL0
   obtain ⟨x2_, L2_, rfl, hL2⟩ := lenS hL1
   obtain rfl := len0 hL2
   exact pw (hd.fr.add (hd.base 4 _ rfl rfl)) hs rfl (fun hf hs => r_move (hf.ev rfl)) rfl rfl
  ·intro a w' _ _ l86 hL hd hs
   obtain ⟨x0_, L0_, rfl, hL0⟩ := lenS hL
   obtain ⟨x1_, L1_, rfl, hL1⟩ := lenS hL0
   obtain ⟨x2_, L2_, rfl, hL2⟩ := lenS hL1
   obtain rfl := len0 hL2
   exact pw (hd.fr.add (hd.val 0 34 _ rfl rfl)) hs rfl (fun hf hs => r_iR Tryd.underlying51 ts3 (h70.mono l86) (hf.ev rfl) (hf.ev rfl) g88.1 g88.2) rfl rfl
  ·intro a w' _ _ l90 hL hd hs
   obtain ⟨x0_, L0_, rfl, hL0⟩ := lenS hL
   obtain ⟨x1_, L1_, rfl, hL1⟩ := lenS hL0
   obtain ⟨x2_, L2_, rfl, hL2⟩ := lenS hL1
   obtain rfl := len0 hL2
   exact pw (hd.fr.add (hd.val 1 35 _ rfl rfl)) hs rfl (fun hf hs => r_loadE1 ta3 (h70.mono l90) hs.sub g88.1 g88.2 (hf.ev rfl) rfl) rfl rfl
  ·intro a w' _ _ l93 hL hd hs
   replace h70 := h70.mono l93
   obtain ⟨x0_, L0_, rfl, hL0⟩ := lenS hL
   obtain ⟨x1_, L1_, rfl, hL1⟩ := lenS hL0
   obtain ⟨x2_, L2_, rfl, hL2⟩ := lenS hL1
   obtain rfl := len0 hL2
   exact pw (hd.fr.add (hd.base 4 _ rfl rfl)) hs rfl (fun hf hs => r_move (hf.ev rfl)) rfl rfl
  ·intro a w' _ _ l95 hL hd hs
   obtain ⟨x0_, L0_, rfl, hL0⟩ := lenS hL
   obtain ⟨x1_, L1_, rfl, hL1⟩ := lenS hL0
   obtain ⟨x2_, L2_, rfl, hL2⟩ := lenS hL1
   obtain rfl := len0 hL2
   exact pw (hd.fr.add (hd.val 3 37 _ rfl rfl)) hs rfl (fun hf hs => r_iR Tryd.underlying51 ts3 (h70.mono l95) (hf.ev rfl) (hf.ev rfl) g97.1 g97.2) rfl rfl
  ·intro a w' _ _ l99 hL hd hs
   obtain ⟨x0_, L0_, rfl, hL0⟩ := lenS hL
   obtain ⟨x1_, L1_, rfl, hL1⟩ := lenS hL0
   obtain ⟨x2_, L2_, rfl, hL2⟩ := lenS hL1
   obtain rfl := len0 hL2
   exact pw (hd.fr.add (hd.val 4 38 _ rfl rfl)) hs rfl (fun hf hs => r_loadE1 ta3 (h70.mono l99) hs.sub g97.1 g97.2 (hf.ev rfl) rfl) rfl rfl
  ·intro a w' _ _ l102 hL hd hs
   replace h70 := h70.mono l102
   obtain ⟨x0_, L0_, rfl, hL0⟩ := lenS hL
   obtain ⟨x1_, L1_, rfl, hL1⟩ := lenS hL0
   obtain ⟨x2_, L2_, rfl, hL2⟩ := lenS hL1
   obtain rfl := len0 hL2
   exact pw (hd.fr.add (hd.base 4 _ rfl rfl)) hs rfl (fun hf hs => r_move (hf.ev rfl)) rfl rfl
  ·intro a w' _ _ l104 hL hd hs
   obtain ⟨x0_, L0_, rfl, hL0⟩ := lenS hL
   obtain ⟨x1_, L1_, rfl, hL1⟩ := lenS hL0
   obtain ⟨x2_, L2_, rfl, hL2⟩ := lenS hL1
   obtain rfl := len0 hL2
   exact pw (hd.fr.add (hd.val 6 40 _ rfl rfl)) hs rfl (fun hf hs => r_iR Tryd.underlying51 ts3 (h70.mono l104) (hf.ev rfl) (hf.ev rfl) g106.1 g106.2) rfl rfl
  ·intro a w' _ _ l108 hL hd hs
   obtain ⟨x0_, L0_, rfl, hL0⟩ := lenS hL
   obtain ⟨x1_, L1_, rfl, hL1⟩ := lenS hL0
   obtain ⟨x2_, L2_, rfl, hL2⟩ := lenS hL1
   obtain rfl := len0 hL2
   exact pw (hd.fr.add (hd.val 7 41 _ rfl rfl)) hs rfl (fun hf hs => r_loadE1 ta3 (h70.mono l108) hs.sub g106.1 g106.2 (hf.ev rfl) rfl) rfl rfl
  ·intro a w' _ _ l111 hL hd hs
   replace h70 := h70.mono l111
   obtain ⟨x0_, L0_, rfl, hL0⟩ := lenS hL
   obtain ⟨x1_, L1_, rfl, hL1⟩ := lenS hL0
   obtain ⟨x2_, L2_, rfl, hL2⟩ := lenS hL1
   obtain rfl := len0 hL2
   exact pw (hd.fr.add (hd.base 4 _ rfl rfl)) hs rfl (fun hf hs => r_move (hf.ev rfl)) rfl rfl
  ·intro a w' _ _ l113 hL hd hs
   obtain ⟨x0_, L0_, rfl, hL0⟩ := lenS hL
   obtain ⟨x1_, L1_, rfl, hL1⟩ := lenS hL0
   obtain ⟨x2_, L2_, rfl, hL2⟩ := lenS hL1
   obtain rfl := len0 hL2
   exact pw (hd.fr.add (hd.val 9 43 _ rfl rfl)) hs rfl (fun hf hs => r_iR Tryd.underlying51 ts3 (h70.mono l113) (hf.ev rfl) (hf.ev rfl) g115.1 g115.2) rfl rfl
  ·intro a w' _ _ l117 hL hd hs
   obtain ⟨x0_, L0_, rfl, hL0⟩ := lenS hL
   obtain ⟨x1_, L1_, rfl, hL1⟩ := lenS hL0
   obtain ⟨x2_, L2_, rfl, hL2⟩ := lenS hL1
   obtain rfl := len0 hL2
   exact pw (hd.fr.add (hd.val 10 44 _ rfl rfl)) hs rfl (fun hf hs => r_loadE1 ta3 (h70.mono l117) hs.sub g115.1 g115.2 (hf.ev rfl) rfl) rfl rfl
  ·intro a w' _ _ _ hL hd hs
   obtain ⟨x0_, L0_, rfl, hL0⟩ := lenS hL
   obtain ⟨x1_, L1_, rfl, hL1⟩ := lenS hL0
   obtain ⟨x2_, L2_, rfl, hL2⟩ := lenS hL1
   obtain rfl := len0 hL2
   exact pw (hd.fr.add (hd.base 2 _ rfl rfl)) hs rfl (fun hf hs => r_fa fa36_1 (hf.ev rfl)) rfl rfl
  ·intro a w' _ _ _ hL hd hs
   have e123 := hd.val 12 46 _ rfl rfl
   have e124 := hd.val 2 36 _ rfl rfl
   obtain ⟨x0_, L0_, rfl, hL0⟩ := lenS hL
   obtain ⟨x1_, L1_, rfl, hL1⟩ := lenS hL0
   obtain ⟨x2_, L2_, rfl, hL2⟩ := lenS hL1
   obtain rfl := len0 hL2
   obtain ⟨_, ⟨⟩, rfl⟩ := hd.item 1 0 _ rfl rfl
   refine OP.ofW (l := [(46, (ptr b4 16)), (36, (.int .i64 (rd t64.1 0)))]) ((hd.fr.add e124).add e123) hs rfl ?_
   refine w_store (i := 1) (vs := [(.int .i64 (rd t64.1 0))]) (A' := Backup.C (⟨t55.1, (rd t64.1 0), 0, 0, 0, (Vector.replicate 16 0), [], []⟩ : Backup) (.slice none 0 0)) trivial rfl rfl rfl rfl ts3 rfl (one1 rfl) (by rw [Backup.len]; decide) (Backup.s16_1 _ _) ?_
   exact w_nil fun a w' hf hs => ⟨rfl, hf.df, _, _, (HLe.refl _), hs, trivial, ⟨.blk b4 (.cells (Backup.C (⟨t55.1, (rd t64.1 0), 0, 0, 0, (Vector.replicate 16 0), [], []⟩ : Backup) (.slice none 0 0)).toArray 36 (0, 0)), rfl, of_some (q := fun y M => y = .blk b4 (.cells (Backup.C (⟨t55.1, (rd t64.1 0), 0, 0, 0, (Vector.replicate 16 0), [], []⟩ : Backup) (.slice none 0 0)).toArray 36 (0, 0))) rfl⟩⟩
  ·intro a w' _ _ _ hL hd hs
   obtain ⟨x0_, L0_, rfl, hL0⟩ := lenS hL
   obtain ⟨x1_, L1_, rfl, hL1⟩ := lenS hL0
   obtain ⟨x2_, L2_, rfl, hL2⟩ := lenS hL1
   obtain rfl := len0 hL2
   exact pw (hd.fr.add (hd.base 2 _ rfl rfl)) hs rfl (fun hf hs => r_fa fa36_2 (hf.ev rfl)) rfl rfl
  ·intro a w' _ _ _ hL hd hs
   have e129 := hd.val 14 47 _ rfl rfl
   have e130 := hd.val 5 39 _ rfl rfl
   obtain ⟨x0_, L0_, rfl, hL0⟩ := lenS hL
   obtain ⟨x1_, L1_, rfl, hL1⟩ := lenS hL0
   obtain ⟨x2_, L2_, rfl, hL2⟩ := lenS hL1
   obtain rfl := len0 hL2
   obtain ⟨_, ⟨⟩, rfl⟩ := hd.item 1 1 _ rfl rfl
   refine OP.ofW (l := [(47, (ptr b4 17)), (39, (.int .i64 (rd t64.1 1)))]) ((hd.fr.add e130).add e129) hs rfl ?_
   refine w_store (i := 1) (vs := [(.int .i64 (rd t64.1 1))]) (A' := Backup.C (⟨t55.1, (rd t64.1 0), (rd t64.1 1), 0, 0, (Vector.replicate 16 0), [], []⟩ : Backup) (.slice none 0 0)) trivial rfl rfl rfl rfl ts3 rfl (one1 rfl) (by rw [Backup.len]; decide) (Backup.s17_1 _ _) ?_
   exact w_nil fun a w' hf hs => ⟨rfl, hf.df, _, _, (HLe.refl _), hs, trivial, ⟨.blk b4 (.cells (Backup.C (⟨t55.1, (rd t64.1 0), (rd t64.1 1), 0, 0, (Vector.replicate 16 0), [], []⟩ : Backup) (.slice none 0 0)).toArray 36 (0, 0)), rfl, of_some (q := fun y M => y = .blk b4 (.cells (Backup.C (⟨t55.1, (rd t64.1 0), (rd t64.1 1), 0, 0, (Vector.replicate 16 0), [], []⟩ : Backup) (.slice none 0 0)).toArray 36 (0, 0))) rfl⟩⟩
  ·intro a w' _ _ _ hL hd hs
   obtain ⟨x0_, L0_, rfl, hL0⟩ := lenS hL
   obtain ⟨x1_, L1_, rfl, hL1⟩ := lenS hL0
   obtain ⟨x2_, L2_, rfl, hL2⟩ := lenS hL1
   obtain rfl := len0 hL2
   exact pw (hd.fr.add (hd.base 2 _ rfl rfl)) hs rfl (fun hf hs => r_fa fa36_3 (hf.ev rfl)) rfl rfl
  ·intro a w' _ _ _ hL hd hs
   have e135 := hd.val 16 48 _ rfl rfl
   have e136 := hd.val 8 42 _ rfl rfl
   obtain ⟨x0_, L0_, rfl, hL0⟩ := lenS hL
   obtain ⟨x1_, L1_, rfl, hL1⟩ := lenS hL0
   obtain ⟨x2_, L2_, rfl, hL2⟩ := lenS hL1
   obtain rfl := len0 hL2
   obtain ⟨_, ⟨⟩, rfl⟩ := hd.item 1 2 _ rfl rfl
   refine OP.ofW (l := [(48, (ptr b4 18)), (42, (.int .i64 (rd t64.1 2)))]) ((hd.fr.add e136).add e135) hs rfl ?_
   refine w_store (i := 1) (vs := [(.int .i64 (rd t64.1 2))]) (A' := Backup.C (⟨t55.1, (rd t64.1 0), (rd t64.1 1), (rd t64.1 2), 0, (Vector.replicate 16 0), [], []⟩ : Backup) (.slice none 0 0)) trivial rfl rfl rfl rfl ts3 rfl (one1 rfl) (by rw [Backup.len]; decide) (Backup.s18_1 _ _) ?_
   exact w_nil fun a w' hf hs => ⟨rfl, hf.df, _, _, (HLe.refl _), hs, trivial, ⟨.blk b4 (.cells (Backup.C (⟨t55.1, (rd t64.1 0), (rd t64.1 1), (rd t64.1 2), 0, (Vector.replicate 16 0), [], []⟩ : Backup) (.slice none 0 0)).toArray 36 (0, 0)), rfl, of_some (q := fun y M => y = .blk b4 (.cells (Backup.C (⟨t55.1, (rd t64.1 0), (rd t64.1 1), (rd t64.1 2), 0, (Vector.replicate 16 0), [], []⟩ : Backup) (.slice none 0 0)).toArray 36 (0, 0))) rfl⟩⟩
  intro a w' M137 L_ l138 hL hdf hsz hb hv hi hs
  replace h12 := h12.mono l138
  replace h80 := h80.mono l138
  have e139 := hv 11 45 _ rfl rfl
  obtain ⟨x0_, L0_, rfl, hL0⟩ := lenS hL
  obtain ⟨x1_, L1_, rfl, hL1⟩ := lenS hL0
  obtain ⟨x2_, L2_, rfl, hL2⟩ := lenS hL1
  obtain rfl := len0 hL2
  obtain ⟨_, hy, rfl⟩ := hi 0 _ rfl
  obtain rfl := Option.some.inj hy
  obtain ⟨_, hy, rfl⟩ := hi 1 _ rfl
  obtain rfl := Option.some.inj hy
  obtain ⟨_, hy, rfl⟩ := hi 2 _ rfl
  obtain rfl := Option.some.inj hy
  clear hi hy
  refine n_of (c := (Cx.mk Tryd.prog 69 (fun k => k = b) M w)) (l := [(0, (ptr b 0)), (2, (ptr b4 0)), (3, (ptr b53 0)), (45, (.int .i64 (rd t64.1 3)))]) ?_ (((((Fr.start hdf hsz).add e139).add (hb 3 _ rfl rfl)).add (hb 2 _ rfl rfl)).add (hb 0 _ rfl rfl)) hs
  clear hdf hsz hb hv hs e139
  refine n_id (hK82 _ _ _ ?_)
  refine v_fa fa36_4 rfl rfl ?_
  refine w_store (i := 1) (vs := [(.int .i64 (rd t64.1 3))]) (A' := Backup.C (⟨t55.1, (rd t64.1 0), (rd t64.1 1), (rd t64.1 2), (rd t64.1 3), (Vector.replicate 16 0), [], []⟩ : Backup) (.slice none 0 0)) trivial rfl rfl rfl rfl ts3 rfl (one1 rfl) (by rw [Backup.len]; decide) (Backup.s19_1 _ _) ?_
  refine w_nil (hK62 _ _ _ ?_)
  refine c_sr fun _ hK140 => ?_
  refine vm rfl rfl ?_
  obtain ⟨t141, e142, H⟩ := bnd H
  refine w_callJ (b0 := b53) 2 cf99 trivial rfl rfl rfl rfl (fun w hs => backup_read_Digest.calls (b := b53) (T := 80) (q := []) (x_ := t74.2) hs h80 _ e142) ?_
  rintro v145 M143 _ l144 ⟨v146, hv_, h147, rfl⟩
  subst hv_
  replace h12 := h12.mono l144
  replace h80 := h80.mono l144
  refine v_fa fa36_5 rfl rfl ?_
  refine w_store (i := 1) (vs := vI .u8 t141.1) (A' := Backup.C (⟨t55.1, (rd t64.1 0), (rd t64.1 1), (rd t64.1 2), (rd t64.1 3), t141.1, [], []⟩ : Backup) (.slice none 0 0)) trivial rfl rfl rfl rfl ts33 (vI_len _) (vI_one _) (by rw [Backup.len]; decide) (Backup.s20_16 _ _) ?_
  refine w_nil (hK140 _ _ _ ?_)
  refine c_sr fun _ hK148 => ?_
  refine vm rfl rfl ?_
  obtain ⟨t149, e150, H⟩ := bnd H
  refine w_callJ (b0 := b53) 2 cf103 trivial rfl rfl rfl rfl (fun w hs => backup_whole_string.calls (b := b53) (T := 80) (q := []) (x_ := t141.2) hs h147 _ e150) ?_
  rintro v153 M151 _ l152 ⟨v154, hv_, h155, rfl⟩
  subst hv_
  replace h12 := h12.mono l152
  replace h80 := h80.mono l152
  refine v_fa fa36_6 rfl rfl ?_
  refine w_store (i := 1) (vs := [(str t149.1)]) (A' := Backup.C (⟨t55.1, (rd t64.1 0), (rd t64.1 1), (rd t64.1 2), (rd t64.1 3), t141.1, t149.1, []⟩ : Backup) (.slice none 0 0)) trivial rfl rfl rfl rfl ts9 rfl (one1 rfl) (by rw [Backup.len]; decide) (Backup.s36_1 _ _) ?_
  refine w_nil (hK148 _ _ _ ?_)
  refine c_sr fun _ hK156 => ?_
  refine vm rfl rfl ?_
  refine wv rfl (fun hf hs => r_loadA ta36 ts36 (hf.ev rfl) (hs.blk (i := 1) rfl) (Backup.d0_38 _ _) (Backup.len _ _)) ?_
  obtain ⟨t157, e162, H⟩ := bnd H
  refine w_call cf46 trivial rfl rfl (fun w hs => backup_Valid.calls hs (⟨t55.1, (rd t64.1 0), (rd t64.1 1), (rd t64.1 2), (rd t64.1 3), t141.1, t149.1, []⟩ : Backup) (.slice none 0 0) RS.none _ e162) ?_
  rintro _ M159 l160 rfl
  replace h12 := h12.mono l160
  replace h80 := h80.mono l160
  replace h155 := h155.mono l160
  obtain ⟨t163, e164, H⟩ := bnd H
  refine w_callJ (b0 := b53) 2 cf55 trivial rfl rfl rfl rfl (fun w hs => backup_reader_check.calls (b := b53) (T := 80) (q := []) (x_ := t149.2) hs h155 t157 (6 : Int) _ e164) ?_
  rintro v167 M165 _ l166 ⟨v168, hv_, h169, rfl⟩
  subst hv_
  replace h12 := h12.mono l166
  replace h80 := h80.mono l166
  refine w_nil (hK156 _ _ _ ?_)
  refine c_sr fun _ hK170 => ?_
  refine vm rfl rfl ?_
  refine vm rfl rfl ?_
  refine wv rfl (fun hf hs => r_nilCheck (hf.ev rfl)) ?_
  refine v_fa fa80_1 rfl rfl ?_
  refine wv rfl (fun hf hs => r_load1 ta24 (hf.ev rfl) (hs.blk (i := 2) rfl) rfl) ?_
  refine wv rfl (fun hf hs => r_nilCheck (hf.ev rfl)) ?_
  refine v_fa fa82_0 rfl rfl ?_
  refine v_fa fa80_1 rfl rfl ?_
  refine w_store (i := 0) (vs := [(.int .i64 t163.2.e)]) (A' := (backup_blobReader.C (⟨({ t6.2 with e := t163.2.e } : backup_reader), t6.1⟩ : backup_blobReader) v11 ++ q)) trivial rfl rfl rfl rfl ts24 rfl (one1 rfl) (Nat.le_of_ble_eq_true rfl) rfl ?_
  refine w_nil (hK170 _ _ _ ?_)
  refine c_sr fun _ hK171 => ?_
  refine wv rfl (fun hf hs => r_loadA ta36 ts36 (hf.ev rfl) (hs.blk (i := 1) rfl) (Backup.d0_38 _ _) (Backup.len _ _)) ?_
  obtain ⟨z172, e174, H⟩ := bnd H
  have e173 := some_r e174
  refine w_store (i := 1) (vs := Backup.C (⟨t55.1, (rd t64.1 0), (rd t64.1 1), (rd t64.1 2), (rd t64.1 3), t141.1, t149.1, []⟩ : Backup) (.slice none 0 0)) (A' := Backup.C z172 (.slice none 0 0)) trivial rfl rfl rfl rfl ts36 (Backup.len _ _) (Backup.C_one _ rfl) (by rw [Backup.len]; decide) (by rw [← e173]; exact (splice_all _ _ (by simp [Backup.C]))) ?_
  have h175 : RS Key.F M165 (.slice none 0 0) z172.Keys := by rw [← e173]; exact RS.none
  clear e174 e173
  refine w_nil (hK171 _ _ _ ?_)
  obtain rfl := some_r H
  exact c_ret fun a w' hf hs => hret _ (.inl rfl) a w' hf.df ⟨_, _, _, Res.of1 rfl ⟨_, hf.get _ _ rfl, run_loadA (hs.blk (i := 1) rfl) ta36 ts36 (Backup.d0_38 _ _) (Backup.len _ _)⟩, hs.sel [0] (by decide) rfl, ⟨_, rfl, h12, (by first | rfl | exact rs_nil (by assumption)), rfl⟩⟩
 replace H := if_f b81 H
 refine c_skip (hK62 _ _ _ ?_)
 refine c_sr fun _ hK176 => ?_
 refine vm rfl rfl ?_
 obtain ⟨t177, e178, H⟩ := bnd H
 refine w_callJ (b0 := b53) 2 cf99 trivial rfl rfl rfl rfl (fun w hs => backup_read_Digest.calls (b := b53) (T := 80) (q := []) (x_ := t74.2) hs h80 _ e178) ?_
 rintro v181 M179 _ l180 ⟨v182, hv_, h183, rfl⟩
 subst hv_
 replace h12 := h12.mono l180
 refine v_fa fa36_5 rfl rfl ?_
 refine w_store (i := 1) (vs := vI .u8 t177.1) (A' := Backup.C (⟨t55.1, 0, 0, 0, 0, t177.1, [], []⟩ : Backup) (.slice none 0 0)) trivial rfl rfl rfl rfl ts33 (vI_len _) (vI_one _) (by rw [Backup.len]; decide) (Backup.s20_16 _ _) ?_
 refine w_nil (hK176 _ _ _ ?_)
 refine c_sr fun _ hK184 => ?_
 refine vm rfl rfl ?_
 obtain ⟨t185, e186, H⟩ := bnd H
 refine w_callJ (b0 := b53) 2 cf103 trivial rfl rfl rfl rfl (fun w hs => backup_whole_string.calls (b := b53) (T := 80) (q := []) (x_ := t177.2) hs h183 _ e186) ?_
 rintro v189 M187 _ l188 ⟨v190, hv_, h191, rfl⟩
 subst hv_
 replace h12 := h12.mono l188
 refine v_fa fa36_6 rfl rfl ?_
 refine w_store (i := 1) (vs := [(str t185.1)]) (A' := Backup.C (⟨t55.1, 0, 0, 0, 0, t177.1, t185.1, []⟩ : Backup) (.slice none 0 0)) trivial rfl rfl rfl rfl ts9 rfl (one1 rfl) (by rw [Backup.len]; decide) (Backup.s36_1 _ _) ?_
 refine w_nil (hK184 _ _ _ ?_)
 refine c_sr fun _ hK192 => ?_
 refine vm rfl rfl ?_
 refine wv rfl (fun hf hs => r_loadA ta36 ts36 (hf.ev rfl) (hs.blk (i := 1) rfl) (Backup.d0_38 _ _) (Backup.len _ _)) ?_
 obtain ⟨t193, e198, H⟩ := bnd H
 refine w_call cf46 trivial rfl rfl (fun w hs => backup_Valid.calls hs (⟨t55.1, 0, 0, 0, 0, t177.1, t185.1, []⟩ : Backup) (.slice none 0 0) RS.none _ e198) ?_
 rintro _ M195 l196 rfl
 replace h12 := h12.mono l196
 replace h191 := h191.mono l196
 obtain ⟨t199, e200, H⟩ := bnd H
 refine w_callJ (b0 := b53) 2 cf55 trivial rfl rfl rfl rfl (fun w hs => backup_reader_check.calls (b := b53) (T := 80) (q := []) (x_ := t185.2) hs h191 t193 (6 : Int) _ e200) ?_
 rintro v203 M201 _ l202 ⟨v204, hv_, h205, rfl⟩
 subst hv_
 replace h12 := h12.mono l202
 refine w_nil (hK192 _ _ _ ?_)
 refine c_sr fun _ hK206 => ?_
 refine vm rfl rfl ?_
 refine vm rfl rfl ?_
 refine wv rfl (fun hf hs => r_nilCheck (hf.ev rfl)) ?_
 refine v_fa fa80_1 rfl rfl ?_
 refine wv rfl (fun hf hs => r_load1 ta24 (hf.ev rfl) (hs.blk (i := 2) rfl) rfl) ?_
 refine wv rfl (fun hf hs => r_nilCheck (hf.ev rfl)) ?_
 refine v_fa fa82_0 rfl rfl ?_
 refine v_fa fa80_1 rfl rfl ?_
 refine w_store (i := 0) (vs := [(.int .i64 t199.2.e)]) (A' := (backup_blobReader.C (⟨({ t6.2 with e := t199.2.e } : backup_reader), t6.1⟩ : backup_blobReader) v11 ++ q)) trivial rfl rfl rfl rfl ts24 rfl (one1 rfl) (Nat.le_of_ble_eq_true rfl) rfl ?_
 refine w_nil (hK206 _ _ _ ?_)
 refine c_sr fun _ hK207 => ?_
 refine wv rfl (fun hf hs => r_loadA ta36 ts36 (hf.ev rfl) (hs.blk (i := 1) rfl) (Backup.d0_38 _ _) (Backup.len _ _)) ?_
 obtain ⟨z208, e210, H⟩ := bnd H
 have e209 := some_r e210
 refine w_store (i := 1) (vs := Backup.C (⟨t55.1, 0, 0, 0, 0, t177.1, t185.1, []⟩ : Backup) (.slice none 0 0)) (A' := Backup.C z208 (.slice none 0 0)) trivial rfl rfl rfl rfl ts36 (Backup.len _ _) (Backup.C_one _ rfl) (by rw [Backup.len]; decide) (by rw [← e209]; exact (splice_all _ _ (by simp [Backup.C]))) ?_
 have h211 : RS Key.F M201 (.slice none 0 0) z208.Keys := by rw [← e209]; exact RS.none
 clear e210 e209
 refine w_nil (hK207 _ _ _ ?_)
 obtain rfl := some_r H
 exact c_ret fun a w' hf hs => hret _ (.inl rfl) a w' hf.df ⟨_, _, _, Res.of1 rfl ⟨_, hf.get _ _ rfl, run_loadA (hs.blk (i := 1) rfl) ta36 ts36 (Backup.d0_38 _ _) (Backup.len _ _)⟩, hs.sel [0] (by decide) rfl, ⟨_, rfl, h12, (by first | rfl | exact rs_nil (by assumption)), rfl⟩⟩
theorem seal_Open.calls {M : Heap} {w : World} (hM : Sub M w) (hG : Gl M) (p0 : (List UInt8)) (p1 : (List UInt8)) (p2 : (List UInt8)) (r : ((List UInt8) × Int)) (H : seal_Open p0 p1 p2 = some r) :
  Calls Tryd.prog 17 [(str p0), (str p1), (str p2)].toArray w (Post M w fun M' v => v = .tuple #[(str r.1), (.int .i64 r.2)]) := by
 refine enter 73 [(0, (str p0)), (1, (str p1)), (2, (str p2))] Tryd.func17 rfl rfl rfl hM ?_
 intro Q hret
 unfold seal_Open at H
 refine c_sr fun _ hK1 => ?_
 refine va rfl rfl ?_
 refine va rfl rfl ?_
 refine w_nil (hK1 _ _ _ ?_)
 refine c_sr fun _ hK2 => ?_
 refine vm rfl rfl ?_
 obtain ⟨t3, e8, H⟩ := bnd H
 refine w_call cf13 trivial rfl rfl (fun w hs => seal_Keys.calls hs hG p0 _ e8) ?_
 rintro _ M5 l6 rfl
 replace hG := hG.mono l6
 refine vm rfl rfl ?_
 refine v_extract rfl rfl rfl ?_
 refine v_extract rfl rfl rfl ?_
 refine v_extract rfl rfl rfl ?_
 refine va rfl rfl ?_
 refine va rfl rfl ?_
 refine va rfl rfl ?_
 refine w_nil (hK2 _ _ _ ?_)
 refine c_seq fun K9 hK9 => ?_
 refine c_block ?_
 refine c_sr fun _ hK10 => ?_
 refine vm rfl rfl ?_
 refine wv rfl (fun hf hs => r_neq (hf.ev rfl) (hf.ev rfl)) ?_
 refine va rfl rfl ?_
 refine w_nil (hK10 _ _ _ ?_)
 refine c_if rfl (fun b11 => ?_) (fun b11 => ?_)
 ·replace H := if_t b11 H
  refine c_sr fun _ hK12 => ?_
  refine vm rfl rfl ?_
  refine va rfl rfl ?_
  refine va rfl rfl ?_
  refine w_nil (hK12 _ _ _ ?_)
  obtain rfl := some_r H
  exact c_ret fun a w' hf hs => hret _ (.inl rfl) a w' hf.df ⟨_, _, Res.of2 rfl (RV.t hf rfl) (RV.t hf rfl), hs.ext, rfl⟩
 replace H := if_f b11 H
 obtain ⟨t13, H1, H⟩ := bnd H
 refine c_cut (fun a' w' => ∃ (M14 : Heap), HLe M5 M14 ∧ Fr 73 [(1, (str p1)), (2, (str p2)), (8, (str t3.1)), (9, (str t3.2.1)), (24, (.bool t13))] a' ∧ St none' M w M14 (lt []) w') ?_ ?_
 ·replace H := H1
  clear H1
  refine c_reg ?_
  refine vm rfl rfl ?_
  refine wv rfl (fun hf hs => r_slen Tryd.underlying9 (hf.ev rfl)) ?_
  refine wv rfl (fun hf hs => r_gtr (hf.ev rfl) (hf.ev rfl)) ?_
  refine vm rfl rfl ?_
  by_cases b16 : (decide ((1048576 : Int) < (p1.length : Int))) = true
  ·replace H := if_t b16 H
   refine wq b16 rfl rfl rfl ?_
   refine wq b16 rfl rfl rfl ?_
   refine wq b16 rfl rfl rfl ?_
   refine wv rfl (fun hf hs => r_pickT (hf.ev rfl) b16 (hf.ev rfl)) ?_
   refine va rfl rfl ?_
   obtain rfl := some_r H
   exact w_nil fun a w' hf hs => ⟨_, (HLe.refl _), (hf.pick (pk (pk (pk (pk (pk pk0 rfl) rfl) rfl) rfl) rfl)), hs.sel [] (by decide) rfl⟩
  replace b16 := Bool.eq_false_iff.2 b16
  replace H := if_f b16 H
  refine wg b16 rfl rfl rfl (fun hf hs => r_move (hf.ev rfl)) ?_
  refine wg b16 rfl rfl rfl (fun hf hs => r_slen Tryd.underlying9 (hf.ev rfl)) ?_
  refine wg b16 rfl rfl rfl (fun hf hs => r_gtr (hf.ev rfl) (hf.ev rfl)) ?_
  refine wv rfl (fun hf hs => r_pickF (hf.ev rfl) b16 (hf.ev rfl)) ?_
  refine va rfl rfl ?_
  obtain rfl := some_r H
  exact w_nil fun a w' hf hs => ⟨_, (HLe.refl _), (hf.pick (pk (pk (pk (pk (pk pk0 rfl) rfl) rfl) rfl) rfl)), hs.sel [] (by decide) rfl⟩
 clear H1
 rintro a w' ⟨M14, l15, hf, hs⟩
 refine c_of (c := (Cx.mk Tryd.prog 73 none' M w)) ?_ hf hs
 clear hf hs
 replace hG := hG.mono l15
 refine c_if rfl (fun b17 => ?_) (fun b17 => ?_)
 ·replace H := if_t b17 H
  refine c_sr fun _ hK18 => ?_
  refine va rfl rfl ?_
  refine va rfl rfl ?_
  refine w_nil (hK18 _ _ _ ?_)
  obtain rfl := some_r H
  exact c_ret fun a w' hf hs => hret _ (.inl rfl) a w' hf.df ⟨_, _, Res.of2 rfl (RV.t hf rfl) (RV.t hf rfl), hs.ext, rfl⟩
 replace H := if_f b17 H
 refine c_sr fun _ hK19 => ?_
 refine vm rfl rfl ?_
 refine wv rfl (fun hf hs => r_slen Tryd.underlying9 (hf.ev rfl)) ?_
 refine v_lss rfl rfl rfl ?_
 refine va rfl rfl ?_
 refine w_nil (hK19 _ _ _ ?_)
 refine c_if rfl (fun b20 => ?_) (fun b20 => ?_)
 ·replace H := if_t b20 H
  refine c_sr fun _ hK21 => ?_
  refine va rfl rfl ?_
  refine va rfl rfl ?_
  refine w_nil (hK21 _ _ _ ?_)
  obtain rfl := some_r H
  exact c_ret fun a w' hf hs => hret _ (.inl rfl) a w' hf.df ⟨_, _, Res.of2 rfl (RV.t hf rfl) (RV.t hf rfl), hs.ext, rfl⟩
 replace H := if_f b20 H
 refine c_skip (hK9 _ _ _ ?_)
 refine c_sr fun _ hK22 => ?_
 refine vm rfl rfl ?_
 obtain ⟨t23, e28, H⟩ := bnd H
 refine w_call cf38 trivial rfl rfl (fun w hs => wire_Bytes.calls hs p1 _ e28) ?_
 rintro v132 M25 l26 ⟨v29, hv_, h30⟩
 replace hv_ := hv_.symm
 subst hv_
 replace hG := hG.mono l26
 refine wv rfl (fun hf hs => r_b2s Tryd.underlying66 Tryd.underlying5 Tryd.underlying9 h30 hs.sub (hf.ev rfl)) ?_
 refine vm rfl rfl ?_
 refine wv rfl (fun hf hs => r_slen Tryd.underlying9 (hf.ev rfl)) ?_
 refine wv rfl (fun hf hs => r_sub (hf.ev rfl) (hf.ev rfl)) ?_
 refine va rfl rfl ?_
 refine va rfl rfl ?_
 refine w_nil (hK22 _ _ _ ?_)
 refine c_seq fun K31 hK31 => ?_
 obtain ⟨g37, H⟩ := grd_s H
 obtain ⟨g46, H⟩ := grd_s H
 refine c_drawP [([], [2]), ([(0, 43)], []), ([], [2]), ([], [11]), ([(2, 45), (3, 46)], []), ([(1, 44)], []), ([(4, 47)], [])] [vq (str p2), vq (str ((p2.take ((12 : Int)).toNat).drop ((0 : Int)).toNat)), vq (str p2), vq (.int .i64 (IntKind.i64.wrap ((p2.length : Int) - (16 : Int)))), vq (str ((p2.take ((IntKind.i64.wrap ((p2.length : Int) - (16 : Int)))).toNat).drop ((12 : Int)).toNat)), vq (str ((p2.take ((12 : Int)).toNat).drop ((0 : Int)).toNat)), vq (str ((p2.take ((IntKind.i64.wrap ((p2.length : Int) - (16 : Int)))).toNat).drop ((12 : Int)).toNat))] (by kernel_rfl) (by kernel_rfl) ?_ (aT ?_ (aT ?_ (aT ?_ (aT ?_ (aT ?_ (aT ?_ (aT ?_ AllT.nil))))))) ?_
 ·exact (mC (mC (mC (mC (mC (mC (mC MonoA.nil)))))))
 ·intro a w' _ _ hd hs
  exact pv (hd.fr.add (hd.base 2 _ rfl rfl)) hs rfl (fun hf hs => r_move (hf.ev rfl)) rfl
 ·intro a w' _ _ hd hs
  exact pu (hd.fr.add (hd.val 0 43 _ rfl rfl)) hs rfl rfl (fun hf hs => r_sslice Tryd.underlying9 (hf.ev rfl) rfl ⟨_, (hf.ev rfl)⟩ g37.1 g37.2.1 g37.2.2)
 ·intro a w' _ _ hd hs
  exact pv (hd.fr.add (hd.base 2 _ rfl rfl)) hs rfl (fun hf hs => r_move (hf.ev rfl)) rfl
 ·intro a w' _ _ hd hs
  exact pv (hd.fr.add (hd.base 11 _ rfl rfl)) hs rfl (fun hf hs => r_move (hf.ev rfl)) rfl
 ·intro a w' _ _ hd hs
  exact pu ((hd.fr.add (hd.val 3 46 _ rfl rfl)).add (hd.val 2 45 _ rfl rfl)) hs rfl rfl (fun hf hs => r_sslice Tryd.underlying9 (hf.ev rfl) ⟨_, (hf.ev rfl)⟩ ⟨_, (hf.ev rfl)⟩ g46.1 g46.2.1 g46.2.2)
 ·intro a w' _ _ hd hs
  exact pv (hd.fr.add (hd.val 1 44 _ rfl rfl)) hs rfl (fun hf hs => r_assign (hf.ev rfl)) rfl
 ·intro a w' _ _ hd hs
  exact pv (hd.fr.add (hd.val 4 47 _ rfl rfl)) hs rfl (fun hf hs => r_assign (hf.ev rfl)) rfl
 intro a w' M53 l54 hdf hsz hb hv hs
 replace hG := hG.mono l54
 have e55 := hv 5 12 _ rfl rfl
 have e56 := hv 6 13 _ rfl rfl
 refine n_of (c := (Cx.mk Tryd.prog 73 none' M w)) (l := [(2, (str p2)), (8, (str t3.1)), (9, (str t3.2.1)), (10, (str (intsB t23))), (11, (.int .i64 (IntKind.i64.wrap ((p2.length : Int) - (16 : Int))))), (12, (str ((p2.take ((12 : Int)).toNat).drop ((0 : Int)).toNat))), (13, (str ((p2.take ((IntKind.i64.wrap ((p2.length : Int) - (16 : Int)))).toNat).drop ((12 : Int)).toNat)))]) ?_ ((((((((Fr.start hdf hsz).add e56).add e55).add (hb 11 _ rfl rfl)).add (hb 10 _ rfl rfl)).add (hb 9 _ rfl rfl)).add (hb 8 _ rfl rfl)).add (hb 2 _ rfl rfl)) hs
 clear hdf hsz hb hv hs e55 e56
 refine n_id (hK31 _ _ _ ?_)
 refine c_seq fun K57 hK57 => ?_
 refine c_seq fun K58 hK58 => ?_
 obtain ⟨t85, e90, H⟩ := bnd H
 obtain ⟨g99, H⟩ := grd_s H
 refine c_drawP [([], [9]), ([], [12]), ([], [10]), ([], [13]), ([(1, 49), (2, 50), (3, 51)], []), ([(0, 48), (4, 52)], []), ([], [2]), ([], [11]), ([(6, 54), (7, 55)], []), ([(5, 53), (8, 56)], [])] [vq (str t3.2.1), vq (str ((p2.take ((12 : Int)).toNat).drop ((0 : Int)).toNat)), vq (str (intsB t23)), vq (str ((p2.take ((IntKind.i64.wrap ((p2.length : Int) - (16 : Int)))).toNat).drop ((12 : Int)).toNat)), fun v M => ∃ (v72 : Value), v = v72 ∧ RS FS M v72 ([([116, 97, 103] : List UInt8), ((p2.take ((12 : Int)).toNat).drop ((0 : Int)).toNat), (intsB t23), ((p2.take ((IntKind.i64.wrap ((p2.length : Int) - (16 : Int)))).toNat).drop ((12 : Int)).toNat)] : List (List UInt8)) ∧ ∃ A, v72 = .slice A ([([116, 97, 103] : List UInt8), ((p2.take ((12 : Int)).toNat).drop ((0 : Int)).toNat), (intsB t23), ((p2.take ((IntKind.i64.wrap ((p2.length : Int) - (16 : Int)))).toNat).drop ((12 : Int)).toNat)] : List (List UInt8)).length ([([116, 97, 103] : List UInt8), ((p2.take ((12 : Int)).toNat).drop ((0 : Int)).toNat), (intsB t23), ((p2.take ((IntKind.i64.wrap ((p2.length : Int) - (16 : Int)))).toNat).drop ((12 : Int)).toNat)] : List (List UInt8)).length, vq (str t85), vq (str p2), vq (.int .i64 (IntKind.i64.wrap ((p2.length : Int) - (16 : Int)))), vq (str ((p2.take ((p2.length : Int)).toNat).drop ((IntKind.i64.wrap ((p2.length : Int) - (16 : Int)))).toNat)), vq (.bool (!(t85 == ((p2.take ((p2.length : Int)).toNat).drop ((IntKind.i64.wrap ((p2.length : Int) - (16 : Int)))).toNat))))] (by kernel_rfl) (by kernel_rfl) ?_ (aT ?_ (aT ?_ (aT ?_ (aT ?_ (aT ?_ (aT ?_ (aT ?_ (aT ?_ (aT ?_ (aT ?_ AllT.nil)))))))))) ?_
 ·exact (mC (mC (mC (mC (MonoA.cons (fun _ _ _ hM h => by obtain ⟨v72, e_, q0, q1⟩ := h; exact ⟨v72, e_, q0.mono hM, q1⟩) (mC (mC (mC (mC (mC MonoA.nil))))))))))
 ·intro a w' _ _ hd hs
  exact pv (hd.fr.add (hd.base 9 _ rfl rfl)) hs rfl (fun hf hs => r_move (hf.ev rfl)) rfl
 ·intro a w' _ _ hd hs
  exact pv (hd.fr.add (hd.base 12 _ rfl rfl)) hs rfl (fun hf hs => r_move (hf.ev rfl)) rfl
 ·intro a w' _ _ hd hs
  exact pv (hd.fr.add (hd.base 10 _ rfl rfl)) hs rfl (fun hf hs => r_move (hf.ev rfl)) rfl
 ·intro a w' _ _ hd hs
  exact pv (hd.fr.add (hd.base 13 _ rfl rfl)) hs rfl (fun hf hs => r_move (hf.ev rfl)) rfl
 ·intro a w' _ _ hd hs
  have e69 := hd.val 1 49 _ rfl rfl
  have e70 := hd.val 2 50 _ rfl rfl
  have e71 := hd.val 3 51 _ rfl rfl
  refine OP.ofW (l := [(49, (str ((p2.take ((12 : Int)).toNat).drop ((0 : Int)).toNat))), (50, (str (intsB t23))), (51, (str ((p2.take ((IntKind.i64.wrap ((p2.length : Int) - (16 : Int)))).toNat).drop ((12 : Int)).toNat)))]) (((hd.fr.add e71).add e70).add e69) hs rfl ?_
  refine w_bsl (F := FS) (es := ([([116, 97, 103] : List UInt8), ((p2.take ((12 : Int)).toNat).drop ((0 : Int)).toNat), (intsB t23), ((p2.take ((IntKind.i64.wrap ((p2.length : Int) - (16 : Int)))).toNat).drop ((12 : Int)).toNat)] : List (List UInt8))) (xs := [.const (str ([116, 97, 103] : List UInt8)), .tmp 49, .tmp 50, .tmp 51]) (vs := [(str ([116, 97, 103] : List UInt8)), (str ((p2.take ((12 : Int)).toNat).drop ((0 : Int)).toNat)), (str (intsB t23)), (str ((p2.take ((IntKind.i64.wrap ((p2.length : Int) - (16 : Int)))).toNat).drop ((12 : Int)).toNat))]) Tryd.underlying63 te9 trivial rfl rfl rfl rfl rfl (by decide) ?_
  intro v72 M73 l74 h75 c76
  exact w_nil fun a w' hf hs => ⟨rfl, hf.df, _, l74, hs, ⟨v72, hf.get _ _ rfl, h75, c76⟩⟩
 ·intro a w' _ l78 hd hs
  have e79 := hd.val 0 48 _ rfl rfl
  obtain ⟨v80, e84, h81, h83⟩ := hd.val 4 52 _ rfl rfl
  replace hG := hG.mono l78
  refine OP.ofW (l := [(48, (str t3.2.1)), (52, v80)]) ((hd.fr.add e84).add e79) hs rfl ?_
  refine w_call cf39 trivial rfl rfl (fun w hs => seal_code.calls hs hG t3.2.1 (16 : Int) ([([116, 97, 103] : List UInt8), ((p2.take ((12 : Int)).toNat).drop ((0 : Int)).toNat), (intsB t23), ((p2.take ((IntKind.i64.wrap ((p2.length : Int) - (16 : Int)))).toNat).drop ((12 : Int)).toNat)] : List (List UInt8)) v80 h81 _ e90) ?_
  rintro _ M87 l88 rfl
  exact w_nil fun a w' hf hs => ⟨rfl, hf.df, _, l88, hs, hf.get _ _ rfl⟩
 ·intro a w' _ _ hd hs
  exact pv (hd.fr.add (hd.base 2 _ rfl rfl)) hs rfl (fun hf hs => r_move (hf.ev rfl)) rfl
 ·intro a w' _ _ hd hs
  exact pv (hd.fr.add (hd.base 11 _ rfl rfl)) hs rfl (fun hf hs => r_move (hf.ev rfl)) rfl
 ·intro a w' _ _ hd hs
  exact pu ((hd.fr.add (hd.val 7 55 _ rfl rfl)).add (hd.val 6 54 _ rfl rfl)) hs rfl rfl (fun hf hs => r_sslice Tryd.underlying9 (hf.ev rfl) ⟨_, (hf.ev rfl)⟩ rfl g99.1 g99.2.1 g99.2.2)
 ·intro a w' _ _ hd hs
  exact pv ((hd.fr.add (hd.val 8 56 _ rfl rfl)).add (hd.val 5 53 _ rfl rfl)) hs rfl (fun hf hs => r_sneq (hf.ev rfl) (hf.ev rfl)) rfl
 intro a w' M104 l105 hdf hsz hb hv hs
 replace hG := hG.mono l105
 have e106 := hv 9 57 _ rfl rfl
 refine n_of (c := (Cx.mk Tryd.prog 73 none' M w)) (l := [(8, (str t3.1)), (9, (str t3.2.1)), (10, (str (intsB t23))), (12, (str ((p2.take ((12 : Int)).toNat).drop ((0 : Int)).toNat))), (13, (str ((p2.take ((IntKind.i64.wrap ((p2.length : Int) - (16 : Int)))).toNat).drop ((12 : Int)).toNat))), (57, (.bool (!(t85 == ((p2.take ((p2.length : Int)).toNat).drop ((IntKind.i64.wrap ((p2.length : Int) - (16 : Int)))).toNat)))))]) ?_ (((((((Fr.start hdf hsz).add e106).add (hb 13 _ rfl rfl)).add (hb 12 _ rfl rfl)).add (hb 10 _ rfl rfl)).add (hb 9 _ rfl rfl)).add (hb 8 _ rfl rfl)) hs
 clear hdf hsz hb hv hs e106
 refine n_id (hK58 _ _ _ ?_)
 refine c_if rfl (fun b107 => ?_) (fun b107 => ?_)
 ·replace H := if_t b107 H
  refine c_sr fun _ hK108 => ?_
  refine va rfl rfl ?_
  refine va rfl rfl ?_
  refine w_nil (hK108 _ _ _ ?_)
  obtain rfl := some_r H
  exact c_ret fun a w' hf hs => hret _ (.inl rfl) a w' hf.df ⟨_, _, Res.of2 rfl (RV.t hf rfl) (RV.t hf rfl), hs.ext, rfl⟩
 replace H := if_f b107 H
 refine c_skip (hK57 _ _ _ ?_)
 refine c_sr fun _ hK109 => ?_
 refine vm rfl rfl ?_
 refine vm rfl rfl ?_
 refine vm rfl rfl ?_
 obtain ⟨t110, e115, H⟩ := bnd H
 refine w_call cf40 trivial rfl rfl (fun w hs => cipher_Xor.calls hs t3.1 (1 : Int) ((p2.take ((12 : Int)).toNat).drop ((0 : Int)).toNat) ((p2.take ((IntKind.i64.wrap ((p2.length : Int) - (16 : Int)))).toNat).drop ((12 : Int)).toNat) _ e115) ?_
 rintro _ M112 l113 rfl
 replace hG := hG.mono l113
 refine vm rfl rfl ?_
 refine v_extract rfl rfl rfl ?_
 refine v_extract rfl rfl rfl ?_
 refine va rfl rfl ?_
 refine w_nil (hK109 _ _ _ ?_)
 refine c_seq fun K116 hK116 => ?_
 refine c_sr fun _ hK117 => ?_
 refine vm rfl rfl ?_
 refine vm rfl rfl ?_
 refine vm rfl rfl ?_
 refine w_bsl (F := FS) (es := ([([110, 111, 110, 99, 101] : List UInt8), (intsB t23), t110.1] : List (List UInt8))) (xs := [.const (str ([110, 111, 110, 99, 101] : List UInt8)), .tmp 66, .tmp 67]) (vs := [(str ([110, 111, 110, 99, 101] : List UInt8)), (str (intsB t23)), (str t110.1)]) Tryd.underlying63 te9 trivial rfl rfl rfl rfl rfl (by decide) ?_
 intro v118 M119 l120 h121 c122
 replace hG := hG.mono l120
 obtain ⟨t123, e128, H⟩ := bnd H
 refine w_call cf39 trivial rfl rfl (fun w hs => seal_code.calls hs hG t3.2.1 (12 : Int) ([([110, 111, 110, 99, 101] : List UInt8), (intsB t23), t110.1] : List (List UInt8)) v118 h121 _ e128) ?_
 rintro _ M125 l126 rfl
 refine vm rfl rfl ?_
 refine wv rfl (fun hf hs => r_sneq (hf.ev rfl) (hf.ev rfl)) ?_
 refine w_nil (hK117 _ _ _ ?_)
 refine c_if rfl (fun b129 => ?_) (fun b129 => ?_)
 ·replace H := if_t b129 H
  refine c_sr fun _ hK130 => ?_
  refine va rfl rfl ?_
  refine va rfl rfl ?_
  refine w_nil (hK130 _ _ _ ?_)
  obtain rfl := some_r H
  exact c_ret fun a w' hf hs => hret _ (.inl rfl) a w' hf.df ⟨_, _, Res.of2 rfl (RV.t hf rfl) (RV.t hf rfl), hs.ext, rfl⟩
 replace H := if_f b129 H
 refine c_skip (hK116 _ _ _ ?_)
 refine c_sr fun _ hK131 => ?_
 refine vm rfl rfl ?_
 refine va rfl rfl ?_
 refine va rfl rfl ?_
 refine w_nil (hK131 _ _ _ ?_)
 obtain rfl := some_r H
 exact c_ret fun a w' hf hs => hret _ (.inl rfl) a w' hf.df ⟨_, _, Res.of2 rfl (RV.t hf rfl) (RV.t hf rfl), hs.ext, rfl⟩
theorem wire_GetStrings.calls {M : Heap} {w : World} (hM : Sub M w) (p0 : (List Int)) (v1 : Value) (h2 : RS (FI .u8) M v1 p0) (r : ((List (List UInt8)) × Int × Int)) (H : wire_GetStrings p0 = some r) :
  Calls Tryd.prog 53 [v1].toArray w (Post M w fun M' v => ∃ v57, v = .tuple #[v57, (.int .i64 r.2.1), (.int .i64 r.2.2)] ∧ RS FS M' v57 r.1) := by
 refine enter 45 [(0, v1)] Tryd.func53 rfl rfl rfl hM ?_
 intro Q hret
 unfold wire_GetStrings at H
 refine c_sr fun _ hK3 => ?_
 refine va rfl rfl ?_
 refine va rfl rfl ?_
 refine va rfl rfl ?_
 refine w_nil (hK3 _ _ _ ?_)
 refine c_sr fun _ hK4 => ?_
 refine vm rfl rfl ?_
 obtain ⟨t5, e10, H⟩ := bnd H
 refine w_call cf105 trivial rfl rfl (fun w hs => wire_count.calls hs p0 v1 h2 (1 : Int) _ e10) ?_
 rintro _ M7 l8 rfl
 replace h2 := h2.mono l8
 refine vm rfl rfl ?_
 refine v_extract rfl rfl rfl ?_
 refine v_extract rfl rfl rfl ?_
 refine v_extract rfl rfl rfl ?_
 refine va rfl rfl ?_
 refine va rfl rfl ?_
 refine va rfl rfl ?_
 refine w_nil (hK4 _ _ _ ?_)
 refine c_seq fun K11 hK11 => ?_
 refine c_sr fun _ hK12 => ?_
 refine vm rfl rfl ?_
 refine wv rfl (fun hf hs => r_neq (hf.ev rfl) (hf.ev rfl)) ?_
 refine w_nil (hK12 _ _ _ ?_)
 refine c_if rfl (fun b13 => ?_) (fun b13 => ?_)
 ·replace H := if_t b13 H
  refine c_sr fun _ hK14 => ?_
  refine vm rfl rfl ?_
  refine va rfl rfl ?_
  refine va rfl rfl ?_
  refine va rfl rfl ?_
  refine w_nil (hK14 _ _ _ ?_)
  obtain rfl := some_r H
  exact c_ret fun a w' hf hs => hret _ (.inl rfl) a w' hf.df ⟨_, _, Res.of3 rfl (RV.t hf rfl) (RV.t hf rfl) (RV.t hf rfl), hs.ext, ⟨_, rfl, RS.none⟩⟩
 replace H := if_f b13 H
 refine c_skip (hK11 _ _ _ ?_)
 refine c_sr fun _ hK15 => ?_
 refine va rfl rfl ?_
 refine w_nil (hK15 _ _ _ ?_)
 refine c_row0 9 1 ?_
 refine c_cut (fun a' w' => ∃ (x16 : (List (List UInt8))) (v17 : Value) (x18 : Int) (M19 : Heap), HLe M7 M19 ∧ Fr 45 [(6, (.int .i64 x18)), (8, v17)] a' ∧ St none' M w M19 (lt [rowI FS v17 9 x16]) w' ∧ wire_GetStrings.j1 x16 x18 = some r) ?_ ?_
 ·refine c_seq ?_
  intro K25 hK25
  refine c_reg ?_
  refine vm rfl rfl ?_
  refine vm rfl rfl ?_
  refine w_nil (hK25 _ _ _ ?_)
  refine c_block ?_
  refine c_loop (fun (s26 : ((List (List UInt8)) × Int × Int)) a' w' => ∃ (v27 : Value) (M28 : Heap), HLe M7 M28 ∧ Fr 45 [(0, v1), (6, (.int .i64 s26.2.1)), (8, v27), (21, (.int .i64 t5.1)), (22, (.int .i64 s26.2.2))] a' ∧ St none' M w M28 (lt [rowI FS v27 9 s26.1]) w') (([] : (List (List UInt8))), t5.2.1, (0 : Int)) H ?_ ?_
  ·intro a w' hf hs
   exact ⟨(.slice none 0 0), _, HLe.refl _, (hf.pick (pk (pk (pk (pk (pk pk0 rfl) rfl) rfl) rfl) rfl)), hs.selD [some 0] (by decide) rfl⟩
  clear H
  intro s26 y31 H r30 a w' hJ
  obtain ⟨v27, M28, l29, hf, hs⟩ := hJ
  refine c_of (c := (Cx.mk Tryd.prog 45 none' M w)) ?_ hf hs
  unfold wire_GetStrings.l2 at H
  clear hf hs
  replace h2 := h2.mono l29
  refine c_sr fun _ hK32 => ?_
  refine v_lss rfl rfl rfl ?_
  refine w_nil (hK32 _ _ _ ?_)
  refine c_seq fun K33 hK33 => ?_
  refine c_if rfl (fun b34 => ?_) (fun b34 => ?_)
  ·replace H := if_t b34 H
   refine c_skip (hK33 _ _ _ ?_)
   refine c_seq fun K35 hK35 => ?_
   refine c_block ?_
   refine c_sr fun _ hK36 => ?_
   refine vm rfl rfl ?_
   refine vm rfl rfl ?_
   obtain ⟨g39, H⟩ := grd_s H
   refine w_ex (Φ := fun v => RS (FI .u8) M28 v ((p0.take ((p0.length : Int)).toNat).drop (s26.2.1).toNat)) trivial rfl (fun a w hf hs => r_slR Tryd.underlying66 ts5 (hf.ev rfl) h2 ⟨_, hf.ev rfl⟩ rfl g39.1 g39.2.1 g39.2.2) ?_
   intro v37 h38
   obtain ⟨t40, e45, H⟩ := bnd H
   refine w_call cf98 trivial rfl rfl (fun w hs => wire_GetBytes.calls hs ((p0.take ((p0.length : Int)).toNat).drop (s26.2.1).toNat) v37 h38 _ e45) ?_
   rintro _ M42 l43 rfl
   refine vm rfl rfl ?_
   refine v_extract rfl rfl rfl ?_
   refine v_extract rfl rfl rfl ?_
   refine v_extract rfl rfl rfl ?_
   refine va rfl rfl ?_
   refine va rfl rfl ?_
   refine va rfl rfl ?_
   refine w_nil (hK36 _ _ _ ?_)
   refine c_seq fun K46 hK46 => ?_
   refine c_sr fun _ hK47 => ?_
   refine vm rfl rfl ?_
   refine wv rfl (fun hf hs => r_neq (hf.ev rfl) (hf.ev rfl)) ?_
   refine w_nil (hK47 _ _ _ ?_)
   refine c_if rfl (fun b48 => ?_) (fun b48 => ?_)
   ·replace H := if_t b48 H
    refine c_sr fun _ hK49 => ?_
    refine vm rfl rfl ?_
    refine va rfl rfl ?_
    refine va rfl rfl ?_
    refine va rfl rfl ?_
    refine w_nil (hK49 _ _ _ ?_)
    obtain rfl := (r30 _ (Option.some.inj H).symm)
    exact c_ret fun a w' hf hs => hret _ (.inl rfl) a w' hf.df ⟨_, _, Res.of3 rfl (RV.t hf rfl) (RV.t hf rfl) (RV.t hf rfl), hs.ext, ⟨_, rfl, RS.none⟩⟩
   replace H := if_f b48 H
   refine c_skip (hK46 _ _ _ ?_)
   refine c_reg ?_
   refine vm rfl rfl ?_
   refine vm rfl rfl ?_
   refine w_bsl (F := FS) (es := ([t40.1] : List (List UInt8))) (xs := [.tmp 36]) (vs := [(str t40.1)]) Tryd.underlying63 te9 trivial rfl rfl rfl rfl rfl (by decide) ?_
   intro v50 M51 l52 h53 c54
   obtain ⟨g55, H⟩ := grd_s H
   refine w_app (F := FS) (m2 := ([t40.1] : List (List UInt8))) (i := 0) Tryd.underlying63 te9 Tryd.underlying63 (.inl ⟨_, rfl⟩) trivial rfl rfl rfl rfl (Src.rs FS.one h53) g55 ?_
   intro v56
   refine vm rfl rfl ?_
   refine vm rfl rfl ?_
   refine v_add rfl rfl rfl ?_
   refine va rfl rfl ?_
   refine va rfl rfl ?_
   refine w_nil (hK35 _ _ _ ?_)
   refine c_reg ?_
   refine v_add rfl rfl rfl ?_
   refine vm rfl rfl ?_
   exact w_nil fun a w' hf hs => ⟨_, (some_r H).symm, v56, _, l29.trans (l43.trans l52), (hf.pick (pk (pk (pk (pk (pk pk0 rfl) rfl) rfl) rfl) rfl)), hs.selD [some 0] (by decide) rfl⟩
  replace H := if_f b34 H
  replace H := map_inr H r30
  refine c_exit ?_
  intro a w' hf hs
  exact ⟨s26.1, v27, s26.2.1, _, l29, (hf.pick (pk (pk pk0 rfl) rfl)), hs.selD [some 0] (by decide) rfl, H⟩
 rintro a w' ⟨x16, v17, x18, M19, l20, hf, hs, H⟩
 refine c_of (c := (Cx.mk Tryd.prog 45 none' M w)) ?_ hf hs
 unfold wire_GetStrings.j1 at H
 clear hf hs
 refine c_sr fun _ hK21 => ?_
 refine vm rfl rfl ?_
 refine vm rfl rfl ?_
 refine va rfl rfl ?_
 refine va rfl rfl ?_
 refine va rfl rfl ?_
 refine w_nil (hK21 _ _ _ ?_)
 obtain rfl := some_r H
 refine c_ret ?_
 refine n_give 0 rfl (fun _ h => h) ?_
 intro M22 l23 h24
 intro a w' hf hs
 exact hret _ (.inl rfl) a w' hf.df ⟨_, _, Res.of3 rfl (RV.t hf rfl) (RV.t hf rfl) (RV.t hf rfl), hs.ext, ⟨_, rfl, h24⟩⟩
theorem backup_read_LLstring.calls {M : Heap} {w : World} {b : Nat} {T : TypeId} {q : List Value} {x_ : backup_reader} {v1 : Value} (hs : St (fun k => k = b) M w M (lt [.blk b (.cells ((backup_reader.C x_ v1 ++ q)).toArray T (0, 0))]) w) (h2 : RS (FI .u8) M v1 x_.rest_) (r : ((List (List UInt8)) × backup_reader)) (H : backup_read_LLstring x_ = some r) :
  Calls Tryd.prog 104 [(ptr b 0), (.func (.func 53) #[] #[])].toArray w (PostI (fun k => k = b) M w fun M' x v => ∃ (v34 : Value) (v36 : Value), v = v34 ∧ RS FS M' v34 r.1 ∧ RS (FI .u8) M' v36 r.2.rest_ ∧ x = .blk b (.cells ((backup_reader.C r.2 v36 ++ q)).toArray T (0, 0))) := by
 refine enterI 41 [(0, (ptr b 0)), (1, (.func (.func 53) #[] #[]))] Tryd.func104 rfl rfl rfl hs ?_
 clear hs
 intro Q hret
 unfold backup_read_LLstring at H
 refine c_sr fun _ hK3 => ?_
 refine va rfl rfl ?_
 refine w_nil (hK3 _ _ _ ?_)
 refine c_seq fun K4 hK4 => ?_
 refine c_sr fun _ hK5 => ?_
 refine vm rfl rfl ?_
 refine wv rfl (fun hf hs => r_nilCheck (hf.ev rfl)) ?_
 refine v_fa fa80_1 rfl rfl ?_
 refine wv rfl (fun hf hs => r_load1 ta24 (hf.ev rfl) (hs.blk (i := 0) rfl) rfl) ?_
 refine wv rfl (fun hf hs => r_neq (hf.ev rfl) (hf.ev rfl)) ?_
 refine w_nil (hK5 _ _ _ ?_)
 refine c_if rfl (fun b6 => ?_) (fun b6 => ?_)
 ·replace H := if_t b6 H
  refine c_sr fun _ hK7 => ?_
  refine vm rfl rfl ?_
  refine va rfl rfl ?_
  refine w_nil (hK7 _ _ _ ?_)
  obtain rfl := some_r H
  exact c_ret fun a w' hf hs => hret _ (.inl rfl) a w' hf.df ⟨_, _, _, Res.of1 rfl (RV.t hf rfl), hs.sel [0] (by decide) rfl, ⟨_, _, rfl, RS.none, h2, rfl⟩⟩
 replace H := if_f b6 H
 refine c_skip (hK4 _ _ _ ?_)
 refine c_sr fun _ hK8 => ?_
 refine vm rfl rfl ?_
 refine vm rfl rfl ?_
 refine wv rfl (fun hf hs => r_nilCheck (hf.ev rfl)) ?_
 refine v_fa fa80_0 rfl rfl ?_
 refine wv rfl (fun hf hs => r_load1 ta66 (hf.ev rfl) (hs.blk (i := 0) rfl) rfl) ?_
 obtain ⟨t9, e14, H⟩ := bnd H
 refine w_callV trivial rfl rfl rfl (fun _ h => by cases h) (fun w hs => ⟨_, _, _, rfl, cf53, wire_GetStrings.calls hs x_.rest_ v1 h2 _ e14⟩) ?_
 rintro v33 M11 l12 ⟨v15, hv_, h16⟩
 replace hv_ := hv_.symm
 subst hv_
 replace h2 := h2.mono l12
 refine vm rfl rfl ?_
 refine v_extract rfl rfl rfl ?_
 refine v_extract rfl rfl rfl ?_
 refine v_extract rfl rfl rfl ?_
 refine va rfl rfl ?_
 refine va rfl rfl ?_
 refine va rfl rfl ?_
 refine w_nil (hK8 _ _ _ ?_)
 refine c_seq fun K17 hK17 => ?_
 refine c_sr fun _ hK18 => ?_
 refine vm rfl rfl ?_
 refine vm rfl rfl ?_
 refine wv rfl (fun hf hs => r_eql (hf.ev rfl) (hf.ev rfl)) ?_
 refine vm rfl rfl ?_
 obtain ⟨t19, e20, H⟩ := bnd H
 refine w_callJ (b0 := b) 0 cf55 trivial rfl rfl rfl rfl (fun w hs => backup_reader_check.calls (b := b) (T := T) (q := (q)) (x_ := x_) hs h2 (t9.2.2 == (0 : Int)) t9.2.2 _ e20) ?_
 rintro v23 M21 _ l22 ⟨v24, hv_, h25, rfl⟩
 subst hv_
 replace h16 := h16.mono l22
 refine wv rfl (fun hf hs => r_not (hf.ev rfl)) ?_
 refine w_nil (hK18 _ _ _ ?_)
 refine c_if rfl (fun b26 => ?_) (fun b26 => ?_)
 ·replace H := if_t b26 H
  refine c_sr fun _ hK27 => ?_
  refine vm rfl rfl ?_
  refine va rfl rfl ?_
  refine w_nil (hK27 _ _ _ ?_)
  obtain rfl := some_r H
  exact c_ret fun a w' hf hs => hret _ (.inl rfl) a w' hf.df ⟨_, _, _, Res.of1 rfl (RV.t hf rfl), hs.sel [0] (by decide) rfl, ⟨_, _, rfl, RS.none, h25, rfl⟩⟩
 replace H := if_f b26 H
 refine c_skip (hK17 _ _ _ ?_)
 refine c_sr fun _ hK28 => ?_
 refine vm rfl rfl ?_
 refine vm rfl rfl ?_
 refine wv rfl (fun hf hs => r_nilCheck (hf.ev rfl)) ?_
 refine v_fa fa80_0 rfl rfl ?_
 refine wv rfl (fun hf hs => r_load1 ta66 (hf.ev rfl) (hs.blk (i := 0) rfl) rfl) ?_
 refine vm rfl rfl ?_
 obtain ⟨g31, H⟩ := grd_s H
 refine w_ex (Φ := fun v => RS (FI .u8) M21 v ((t19.2.rest_.take ((t19.2.rest_.length : Int)).toNat).drop (t9.2.1).toNat)) trivial rfl (fun a w hf hs => r_slR Tryd.underlying66 ts5 (hf.ev rfl) h25 ⟨_, hf.ev rfl⟩ rfl g31.1 g31.2.1 g31.2.2) ?_
 intro v29 h30
 refine wv rfl (fun hf hs => r_nilCheck (hf.ev rfl)) ?_
 refine v_fa fa80_0 rfl rfl ?_
 refine w_store (i := 0) (vs := [v29]) (A' := (backup_reader.C ({ t19.2 with rest_ := ((t19.2.rest_.take ((t19.2.rest_.length : Int)).toNat).drop (t9.2.1).toNat) } : backup_reader) v29 ++ q)) trivial rfl rfl rfl h30.cells1 ts66 rfl (one1 h30.one) (Nat.le_of_ble_eq_true rfl) rfl ?_
 refine w_nil (hK28 _ _ _ ?_)
 refine c_sr fun _ hK32 => ?_
 refine vm rfl rfl ?_
 refine va rfl rfl ?_
 refine w_nil (hK32 _ _ _ ?_)
 obtain rfl := some_r H
 exact c_ret fun a w' hf hs => hret _ (.inl rfl) a w' hf.df ⟨_, _, _, Res.of1 rfl (RV.t hf rfl), hs.sel [0] (by decide) rfl, ⟨_, _, rfl, h16, h30, rfl⟩⟩
theorem backup_whole_LLstring.calls {M : Heap} {w : World} {b : Nat} {T : TypeId} {q : List Value} {x_ : backup_reader} {v1 : Value} (hs : St (fun k => k = b) M w M (lt [.blk b (.cells ((backup_reader.C x_ v1 ++ q)).toArray T (0, 0))]) w) (h2 : RS (FI .u8) M v1 x_.rest_) (r : ((List (List UInt8)) × backup_reader)) (H : backup_whole_LLstring x_ = some r) :
  Calls Tryd.prog 52 [(ptr b 0), (.func (.func 53) #[] #[])].toArray w (PostI (fun k => k = b) M w fun M' x v => ∃ (v23 : Value) (v25 : Value), v = v23 ∧ RS FS M' v23 r.1 ∧ RS (FI .u8) M' v25 r.2.rest_ ∧ x = .blk b (.cells ((backup_reader.C r.2 v25 ++ q)).toArray T (0, 0))) := by
 refine enterI 18 [(0, (ptr b 0)), (1, (.func (.func 53) #[] #[]))] Tryd.func52 rfl rfl rfl hs ?_
 clear hs
 intro Q hret
 unfold backup_whole_LLstring at H
 refine c_sr fun _ hK3 => ?_
 refine va rfl rfl ?_
 refine w_nil (hK3 _ _ _ ?_)
 refine c_sr fun _ hK4 => ?_
 refine vm rfl rfl ?_
 refine vm rfl rfl ?_
 obtain ⟨t5, e6, H⟩ := bnd H
 refine w_callJ (b0 := b) 0 cf104 trivial rfl rfl rfl rfl (fun w hs => backup_read_LLstring.calls (b := b) (T := T) (q := (q)) (x_ := x_) hs h2 _ e6) ?_
 rintro v9 M7 _ l8 ⟨v10, v12, hv_, h11, h13, rfl⟩
 replace hv_ := hv_.symm
 subst hv_
 refine va rfl rfl ?_
 refine w_nil (hK4 _ _ _ ?_)
 refine c_sr fun _ hK14 => ?_
 refine vm rfl rfl ?_
 refine vm rfl rfl ?_
 refine wv rfl (fun hf hs => r_nilCheck (hf.ev rfl)) ?_
 refine v_fa fa80_0 rfl rfl ?_
 refine wv rfl (fun hf hs => r_load1 ta66 (hf.ev rfl) (hs.blk (i := 0) rfl) rfl) ?_
 refine wv rfl (fun hf hs => r_lenR Tryd.underlying66 h13 (hf.ev rfl)) ?_
 refine wv rfl (fun hf hs => r_eql (hf.ev rfl) (hf.ev rfl)) ?_
 obtain ⟨t15, e16, H⟩ := bnd H
 refine w_callJ (b0 := b) 0 cf55 trivial rfl rfl rfl rfl (fun w hs => backup_reader_check.calls (b := b) (T := T) (q := (q)) (x_ := t5.2) hs h13 ((t5.2.rest_.length : Int) == (0 : Int)) (6 : Int) _ e16) ?_
 rintro v19 M17 _ l18 ⟨v20, hv_, h21, rfl⟩
 subst hv_
 replace h11 := h11.mono l18
 refine w_nil (hK14 _ _ _ ?_)
 refine c_sr fun _ hK22 => ?_
 refine vm rfl rfl ?_
 refine va rfl rfl ?_
 refine w_nil (hK22 _ _ _ ?_)
 obtain rfl := some_r H
 exact c_ret fun a w' hf hs => hret _ (.inl rfl) a w' hf.df ⟨_, _, _, Res.of1 rfl (RV.t hf rfl), hs.sel [0] (by decide) rfl, ⟨_, _, rfl, h11, h21, rfl⟩⟩
theorem backup_whole_LLint.calls {M : Heap} {w : World} {b : Nat} {T : TypeId} {q : List Value} {x_ : backup_reader} {v1 : Value} (hs : St (fun k => k = b) M w M (lt [.blk b (.cells ((backup_reader.C x_ v1 ++ q)).toArray T (0, 0))]) w) (h2 : RS (FI .u8) M v1 x_.rest_) (r : ((List Int) × backup_reader)) (H : backup_whole_LLint x_ = some r) :
  Calls Tryd.prog 106 [(ptr b 0), (.func (.func 102) #[] #[])].toArray w (PostI (fun k => k = b) M w fun M' x v => ∃ (v23 : Value) (v25 : Value), v = v23 ∧ RS (FI .i64) M' v23 r.1 ∧ RS (FI .u8) M' v25 r.2.rest_ ∧ x = .blk b (.cells ((backup_reader.C r.2 v25 ++ q)).toArray T (0, 0))) := by
 refine enterI 18 [(0, (ptr b 0)), (1, (.func (.func 102) #[] #[]))] Tryd.func106 rfl rfl rfl hs ?_
 clear hs
 intro Q hret
 unfold backup_whole_LLint at H
 refine c_sr fun _ hK3 => ?_
 refine va rfl rfl ?_
 refine w_nil (hK3 _ _ _ ?_)
 refine c_sr fun _ hK4 => ?_
 refine vm rfl rfl ?_
 refine vm rfl rfl ?_
 obtain ⟨t5, e6, H⟩ := bnd H
 refine w_callJ (b0 := b) 0 cf101 trivial rfl rfl rfl rfl (fun w hs => backup_read_LLint.calls (b := b) (T := T) (q := (q)) (x_ := x_) hs h2 _ e6) ?_
 rintro v9 M7 _ l8 ⟨v10, v12, hv_, h11, h13, rfl⟩
 replace hv_ := hv_.symm
 subst hv_
 refine va rfl rfl ?_
 refine w_nil (hK4 _ _ _ ?_)
 refine c_sr fun _ hK14 => ?_
 refine vm rfl rfl ?_
 refine vm rfl rfl ?_
 refine wv rfl (fun hf hs => r_nilCheck (hf.ev rfl)) ?_
 refine v_fa fa80_0 rfl rfl ?_
 refine wv rfl (fun hf hs => r_load1 ta66 (hf.ev rfl) (hs.blk (i := 0) rfl) rfl) ?_
 refine wv rfl (fun hf hs => r_lenR Tryd.underlying66 h13 (hf.ev rfl)) ?_
 refine wv rfl (fun hf hs => r_eql (hf.ev rfl) (hf.ev rfl)) ?_
 obtain ⟨t15, e16, H⟩ := bnd H
 refine w_callJ (b0 := b) 0 cf55 trivial rfl rfl rfl rfl (fun w hs => backup_reader_check.calls (b := b) (T := T) (q := (q)) (x_ := t5.2) hs h13 ((t5.2.rest_.length : Int) == (0 : Int)) (6 : Int) _ e16) ?_
 rintro v19 M17 _ l18 ⟨v20, hv_, h21, rfl⟩
 subst hv_
 replace h11 := h11.mono l18
 refine w_nil (hK14 _ _ _ ?_)
 refine c_sr fun _ hK22 => ?_
 refine vm rfl rfl ?_
 refine va rfl rfl ?_
 refine w_nil (hK22 _ _ _ ?_)
 obtain rfl := some_r H
 exact c_ret fun a w' hf hs => hret _ (.inl rfl) a w' hf.df ⟨_, _, _, Res.of1 rfl (RV.t hf rfl), hs.sel [0] (by decide) rfl, ⟨_, _, rfl, h11, h21, rfl⟩⟩
theorem backup_reader_key.calls {M : Heap} {w : World} {b : Nat} {T : TypeId} {q : List Value} {x_ : backup_reader} {v1 : Value} (hs : St (fun k => k = b) M w M (lt [.blk b (.cells ((backup_reader.C x_ v1 ++ q)).toArray T (0, 0))]) w) (h2 : RS (FI .u8) M v1 x_.rest_) (p1 : (List UInt8)) (r : (Key × backup_reader)) (H : backup_reader_key x_ p1 = some r) :
  Calls Tryd.prog 54 [(ptr b 0), (str p1)].toArray w (PostI (fun k => k = b) M w fun M' x v => ∃ (v189 : Value), v = (.agg (Key.C r.1).toArray) ∧ RS (FI .u8) M' v189 r.2.rest_ ∧ x = .blk b (.cells ((backup_reader.C r.2 v189 ++ q)).toArray T (0, 0))) := by
 refine enterI 90 [(0, (ptr b 0)), (1, (str p1))] Tryd.func54 rfl rfl rfl hs ?_
 clear hs
 intro Q hret
 unfold backup_reader_key at H
 refine c_sr fun _ hK3 => ?_
 refine w_allocL (A := Key.C (⟨0, 0, [], 0, 0, 0, 0, 0, false⟩ : Key)) tz55 trivial rfl rfl ?_
 intro b4
 refine w_nil (hK3 _ _ _ ?_)
 refine c_sr fun _ hK5 => ?_
 refine vm rfl rfl ?_
 refine w_s2b Tryd.underlying9 Tryd.underlying66 Tryd.underlying5 trivial rfl rfl ?_
 intro v6 M7 l8 h9
 replace h2 := h2.mono l8
 refine vm rfl rfl ?_
 refine wv rfl (fun hf hs => r_nilCheck (hf.ev rfl)) ?_
 refine v_fa fa80_1 rfl rfl ?_
 refine wv rfl (fun hf hs => r_load1 ta24 (hf.ev rfl) (hs.blk (i := 0) rfl) rfl) ?_
 refine wv rfl (fun hf hs => r_build (is := [0, 1]) (xs := [.tmp 10, .tmp 14]) (vs := [v6, (.int .i64 x_.e)]) (A := backup_reader.C (⟨(bytesI p1), x_.e⟩ : backup_reader) v6) rfl (hf.evs rfl) (built_of (pl := [(0, 1), (1, 1)]) (A0 := backup_reader.C (⟨[], 0⟩ : backup_reader) (.slice none 0 0)) tz80 Tryd.underlying80 (by kernel_rfl) rfl (.cons (vs := [v6]) (B := backup_reader.C (⟨(bytesI p1), 0⟩ : backup_reader) v6) rfl (h9.cells1) rfl (by rw [backup_reader.len]; decide) rfl (.cons (vs := [(.int .i64 x_.e)]) (B := backup_reader.C (⟨(bytesI p1), x_.e⟩ : backup_reader) v6) rfl rfl rfl (by rw [backup_reader.len]; decide) rfl .nil)))) ?_
 refine w_boxL trivial rfl rfl rfl ?_
 intro b10
 refine va rfl rfl ?_
 refine w_nil (hK5 _ _ _ ?_)
 refine c_sr fun _ hK11 => ?_
 refine vm rfl rfl ?_
 obtain ⟨t12, e13, H⟩ := bnd H
 refine w_callJ (b0 := b10) 2 cf52 trivial rfl rfl rfl rfl (fun w hs => backup_whole_LLstring.calls (b := b10) (T := 80) (q := []) (x_ := (⟨(bytesI p1), x_.e⟩ : backup_reader)) hs h9 _ e13) ?_
 rintro v16 M14 _ l15 ⟨v17, v19, hv_, h18, h20, rfl⟩
 replace hv_ := hv_.symm
 subst hv_
 replace h2 := h2.mono l15
 refine va rfl rfl ?_
 refine w_nil (hK11 _ _ _ ?_)
 refine c_cut (fun a' w' => ∃ (x21 : Key) (x22 : backup_reader) (v23 : Value) (M25 : Heap), HLe M14 M25 ∧ RS (FI .u8) M25 v23 x22.rest_ ∧ Fr 90 [(0, (ptr b 0)), (4, (ptr b4 0)), (5, (ptr b10 0))] a' ∧ St (fun k => k = b) M w M25 (lt [.blk b (.cells ((backup_reader.C x_ v1 ++ q)).toArray T (0, 0)), .blk b4 (.cells (Key.C x21).toArray 55 (0, 0)), .blk b10 (.cells (backup_reader.C x22 v23).toArray 80 (0, 0))]) w' ∧ backup_reader_key.j1 x21 x_ x22 = some r) ?_ ?_
 ·refine c_seq ?_
  intro K29 hK29
  refine c_reg ?_
  refine vm rfl rfl ?_
  refine vm rfl rfl ?_
  refine wv rfl (fun hf hs => r_lenR Tryd.underlying63 h18 (hf.ev rfl)) ?_
  refine wv rfl (fun hf hs => r_eql (hf.ev rfl) (hf.ev rfl)) ?_
  obtain ⟨t30, e31, H⟩ := bnd H
  refine w_callJ (b0 := b10) 2 cf55 trivial rfl rfl rfl rfl (fun w hs => backup_reader_check.calls (b := b10) (T := 80) (q := []) (x_ := t12.2) hs h20 ((t12.1.length : Int) == (2 : Int)) (6 : Int) _ e31) ?_
  rintro v34 M32 _ l33 ⟨v35, hv_, h36, rfl⟩
  subst hv_
  replace h2 := h2.mono l33
  replace h18 := h18.mono l33
  refine w_nil (hK29 _ _ _ ?_)
  refine c_if rfl (fun b37 => ?_) (fun b37 => ?_)
  ·replace H := if_t b37 H
   refine c_sr fun _ hK38 => ?_
   refine vm rfl rfl ?_
   obtain ⟨g39, H⟩ := grd_s H
   refine wv rfl (fun hf hs => r_iR Tryd.underlying63 ts9 h18 (hf.ev rfl) (hf.ev rfl) g39.1 g39.2) ?_
   refine wv rfl (fun hf hs => r_loadE1 ta9 h18 hs.sub g39.1 g39.2 (hf.ev rfl) rfl) ?_
   refine w_s2b Tryd.underlying9 Tryd.underlying66 Tryd.underlying5 trivial rfl rfl ?_
   intro v40 M41 l42 h43
   replace h2 := h2.mono l42
   replace h18 := h18.mono l42
   replace h36 := h36.mono l42
   refine wv rfl (fun hf hs => r_build (is := [0]) (xs := [.tmp 27]) (vs := [v40]) (A := backup_reader.C (⟨(bytesI (rd t12.1 0)), 0⟩ : backup_reader) v40) rfl (hf.evs rfl) (built_of (pl := [(0, 1), (1, 1)]) (A0 := backup_reader.C (⟨[], 0⟩ : backup_reader) (.slice none 0 0)) tz80 Tryd.underlying80 (by kernel_rfl) rfl (.cons (vs := [v40]) (B := backup_reader.C (⟨(bytesI (rd t12.1 0)), 0⟩ : backup_reader) v40) rfl (h43.cells1) rfl (by rw [backup_reader.len]; decide) rfl .nil))) ?_
   refine w_boxL trivial rfl rfl rfl ?_
   intro b44
   refine va rfl rfl ?_
   refine w_nil (hK38 _ _ _ ?_)
   refine c_sr fun _ hK45 => ?_
   refine vm rfl rfl ?_
   obtain ⟨t46, e47, H⟩ := bnd H
   refine w_callJ (b0 := b44) 3 cf106 trivial rfl rfl rfl rfl (fun w hs => backup_whole_LLint.calls (b := b44) (T := 80) (q := []) (x_ := (⟨(bytesI (rd t12.1 0)), 0⟩ : backup_reader)) hs h43 _ e47) ?_
   rintro v50 M48 _ l49 ⟨v51, v53, hv_, h52, h54, rfl⟩
   replace hv_ := hv_.symm
   subst hv_
   replace h2 := h2.mono l49
   replace h18 := h18.mono l49
   replace h36 := h36.mono l49
   refine va rfl rfl ?_
   refine w_nil (hK45 _ _ _ ?_)
   refine c_cut (fun a' w' => ∃ (x55 : Key) (x56 : backup_reader) (v57 : Value) (M59 : Heap), HLe M48 M59 ∧ RS (FI .u8) M59 v57 x56.rest_ ∧ Fr 90 [(0, (ptr b 0)), (4, (ptr b4 0)), (5, (ptr b10 0)), (7, (ptr b44 0))] a' ∧ St (fun k => k = b) M w M59 (lt [.blk b (.cells ((backup_reader.C x_ v1 ++ q)).toArray T (0, 0)), .blk b4 (.cells (Key.C x55).toArray 55 (0, 0)), .blk b10 (.cells (backup_reader.C t30.2 v35).toArray 80 (0, 0)), .blk b44 (.cells (backup_reader.C x56 v57).toArray 80 (0, 0))]) w' ∧ backup_reader_key.j2 x55 x_ t30 x56 = some r) ?_ ?_
   ·refine c_seq ?_
    intro K61 hK61
    refine c_reg ?_
    refine vm rfl rfl ?_
    refine vm rfl rfl ?_
    refine wv rfl (fun hf hs => r_lenR Tryd.underlying51 h52 (hf.ev rfl)) ?_
    refine wv rfl (fun hf hs => r_eql (hf.ev rfl) (hf.ev rfl)) ?_
    obtain ⟨t62, e63, H⟩ := bnd H
    refine w_callJ (b0 := b44) 3 cf55 trivial rfl rfl rfl rfl (fun w hs => backup_reader_check.calls (b := b44) (T := 80) (q := []) (x_ := t46.2) hs h54 ((t46.1.length : Int) == (8 : Int)) (6 : Int) _ e63) ?_
    rintro v66 M64 _ l65 ⟨v67, hv_, h68, rfl⟩
    subst hv_
    replace h2 := h2.mono l65
    replace h18 := h18.mono l65
    replace h36 := h36.mono l65
    replace h52 := h52.mono l65
    refine vm rfl rfl ?_
    by_cases b69 : t62.1 = true
    ·replace H := if_t b69 H
     refine wg b69 rfl rfl rfl (fun hf hs => r_move (hf.ev rfl)) ?_
     refine wg b69 rfl rfl rfl (fun hf hs => r_move (hf.ev rfl)) ?_
     obtain ⟨g70, H⟩ := grd_s H
     refine wg b69 rfl rfl rfl (fun hf hs => r_iR Tryd.underlying51 ts3 h52 (hf.ev rfl) (hf.ev rfl) g70.1 g70.2) ?_
     refine wg b69 rfl rfl rfl (fun hf hs => r_loadE1 ta3 h52 hs.sub g70.1 g70.2 (hf.ev rfl) rfl) ?_
     refine w_bsl (F := (FI .i64)) (es := ([(rd t46.1 7)] : List Int)) (xs := [.tmp 41]) (vs := [(.int .i64 (rd t46.1 7))]) Tryd.underlying51 te3 (Wnt.of rfl rfl b69) rfl rfl rfl rfl rfl (by decide) ?_
     intro v71 M72 l73 h74 c75
     replace h2 := h2.mono l73
     replace h18 := h18.mono l73
     replace h36 := h36.mono l73
     replace h52 := h52.mono l73
     replace h68 := h68.mono l73
     obtain ⟨t76, e81, H⟩ := bnd H
     refine w_call cf92 (Wnt.of rfl rfl b69) rfl rfl (fun w hs => backup_within.calls hs (1 : Int) ([(rd t46.1 7)] : List Int) v71 h74 _ e81) ?_
     rintro _ M78 l79 rfl
     replace h2 := h2.mono l79
     replace h18 := h18.mono l79
     replace h36 := h36.mono l79
     replace h52 := h52.mono l79
     replace h68 := h68.mono l79
     obtain ⟨t82, e83, H⟩ := bnd H
     refine w_callJ (b0 := b44) 3 cf55 (Wnt.of rfl rfl b69) rfl rfl rfl rfl (fun w hs => backup_reader_check.calls (b := b44) (T := 80) (q := []) (x_ := t62.2) hs h68 t76 (6 : Int) _ e83) ?_
     rintro v86 M84 _ l85 ⟨v87, hv_, h88, rfl⟩
     subst hv_
     replace h2 := h2.mono l85
     replace h18 := h18.mono l85
     replace h36 := h36.mono l85
     replace h52 := h52.mono l85
     replace h68 := h68.mono l85
     refine wv rfl (fun hf hs => r_pickT (hf.ev rfl) b69 (hf.ev rfl)) ?_
     refine w_nil (hK61 _ _ _ ?_)
     refine c_if rfl (fun b89 => ?_) (fun b89 => ?_)
     ·replace H := if_t b89 H
      refine c_split2 28 (by kernel_rfl) (by kernel_rfl) (by kernel_rfl) (by kernel_rfl) rfl ?_
      intro K90 hK90
      obtain ⟨g96, H⟩ := grd_s H
      obtain ⟨g105, H⟩ := grd_s H
      obtain ⟨g114, H⟩ := grd_s H
      obtain ⟨g123, H⟩ := grd_s H
      obtain ⟨g132, H⟩ := grd_s H
      obtain ⟨g141, H⟩ := grd_s H
      obtain ⟨g150, H⟩ := grd_s H
      obtain ⟨g159, H⟩ := grd_s H
      obtain ⟨g168, H⟩ := grd_s H
      refine d_drawP [([], [8]), ([(0, 46)], []), ([(1, 47)], []), ([], [8]), ([(3, 49)], []), ([(4, 50)], []), ([], [6]), ([(6, 52)], []), ([(7, 53)], []), ([], [8]), ([(9, 55)], []), ([(10, 56)], []), ([], [8]), ([(12, 58)], []), ([(13, 59)], []), ([], [8]), ([(15, 61)], []), ([(16, 62)], []), ([], [8]), ([(18, 64)], []), ([(19, 65)], []), ([], [8]), ([(21, 67)], []), ([(22, 68)], []), ([], [8]), ([(24, 70)], []), ([(25, 71)], []), ([(26, 72)], [])] [vq v51, vq (eP v51 (0 : Int) 1 0), vq (.int .i64 (rd t46.1 0)), vq v51, vq (eP v51 (1 : Int) 1 0), vq (.int .i64 (rd t46.1 1)), vq v17, vq (eP v17 (1 : Int) 1 0), vq (str (rd t12.1 1)), vq v51, vq (eP v51 (2 : Int) 1 0), vq (.int .i64 (rd t46.1 2)), vq v51, vq (eP v51 (3 : Int) 1 0), vq (.int .i64 (rd t46.1 3)), vq v51, vq (eP v51 (4 : Int) 1 0), vq (.int .i64 (rd t46.1 4)), vq v51, vq (eP v51 (5 : Int) 1 0), vq (.int .i64 (rd t46.1 5)), vq v51, vq (eP v51 (6 : Int) 1 0), vq (.int .i64 (rd t46.1 6)), vq v51, vq (eP v51 (7 : Int) 1 0), vq (.int .i64 (rd t46.1 7)), vq (.bool ((rd t46.1 7) == (1 : Int)))] (by kernel_rfl) (by kernel_rfl) ?_ (aT ?_ (aT ?_ (aT ?_ (aT ?_ (aT ?_ (aT ?_ (aT ?_ (aT ?_ (aT ?_ (aT ?_ (aT ?_ (aT ?_ (aT ?_ (aT ?_ (aT ?_ (aT ?_ (aT ?_ (aT ?_ (aT ?_ (aT ?_ (aT ?_ (aT ?_ (aT ?_ (aT ?_ (aT ?_ (aT ?_ (aT ?_ (aT ?_ AllT.nil)))))))))))))))))))))))))))) ?_
      ·exact (mC (mC (mC (mC (mC (mC (mC (mC (mC (mC (mC (mC (mC (mC (mC (mC (mC (mC (mC (mC (mC (mC (mC (mC (mC (mC (mC (mC MonoA.nil))))))))))))))))))))))))))))
      ·intro a w' _ l92 hd hs
       replace h52 := h52.mono l92
       exact pv (hd.fr.add (hd.base 8 _ rfl rfl)) hs rfl (fun hf hs => r_move (hf.ev rfl)) rfl
      ·intro a w' _ l94 hd hs
       exact pv (hd.fr.add (hd.val 0 46 _ rfl rfl)) hs rfl (fun hf hs => r_iR Tryd.underlying51 ts3 (h52.mono l94) (hf.ev rfl) (hf.ev rfl) g96.1 g96.2) rfl
      ·intro a w' _ l98 hd hs
       exact pv (hd.fr.add (hd.val 1 47 _ rfl rfl)) hs rfl (fun hf hs => r_loadE1 ta3 (h52.mono l98) hs.sub g96.1 g96.2 (hf.ev rfl) rfl) rfl
      ·intro a w' _ l101 hd hs
       replace h52 := h52.mono l101
       exact pv (hd.fr.add (hd.base 8 _ rfl rfl)) hs rfl (fun hf hs => r_move (hf.ev rfl)) rfl
      ·intro a w' _ l103 hd hs
       exact pv (hd.fr.add (hd.val 3 49 _ rfl rfl)) hs rfl (fun hf hs => r_iR Tryd.underlying51 ts3 (h52.mono l103) (hf.ev rfl) (hf.ev rfl) g105.1 g105.2) rfl
      ·intro a w' _ l107 hd hs
       exact pv (hd.fr.add (hd.val 4 50 _ rfl rfl)) hs rfl (fun hf hs => r_loadE1 ta3 (h52.mono l107) hs.sub g105.1 g105.2 (hf.ev rfl) rfl) rfl
      ·intro a w' _ l110 hd hs
       replace h18 := h18.mono l110
       exact pv (hd.fr.add (hd.base 6 _ rfl rfl)) hs rfl (fun hf hs => r_move (hf.ev rfl)) rfl
      ·intro a w' _ l112 hd hs
       exact pv (hd.fr.add (hd.val 6 52 _ rfl rfl)) hs rfl (fun hf hs => r_iR Tryd.underlying63 ts9 (h18.mono l112) (hf.ev rfl) (hf.ev rfl) g114.1 g114.2) rfl
      ·intro a w' _ l116 hd hs
       exact pv (hd.fr.add (hd.val 7 53 _ rfl rfl)) hs rfl (fun hf hs => r_loadE1 ta9 (h18.mono l116) hs.sub g114.1 g114.2 (hf.ev rfl) rfl) rfl
      ·intro a w' _ l119 hd hs
       replace h52 := h52.mono l119
       exact pv (hd.fr.add (hd.base 8 _ rfl rfl)) hs rfl (fun hf hs => r_move (hf.ev rfl)) rfl
      ·intro a w' _ l121 hd hs
       exact pv (hd.fr.add (hd.val 9 55 _ rfl rfl)) hs rfl (fun hf hs => r_iR Tryd.underlying51 ts3 (h52.mono l121) (hf.ev rfl) (hf.ev rfl) g123.1 g123.2) rfl
      ·intro a w' _ l125 hd hs
       exact pv (hd.fr.add (hd.val 10 56 _ rfl rfl)) hs rfl (fun hf hs => r_loadE1 ta3 (h52.mono l125) hs.sub g123.1 g123.2 (hf.ev rfl) rfl) rfl
      ·intro a w' _ l128 hd hs
       replace h52 := h52.mono l128
       exact pv (hd.fr.add (hd.base 8 _ rfl rfl)) hs rfl (fun hf hs => r_move (hf.ev rfl)) rfl
      ·intro a w' _ l130 hd hs
       exact pv (hd.fr.add (hd.val 12 58 _ rfl rfl)) hs rfl (fun hf hs => r_iR Tryd.underlying51 ts3 (h52.mono l130) (hf.ev rfl) (hf.ev rfl) g132.1 g132.2) rfl
      ·intro a w' _ l134 hd hs
       exact pv (hd.fr.add (hd.val 13 59 _ rfl rfl)) hs rfl (fun hf hs => r_loadE1 ta3 (h52.mono l134) hs.sub g132.1 g132.2 (hf.ev rfl) rfl) rfl
      ·intro a w' _ l137 hd hs
       replace h52 := h52.mono l137
       exact pv (hd.fr.add (hd.base 8 _ rfl rfl)) hs rfl (fun hf hs => r_move (hf.ev rfl)) rfl
      ·intro a w' _ l139 hd hs
       exact pv (hd.fr.add (hd.val 15 61 _ rfl rfl)) hs rfl (fun hf hs => r_iR Tryd.underlying51 ts3 (h52.mono l139) (hf.ev rfl) (hf.ev rfl) g141.1 g141.2) rfl
      ·intro a w' _ l143 hd hs
       exact pv (hd.fr.add (hd.val 16 62 _ rfl rfl)) hs rfl (fun hf hs => r_loadE1 ta3 (h52.mono l143) hs.sub g141.1 g141.2 (hf.ev rfl) rfl) rfl
      ·intro a w' _ l146 hd hs
       replace h52 := h52.mono l146
       exact pv (hd.fr.add (hd.base 8 _ rfl rfl)) hs rfl (fun hf hs => r_move (hf.ev rfl)) rfl
      ·intro a w' _ l148 hd hs
       exact pv (hd.fr.add (hd.val 18 64 _ rfl rfl)) hs rfl (fun hf hs => r_iR Tryd.underlying51 ts3 (h52.mono l148) (hf.ev rfl) (hf.ev rfl) g150.1 g150.2) rfl
      ·intro a w' _ l152 hd hs
       exact pv (hd.fr.add (hd.val 19 65 _ rfl rfl)) hs rfl (fun hf hs => r_loadE1 ta3 (h52.mono l152) hs.sub g150.1 g150.2 (hf.ev rfl) rfl) rfl
      ·intro a w' _ l155 hd hs
       replace h52 := h52.mono l155
       exact pv (hd.fr.add (hd.base 8 _ rfl rfl)) hs rfl (fun hf hs => r_move (hf.ev rfl)) rfl
      ·intro a w' _ l157 hd hs
       exact pv (hd.fr.add (hd.val 21 67 _ rfl rfl)) hs rfl (fun hf hs => r_iR Tryd.underlying51 ts3 (h52.mono l157) (hf.ev rfl) (hf.ev rfl) g159.1 g159.2) rfl
      ·intro a w' _ l161 hd hs
       exact pv (hd.fr.add (hd.val 22 68 _ rfl rfl)) hs rfl (fun hf hs => r_loadE1 ta3 (h52.mono l161) hs.sub g159.1 g159.2 (hf.ev rfl) rfl) rfl
      ·intro a w' _ l164 hd hs
       replace h52 := h52.mono l164
       exact pv (hd.fr.add (hd.base 8 _ rfl rfl)) hs rfl (fun hf hs => r_move (hf.ev rfl)) rfl
      ·intro a w' _ l166 hd hs
       exact pv (hd.fr.add (hd.val 24 70 _ rfl rfl)) hs rfl (fun hf hs => r_iR Tryd.underlying51 ts3 (h52.mono l166) (hf.ev rfl) (hf.ev rfl) g168.1 g168.2) rfl
      ·intro a w' _ l170 hd hs
       exact pv (hd.fr.add (hd.val 25 71 _ rfl rfl)) hs rfl (fun hf hs => r_loadE1 ta3 (h52.mono l170) hs.sub g168.1 g168.2 (hf.ev rfl) rfl) rfl
      ·intro a w' _ _ hd hs
       exact pv (hd.fr.add (hd.val 26 72 _ rfl rfl)) hs rfl (fun hf hs => r_eql (hf.ev rfl) (hf.ev rfl)) rfl
      intro a w' M175 l176 hdf hsz hb hv hs
      replace h2 := h2.mono l176
      replace h36 := h36.mono l176
      replace h68 := h68.mono l176
      replace h88 := h88.mono l176
      have e177 := hv 2 48 _ rfl rfl
      have e178 := hv 5 51 _ rfl rfl
      have e179 := hv 8 54 _ rfl rfl
      have e180 := hv 11 57 _ rfl rfl
      have e181 := hv 14 60 _ rfl rfl
      have e182 := hv 17 63 _ rfl rfl
      have e183 := hv 20 66 _ rfl rfl
      have e184 := hv 23 69 _ rfl rfl
      have e185 := hv 27 73 _ rfl rfl
      refine n_of (c := (Cx.mk Tryd.prog 90 (fun k => k = b) M w)) (l := [(0, (ptr b 0)), (4, (ptr b4 0)), (5, (ptr b10 0)), (7, (ptr b44 0)), (48, (.int .i64 (rd t46.1 0))), (51, (.int .i64 (rd t46.1 1))), (54, (str (rd t12.1 1))), (57, (.int .i64 (rd t46.1 2))), (60, (.int .i64 (rd t46.1 3))), (63, (.int .i64 (rd t46.1 4))), (66, (.int .i64 (rd t46.1 5))), (69, (.int .i64 (rd t46.1 6))), (73, (.bool ((rd t46.1 7) == (1 : Int))))]) ?_ ((((((((((((((Fr.start hdf hsz).add e185).add e184).add e183).add e182).add e181).add e180).add e179).add e178).add e177).add (hb 7 _ rfl rfl)).add (hb 5 _ rfl rfl)).add (hb 4 _ rfl rfl)).add (hb 0 _ rfl rfl)) hs
      clear hdf hsz hb hv hs e177 e178 e179 e180 e181 e182 e183 e184 e185
      refine n_id (hK90 _ _ _ ?_)
      refine wv rfl (fun hf hs => r_build (is := [0, 1, 2, 3, 4, 5, 6, 7, 8]) (xs := [.tmp 48, .tmp 51, .tmp 54, .tmp 57, .tmp 60, .tmp 63, .tmp 66, .tmp 69, .tmp 73]) (vs := [(.int .i64 (rd t46.1 0)), (.int .i64 (rd t46.1 1)), (str (rd t12.1 1)), (.int .i64 (rd t46.1 2)), (.int .i64 (rd t46.1 3)), (.int .i64 (rd t46.1 4)), (.int .i64 (rd t46.1 5)), (.int .i64 (rd t46.1 6)), (.bool ((rd t46.1 7) == (1 : Int)))]) (A := Key.C (⟨(rd t46.1 0), (rd t46.1 1), (rd t12.1 1), (rd t46.1 2), (rd t46.1 3), (rd t46.1 4), (rd t46.1 5), (rd t46.1 6), ((rd t46.1 7) == (1 : Int))⟩ : Key)) rfl (hf.evs rfl) (by kernel_rfl)) ?_
      obtain ⟨z186, e188, H⟩ := bnd H
      have e187 := some_r e188
      refine w_store (i := 1) (vs := Key.C (⟨(rd t46.1 0), (rd t46.1 1), (rd t12.1 1), (rd t46.1 2), (rd t46.1 3), (rd t46.1 4), (rd t46.1 5), (rd t46.1 6), ((rd t46.1 7) == (1 : Int))⟩ : Key)) (A' := Key.C z186) trivial rfl rfl rfl rfl ts55 rfl (Key.F_one _) (Nat.le_of_ble_eq_true rfl) (by rw [← e187]; exact rfl) ?_
      clear e188 e187
      exact w_nil fun a w' hf hs => ⟨z186, t82.2, v87, _, (l65.trans (l73.trans (l79.trans (l85.trans l176)))), h88, (hf.pick (pk (pk (pk (pk pk0 rfl) rfl) rfl) rfl)), hs.selD [some 0, some 1, some 2, some 3] (by decide) rfl, H⟩
     replace H := if_f b89 H
     refine c_skip ?_
     intro a w' hf hs
     exact ⟨(⟨0, 0, [], 0, 0, 0, 0, 0, false⟩ : Key), t82.2, v87, _, (l65.trans (l73.trans (l79.trans l85))), h88, (hf.pick (pk (pk (pk (pk pk0 rfl) rfl) rfl) rfl)), hs.selD [some 0, some 1, some 2, some 3] (by decide) rfl, H⟩
    replace b69 := Bool.eq_false_iff.2 b69
    replace H := if_f b69 H
    refine wq b69 rfl rfl rfl ?_
    refine wq b69 rfl rfl rfl ?_
    refine wq b69 rfl rfl rfl ?_
    refine wq b69 rfl rfl rfl ?_
    refine wq b69 rfl rfl rfl ?_
    refine wq b69 rfl rfl rfl ?_
    refine wq b69 rfl rfl rfl ?_
    refine wv rfl (fun hf hs => r_pickF (hf.ev rfl) b69 (hf.ev rfl)) ?_
    refine w_nil (hK61 _ _ _ ?_)
    refine c_if rfl (fun hb => absurd (hb.symm.trans rfl) (by decide)) (fun hb => ?_)
    refine c_skip ?_
    intro a w' hf hs
    exact ⟨(⟨0, 0, [], 0, 0, 0, 0, 0, false⟩ : Key), t62.2, v67, _, l65, h68, (hf.pick (pk (pk (pk (pk pk0 rfl) rfl) rfl) rfl)), hs.selD [some 0, some 1, some 2, some 3] (by decide) rfl, H⟩
   rintro a w' ⟨x55, x56, v57, M59, l60, h58, hf, hs, H⟩
   refine c_of (c := (Cx.mk Tryd.prog 90 (fun k => k = b) M w)) ?_ hf hs
   unfold backup_reader_key.j2 at H
   clear hf hs
   replace h2 := h2.mono l60
   replace h36 := h36.mono l60
   refine c_reg ?_
   refine vm rfl rfl ?_
   refine vm rfl rfl ?_
   refine wv rfl (fun hf hs => r_nilCheck (hf.ev rfl)) ?_
   refine v_fa fa80_1 rfl rfl ?_
   refine wv rfl (fun hf hs => r_load1 ta24 (hf.ev rfl) (hs.blk (i := 3) rfl) rfl) ?_
   refine wv rfl (fun hf hs => r_nilCheck (hf.ev rfl)) ?_
   refine v_fa fa80_1 rfl rfl ?_
   refine w_store (i := 2) (vs := [(.int .i64 x56.e)]) (A' := backup_reader.C ({ t30.2 with e := x56.e } : backup_reader) v35) trivial rfl rfl rfl rfl ts24 rfl (one1 rfl) (Nat.le_of_ble_eq_true rfl) rfl ?_
   exact w_nil fun a w' hf hs => ⟨x55, ({ t30.2 with e := x56.e } : backup_reader), v35, _, (l33.trans (l42.trans (l49.trans l60))), h36, (hf.pick (pk (pk (pk pk0 rfl) rfl) rfl)), hs.selD [some 0, some 1, some 2] (by decide) rfl, H⟩
  replace H := if_f b37 H
  refine c_skip ?_
  intro a w' hf hs
  exact ⟨(⟨0, 0, [], 0, 0, 0, 0, 0, false⟩ : Key), t30.2, v35, _, l33, h36, (hf.pick (pk (pk (pk pk0 rfl) rfl) rfl)), hs.selD [some 0, some 1, some 2] (by decide) rfl, H⟩
 rintro a w' ⟨x21, x22, v23, M25, l26, h24, hf, hs, H⟩
 refine c_of (c := (Cx.mk Tryd.prog 90 (fun k => k = b) M w)) ?_ hf hs
 unfold backup_reader_key.j1 at H
 clear hf hs
 replace h2 := h2.mono l26
 refine c_sr fun _ hK27 => ?_
 refine vm rfl rfl ?_
 refine vm rfl rfl ?_
 refine wv rfl (fun hf hs => r_nilCheck (hf.ev rfl)) ?_
 refine v_fa fa80_1 rfl rfl ?_
 refine wv rfl (fun hf hs => r_load1 ta24 (hf.ev rfl) (hs.blk (i := 2) rfl) rfl) ?_
 refine wv rfl (fun hf hs => r_nilCheck (hf.ev rfl)) ?_
 refine v_fa fa80_1 rfl rfl ?_
 refine w_store (i := 0) (vs := [(.int .i64 x22.e)]) (A' := (backup_reader.C ({ x_ with e := x22.e } : backup_reader) v1 ++ q)) trivial rfl rfl rfl rfl ts24 rfl (one1 rfl) (Nat.le_of_ble_eq_true rfl) rfl ?_
 refine w_nil (hK27 _ _ _ ?_)
 refine c_sr fun _ hK28 => ?_
 refine wv rfl (fun hf hs => r_loadA ta55 ts55 (hf.ev rfl) (hs.blk (i := 1) rfl) rfl rfl) ?_
 refine w_store (i := 1) (vs := Key.C x21) (A' := Key.C x21) trivial rfl rfl rfl rfl ts55 rfl (Key.F_one _) (Nat.le_of_ble_eq_true rfl) rfl ?_
 refine w_nil (hK28 _ _ _ ?_)
 obtain rfl := some_r H
 exact c_ret fun a w' hf hs => hret _ (.inl rfl) a w' hf.df ⟨_, _, _, Res.of1 rfl ⟨_, hf.get _ _ rfl, run_loadA (hs.blk (i := 1) rfl) ta55 ts55 rfl rfl⟩, hs.sel [0] (by decide) rfl, ⟨_, rfl, h2, rfl⟩⟩
theorem backup_Open.calls {M : Heap} {w : World} (hM : Sub M w) (hG : Gl M) (p0 : (List UInt8)) (p1 : (List UInt8)) (r : (Backup × Int)) (H : backup_Open p0 p1 = some r) :
  Calls Tryd.prog 22 [(str p0), (str p1)].toArray w (Post M w fun M' v => ∃ v258, v = .tuple #[(.agg (Backup.C r.1 v258).toArray), (.int .i64 r.2)] ∧ RS Key.F M' v258 r.1.Keys) := by
 refine enter 87 [(0, (str p0)), (1, (str p1))] Tryd.func22 rfl rfl rfl hM ?_
 intro Q hret
 unfold backup_Open at H
 refine c_sr fun _ hK1 => ?_
 refine w_allocL (A := Backup.C (⟨(Vector.replicate 16 0), 0, 0, 0, 0, (Vector.replicate 16 0), [], []⟩ : Backup) (.slice none 0 0)) tz36 trivial rfl rfl ?_
 intro b2
 refine va rfl rfl ?_
 refine w_nil (hK1 _ _ _ ?_)
 refine c_seq fun K3 hK3 => ?_
 refine c_sr fun _ hK4 => ?_
 refine vm rfl rfl ?_
 refine wv rfl (fun hf hs => r_slen Tryd.underlying9 (hf.ev rfl)) ?_
 refine wv rfl (fun hf hs => r_neq (hf.ev rfl) (hf.ev rfl)) ?_
 refine w_nil (hK4 _ _ _ ?_)
 refine c_if rfl (fun b5 => ?_) (fun b5 => ?_)
 ·replace H := if_t b5 H
  refine c_sr fun _ hK6 => ?_
  refine wv rfl (fun hf hs => r_build (is := []) (xs := []) (vs := []) (A := Backup.C (⟨(Vector.replicate 16 0), 0, 0, 0, 0, (Vector.replicate 16 0), [], []⟩ : Backup) (.slice none 0 0)) rfl (hf.evs rfl) (built_of (pl := [(0, 16), (16, 1), (17, 1), (18, 1), (19, 1), (20, 16), (36, 1), (37, 1)]) (A0 := Backup.C (⟨(Vector.replicate 16 0), 0, 0, 0, 0, (Vector.replicate 16 0), [], []⟩ : Backup) (.slice none 0 0)) tz36 Tryd.underlying36 (by kernel_rfl) rfl .nil)) ?_
  obtain ⟨z7, e9, H⟩ := bnd H
  have e8 := some_r e9
  refine w_store (i := 0) (vs := Backup.C (⟨(Vector.replicate 16 0), 0, 0, 0, 0, (Vector.replicate 16 0), [], []⟩ : Backup) (.slice none 0 0)) (A' := Backup.C z7 (.slice none 0 0)) trivial rfl rfl rfl rfl ts36 (Backup.len _ _) (Backup.C_one _ rfl) (by rw [Backup.len]; decide) (by rw [← e8]; exact (splice_all _ _ (by simp [Backup.C]))) ?_
  have h10 : RS Key.F M (.slice none 0 0) z7.Keys := by rw [← e8]; exact RS.none
  clear e9 e8
  refine va rfl rfl ?_
  refine w_nil (hK6 _ _ _ ?_)
  obtain rfl := some_r H
  exact c_ret fun a w' hf hs => hret _ (.inl rfl) a w' hf.df ⟨_, _, Res.of2 rfl ⟨_, hf.get _ _ rfl, run_loadA (hs.blk (i := 0) rfl) ta36 ts36 (Backup.d0_38 _ _) (Backup.len _ _)⟩ (RV.t hf rfl), hs.ext, ⟨_, rfl, h10⟩⟩
 replace H := if_f b5 H
 refine c_skip (hK3 _ _ _ ?_)
 refine c_sr fun _ hK11 => ?_
 refine vm rfl rfl ?_
 refine w_s2b Tryd.underlying9 Tryd.underlying66 Tryd.underlying5 trivial rfl rfl ?_
 intro v12 M13 l14 h15
 replace hG := hG.mono l14
 refine wv rfl (fun hf hs => r_build (is := [0]) (xs := [.tmp 18]) (vs := [v12]) (A := backup_reader.C (⟨(bytesI p1), 0⟩ : backup_reader) v12) rfl (hf.evs rfl) (built_of (pl := [(0, 1), (1, 1)]) (A0 := backup_reader.C (⟨[], 0⟩ : backup_reader) (.slice none 0 0)) tz80 Tryd.underlying80 (by kernel_rfl) rfl (.cons (vs := [v12]) (B := backup_reader.C (⟨(bytesI p1), 0⟩ : backup_reader) v12) rfl (h15.cells1) rfl (by rw [backup_reader.len]; decide) rfl .nil))) ?_
 refine wv rfl (fun hf hs => r_build (is := [0]) (xs := [.tmp 19]) (vs := [(.agg (backup_reader.C (⟨(bytesI p1), 0⟩ : backup_reader) v12).toArray)]) (A := backup_blobReader.C (⟨(⟨(bytesI p1), 0⟩ : backup_reader), []⟩ : backup_blobReader) v12) rfl (hf.evs rfl) (built_of (pl := [(0, 2), (2, 1)]) (A0 := backup_blobReader.C (⟨(⟨[], 0⟩ : backup_reader), []⟩ : backup_blobReader) (.slice none 0 0)) tz82 Tryd.underlying82 (by kernel_rfl) rfl (.cons (vs := backup_reader.C (⟨(bytesI p1), 0⟩ : backup_reader) v12) (B := backup_blobReader.C (⟨(⟨(bytesI p1), 0⟩ : backup_reader), []⟩ : backup_blobReader) v12) rfl rfl (backup_reader.len _ _) (by rw [backup_blobReader.len]; decide) rfl .nil))) ?_
 refine w_boxL trivial rfl rfl rfl ?_
 intro b16
 refine va rfl rfl ?_
 refine w_nil (hK11 _ _ _ ?_)
 refine c_sr fun _ hK17 => ?_
 refine vm rfl rfl ?_
 obtain ⟨t18, e19, H⟩ := bnd H
 refine w_callJ (b0 := b16) 1 cf51 trivial rfl rfl rfl rfl (fun w hs => backup_blobReader_peek.calls (b := b16) (T := 82) (q := []) (x_ := (⟨(⟨(bytesI p1), 0⟩ : backup_reader), []⟩ : backup_blobReader)) hs h15 _ e19) ?_
 rintro v22 M20 _ l21 ⟨v26, hv_, h27, n25, rfl⟩
 subst hv_
 replace hG := hG.mono l21
 refine w_L [.blk b2 (.cells (Backup.C (⟨(Vector.replicate 16 0), 0, 0, 0, 0, (Vector.replicate 16 0), [], []⟩ : Backup) (.slice none 0 0)).toArray 36 (0, 0)), .blk b16 (.cells (backup_blobReader.C t18.2 v26).toArray 82 (0, 0))] (by first | rfl | (rw [n25]; rfl)) ?_
 refine w_allocL (A := Backup.C (⟨(Vector.replicate 16 0), 0, 0, 0, 0, (Vector.replicate 16 0), [], []⟩ : Backup) (.slice none 0 0)) tz36 trivial rfl rfl ?_
 intro b28
 refine w_L [.blk b2 (.cells (Backup.C (⟨(Vector.replicate 16 0), 0, 0, 0, 0, (Vector.replicate 16 0), [], []⟩ : Backup) (.slice none 0 0)).toArray 36 (0, 0)), .blk b16 (.cells (backup_blobReader.C t18.2 v26).toArray 82 (0, 0)), .blk b28 (.cells (Backup.C (⟨(Vector.replicate 16 0), 0, 0, 0, 0, (Vector.replicate 16 0), [], []⟩ : Backup) (.slice none 0 0)).toArray 36 (0, 0))] (by first | rfl | (rw [n25]; rfl)) ?_
 refine w_store (i := 2) (vs := Backup.C t18.1 (.slice none 0 0)) (A' := Backup.C t18.1 (.slice none 0 0)) trivial rfl rfl rfl rfl ts36 (Backup.len _ _) (Backup.C_one _ rfl) (by rw [Backup.len]; decide) (splice_all _ _ (by simp [Backup.C])) ?_
 refine w_L [.blk b2 (.cells (Backup.C (⟨(Vector.replicate 16 0), 0, 0, 0, 0, (Vector.replicate 16 0), [], []⟩ : Backup) (.slice none 0 0)).toArray 36 (0, 0)), .blk b16 (.cells (backup_blobReader.C t18.2 v26).toArray 82 (0, 0)), .blk b28 (.cells (Backup.C t18.1 (.slice none 0 0)).toArray 36 (0, 0))] (by first | rfl | (rw [n25]; rfl)) ?_
 refine w_nil (hK17 _ _ _ ?_)
 refine c_seq fun K29 hK29 => ?_
 refine c_sr fun _ hK30 => ?_
 refine vm rfl rfl ?_
 refine wv rfl (fun hf hs => r_nilCheck (hf.ev rfl)) ?_
 refine v_fa fa82_0 rfl rfl ?_
 refine v_fa fa80_1 rfl rfl ?_
 refine wv rfl (fun hf hs => r_load1 ta24 (hf.ev rfl) (hs.blk (i := 1) rfl) rfl) ?_
 refine wv rfl (fun hf hs => r_neq (hf.ev rfl) (hf.ev rfl)) ?_
 refine w_nil (hK30 _ _ _ ?_)
 refine c_if rfl (fun b31 => ?_) (fun b31 => ?_)
 ·replace H := if_t b31 H
  refine c_seq fun K32 hK32 => ?_
  refine c_drawP [([], []), ([], [6]), ([(1, 31)], []), ([(2, 32)], []), ([(3, 33)], []), ([(4, 34)], []), ([(0, 30)], [4]), ([(5, 35)], [])] [vq (.agg (Backup.C (⟨(Vector.replicate 16 0), 0, 0, 0, 0, (Vector.replicate 16 0), [], []⟩ : Backup) (.slice none 0 0)).toArray), vq (ptr b16 0), vq (ptr b16 0), vq (ptr b16 0), vq (ptr b16 1), vq (.int .i64 t18.2.reader.e), fun _ _ => True, vq (.int .i64 t18.2.reader.e)] (by kernel_rfl) (by kernel_rfl) ?_ (aT ?_ (aT ?_ (aT ?_ (aT ?_ (aT ?_ (aT ?_ (aT ?_ (aT ?_ AllT.nil)))))))) ?_
  ·exact (mC (mC (mC (mC (mC (mC (mC (mC MonoA.nil))))))))
  ·intro a w' _ _ hd hs
   exact pv hd.fr hs rfl (fun hf hs => r_build (is := []) (xs := []) (vs := []) (A := Backup.C (⟨(Vector.replicate 16 0), 0, 0, 0, 0, (Vector.replicate 16 0), [], []⟩ : Backup) (.slice none 0 0)) rfl (hf.evs rfl) (built_of (pl := [(0, 16), (16, 1), (17, 1), (18, 1), (19, 1), (20, 16), (36, 1), (37, 1)]) (A0 := Backup.C (⟨(Vector.replicate 16 0), 0, 0, 0, 0, (Vector.replicate 16 0), [], []⟩ : Backup) (.slice none 0 0)) tz36 Tryd.underlying36 (by kernel_rfl) rfl .nil)) rfl
  ·intro a w' _ _ hd hs
   exact pv (hd.fr.add (hd.base 6 _ rfl rfl)) hs rfl (fun hf hs => r_move (hf.ev rfl)) rfl
  ·intro a w' _ _ hd hs
   exact pv (hd.fr.add (hd.val 1 31 _ rfl rfl)) hs rfl (fun hf hs => r_nilCheck (hf.ev rfl)) rfl
  ·intro a w' _ _ hd hs
   exact pv (hd.fr.add (hd.val 2 32 _ rfl rfl)) hs rfl (fun hf hs => r_fa fa82_0 (hf.ev rfl)) rfl
  ·intro a w' _ _ hd hs
   exact pv (hd.fr.add (hd.val 3 33 _ rfl rfl)) hs rfl (fun hf hs => r_fa fa80_1 (hf.ev rfl)) rfl
  ·intro a w' _ _ hd hs
   exact pv (hd.fr.add (hd.val 4 34 _ rfl rfl)) hs rfl (fun hf hs => r_load1 ta24 (hf.ev rfl) (hs.blk (i := 1) rfl) rfl) rfl
  ·intro a w' _ _ hd hs
   have e51 := hd.val 0 30 _ rfl rfl
   refine OP.ofW (l := [(4, (ptr b2 0)), (30, (.agg (Backup.C (⟨(Vector.replicate 16 0), 0, 0, 0, 0, (Vector.replicate 16 0), [], []⟩ : Backup) (.slice none 0 0)).toArray))]) ((hd.fr.add e51).add (hd.base 4 _ rfl rfl)) hs rfl ?_
   refine w_store (i := 0) (vs := Backup.C (⟨(Vector.replicate 16 0), 0, 0, 0, 0, (Vector.replicate 16 0), [], []⟩ : Backup) (.slice none 0 0)) (A' := Backup.C (⟨(Vector.replicate 16 0), 0, 0, 0, 0, (Vector.replicate 16 0), [], []⟩ : Backup) (.slice none 0 0)) trivial rfl rfl rfl rfl ts36 (Backup.len _ _) (Backup.C_one _ rfl) (by rw [Backup.len]; decide) (splice_all _ _ (by simp [Backup.C])) ?_
   exact w_nil fun a w' hf hs => ⟨rfl, hf.df, _, (HLe.refl _), hs, trivial⟩
  ·intro a w' _ _ hd hs
   exact pv (hd.fr.add (hd.val 5 35 _ rfl rfl)) hs rfl (fun hf hs => r_assign (hf.ev rfl)) rfl
  intro a w' M55 l56 hdf hsz hb hv hs
  replace hG := hG.mono l56
  replace h27 := h27.mono l56
  have e57 := hv 7 5 _ rfl rfl
  refine n_of (c := (Cx.mk Tryd.prog 87 none' M w)) (l := [(4, (ptr b2 0)), (5, (.int .i64 t18.2.reader.e))]) ?_ (((Fr.start hdf hsz).add e57).add (hb 4 _ rfl rfl)) hs
  clear hdf hsz hb hv hs e57
  refine n_id (hK32 _ _ _ ?_)
  obtain rfl := some_r H
  exact c_ret fun a w' hf hs => hret _ (.inl rfl) a w' hf.df ⟨_, _, Res.of2 rfl ⟨_, hf.get _ _ rfl, run_loadA (hs.blk (i := 0) rfl) ta36 ts36 (Backup.d0_38 _ _) (Backup.len _ _)⟩ (RV.t hf rfl), hs.ext, ⟨_, rfl, RS.none⟩⟩
 replace H := if_f b31 H
 refine c_skip (hK29 _ _ _ ?_)
 refine c_seq fun K58 hK58 => ?_
 obtain ⟨t64, e69, H⟩ := bnd H
 obtain ⟨t103, e108, H⟩ := bnd H
 refine c_drawP [([], [0]), ([(0, 37)], []), ([], [6]), ([(2, 39)], []), ([(3, 40)], []), ([(4, 41)], []), ([], [6]), ([(6, 43)], []), ([(7, 44)], []), ([(8, 45)], []), ([(9, 46)], []), ([(10, 47)], []), ([(1, 38), (5, 42), (11, 48)], []), ([(12, 49)], []), ([(13, 36)], []), ([(13, 36)], []), ([(14, 50)], []), ([(15, 51)], [])] [vq (str p0), vq (str t64), vq (ptr b16 0), vq (ptr b16 0), vq (ptr b16 2), vq (str t18.2.header), vq (ptr b16 0), vq (ptr b16 0), vq (ptr b16 0), vq (ptr b16 0), vq v26, vq (str (intsB t18.2.reader.rest_)), vq (.tuple #[(str t103.1), (.int .i64 t103.2)]), vq (.tuple #[(str t103.1), (.int .i64 t103.2)]), vq (str t103.1), vq (.int .i64 t103.2), vq (str t103.1), vq (.int .i64 t103.2)] (by kernel_rfl) (by kernel_rfl) ?_ (aT ?_ (aT ?_ (aT ?_ (aT ?_ (aT ?_ (aT ?_ (aT ?_ (aT ?_ (aT ?_ (aT ?_ (aT ?_ (aT ?_ (aT ?_ (aT ?_ (aT ?_ (aT ?_ (aT ?_ (aT ?_ AllT.nil)))))))))))))))))) ?_
 ·exact (mC (mC (mC (mC (mC (mC (mC (mC (mC (mC (mC (mC (mC (mC (mC (mC (mC (mC MonoA.nil))))))))))))))))))
 ·intro a w' _ _ hd hs
  exact pv (hd.fr.add (hd.base 0 _ rfl rfl)) hs rfl (fun hf hs => r_move (hf.ev rfl)) rfl
 ·intro a w' _ l62 hd hs
  have e63 := hd.val 0 37 _ rfl rfl
  replace hG := hG.mono l62
  refine OP.ofW (l := [(37, (str p0))]) (hd.fr.add e63) hs rfl ?_
  refine w_call cf49 trivial rfl rfl (fun w hs => kdf_Derive.calls hs hG p0 ([98, 97, 99, 107, 117, 112] : List UInt8) ([] : (List (List UInt8))) (.slice none 0 0) RS.none _ e69) ?_
  rintro _ M66 l67 rfl
  exact w_nil fun a w' hf hs => ⟨rfl, hf.df, _, l67, hs, hf.get _ _ rfl⟩
 ·intro a w' _ _ hd hs
  exact pv (hd.fr.add (hd.base 6 _ rfl rfl)) hs rfl (fun hf hs => r_move (hf.ev rfl)) rfl
 ·intro a w' _ _ hd hs
  exact pv (hd.fr.add (hd.val 2 39 _ rfl rfl)) hs rfl (fun hf hs => r_nilCheck (hf.ev rfl)) rfl
 ·intro a w' _ _ hd hs
  exact pv (hd.fr.add (hd.val 3 40 _ rfl rfl)) hs rfl (fun hf hs => r_fa fa82_1 (hf.ev rfl)) rfl
 ·intro a w' _ _ hd hs
  exact pv (hd.fr.add (hd.val 4 41 _ rfl rfl)) hs rfl (fun hf hs => r_load1 ta9 (hf.ev rfl) (hs.blk (i := 1) rfl) rfl) rfl
 ·intro a w' _ _ hd hs
  exact pv (hd.fr.add (hd.base 6 _ rfl rfl)) hs rfl (fun hf hs => r_move (hf.ev rfl)) rfl
 ·intro a w' _ _ hd hs
  exact pv (hd.fr.add (hd.val 6 43 _ rfl rfl)) hs rfl (fun hf hs => r_nilCheck (hf.ev rfl)) rfl
 ·intro a w' _ _ hd hs
  exact pv (hd.fr.add (hd.val 7 44 _ rfl rfl)) hs rfl (fun hf hs => r_fa fa82_0 (hf.ev rfl)) rfl
 ·intro a w' _ _ hd hs
  exact pv (hd.fr.add (hd.val 8 45 _ rfl rfl)) hs rfl (fun hf hs => r_fa fa80_0 (hf.ev rfl)) rfl
 ·intro a w' _ _ hd hs
  exact pv (hd.fr.add (hd.val 9 46 _ rfl rfl)) hs rfl (fun hf hs => r_load1 ta66 (hf.ev rfl) (hs.blk (i := 1) rfl) rfl) rfl
 ·intro a w' _ l96 hd hs
  exact pv (hd.fr.add (hd.val 10 47 _ rfl rfl)) hs rfl (fun hf hs => r_b2s Tryd.underlying66 Tryd.underlying5 Tryd.underlying9 (h27.mono l96) hs.sub (hf.ev rfl)) rfl
 ·intro a w' _ l99 hd hs
  have e100 := hd.val 1 38 _ rfl rfl
  have e101 := hd.val 5 42 _ rfl rfl
  have e102 := hd.val 11 48 _ rfl rfl
  replace hG := hG.mono l99
  refine OP.ofW (l := [(38, (str t64)), (42, (str t18.2.header)), (48, (str (intsB t18.2.reader.rest_)))]) (((hd.fr.add e102).add e101).add e100) hs rfl ?_
  refine w_call cf17 trivial rfl rfl (fun w hs => seal_Open.calls hs hG t64 t18.2.header (intsB t18.2.reader.rest_) _ e108) ?_
  rintro _ M105 l106 rfl
  exact w_nil fun a w' hf hs => ⟨rfl, hf.df, _, l106, hs, hf.get _ _ rfl⟩
 ·intro a w' _ _ hd hs
  exact pv (hd.fr.add (hd.val 12 49 _ rfl rfl)) hs rfl (fun hf hs => r_move (hf.ev rfl)) rfl
 ·intro a w' _ _ hd hs
  exact pv (hd.fr.add (hd.val 13 36 _ rfl rfl)) hs rfl (fun hf hs => r_extract (hf.ev rfl) rfl) rfl
 ·intro a w' _ _ hd hs
  exact pv (hd.fr.add (hd.val 13 36 _ rfl rfl)) hs rfl (fun hf hs => r_extract (hf.ev rfl) rfl) rfl
 ·intro a w' _ _ hd hs
  exact pv (hd.fr.add (hd.val 14 50 _ rfl rfl)) hs rfl (fun hf hs => r_assign (hf.ev rfl)) rfl
 ·intro a w' _ _ hd hs
  exact pv (hd.fr.add (hd.val 15 51 _ rfl rfl)) hs rfl (fun hf hs => r_assign (hf.ev rfl)) rfl
 intro a w' M124 l125 hdf hsz hb hv hs
 have e126 := hv 16 8 _ rfl rfl
 have e127 := hv 17 9 _ rfl rfl
 refine n_of (c := (Cx.mk Tryd.prog 87 none' M w)) (l := [(4, (ptr b2 0)), (7, (ptr b28 0)), (8, (str t103.1)), (9, (.int .i64 t103.2))]) ?_ (((((Fr.start hdf hsz).add e127).add e126).add (hb 7 _ rfl rfl)).add (hb 4 _ rfl rfl)) hs
 clear hdf hsz hb hv hs e126 e127
 refine n_id (hK58 _ _ _ ?_)
 refine c_seq fun K128 hK128 => ?_
 refine c_sr fun _ hK129 => ?_
 refine vm rfl rfl ?_
 refine wv rfl (fun hf hs => r_neq (hf.ev rfl) (hf.ev rfl)) ?_
 refine w_nil (hK129 _ _ _ ?_)
 refine c_if rfl (fun b130 => ?_) (fun b130 => ?_)
 ·replace H := if_t b130 H
  refine c_sr fun _ hK131 => ?_
  refine wv rfl (fun hf hs => r_build (is := []) (xs := []) (vs := []) (A := Backup.C (⟨(Vector.replicate 16 0), 0, 0, 0, 0, (Vector.replicate 16 0), [], []⟩ : Backup) (.slice none 0 0)) rfl (hf.evs rfl) (built_of (pl := [(0, 16), (16, 1), (17, 1), (18, 1), (19, 1), (20, 16), (36, 1), (37, 1)]) (A0 := Backup.C (⟨(Vector.replicate 16 0), 0, 0, 0, 0, (Vector.replicate 16 0), [], []⟩ : Backup) (.slice none 0 0)) tz36 Tryd.underlying36 (by kernel_rfl) rfl .nil)) ?_
  refine vm rfl rfl ?_
  obtain ⟨z132, e134, H⟩ := bnd H
  have e133 := some_r e134
  refine w_store (i := 0) (vs := Backup.C (⟨(Vector.replicate 16 0), 0, 0, 0, 0, (Vector.replicate 16 0), [], []⟩ : Backup) (.slice none 0 0)) (A' := Backup.C z132 (.slice none 0 0)) trivial rfl rfl rfl rfl ts36 (Backup.len _ _) (Backup.C_one _ rfl) (by rw [Backup.len]; decide) (by rw [← e133]; exact (splice_all _ _ (by simp [Backup.C]))) ?_
  have h135 : RS Key.F M124 (.slice none 0 0) z132.Keys := by rw [← e133]; exact RS.none
  clear e134 e133
  refine w_L [.blk b2 (.cells (Backup.C z132 (.slice none 0 0)).toArray 36 (0, 0)), .blk b16 (.cells (backup_blobReader.C t18.2 v26).toArray 82 (0, 0)), .blk b28 (.cells (Backup.C t18.1 (.slice none 0 0)).toArray 36 (0, 0))] (by first | rfl | (rw [n25]; rfl)) ?_
  refine va rfl rfl ?_
  refine w_nil (hK131 _ _ _ ?_)
  obtain rfl := some_r H
  exact c_ret fun a w' hf hs => hret _ (.inl rfl) a w' hf.df ⟨_, _, Res.of2 rfl ⟨_, hf.get _ _ rfl, run_loadA (hs.blk (i := 0) rfl) ta36 ts36 (Backup.d0_38 _ _) (Backup.len _ _)⟩ (RV.t hf rfl), hs.ext, ⟨_, rfl, h135⟩⟩
 replace H := if_f b130 H
 refine c_skip (hK128 _ _ _ ?_)
 refine c_sr fun _ hK136 => ?_
 refine vm rfl rfl ?_
 refine w_s2b Tryd.underlying9 Tryd.underlying66 Tryd.underlying5 trivial rfl rfl ?_
 intro v137 M138 l139 h140
 refine wv rfl (fun hf hs => r_build (is := [0]) (xs := [.tmp 57]) (vs := [v137]) (A := backup_reader.C (⟨(bytesI t103.1), 0⟩ : backup_reader) v137) rfl (hf.evs rfl) (built_of (pl := [(0, 1), (1, 1)]) (A0 := backup_reader.C (⟨[], 0⟩ : backup_reader) (.slice none 0 0)) tz80 Tryd.underlying80 (by kernel_rfl) rfl (.cons (vs := [v137]) (B := backup_reader.C (⟨(bytesI t103.1), 0⟩ : backup_reader) v137) rfl (h140.cells1) rfl (by rw [backup_reader.len]; decide) rfl .nil))) ?_
 refine w_boxL trivial rfl rfl rfl ?_
 intro b141
 refine va rfl rfl ?_
 refine w_nil (hK136 _ _ _ ?_)
 refine c_row0 55 9 ?_
 refine c_cut (fun a' w' => ∃ (x142 : Backup) (v143 : Value) (x144 : backup_reader) (v145 : Value) (M147 : Heap), HLe M138 M147 ∧ RS (FI .u8) M147 v145 x144.rest_ ∧ Fr 87 [(4, (ptr b2 0)), (7, (ptr b28 0)), (10, (ptr b141 0))] a' ∧ St none' M w M147 (lt [.blk b2 (.cells (Backup.C (⟨(Vector.replicate 16 0), 0, 0, 0, 0, (Vector.replicate 16 0), [], []⟩ : Backup) (.slice none 0 0)).toArray 36 (0, 0)), dead, .blk b28 (.cells (Backup.C x142 v143).toArray 36 (0, 0)), .blk b141 (.cells (backup_reader.C x144 v145).toArray 80 (0, 0)), rowI Key.F v143 55 x142.Keys]) w' ∧ backup_Open.j1 x142 x144 = some r) ?_ ?_
 ·refine c_seq ?_
  intro K192 hK192
  refine c_reg ?_
  refine vm rfl rfl ?_
  obtain ⟨t193, e194, H⟩ := bnd H
  refine w_callJ (b0 := b141) 3 cf52 trivial rfl rfl rfl rfl (fun w hs => backup_whole_LLstring.calls (b := b141) (T := 80) (q := []) (x_ := (⟨(bytesI t103.1), 0⟩ : backup_reader)) hs h140 _ e194) ?_
  rintro v197 M195 _ l196 ⟨v198, v200, hv_, h199, h201, rfl⟩
  replace hv_ := hv_.symm
  subst hv_
  refine w_L [.blk b2 (.cells (Backup.C (⟨(Vector.replicate 16 0), 0, 0, 0, 0, (Vector.replicate 16 0), [], []⟩ : Backup) (.slice none 0 0)).toArray 36 (0, 0)), .blk b16 (.cells (backup_blobReader.C t18.2 v26).toArray 82 (0, 0)), .blk b28 (.cells (Backup.C t18.1 (.slice none 0 0)).toArray 36 (0, 0)), .blk b141 (.cells (backup_reader.C t193.2 v200).toArray 80 (0, 0)), rowI Key.F (.slice none 0 0) 55 t18.1.Keys] (by first | rfl | (rw [n25]; rfl)) ?_
  refine wv rfl (fun hf hs => r_lenR Tryd.underlying63 h199 (hf.ev rfl)) ?_
  refine vm rfl rfl ?_
  refine w_nil (hK192 _ _ _ ?_)
  refine c_block ?_
  refine c_loop (fun (s202 : (Backup × backup_reader × Int)) a' w' => ∃ (v203 : Value) (v204 : Value) (M206 : Heap), HLe M195 M206 ∧ RS (FI .u8) M206 v204 s202.2.1.rest_ ∧ Fr 87 [(4, (ptr b2 0)), (7, (ptr b28 0)), (10, (ptr b141 0)), (61, v198), (62, (.int .i64 (t193.1.length : Int))), (63, (.int .i64 s202.2.2))] a' ∧ St none' M w M206 (lt [.blk b2 (.cells (Backup.C (⟨(Vector.replicate 16 0), 0, 0, 0, 0, (Vector.replicate 16 0), [], []⟩ : Backup) (.slice none 0 0)).toArray 36 (0, 0)), dead, .blk b28 (.cells (Backup.C s202.1 v203).toArray 36 (0, 0)), .blk b141 (.cells (backup_reader.C s202.2.1 v204).toArray 80 (0, 0)), rowI Key.F v203 55 s202.1.Keys]) w') (t18.1, t193.2, (0 : Int)) H ?_ ?_
  ·intro a w' hf hs
   exact ⟨(.slice none 0 0), v200, _, HLe.refl _, h201, (hf.pick (pk (pk (pk (pk (pk (pk pk0 rfl) rfl) rfl) rfl) rfl) rfl)), hs.selD [some 0, none, some 2, some 3, some 4] (by decide) rfl⟩
  clear H
  intro s202 y209 H r208 a w' hJ
  obtain ⟨v203, v204, M206, l207, h205, hf, hs⟩ := hJ
  refine c_of (c := (Cx.mk Tryd.prog 87 none' M w)) ?_ hf hs
  unfold backup_Open.l2 at H
  clear hf hs
  replace h199 := h199.mono l207
  refine c_sr fun _ hK210 => ?_
  refine v_lss rfl rfl rfl ?_
  refine w_nil (hK210 _ _ _ ?_)
  refine c_seq fun K211 hK211 => ?_
  refine c_if rfl (fun b212 => ?_) (fun b212 => ?_)
  ·replace H := if_t b212 H
   refine c_skip (hK211 _ _ _ ?_)
   refine c_seq fun K213 hK213 => ?_
   refine c_block ?_
   refine c_sr fun _ hK214 => ?_
   obtain ⟨g215, H⟩ := grd_s H
   refine wv rfl (fun hf hs => r_iR Tryd.underlying63 ts9 h199 (hf.ev rfl) (hf.ev rfl) g215.1 g215.2) ?_
   refine wv rfl (fun hf hs => r_loadE1 ta9 h199 hs.sub g215.1 g215.2 (hf.ev rfl) rfl) ?_
   refine va rfl rfl ?_
   refine w_nil (hK214 _ _ _ ?_)
   refine c_split2 6 (by kernel_rfl) (by kernel_rfl) (by kernel_rfl) (by kernel_rfl) rfl ?_
   intro K216 hK216
   obtain ⟨t230, e231, H⟩ := bnd H
   refine d_drawW [[], [], [], [4], []] [⟨[], [7], [], none⟩, ⟨[(0, 67)], [], [(2, 0)], none⟩, ⟨[], [10], [], none⟩, ⟨[], [12], [], none⟩, ⟨[(2, 69), (3, 70)], [], [(3, 0)], some (3, 0)⟩, ⟨[(4, 71)], [], [], none⟩] [vq (ptr b28 37), vq v203, vq (ptr b141 0), vq (str (rd t193.1 s202.2.2)), vq (.agg (Key.C t230.1).toArray), fun v M => ∃ (v240 : Value), v = v240 ∧ RS Key.F M v240 ([t230.1] : List Key) ∧ ∃ A, v240 = .slice A ([t230.1] : List Key).length ([t230.1] : List Key).length] [[fun y M => y = .blk b2 (.cells (Backup.C (⟨(Vector.replicate 16 0), 0, 0, 0, 0, (Vector.replicate 16 0), [], []⟩ : Backup) (.slice none 0 0)).toArray 36 (0, 0))], [fun y M => y = dead], [fun y M => y = .blk b28 (.cells (Backup.C s202.1 v203).toArray 36 (0, 0))], [fun y M => y = .blk b141 (.cells (backup_reader.C s202.2.1 v204).toArray 80 (0, 0)), fun y M => ∃ (v235 : Value), y = .blk b141 (.cells (backup_reader.C t230.2 v235).toArray 80 (0, 0)) ∧ RS (FI .u8) M v235 t230.2.rest_], [fun y M => y = rowI Key.F v203 55 s202.1.Keys]] (by kernel_rfl) (by kernel_rfl) ?_ ?_ rfl ?_ (AllW.cons ?_ (AllW.cons ?_ (AllW.cons ?_ (AllW.cons ?_ (AllW.cons ?_ (AllW.cons ?_ AllW.nil)))))) ?_
   ·exact (mC (mC (mC (mC (mC (MonoA.cons (fun _ _ _ hM h => by obtain ⟨v240, e_, q0, q1⟩ := h; exact ⟨v240, e_, q0.mono hM, q1⟩) MonoA.nil))))))
   ·exact (MonoK.cons (mono_cons (fun _ _ _ _ h => h) mono_nil) (MonoK.cons (mono_cons (fun _ _ _ _ h => h) mono_nil) (MonoK.cons (mono_cons (fun _ _ _ _ h => h) mono_nil) (MonoK.cons (mono_cons (fun _ _ _ _ h => h) (mono_cons (fun _ _ _ hM h => by obtain ⟨v235, e_, q0⟩ := h; exact ⟨v235, e_, q0.mono hM⟩) mono_nil)) (MonoK.cons (mono_cons (fun _ _ _ _ h => h) mono_nil) MonoK.nil)))))
   ·exact (All0.cons rfl (All0.cons rfl (All0.cons rfl (All0.cons rfl (All0.cons rfl All0.nil)))))
   ·intro a w' _ _ _ hL hd hs
    obtain ⟨x0_, L0_, rfl, hL0⟩ := lenS hL
    obtain ⟨x1_, L1_, rfl, hL1⟩ := lenS hL0
    obtain ⟨x2_, L2_, rfl, hL2⟩ := lenS hL1
    obtain ⟨x3_, L3_, rfl, hL3⟩ := lenS hL2
    obtain ⟨x4_, L4_, rfl, hL4⟩ := lenS hL3
    obtain rfl := len0 hL4
    exact pw (hd.fr.add (hd.base 7 _ rfl rfl)) hs rfl (fun hf hs => r_fa fa36_7 (hf.ev rfl)) rfl rfl
   ·intro a w' _ _ _ hL hd hs
    obtain ⟨x0_, L0_, rfl, hL0⟩ := lenS hL
    obtain ⟨x1_, L1_, rfl, hL1⟩ := lenS hL0
    obtain ⟨x2_, L2_, rfl, hL2⟩ := lenS hL1
    obtain ⟨x3_, L3_, rfl, hL3⟩ := lenS hL2
    obtain ⟨x4_, L4_, rfl, hL4⟩ := lenS hL3
    obtain rfl := len0 hL4
    obtain ⟨_, ⟨⟩, rfl⟩ := hd.item 2 0 _ rfl rfl
    exact pw (hd.fr.add (hd.val 0 67 _ rfl rfl)) hs rfl (fun hf hs => r_load1 ta34 (hf.ev rfl) (hs.blk (i := 2) rfl) (Backup.g37 _ _)) rfl rfl
   ·intro a w' _ _ _ hL hd hs
    obtain ⟨x0_, L0_, rfl, hL0⟩ := lenS hL
    obtain ⟨x1_, L1_, rfl, hL1⟩ := lenS hL0
    obtain ⟨x2_, L2_, rfl, hL2⟩ := lenS hL1
    obtain ⟨x3_, L3_, rfl, hL3⟩ := lenS hL2
    obtain ⟨x4_, L4_, rfl, hL4⟩ := lenS hL3
    obtain rfl := len0 hL4
    exact pw (hd.fr.add (hd.base 10 _ rfl rfl)) hs rfl (fun hf hs => r_move (hf.ev rfl)) rfl rfl
   ·intro a w' _ _ _ hL hd hs
    obtain ⟨x0_, L0_, rfl, hL0⟩ := lenS hL
    obtain ⟨x1_, L1_, rfl, hL1⟩ := lenS hL0
    obtain ⟨x2_, L2_, rfl, hL2⟩ := lenS hL1
    obtain ⟨x3_, L3_, rfl, hL3⟩ := lenS hL2
    obtain ⟨x4_, L4_, rfl, hL4⟩ := lenS hL3
    obtain rfl := len0 hL4
    exact pw (hd.fr.add (hd.base 12 _ rfl rfl)) hs rfl (fun hf hs => r_move (hf.ev rfl)) rfl rfl
   ·intro a w' _ _ l227 hL hd hs
    have e228 := hd.val 2 69 _ rfl rfl
    have e229 := hd.val 3 70 _ rfl rfl
    obtain ⟨x0_, L0_, rfl, hL0⟩ := lenS hL
    obtain ⟨x1_, L1_, rfl, hL1⟩ := lenS hL0
    obtain ⟨x2_, L2_, rfl, hL2⟩ := lenS hL1
    obtain ⟨x3_, L3_, rfl, hL3⟩ := lenS hL2
    obtain ⟨x4_, L4_, rfl, hL4⟩ := lenS hL3
    obtain rfl := len0 hL4
    obtain ⟨_, ⟨⟩, rfl⟩ := hd.item 3 0 _ rfl rfl
    replace h205 := h205.mono l227
    refine OP.ofW (l := [(69, (ptr b141 0)), (70, (str (rd t193.1 s202.2.2)))]) ((hd.fr.add e229).add e228) hs rfl ?_
    refine w_callJ (b0 := b141) 3 cf54 trivial rfl rfl rfl rfl (fun w hs => backup_reader_key.calls (b := b141) (T := 80) (q := []) (x_ := s202.2.1) hs h205 (rd t193.1 s202.2.2) _ e231) ?_
    rintro v234 M232 _ l233 ⟨v235, hv_, h236, rfl⟩
    subst hv_
    replace h205 := h205.mono l233
    exact w_nil fun a w' hf hs => ⟨rfl, hf.df, _, _, l233, hs, hf.get _ _ rfl, ⟨.blk b141 (.cells (backup_reader.C t230.2 v235).toArray 80 (0, 0)), rfl, of_some (q := fun y M => ∃ (v235 : Value), y = .blk b141 (.cells (backup_reader.C t230.2 v235).toArray 80 (0, 0)) ∧ RS (FI .u8) M v235 t230.2.rest_) ⟨v235, rfl, h236⟩⟩⟩
   ·intro a w' _ _ _ hL hd hs
    have e239 := hd.val 4 71 _ rfl rfl
    obtain ⟨x0_, L0_, rfl, hL0⟩ := lenS hL
    obtain ⟨x1_, L1_, rfl, hL1⟩ := lenS hL0
    obtain ⟨x2_, L2_, rfl, hL2⟩ := lenS hL1
    obtain ⟨x3_, L3_, rfl, hL3⟩ := lenS hL2
    obtain ⟨x4_, L4_, rfl, hL4⟩ := lenS hL3
    obtain rfl := len0 hL4
    refine OP.ofW (l := [(71, (.agg (Key.C t230.1).toArray))]) (hd.fr.add e239) hs rfl ?_
    refine w_bsl (F := Key.F) (es := ([t230.1] : List Key)) (xs := [.tmp 71]) (vs := [(.agg (Key.C t230.1).toArray)]) Tryd.underlying34 te55 trivial rfl rfl rfl rfl rfl (by decide) ?_
    intro v240 M241 l242 h243 c244
    exact w_nil fun a w' hf hs => ⟨rfl, hf.df, _, _, l242, hs, ⟨v240, hf.get _ _ rfl, h243, c244⟩, rfl⟩
   intro a w' M245 L_ l246 hL hdf hsz hb hv hi hs
   replace h205 := h205.mono l246
   have e247 := hv 1 68 _ rfl rfl
   obtain ⟨v248, e252, h249, h251⟩ := hv 5 72 _ rfl rfl
   obtain ⟨x0_, L0_, rfl, hL0⟩ := lenS hL
   obtain ⟨x1_, L1_, rfl, hL1⟩ := lenS hL0
   obtain ⟨x2_, L2_, rfl, hL2⟩ := lenS hL1
   obtain ⟨x3_, L3_, rfl, hL3⟩ := lenS hL2
   obtain ⟨x4_, L4_, rfl, hL4⟩ := lenS hL3
   obtain rfl := len0 hL4
   obtain ⟨_, hy, rfl⟩ := hi 0 _ rfl
   obtain rfl := Option.some.inj hy
   obtain ⟨_, hy, rfl⟩ := hi 1 _ rfl
   obtain rfl := Option.some.inj hy
   obtain ⟨_, hy, rfl⟩ := hi 2 _ rfl
   obtain rfl := Option.some.inj hy
   obtain ⟨_, hy, v253, rfl, h254⟩ := hi 3 _ rfl
   obtain rfl := Option.some.inj hy
   obtain ⟨_, hy, rfl⟩ := hi 4 _ rfl
   obtain rfl := Option.some.inj hy
   clear hi hy
   refine n_of (c := (Cx.mk Tryd.prog 87 none' M w)) (l := [(4, (ptr b2 0)), (7, (ptr b28 0)), (10, (ptr b141 0)), (61, v198), (62, (.int .i64 (t193.1.length : Int))), (63, (.int .i64 s202.2.2)), (68, v203), (72, v248)]) ?_ (((((((((Fr.start hdf hsz).add e252).add e247).add (hb 63 _ rfl rfl)).add (hb 62 _ rfl rfl)).add (hb 61 _ rfl rfl)).add (hb 10 _ rfl rfl)).add (hb 7 _ rfl rfl)).add (hb 4 _ rfl rfl)) hs
   clear hdf hsz hb hv hs e247 e252
   refine n_id (hK216 _ _ _ ?_)
   obtain ⟨g255, H⟩ := grd_s H
   refine w_app (F := Key.F) (m2 := ([t230.1] : List Key)) (i := 4) Tryd.underlying34 te55 Tryd.underlying34 (.inl ⟨_, rfl⟩) trivial rfl rfl rfl rfl (Src.rs Key.F_one h249) g255 ?_
   intro v256
   refine v_fa fa36_7 rfl rfl ?_
   refine w_rcell 4 rfl ?_
   intro q257
   refine w_store (i := 2) (vs := [v256]) (A' := Backup.C ({ s202.1 with Keys := (s202.1.Keys ++ ([t230.1] : List Key)) } : Backup) v256) trivial rfl rfl rfl q257.1 ts34 rfl (one1 q257.2) (by rw [Backup.len]; decide) (Backup.s37_1 _ _) ?_
   refine w_L [.blk b2 (.cells (Backup.C (⟨(Vector.replicate 16 0), 0, 0, 0, 0, (Vector.replicate 16 0), [], []⟩ : Backup) (.slice none 0 0)).toArray 36 (0, 0)), dead, .blk b28 (.cells (Backup.C ({ s202.1 with Keys := (s202.1.Keys ++ ([t230.1] : List Key)) } : Backup) v256).toArray 36 (0, 0)), .blk b141 (.cells (backup_reader.C t230.2 v253).toArray 80 (0, 0)), rowI Key.F v256 55 (s202.1.Keys ++ ([t230.1] : List Key))] (by first | rfl | (rw [n25]; rfl)) ?_
   refine w_nil (hK213 _ _ _ ?_)
   refine c_reg ?_
   refine v_add rfl rfl rfl ?_
   refine vm rfl rfl ?_
   exact w_nil fun a w' hf hs => ⟨_, (some_r H).symm, v256, v253, _, l207.trans l246, h254, (hf.pick (pk (pk (pk (pk (pk (pk pk0 rfl) rfl) rfl) rfl) rfl) rfl)), hs.selD [some 0, none, some 2, some 3, some 4] (by decide) rfl⟩
  replace H := if_f b212 H
  replace H := map_inr H r208
  refine c_exit ?_
  intro a w' hf hs
  exact ⟨s202.1, v203, s202.2.1, v204, _, (l196.trans l207), h205, (hf.pick (pk (pk (pk pk0 rfl) rfl) rfl)), hs.selD [some 0, none, some 2, some 3, some 4] (by decide) rfl, H⟩
 rintro a w' ⟨x142, v143, x144, v145, M147, l148, h146, hf, hs, H⟩
 refine c_of (c := (Cx.mk Tryd.prog 87 none' M w)) ?_ hf hs
 unfold backup_Open.j1 at H
 clear hf hs
 refine c_seq fun K149 hK149 => ?_
 refine c_sr fun _ hK150 => ?_
 refine vm rfl rfl ?_
 refine wv rfl (fun hf hs => r_loadA ta36 ts36 (hf.ev rfl) (hs.blk (i := 2) rfl) (Backup.d0_38 _ _) (Backup.len _ _)) ?_
 obtain ⟨t154, e159, H⟩ := bnd H
 refine w_give 4 rfl (fun _ h => h) ?_
 intro M151 l152 h153
 replace h146 := h146.mono l152
 refine w_call cf46 trivial rfl rfl (fun w hs => backup_Valid.calls hs x142 v143 h153 _ e159) ?_
 rintro _ M156 l157 rfl
 replace h146 := h146.mono l157
 replace h153 := h153.mono l157
 obtain ⟨t160, e161, H⟩ := bnd H
 refine w_callJ (b0 := b141) 3 cf55 trivial rfl rfl rfl rfl (fun w hs => backup_reader_check.calls (b := b141) (T := 80) (q := []) (x_ := x144) hs h146 t154 (6 : Int) _ e161) ?_
 rintro v164 M162 _ l163 ⟨v165, hv_, h166, rfl⟩
 subst hv_
 replace h153 := h153.mono l163
 refine w_L [.blk b2 (.cells (Backup.C (⟨(Vector.replicate 16 0), 0, 0, 0, 0, (Vector.replicate 16 0), [], []⟩ : Backup) (.slice none 0 0)).toArray 36 (0, 0)), dead, .blk b28 (.cells (Backup.C x142 v143).toArray 36 (0, 0)), .blk b141 (.cells (backup_reader.C t160.2 v165).toArray 80 (0, 0)), dead] (by first | rfl | (rw [n25]; rfl)) ?_
 refine wv rfl (fun hf hs => r_not (hf.ev rfl)) ?_
 refine w_nil (hK150 _ _ _ ?_)
 refine c_if rfl (fun b167 => ?_) (fun b167 => ?_)
 ·replace H := if_t b167 H
  refine c_seq fun K168 hK168 => ?_
  refine c_drawP [([], []), ([], [10]), ([(1, 82)], []), ([(2, 83)], []), ([(3, 84)], []), ([(0, 81)], [4]), ([(4, 85)], [])] [vq (.agg (Backup.C (⟨(Vector.replicate 16 0), 0, 0, 0, 0, (Vector.replicate 16 0), [], []⟩ : Backup) (.slice none 0 0)).toArray), vq (ptr b141 0), vq (ptr b141 0), vq (ptr b141 1), vq (.int .i64 t160.2.e), fun _ _ => True, vq (.int .i64 t160.2.e)] (by kernel_rfl) (by kernel_rfl) ?_ (aT ?_ (aT ?_ (aT ?_ (aT ?_ (aT ?_ (aT ?_ (aT ?_ AllT.nil))))))) ?_
  ·exact (mC (mC (mC (mC (mC (mC (mC MonoA.nil)))))))
  ·intro a w' _ _ hd hs
   exact pv hd.fr hs rfl (fun hf hs => r_build (is := []) (xs := []) (vs := []) (A := Backup.C (⟨(Vector.replicate 16 0), 0, 0, 0, 0, (Vector.replicate 16 0), [], []⟩ : Backup) (.slice none 0 0)) rfl (hf.evs rfl) (built_of (pl := [(0, 16), (16, 1), (17, 1), (18, 1), (19, 1), (20, 16), (36, 1), (37, 1)]) (A0 := Backup.C (⟨(Vector.replicate 16 0), 0, 0, 0, 0, (Vector.replicate 16 0), [], []⟩ : Backup) (.slice none 0 0)) tz36 Tryd.underlying36 (by kernel_rfl) rfl .nil)) rfl
  ·intro a w' _ _ hd hs
   exact pv (hd.fr.add (hd.base 10 _ rfl rfl)) hs rfl (fun hf hs => r_move (hf.ev rfl)) rfl
  ·intro a w' _ _ hd hs
   exact pv (hd.fr.add (hd.val 1 82 _ rfl rfl)) hs rfl (fun hf hs => r_nilCheck (hf.ev rfl)) rfl
  ·intro a w' _ _ hd hs
   exact pv (hd.fr.add (hd.val 2 83 _ rfl rfl)) hs rfl (fun hf hs => r_fa fa80_1 (hf.ev rfl)) rfl
  ·intro a w' _ _ hd hs
   exact pv (hd.fr.add (hd.val 3 84 _ rfl rfl)) hs rfl (fun hf hs => r_load1 ta24 (hf.ev rfl) (hs.blk (i := 3) rfl) rfl) rfl
  ·intro a w' _ _ hd hs
   have e184 := hd.val 0 81 _ rfl rfl
   refine OP.ofW (l := [(4, (ptr b2 0)), (81, (.agg (Backup.C (⟨(Vector.replicate 16 0), 0, 0, 0, 0, (Vector.replicate 16 0), [], []⟩ : Backup) (.slice none 0 0)).toArray))]) ((hd.fr.add e184).add (hd.base 4 _ rfl rfl)) hs rfl ?_
   refine w_store (i := 0) (vs := Backup.C (⟨(Vector.replicate 16 0), 0, 0, 0, 0, (Vector.replicate 16 0), [], []⟩ : Backup) (.slice none 0 0)) (A' := Backup.C (⟨(Vector.replicate 16 0), 0, 0, 0, 0, (Vector.replicate 16 0), [], []⟩ : Backup) (.slice none 0 0)) trivial rfl rfl rfl rfl ts36 (Backup.len _ _) (Backup.C_one _ rfl) (by rw [Backup.len]; decide) (splice_all _ _ (by simp [Backup.C])) ?_
   exact w_nil fun a w' hf hs => ⟨rfl, hf.df, _, (HLe.refl _), hs, trivial⟩
  ·intro a w' _ _ hd hs
   exact pv (hd.fr.add (hd.val 4 85 _ rfl rfl)) hs rfl (fun hf hs => r_assign (hf.ev rfl)) rfl
  intro a w' M188 l189 hdf hsz hb hv hs
  replace h153 := h153.mono l189
  have e190 := hv 6 5 _ rfl rfl
  refine n_of (c := (Cx.mk Tryd.prog 87 none' M w)) (l := [(4, (ptr b2 0)), (5, (.int .i64 t160.2.e))]) ?_ (((Fr.start hdf hsz).add e190).add (hb 4 _ rfl rfl)) hs
  clear hdf hsz hb hv hs e190
  refine n_id (hK168 _ _ _ ?_)
  obtain rfl := some_r H
  exact c_ret fun a w' hf hs => hret _ (.inl rfl) a w' hf.df ⟨_, _, Res.of2 rfl ⟨_, hf.get _ _ rfl, run_loadA (hs.blk (i := 0) rfl) ta36 ts36 (Backup.d0_38 _ _) (Backup.len _ _)⟩ (RV.t hf rfl), hs.ext, ⟨_, rfl, RS.none⟩⟩
 replace H := if_f b167 H
 refine c_skip (hK149 _ _ _ ?_)
 refine c_sr fun _ hK191 => ?_
 refine wv rfl (fun hf hs => r_loadA ta36 ts36 (hf.ev rfl) (hs.blk (i := 2) rfl) (Backup.d0_38 _ _) (Backup.len _ _)) ?_
 refine w_store (i := 0) (vs := Backup.C x142 v143) (A' := Backup.C x142 v143) trivial rfl rfl rfl rfl ts36 (Backup.len _ _) (Backup.C_one _ h153.one) (by rw [Backup.len]; decide) (splice_all _ _ (by simp [Backup.C])) ?_
 refine w_L [.blk b2 (.cells (Backup.C x142 v143).toArray 36 (0, 0)), dead, .blk b28 (.cells (Backup.C x142 v143).toArray 36 (0, 0)), .blk b141 (.cells (backup_reader.C t160.2 v165).toArray 80 (0, 0)), dead] (by first | rfl | (rw [n25]; rfl)) ?_
 refine va rfl rfl ?_
 refine w_nil (hK191 _ _ _ ?_)
 obtain rfl := some_r H
 exact c_ret fun a w' hf hs => hret _ (.inl rfl) a w' hf.df ⟨_, _, Res.of2 rfl ⟨_, hf.get _ _ rfl, run_loadA (hs.blk (i := 0) rfl) ta36 ts36 (Backup.d0_38 _ _) (Backup.len _ _)⟩ (RV.t hf rfl), hs.ext, ⟨_, rfl, h153⟩⟩
theorem ref36_Same.calls {M : Heap} {w : World} (hM : Sub M w) (p0 : Backup) (v1 : Value) (h2 : RS Key.F M v1 p0.Keys) (p1 : Backup) (v3 : Value) (h4 : RS Key.F M v3 p1.Keys) (r : Bool) (H : ref36_Same p0 p1 = some r) :
  Calls Tryd.prog 23 [(.agg (Backup.C p0 v1).toArray), (.agg (Backup.C p1 v3).toArray)].toArray w (Post M w fun M' v => v = (.bool r)) := by
 refine enter 80 [(0, (.agg (Backup.C p0 v1).toArray)), (1, (.agg (Backup.C p1 v3).toArray))] Tryd.func23 rfl rfl rfl hM ?_
 intro Q hret
 unfold ref36_Same at H
 refine c_sr fun _ hK5 => ?_
 refine w_boxM trivial rfl rfl rfl ?_
 intro b6 M7 l8 h9
 replace h2 := h2.mono l8
 replace h4 := h4.mono l8
 refine w_boxM trivial rfl rfl rfl ?_
 intro b10 M11 l12 h13
 replace h2 := h2.mono l12
 replace h4 := h4.mono l12
 replace h9 := l12 _ _ h9
 refine va rfl rfl ?_
 refine w_nil (hK5 _ _ _ ?_)
 refine c_seq fun K14 hK14 => ?_
 obtain ⟨t15, H1, H⟩ := bnd H
 refine c_cut (fun a' w' => ∃ (M16 : Heap), HLe M11 M16 ∧ Fr 80 [(2, (ptr b6 0)), (3, (ptr b10 0)), (61, (.bool t15))] a' ∧ St none' M w M16 (lt []) w') ?_ ?_
 ·replace H := H1
  clear H1
  refine c_reg ?_
  refine v_fa fa36_0 rfl rfl ?_
  refine wv rfl (fun hf hs => r_loadA ta33 ts33 (hf.ev rfl) (hs.sub _ _ h9) (Backup.d0_16 _ _) (vI_len _)) ?_
  refine v_fa fa36_0 rfl rfl ?_
  refine wv rfl (fun hf hs => r_loadA ta33 ts33 (hf.ev rfl) (hs.sub _ _ h13) (Backup.d0_16 _ _) (vI_len _)) ?_
  refine wv rfl (fun hf hs => r_neS eq33 (hf.ev rfl) (hf.ev rfl)) ?_
  refine vm rfl rfl ?_
  by_cases b18 : (!(decide (p0.Domain = p1.Domain))) = true
  ·replace H := if_t b18 H
   refine wq b18 rfl rfl rfl ?_
   refine wq b18 rfl rfl rfl ?_
   refine wq b18 rfl rfl rfl ?_
   refine wq b18 rfl rfl rfl ?_
   refine wq b18 rfl rfl rfl ?_
   refine wv rfl (fun hf hs => r_pickT (hf.ev rfl) b18 (hf.ev rfl)) ?_
   refine vm rfl rfl ?_
   refine wq rfl rfl rfl rfl ?_
   refine wq rfl rfl rfl rfl ?_
   refine wq rfl rfl rfl rfl ?_
   refine wq rfl rfl rfl rfl ?_
   refine wq rfl rfl rfl rfl ?_
   refine wv rfl (fun hf hs => r_pickT (hf.ev rfl) rfl (hf.ev rfl)) ?_
   refine vm rfl rfl ?_
   refine wq rfl rfl rfl rfl ?_
   refine wq rfl rfl rfl rfl ?_
   refine wq rfl rfl rfl rfl ?_
   refine wq rfl rfl rfl rfl ?_
   refine wq rfl rfl rfl rfl ?_
   refine wv rfl (fun hf hs => r_pickT (hf.ev rfl) rfl (hf.ev rfl)) ?_
   refine vm rfl rfl ?_
   refine wq rfl rfl rfl rfl ?_
   refine wq rfl rfl rfl rfl ?_
   refine wq rfl rfl rfl rfl ?_
   refine wq rfl rfl rfl rfl ?_
   refine wq rfl rfl rfl rfl ?_
   refine wv rfl (fun hf hs => r_pickT (hf.ev rfl) rfl (hf.ev rfl)) ?_
   refine vm rfl rfl ?_
   refine wq rfl rfl rfl rfl ?_
   refine wq rfl rfl rfl rfl ?_
   refine wq rfl rfl rfl rfl ?_
   refine wq rfl rfl rfl rfl ?_
   refine wq rfl rfl rfl rfl ?_
   refine wv rfl (fun hf hs => r_pickT (hf.ev rfl) rfl (hf.ev rfl)) ?_
   refine vm rfl rfl ?_
   refine wq rfl rfl rfl rfl ?_
   refine wq rfl rfl rfl rfl ?_
   refine wq rfl rfl rfl rfl ?_
   refine wq rfl rfl rfl rfl ?_
   refine wq rfl rfl rfl rfl ?_
   refine wv rfl (fun hf hs => r_pickT (hf.ev rfl) rfl (hf.ev rfl)) ?_
   refine vm rfl rfl ?_
   refine wq rfl rfl rfl rfl ?_
   refine wq rfl rfl rfl rfl ?_
   refine wq rfl rfl rfl rfl ?_
   refine wq rfl rfl rfl rfl ?_
   refine wq rfl rfl rfl rfl ?_
   refine wq rfl rfl rfl rfl ?_
   refine wq rfl rfl rfl rfl ?_
   refine wv rfl (fun hf hs => r_pickT (hf.ev rfl) rfl (hf.ev rfl)) ?_
   obtain rfl := some_r H
   exact w_nil fun a w' hf hs => ⟨_, (HLe.refl _), (hf.pick (pk (pk (pk pk0 rfl) rfl) rfl)), hs.sel [] (by decide) rfl⟩
  replace b18 := Bool.eq_false_iff.2 b18
  replace H := if_f b18 H
  refine wg b18 rfl rfl rfl (fun hf hs => r_fa fa36_1 (hf.ev rfl)) ?_
  refine wg b18 rfl rfl rfl (fun hf hs => r_load1 ta3 (hf.ev rfl) (hs.sub _ _ h9) (Backup.g16 _ _)) ?_
  refine wg b18 rfl rfl rfl (fun hf hs => r_fa fa36_1 (hf.ev rfl)) ?_
  refine wg b18 rfl rfl rfl (fun hf hs => r_load1 ta3 (hf.ev rfl) (hs.sub _ _ h13) (Backup.g16 _ _)) ?_
  refine wg b18 rfl rfl rfl (fun hf hs => r_neq (hf.ev rfl) (hf.ev rfl)) ?_
  refine wv rfl (fun hf hs => r_pickF (hf.ev rfl) b18 (hf.ev rfl)) ?_
  refine vm rfl rfl ?_
  by_cases b19 : (p0.Epoch != p1.Epoch) = true
  ·replace H := if_t b19 H
   refine wq b19 rfl rfl rfl ?_
   refine wq b19 rfl rfl rfl ?_
   refine wq b19 rfl rfl rfl ?_
   refine wq b19 rfl rfl rfl ?_
   refine wq b19 rfl rfl rfl ?_
   refine wv rfl (fun hf hs => r_pickT (hf.ev rfl) b19 (hf.ev rfl)) ?_
   refine vm rfl rfl ?_
   refine wq rfl rfl rfl rfl ?_
   refine wq rfl rfl rfl rfl ?_
   refine wq rfl rfl rfl rfl ?_
   refine wq rfl rfl rfl rfl ?_
   refine wq rfl rfl rfl rfl ?_
   refine wv rfl (fun hf hs => r_pickT (hf.ev rfl) rfl (hf.ev rfl)) ?_
   refine vm rfl rfl ?_
   refine wq rfl rfl rfl rfl ?_
   refine wq rfl rfl rfl rfl ?_
   refine wq rfl rfl rfl rfl ?_
   refine wq rfl rfl rfl rfl ?_
   refine wq rfl rfl rfl rfl ?_
   refine wv rfl (fun hf hs => r_pickT (hf.ev rfl) rfl (hf.ev rfl)) ?_
   refine vm rfl rfl ?_
   refine wq rfl rfl rfl rfl ?_
   refine wq rfl rfl rfl rfl ?_
   refine wq rfl rfl rfl rfl ?_
   refine wq rfl rfl rfl rfl ?_
   refine wq rfl rfl rfl rfl ?_
   refine wv rfl (fun hf hs => r_pickT (hf.ev rfl) rfl (hf.ev rfl)) ?_
   refine vm rfl rfl ?_
   refine wq rfl rfl rfl rfl ?_
   refine wq rfl rfl rfl rfl ?_
   refine wq rfl rfl rfl rfl ?_
   refine wq rfl rfl rfl rfl ?_
   refine wq rfl rfl rfl rfl ?_
   refine wv rfl (fun hf hs => r_pickT (hf.ev rfl) rfl (hf.ev rfl)) ?_
   refine vm rfl rfl ?_
   refine wq rfl rfl rfl rfl ?_
   refine wq rfl rfl rfl rfl ?_
   refine wq rfl rfl rfl rfl ?_
   refine wq rfl rfl rfl rfl ?_
   refine wq rfl rfl rfl rfl ?_
   refine wq rfl rfl rfl rfl ?_
   refine wq rfl rfl rfl rfl ?_
   refine wv rfl (fun hf hs => r_pickT (hf.ev rfl) rfl (hf.ev rfl)) ?_
   obtain rfl := some_r H
   exact w_nil fun a w' hf hs => ⟨_, (HLe.refl _), (hf.pick (pk (pk (pk pk0 rfl) rfl) rfl)), hs.sel [] (by decide) rfl⟩
  replace b19 := Bool.eq_false_iff.2 b19
  replace H := if_f b19 H
  refine wg b19 rfl rfl rfl (fun hf hs => r_fa fa36_2 (hf.ev rfl)) ?_
  refine wg b19 rfl rfl rfl (fun hf hs => r_load1 ta3 (hf.ev rfl) (hs.sub _ _ h9) (Backup.g17 _ _)) ?_
  refine wg b19 rfl rfl rfl (fun hf hs => r_fa fa36_2 (hf.ev rfl)) ?_
  refine wg b19 rfl rfl rfl (fun hf hs => r_load1 ta3 (hf.ev rfl) (hs.sub _ _ h13) (Backup.g17 _ _)) ?_
  refine wg b19 rfl rfl rfl (fun hf hs => r_neq (hf.ev rfl) (hf.ev rfl)) ?_
  refine wv rfl (fun hf hs => r_pickF (hf.ev rfl) b19 (hf.ev rfl)) ?_
  refine vm rfl rfl ?_
  by_cases b20 : (p0.Number != p1.Number) = true
  ·replace H := if_t b20 H
   refine wq b20 rfl rfl rfl ?_
   refine wq b20 rfl rfl rfl ?_
   refine wq b20 rfl rfl rfl ?_
   refine wq b20 rfl rfl rfl ?_
   refine wq b20 rfl rfl rfl ?_
   refine wv rfl (fun hf hs => r_pickT (hf.ev rfl) b20 (hf.ev rfl)) ?_
   refine vm rfl rfl ?_
   refine wq rfl rfl rfl rfl ?_
   refine wq rfl rfl rfl rfl ?_
   refine wq rfl rfl rfl rfl ?_
   refine wq rfl rfl rfl rfl ?_
   refine wq rfl rfl rfl rfl ?_
   refine wv rfl (fun hf hs => r_pickT (hf.ev rfl) rfl (hf.ev rfl)) ?_
   refine vm rfl rfl ?_
   refine wq rfl rfl rfl rfl ?_
   refine wq rfl rfl rfl rfl ?_
   refine wq rfl rfl rfl rfl ?_
   refine wq rfl rfl rfl rfl ?_
   refine wq rfl rfl rfl rfl ?_
   refine wv rfl (fun hf hs => r_pickT (hf.ev rfl) rfl (hf.ev rfl)) ?_
   refine vm rfl rfl ?_
   refine wq rfl rfl rfl rfl ?_
   refine wq rfl rfl rfl rfl ?_
   refine wq rfl rfl rfl rfl ?_
   refine wq rfl rfl rfl rfl ?_
   refine wq rfl rfl rfl rfl ?_
   refine wv rfl (fun hf hs => r_pickT (hf.ev rfl) rfl (hf.ev rfl)) ?_
   refine vm rfl rfl ?_
   refine wq rfl rfl rfl rfl ?_
   refine wq rfl rfl rfl rfl ?_
   refine wq rfl rfl rfl rfl ?_
   refine wq rfl rfl rfl rfl ?_
   refine wq rfl rfl rfl rfl ?_
   refine wq rfl rfl rfl rfl ?_
   refine wq rfl rfl rfl rfl ?_
   refine wv rfl (fun hf hs => r_pickT (hf.ev rfl) rfl (hf.ev rfl)) ?_
   obtain rfl := some_r H
   exact w_nil fun a w' hf hs => ⟨_, (HLe.refl _), (hf.pick (pk (pk (pk pk0 rfl) rfl) rfl)), hs.sel [] (by decide) rfl⟩
  replace b20 := Bool.eq_false_iff.2 b20
  replace H := if_f b20 H
  refine wg b20 rfl rfl rfl (fun hf hs => r_fa fa36_3 (hf.ev rfl)) ?_
  refine wg b20 rfl rfl rfl (fun hf hs => r_load1 ta3 (hf.ev rfl) (hs.sub _ _ h9) (Backup.g18 _ _)) ?_
  refine wg b20 rfl rfl rfl (fun hf hs => r_fa fa36_3 (hf.ev rfl)) ?_
  refine wg b20 rfl rfl rfl (fun hf hs => r_load1 ta3 (hf.ev rfl) (hs.sub _ _ h13) (Backup.g18 _ _)) ?_
  refine wg b20 rfl rfl rfl (fun hf hs => r_neq (hf.ev rfl) (hf.ev rfl)) ?_
  refine wv rfl (fun hf hs => r_pickF (hf.ev rfl) b20 (hf.ev rfl)) ?_
  refine vm rfl rfl ?_
  by_cases b21 : (p0.Firmware != p1.Firmware) = true
  ·replace H := if_t b21 H
   refine wq b21 rfl rfl rfl ?_
   refine wq b21 rfl rfl rfl ?_
   refine wq b21 rfl rfl rfl ?_
   refine wq b21 rfl rfl rfl ?_
   refine wq b21 rfl rfl rfl ?_
   refine wv rfl (fun hf hs => r_pickT (hf.ev rfl) b21 (hf.ev rfl)) ?_
   refine vm rfl rfl ?_
   refine wq rfl rfl rfl rfl ?_
   refine wq rfl rfl rfl rfl ?_
   refine wq rfl rfl rfl rfl ?_
   refine wq rfl rfl rfl rfl ?_
   refine wq rfl rfl rfl rfl ?_
   refine wv rfl (fun hf hs => r_pickT (hf.ev rfl) rfl (hf.ev rfl)) ?_
   refine vm rfl rfl ?_
   refine wq rfl rfl rfl rfl ?_
   refine wq rfl rfl rfl rfl ?_
   refine wq rfl rfl rfl rfl ?_
   refine wq rfl rfl rfl rfl ?_
   refine wq rfl rfl rfl rfl ?_
   refine wv rfl (fun hf hs => r_pickT (hf.ev rfl) rfl (hf.ev rfl)) ?_
   refine vm rfl rfl ?_
   refine wq rfl rfl rfl rfl ?_
   refine wq rfl rfl rfl rfl ?_
   refine wq rfl rfl rfl rfl ?_
   refine wq rfl rfl rfl rfl ?_
   refine wq rfl rfl rfl rfl ?_
   refine wq rfl rfl rfl rfl ?_
   refine wq rfl rfl rfl rfl ?_
   refine wv rfl (fun hf hs => r_pickT (hf.ev rfl) rfl (hf.ev rfl)) ?_
   obtain rfl := some_r H
   exact w_nil fun a w' hf hs => ⟨_, (HLe.refl _), (hf.pick (pk (pk (pk pk0 rfl) rfl) rfl)), hs.sel [] (by decide) rfl⟩
  replace b21 := Bool.eq_false_iff.2 b21
  replace H := if_f b21 H
  refine wg b21 rfl rfl rfl (fun hf hs => r_fa fa36_4 (hf.ev rfl)) ?_
  refine wg b21 rfl rfl rfl (fun hf hs => r_load1 ta3 (hf.ev rfl) (hs.sub _ _ h9) (Backup.g19 _ _)) ?_
  refine wg b21 rfl rfl rfl (fun hf hs => r_fa fa36_4 (hf.ev rfl)) ?_
  refine wg b21 rfl rfl rfl (fun hf hs => r_load1 ta3 (hf.ev rfl) (hs.sub _ _ h13) (Backup.g19 _ _)) ?_
  refine wg b21 rfl rfl rfl (fun hf hs => r_neq (hf.ev rfl) (hf.ev rfl)) ?_
  refine wv rfl (fun hf hs => r_pickF (hf.ev rfl) b21 (hf.ev rfl)) ?_
  refine vm rfl rfl ?_
  by_cases b22 : (p0.Time != p1.Time) = true
  ·replace H := if_t b22 H
   refine wq b22 rfl rfl rfl ?_
   refine wq b22 rfl rfl rfl ?_
   refine wq b22 rfl rfl rfl ?_
   refine wq b22 rfl rfl rfl ?_
   refine wq b22 rfl rfl rfl ?_
   refine wv rfl (fun hf hs => r_pickT (hf.ev rfl) b22 (hf.ev rfl)) ?_
   refine vm rfl rfl ?_
   refine wq rfl rfl rfl rfl ?_
   refine wq rfl rfl rfl rfl ?_
   refine wq rfl rfl rfl rfl ?_
   refine wq rfl rfl rfl rfl ?_
   refine wq rfl rfl rfl rfl ?_
   refine wv rfl (fun hf hs => r_pickT (hf.ev rfl) rfl (hf.ev rfl)) ?_
   refine vm rfl rfl ?_
   refine wq rfl rfl rfl rfl ?_
   refine wq rfl rfl rfl rfl ?_
   refine wq rfl rfl rfl rfl ?_
   refine wq rfl rfl rfl rfl ?_
   refine wq rfl rfl rfl rfl ?_
   refine wq rfl rfl rfl rfl ?_
   refine wq rfl rfl rfl rfl ?_
   refine wv rfl (fun hf hs => r_pickT (hf.ev rfl) rfl (hf.ev rfl)) ?_
   obtain rfl := some_r H
   exact w_nil fun a w' hf hs => ⟨_, (HLe.refl _), (hf.pick (pk (pk (pk pk0 rfl) rfl) rfl)), hs.sel [] (by decide) rfl⟩
  replace b22 := Bool.eq_false_iff.2 b22
  replace H := if_f b22 H
  refine wg b22 rfl rfl rfl (fun hf hs => r_fa fa36_5 (hf.ev rfl)) ?_
  refine wg b22 rfl rfl rfl (fun hf hs => r_loadA ta33 ts33 (hf.ev rfl) (hs.sub _ _ h9) (Backup.d20_16 _ _) (vI_len _)) ?_
  refine wg b22 rfl rfl rfl (fun hf hs => r_fa fa36_5 (hf.ev rfl)) ?_
  refine wg b22 rfl rfl rfl (fun hf hs => r_loadA ta33 ts33 (hf.ev rfl) (hs.sub _ _ h13) (Backup.d20_16 _ _) (vI_len _)) ?_
  refine wg b22 rfl rfl rfl (fun hf hs => r_neS eq33 (hf.ev rfl) (hf.ev rfl)) ?_
  refine wv rfl (fun hf hs => r_pickF (hf.ev rfl) b22 (hf.ev rfl)) ?_
  refine vm rfl rfl ?_
  by_cases b23 : (!(decide (p0.Policy = p1.Policy))) = true
  ·replace H := if_t b23 H
   refine wq b23 rfl rfl rfl ?_
   refine wq b23 rfl rfl rfl ?_
   refine wq b23 rfl rfl rfl ?_
   refine wq b23 rfl rfl rfl ?_
   refine wq b23 rfl rfl rfl ?_
   refine wv rfl (fun hf hs => r_pickT (hf.ev rfl) b23 (hf.ev rfl)) ?_
   refine vm rfl rfl ?_
   refine wq rfl rfl rfl rfl ?_
   refine wq rfl rfl rfl rfl ?_
   refine wq rfl rfl rfl rfl ?_
   refine wq rfl rfl rfl rfl ?_
   refine wq rfl rfl rfl rfl ?_
   refine wq rfl rfl rfl rfl ?_
   refine wq rfl rfl rfl rfl ?_
   refine wv rfl (fun hf hs => r_pickT (hf.ev rfl) rfl (hf.ev rfl)) ?_
   obtain rfl := some_r H
   exact w_nil fun a w' hf hs => ⟨_, (HLe.refl _), (hf.pick (pk (pk (pk pk0 rfl) rfl) rfl)), hs.sel [] (by decide) rfl⟩
  replace b23 := Bool.eq_false_iff.2 b23
  replace H := if_f b23 H
  refine wg b23 rfl rfl rfl (fun hf hs => r_fa fa36_6 (hf.ev rfl)) ?_
  refine wg b23 rfl rfl rfl (fun hf hs => r_load1 ta9 (hf.ev rfl) (hs.sub _ _ h9) (Backup.g36 _ _)) ?_
  refine wg b23 rfl rfl rfl (fun hf hs => r_fa fa36_6 (hf.ev rfl)) ?_
  refine wg b23 rfl rfl rfl (fun hf hs => r_load1 ta9 (hf.ev rfl) (hs.sub _ _ h13) (Backup.g36 _ _)) ?_
  refine wg b23 rfl rfl rfl (fun hf hs => r_sneq (hf.ev rfl) (hf.ev rfl)) ?_
  refine wv rfl (fun hf hs => r_pickF (hf.ev rfl) b23 (hf.ev rfl)) ?_
  refine vm rfl rfl ?_
  by_cases b24 : (!(p0.Module == p1.Module)) = true
  ·replace H := if_t b24 H
   refine wq b24 rfl rfl rfl ?_
   refine wq b24 rfl rfl rfl ?_
   refine wq b24 rfl rfl rfl ?_
   refine wq b24 rfl rfl rfl ?_
   refine wq b24 rfl rfl rfl ?_
   refine wq b24 rfl rfl rfl ?_
   refine wq b24 rfl rfl rfl ?_
   refine wv rfl (fun hf hs => r_pickT (hf.ev rfl) b24 (hf.ev rfl)) ?_
   obtain rfl := some_r H
   exact w_nil fun a w' hf hs => ⟨_, (HLe.refl _), (hf.pick (pk (pk (pk pk0 rfl) rfl) rfl)), hs.sel [] (by decide) rfl⟩
  replace b24 := Bool.eq_false_iff.2 b24
  replace H := if_f b24 H
  refine wg b24 rfl rfl rfl (fun hf hs => r_fa fa36_7 (hf.ev rfl)) ?_
  refine wg b24 rfl rfl rfl (fun hf hs => r_load1 ta34 (hf.ev rfl) (hs.sub _ _ h9) (Backup.g37 _ _)) ?_
  refine wg b24 rfl rfl rfl (fun hf hs => r_lenR Tryd.underlying34 h2 (hf.ev rfl)) ?_
  refine wg b24 rfl rfl rfl (fun hf hs => r_fa fa36_7 (hf.ev rfl)) ?_
  refine wg b24 rfl rfl rfl (fun hf hs => r_load1 ta34 (hf.ev rfl) (hs.sub _ _ h13) (Backup.g37 _ _)) ?_
  refine wg b24 rfl rfl rfl (fun hf hs => r_lenR Tryd.underlying34 h4 (hf.ev rfl)) ?_
  refine wg b24 rfl rfl rfl (fun hf hs => r_neq (hf.ev rfl) (hf.ev rfl)) ?_
  refine wv rfl (fun hf hs => r_pickF (hf.ev rfl) b24 (hf.ev rfl)) ?_
  obtain rfl := some_r H
  exact w_nil fun a w' hf hs => ⟨_, (HLe.refl _), (hf.pick (pk (pk (pk pk0 rfl) rfl) rfl)), hs.sel [] (by decide) rfl⟩
 clear H1
 rintro a w' ⟨M16, l17, hf, hs⟩
 refine c_of (c := (Cx.mk Tryd.prog 80 none' M w)) ?_ hf hs
 clear hf hs
 replace h2 := h2.mono l17
 replace h4 := h4.mono l17
 replace h9 := l17 _ _ h9
 replace h13 := l17 _ _ h13
 refine c_if rfl (fun b25 => ?_) (fun b25 => ?_)
 ·replace H := if_t b25 H
  refine c_sr fun _ hK26 => ?_
  refine va rfl rfl ?_
  refine w_nil (hK26 _ _ _ ?_)
  obtain rfl := some_r H
  exact c_ret fun a w' hf hs => hret _ (.inl rfl) a w' hf.df ⟨_, _, Res.of1 rfl (RV.t hf rfl), hs.ext, rfl⟩
 replace H := if_f b25 H
 refine c_skip (hK14 _ _ _ ?_)
 refine c_cut (fun a' w' => ∃ (M27 : Heap), HLe M16 M27 ∧ Fr 80 [] a' ∧ St none' M w M27 (lt []) w' ∧ ref36_Same.j1  = some r) ?_ ?_
 ·refine c_seq ?_
  intro K30 hK30
  refine c_reg ?_
  refine va rfl rfl ?_
  refine w_nil (hK30 _ _ _ ?_)
  refine c_block ?_
  refine c_loop (fun (s31 : Int) a' w' => ∃ (M32 : Heap), HLe M16 M32 ∧ Fr 80 [(2, (ptr b6 0)), (3, (ptr b10 0)), (5, (.int .i64 s31))] a' ∧ St none' M w M32 (lt []) w') (0 : Int) H ?_ ?_
  ·intro a w' hf hs
   exact ⟨_, HLe.refl _, (hf.pick (pk (pk (pk pk0 rfl) rfl) rfl)), hs.selD [] (by decide) rfl⟩
  clear H
  intro s31 y35 H r34 a w' hJ
  obtain ⟨M32, l33, hf, hs⟩ := hJ
  refine c_of (c := (Cx.mk Tryd.prog 80 none' M w)) ?_ hf hs
  unfold ref36_Same.l2 at H
  clear hf hs
  replace h2 := h2.mono l33
  replace h4 := h4.mono l33
  replace h9 := l33 _ _ h9
  replace h13 := l33 _ _ h13
  refine c_seq fun K36 hK36 => ?_
  refine c_sr fun _ hK37 => ?_
  refine vm rfl rfl ?_
  refine v_fa fa36_7 rfl rfl ?_
  refine wv rfl (fun hf hs => r_load1 ta34 (hf.ev rfl) (hs.sub _ _ h9) (Backup.g37 _ _)) ?_
  refine wv rfl (fun hf hs => r_lenR Tryd.underlying34 h2 (hf.ev rfl)) ?_
  refine v_lss rfl rfl rfl ?_
  refine w_nil (hK37 _ _ _ ?_)
  refine c_if rfl (fun b38 => ?_) (fun b38 => ?_)
  ·replace H := if_t b38 H
   refine c_skip (hK36 _ _ _ ?_)
   refine c_seq fun K39 hK39 => ?_
   refine c_block ?_
   refine c_seq fun K40 hK40 => ?_
   obtain ⟨g52, H⟩ := grd_s H
   obtain ⟨g67, H⟩ := grd_s H
   refine c_drawP [([], [2]), ([(0, 69)], []), ([], [5]), ([(1, 70), (2, 71)], []), ([(3, 72)], []), ([], [3]), ([(5, 74)], []), ([], [5]), ([(6, 75), (7, 76)], []), ([(8, 77)], []), ([(4, 73), (9, 78)], [])] [vq (ptr b6 37), vq v1, vq (.int .i64 s31), vq (eP v1 s31 9 0), vq (.agg (Key.C (rd p0.Keys s31)).toArray), vq (ptr b10 37), vq v3, vq (.int .i64 s31), vq (eP v3 s31 9 0), vq (.agg (Key.C (rd p1.Keys s31)).toArray), vq (.bool (!(decide ((rd p0.Keys s31) = (rd p1.Keys s31)))))] (by kernel_rfl) (by kernel_rfl) ?_ (aT ?_ (aT ?_ (aT ?_ (aT ?_ (aT ?_ (aT ?_ (aT ?_ (aT ?_ (aT ?_ (aT ?_ (aT ?_ AllT.nil))))))))))) ?_
   ·exact (mC (mC (mC (mC (mC (mC (mC (mC (mC (mC (mC MonoA.nil)))))))))))
   ·intro a w' _ l42 hd hs
    replace h9 := l42 _ _ h9
    replace h2 := h2.mono l42
    exact pv (hd.fr.add (hd.base 2 _ rfl rfl)) hs rfl (fun hf hs => r_fa fa36_7 (hf.ev rfl)) rfl
   ·intro a w' _ l44 hd hs
    replace h2 := h2.mono l44
    exact pv (hd.fr.add (hd.val 0 69 _ rfl rfl)) hs rfl (fun hf hs => r_load1 ta34 (hf.ev rfl) (hs.sub _ _ (l44 _ _ h9)) (Backup.g37 _ _)) rfl
   ·intro a w' _ _ hd hs
    exact pv (hd.fr.add (hd.base 5 _ rfl rfl)) hs rfl (fun hf hs => r_move (hf.ev rfl)) rfl
   ·intro a w' _ l49 hd hs
    exact pv ((hd.fr.add (hd.val 2 71 _ rfl rfl)).add (hd.val 1 70 _ rfl rfl)) hs rfl (fun hf hs => r_iR Tryd.underlying34 ts55 (h2.mono l49) (hf.ev rfl) (hf.ev rfl) g52.1 g52.2) rfl
   ·intro a w' _ l54 hd hs
    exact pu (hd.fr.add (hd.val 3 72 _ rfl rfl)) hs rfl rfl (fun hf hs => r_loadEA ta55 ts55 (h2.mono l54) hs.sub g52.1 g52.2 (hf.ev rfl) rfl rfl)
   ·intro a w' _ l57 hd hs
    replace h13 := l57 _ _ h13
    replace h4 := h4.mono l57
    exact pv (hd.fr.add (hd.base 3 _ rfl rfl)) hs rfl (fun hf hs => r_fa fa36_7 (hf.ev rfl)) rfl
   ·intro a w' _ l59 hd hs
    replace h4 := h4.mono l59
    exact pv (hd.fr.add (hd.val 5 74 _ rfl rfl)) hs rfl (fun hf hs => r_load1 ta34 (hf.ev rfl) (hs.sub _ _ (l59 _ _ h13)) (Backup.g37 _ _)) rfl
   ·intro a w' _ _ hd hs
    exact pv (hd.fr.add (hd.base 5 _ rfl rfl)) hs rfl (fun hf hs => r_move (hf.ev rfl)) rfl
   ·intro a w' _ l64 hd hs
    exact pv ((hd.fr.add (hd.val 7 76 _ rfl rfl)).add (hd.val 6 75 _ rfl rfl)) hs rfl (fun hf hs => r_iR Tryd.underlying34 ts55 (h4.mono l64) (hf.ev rfl) (hf.ev rfl) g67.1 g67.2) rfl
   ·intro a w' _ l69 hd hs
    exact pu (hd.fr.add (hd.val 8 77 _ rfl rfl)) hs rfl rfl (fun hf hs => r_loadEA ta55 ts55 (h4.mono l69) hs.sub g67.1 g67.2 (hf.ev rfl) rfl rfl)
   ·intro a w' _ _ hd hs
    exact pv ((hd.fr.add (hd.val 9 78 _ rfl rfl)).add (hd.val 4 73 _ rfl rfl)) hs rfl (fun hf hs => r_neS eq55 (hf.ev rfl) (hf.ev rfl)) rfl
   intro a w' M75 l76 hdf hsz hb hv hs
   have e77 := hv 10 79 _ rfl rfl
   refine n_of (c := (Cx.mk Tryd.prog 80 none' M w)) (l := [(2, (ptr b6 0)), (3, (ptr b10 0)), (5, (.int .i64 s31)), (79, (.bool (!(decide ((rd p0.Keys s31) = (rd p1.Keys s31))))))]) ?_ (((((Fr.start hdf hsz).add e77).add (hb 5 _ rfl rfl)).add (hb 3 _ rfl rfl)).add (hb 2 _ rfl rfl)) hs
   clear hdf hsz hb hv hs e77
   refine n_id (hK40 _ _ _ ?_)
   refine c_if rfl (fun b78 => ?_) (fun b78 => ?_)
   ·replace H := if_t b78 H
    refine c_sr fun _ hK79 => ?_
    refine va rfl rfl ?_
    refine w_nil (hK79 _ _ _ ?_)
    obtain rfl := (r34 _ (Option.some.inj H).symm)
    exact c_ret fun a w' hf hs => hret _ (.inl rfl) a w' hf.df ⟨_, _, Res.of1 rfl (RV.t hf rfl), hs.ext, rfl⟩
   replace H := if_f b78 H
   refine c_skip (hK39 _ _ _ ?_)
   refine c_reg ?_
   refine vm rfl rfl ?_
   refine v_add rfl rfl rfl ?_
   refine va rfl rfl ?_
   exact w_nil fun a w' hf hs => ⟨_, (some_r H).symm, _, l33.trans l76, (hf.pick (pk (pk (pk pk0 rfl) rfl) rfl)), hs.selD [] (by decide) rfl⟩
  replace H := if_f b38 H
  replace H := map_inr H r34
  refine c_exit ?_
  intro a w' hf hs
  exact ⟨_, l33, hf.nil, hs.selD [] (by decide) rfl, H⟩
 rintro a w' ⟨M27, l28, hf, hs, H⟩
 refine c_of (c := (Cx.mk Tryd.prog 80 none' M w)) ?_ hf hs
 unfold ref36_Same.j1 at H
 clear hf hs
 refine c_sr fun _ hK29 => ?_
 refine va rfl rfl ?_
 refine w_nil (hK29 _ _ _ ?_)
 obtain rfl := some_r H
 exact c_ret fun a w' hf hs => hret _ (.inl rfl) a w' hf.df ⟨_, _, Res.of1 rfl (RV.t hf rfl), hs.ext, rfl⟩
theorem keys_Live.calls {M : Heap} {w : World} (hM : Sub M w) (p0 : Key) (p1 : Int) (r : Bool) (H : keys_Live p0 p1 = some r) :
  Calls Tryd.prog 58 [(.agg (Key.C p0).toArray), (.int .i64 p1)].toArray w (Post M w fun M' v => v = (.bool r)) := by
 refine enter 15 [(0, (.agg (Key.C p0).toArray)), (1, (.int .i64 p1))] Tryd.func58 rfl rfl rfl hM ?_
 intro Q hret
 unfold keys_Live at H
 refine c_sr fun _ hK1 => ?_
 refine w_boxM trivial rfl rfl rfl ?_
 intro b2 M3 l4 h5
 refine va rfl rfl ?_
 refine w_nil (hK1 _ _ _ ?_)
 obtain ⟨t6, H1, H⟩ := bnd H
 refine c_cut (fun a' w' => ∃ (M7 : Heap), HLe M3 M7 ∧ Fr 15 [(4, (.bool t6))] a' ∧ St none' M w M7 (lt []) w') ?_ ?_
 ·replace H := H1
  clear H1
  refine c_reg ?_
  refine v_fa fa55_4 rfl rfl ?_
  refine wv rfl (fun hf hs => r_load1 ta3 (hf.ev rfl) (hs.sub _ _ h5) rfl) ?_
  refine vm rfl rfl ?_
  refine wv rfl (fun hf hs => r_leq (hf.ev rfl) (hf.ev rfl)) ?_
  refine vm rfl rfl ?_
  by_cases b9 : (decide (p0.Start ≤ p1)) = true
  ·replace H := if_t b9 H
   refine wg b9 rfl rfl rfl (fun hf hs => r_move (hf.ev rfl)) ?_
   refine wg b9 rfl rfl rfl (fun hf hs => r_fa fa55_5 (hf.ev rfl)) ?_
   refine wg b9 rfl rfl rfl (fun hf hs => r_load1 ta3 (hf.ev rfl) (hs.sub _ _ h5) rfl) ?_
   refine wg b9 rfl rfl rfl (fun hf hs => r_lss (hf.ev rfl) (hf.ev rfl)) ?_
   refine wv rfl (fun hf hs => r_pickT (hf.ev rfl) b9 (hf.ev rfl)) ?_
   refine va rfl rfl ?_
   obtain rfl := some_r H
   exact w_nil fun a w' hf hs => ⟨_, (HLe.refl _), (hf.pick (pk pk0 rfl)), hs.sel [] (by decide) rfl⟩
  replace b9 := Bool.eq_false_iff.2 b9
  replace H := if_f b9 H
  refine wq b9 rfl rfl rfl ?_
  refine wq b9 rfl rfl rfl ?_
  refine wq b9 rfl rfl rfl ?_
  refine wq b9 rfl rfl rfl ?_
  refine wv rfl (fun hf hs => r_pickF (hf.ev rfl) b9 (hf.ev rfl)) ?_
  refine va rfl rfl ?_
  obtain rfl := some_r H
  exact w_nil fun a w' hf hs => ⟨_, (HLe.refl _), (hf.pick (pk pk0 rfl)), hs.sel [] (by decide) rfl⟩
 clear H1
 rintro a w' ⟨M7, l8, hf, hs⟩
 refine c_of (c := (Cx.mk Tryd.prog 15 none' M w)) ?_ hf hs
 clear hf hs
 obtain rfl := some_r H
 exact c_ret fun a w' hf hs => hret _ (.inl rfl) a w' hf.df ⟨_, _, Res.of1 rfl (RV.t hf rfl), hs.ext, rfl⟩
theorem backup_Select.calls {M : Heap} {w : World} (hM : Sub M w) (p0 : Table) (v1 : Value) (h2 : RS Key.F M v1 p0.Keys) (p1 : Int) (r : (List Key)) (H : backup_Select p0 p1 = some r) :
  Calls Tryd.prog 25 [(.agg (Table.C p0 v1).toArray), (.int .i64 p1)].toArray w (Post M w fun M' v => ∃ v48, v = v48 ∧ RS Key.F M' v48 r) := by
 refine enter 23 [(0, (.agg (Table.C p0 v1).toArray)), (1, (.int .i64 p1))] Tryd.func25 rfl rfl rfl hM ?_
 intro Q hret
 unfold backup_Select at H
 refine c_sr fun _ hK3 => ?_
 refine w_boxM trivial rfl rfl rfl ?_
 intro b4 M5 l6 h7
 replace h2 := h2.mono l6
 refine va rfl rfl ?_
 refine w_nil (hK3 _ _ _ ?_)
 refine c_row0 55 9 ?_
 refine c_cut (fun a' w' => ∃ (x8 : (List Key)) (v9 : Value) (M10 : Heap), HLe M5 M10 ∧ Fr 23 [(4, v9)] a' ∧ St none' M w M10 (lt [rowI Key.F v9 55 x8]) w' ∧ backup_Select.j1 x8 = some r) ?_ ?_
 ·refine c_seq ?_
  intro K16 hK16
  refine c_reg ?_
  refine v_fa fa44_1 rfl rfl ?_
  refine wv rfl (fun hf hs => r_load1 ta34 (hf.ev rfl) (hs.sub _ _ h7) rfl) ?_
  refine wv rfl (fun hf hs => r_lenR Tryd.underlying34 h2 (hf.ev rfl)) ?_
  refine vm rfl rfl ?_
  refine w_nil (hK16 _ _ _ ?_)
  refine c_block ?_
  refine c_loop (fun (s17 : ((List Key) × Int)) a' w' => ∃ (v18 : Value) (M19 : Heap), HLe M5 M19 ∧ Fr 23 [(1, (.int .i64 p1)), (4, v18), (8, v1), (9, (.int .i64 (p0.Keys.length : Int))), (10, (.int .i64 s17.2))] a' ∧ St none' M w M19 (lt [rowI Key.F v18 55 s17.1]) w') (([] : (List Key)), (0 : Int)) H ?_ ?_
  ·intro a w' hf hs
   exact ⟨(.slice none 0 0), _, HLe.refl _, (hf.pick (pk (pk (pk (pk (pk pk0 rfl) rfl) rfl) rfl) rfl)), hs.selD [some 0] (by decide) rfl⟩
  clear H
  intro s17 y22 H r21 a w' hJ
  obtain ⟨v18, M19, l20, hf, hs⟩ := hJ
  refine c_of (c := (Cx.mk Tryd.prog 23 none' M w)) ?_ hf hs
  unfold backup_Select.l3 at H
  clear hf hs
  replace h2 := h2.mono l20
  refine c_sr fun _ hK23 => ?_
  refine v_lss rfl rfl rfl ?_
  refine w_nil (hK23 _ _ _ ?_)
  refine c_seq fun K24 hK24 => ?_
  refine c_if rfl (fun b25 => ?_) (fun b25 => ?_)
  ·replace H := if_t b25 H
   refine c_skip (hK24 _ _ _ ?_)
   refine c_cut (fun a' w' => ∃ (x26 : (List Key)) (v27 : Value) (M28 : Heap), HLe M19 M28 ∧ Fr 23 [(1, (.int .i64 p1)), (4, v27), (8, v1), (9, (.int .i64 (p0.Keys.length : Int))), (10, (.int .i64 s17.2))] a' ∧ St none' M w M28 (lt [rowI Key.F v27 55 x26]) w' ∧ backup_Select.j2 x26 s17 = some y22) ?_ ?_
   ·refine c_block ?_
    refine c_sr fun _ hK30 => ?_
    obtain ⟨g31, H⟩ := grd_s H
    refine wv rfl (fun hf hs => r_iR Tryd.underlying34 ts55 h2 (hf.ev rfl) (hf.ev rfl) g31.1 g31.2) ?_
    refine wv rfl (fun hf hs => r_loadEA ta55 ts55 h2 hs.sub g31.1 g31.2 (hf.ev rfl) rfl rfl) ?_
    refine w_allocL (A := Key.C (⟨0, 0, [], 0, 0, 0, 0, 0, false⟩ : Key)) tz55 trivial rfl rfl ?_
    intro b32
    refine w_store (i := 1) (vs := Key.C (rd p0.Keys s17.2)) (A' := Key.C (rd p0.Keys s17.2)) trivial rfl rfl rfl rfl ts55 rfl (Key.F_one _) (Nat.le_of_ble_eq_true rfl) rfl ?_
    refine w_nil (hK30 _ _ _ ?_)
    refine c_sr fun _ hK33 => ?_
    refine wv rfl (fun hf hs => r_loadA ta55 ts55 (hf.ev rfl) (hs.blk (i := 1) rfl) rfl rfl) ?_
    refine vm rfl rfl ?_
    obtain ⟨t34, e39, H⟩ := bnd H
    refine w_call cf58 trivial rfl rfl (fun w hs => keys_Live.calls hs (rd p0.Keys s17.2) p1 _ e39) ?_
    rintro _ M36 l37 rfl
    refine w_nil (hK33 _ _ _ ?_)
    refine c_if rfl (fun b40 => ?_) (fun b40 => ?_)
    ·replace H := if_t b40 H
     refine c_reg ?_
     refine vm rfl rfl ?_
     refine wv rfl (fun hf hs => r_loadA ta55 ts55 (hf.ev rfl) (hs.blk (i := 1) rfl) rfl rfl) ?_
     refine w_bsl (F := Key.F) (es := ([(rd p0.Keys s17.2)] : List Key)) (xs := [.tmp 18]) (vs := [(.agg (Key.C (rd p0.Keys s17.2)).toArray)]) Tryd.underlying34 te55 trivial rfl rfl rfl rfl rfl (by decide) ?_
     intro v41 M42 l43 h44 c45
     obtain ⟨g46, H⟩ := grd_s H
     refine w_app (F := Key.F) (m2 := ([(rd p0.Keys s17.2)] : List Key)) (i := 0) Tryd.underlying34 te55 Tryd.underlying34 (.inl ⟨_, rfl⟩) trivial rfl rfl rfl rfl (Src.rs Key.F_one h44) g46 ?_
     intro v47
     refine va rfl rfl ?_
     exact w_nil fun a w' hf hs => ⟨(s17.1 ++ ([(rd p0.Keys s17.2)] : List Key)), v47, _, (l37.trans l43), (hf.pick (pk (pk (pk (pk (pk pk0 rfl) rfl) rfl) rfl) rfl)), hs.selD [some 0] (by decide) rfl, H⟩
    replace H := if_f b40 H
    refine c_skip ?_
    intro a w' hf hs
    exact ⟨s17.1, v18, _, l37, (hf.pick (pk (pk (pk (pk (pk pk0 rfl) rfl) rfl) rfl) rfl)), hs.selD [some 0] (by decide) rfl, H⟩
   rintro a w' ⟨x26, v27, M28, l29, hf, hs, H⟩
   refine c_of (c := (Cx.mk Tryd.prog 23 none' M w)) ?_ hf hs
   unfold backup_Select.j2 at H
   clear hf hs
   refine c_reg ?_
   refine v_add rfl rfl rfl ?_
   refine vm rfl rfl ?_
   exact w_nil fun a w' hf hs => ⟨_, (some_r H).symm, v27, _, l20.trans l29, (hf.pick (pk (pk (pk (pk (pk pk0 rfl) rfl) rfl) rfl) rfl)), hs.selD [some 0] (by decide) rfl⟩
  replace H := if_f b25 H
  replace H := map_inr H r21
  refine c_exit ?_
  intro a w' hf hs
  exact ⟨s17.1, v18, _, l20, (hf.pick (pk pk0 rfl)), hs.selD [some 0] (by decide) rfl, H⟩
 rintro a w' ⟨x8, v9, M10, l11, hf, hs, H⟩
 refine c_of (c := (Cx.mk Tryd.prog 23 none' M w)) ?_ hf hs
 unfold backup_Select.j1 at H
 clear hf hs
 refine c_sr fun _ hK12 => ?_
 refine vm rfl rfl ?_
 refine va rfl rfl ?_
 refine w_nil (hK12 _ _ _ ?_)
 obtain rfl := some_r H
 refine c_ret ?_
 refine n_give 0 rfl (fun _ h => h) ?_
 intro M13 l14 h15
 intro a w' hf hs
 exact hret _ (.inl rfl) a w' hf.df ⟨_, _, Res.of1 rfl (RV.t hf rfl), hs.ext, ⟨_, rfl, h15⟩⟩
theorem slices_IndexFunc_Key.calls {M : Heap} {w : World} (hM : Sub M w) (p0 : (List Key)) (v1 : Value) (h2 : RS Key.F M v1 p0) (p1 : (Key → Option Bool)) (p1v : Value) (p1h : FnS Tryd.prog M p1v (fun x => .agg (Key.C x).toArray) Value.bool p1) (r : Int) (H : slices_IndexFunc_Key p0 p1 = some r) :
  Calls Tryd.prog 66 [v1, p1v].toArray w (Post M w fun M' v => v = (.int .i64 r)) := by
 refine enter 19 [(0, v1), (1, p1v)] Tryd.func66 rfl rfl rfl hM ?_
 intro Q hret
 unfold slices_IndexFunc_Key at H
 refine c_sr fun _ hK3 => ?_
 refine va rfl rfl ?_
 refine w_nil (hK3 _ _ _ ?_)
 refine c_cut (fun a' w' => ∃ (M4 : Heap), HLe M M4 ∧ Fr 19 [] a' ∧ St none' M w M4 (lt []) w' ∧ slices_IndexFunc_Key.j1  = some r) ?_ ?_
 ·refine c_seq ?_
  intro K7 hK7
  refine c_reg ?_
  refine vm rfl rfl ?_
  refine wv rfl (fun hf hs => r_lenR Tryd.underlying34 h2 (hf.ev rfl)) ?_
  refine vm rfl rfl ?_
  refine w_nil (hK7 _ _ _ ?_)
  refine c_block ?_
  refine c_loop (fun (s8 : Int) a' w' => ∃ (M9 : Heap), HLe M M9 ∧ Fr 19 [(0, v1), (1, p1v), (7, (.int .i64 (p0.length : Int))), (8, (.int .i64 s8))] a' ∧ St none' M w M9 (lt []) w') (0 : Int) H ?_ ?_
  ·intro a w' hf hs
   exact ⟨_, HLe.refl _, (hf.pick (pk (pk (pk (pk pk0 rfl) rfl) rfl) rfl)), hs.selD [] (by decide) rfl⟩
  clear H
  intro s8 y12 H r11 a w' hJ
  obtain ⟨M9, l10, hf, hs⟩ := hJ
  refine c_of (c := (Cx.mk Tryd.prog 19 none' M w)) ?_ hf hs
  unfold slices_IndexFunc_Key.l2 at H
  clear hf hs
  replace h2 := h2.mono l10
  replace p1h := p1h.mono l10
  refine c_sr fun _ hK13 => ?_
  refine v_lss rfl rfl rfl ?_
  refine w_nil (hK13 _ _ _ ?_)
  refine c_seq fun K14 hK14 => ?_
  refine c_if rfl (fun b15 => ?_) (fun b15 => ?_)
  ·replace H := if_t b15 H
   refine c_skip (hK14 _ _ _ ?_)
   refine c_seq fun K16 hK16 => ?_
   refine c_block ?_
   refine c_sr fun _ hK17 => ?_
   refine vm rfl rfl ?_
   refine va rfl rfl ?_
   refine w_nil (hK17 _ _ _ ?_)
   refine c_sr fun _ hK18 => ?_
   refine vm rfl rfl ?_
   refine vm rfl rfl ?_
   refine vm rfl rfl ?_
   obtain ⟨g19, H⟩ := grd_s H
   refine wv rfl (fun hf hs => r_iR Tryd.underlying34 ts55 h2 (hf.ev rfl) (hf.ev rfl) g19.1 g19.2) ?_
   refine wv rfl (fun hf hs => r_loadEA ta55 ts55 h2 hs.sub g19.1 g19.2 (hf.ev rfl) rfl rfl) ?_
   obtain ⟨t20, e25, H⟩ := bnd H
   refine w_callV trivial rfl rfl rfl (fun _ h => by cases h) (fun w hs => p1h _ w _ _ (HLe.refl _) hs e25) ?_
   rintro _ M22 l23 rfl
   refine w_nil (hK18 _ _ _ ?_)
   refine c_if rfl (fun b26 => ?_) (fun b26 => ?_)
   ·replace H := if_t b26 H
    refine c_sr fun _ hK27 => ?_
    refine vm rfl rfl ?_
    refine va rfl rfl ?_
    refine w_nil (hK27 _ _ _ ?_)
    obtain rfl := (r11 _ (Option.some.inj H).symm)
    exact c_ret fun a w' hf hs => hret _ (.inl rfl) a w' hf.df ⟨_, _, Res.of1 rfl (RV.t hf rfl), hs.ext, rfl⟩
   replace H := if_f b26 H
   refine c_skip (hK16 _ _ _ ?_)
   refine c_reg ?_
   refine v_add rfl rfl rfl ?_
   refine vm rfl rfl ?_
   exact w_nil fun a w' hf hs => ⟨_, (some_r H).symm, _, l10.trans l23, (hf.pick (pk (pk (pk (pk pk0 rfl) rfl) rfl) rfl)), hs.selD [] (by decide) rfl⟩
  replace H := if_f b15 H
  replace H := map_inr H r11
  refine c_exit ?_
  intro a w' hf hs
  exact ⟨_, l10, hf.nil, hs.selD [] (by decide) rfl, H⟩
 rintro a w' ⟨M4, l5, hf, hs, H⟩
 refine c_of (c := (Cx.mk Tryd.prog 19 none' M w)) ?_ hf hs
 unfold slices_IndexFunc_Key.j1 at H
 clear hf hs
 refine c_sr fun _ hK6 => ?_
 refine va rfl rfl ?_
 refine w_nil (hK6 _ _ _ ?_)
 obtain rfl := some_r H
 exact c_ret fun a w' hf hs => hret _ (.inl rfl) a w' hf.df ⟨_, _, Res.of1 rfl (RV.t hf rfl), hs.ext, rfl⟩
theorem slices_ContainsFunc_Key.calls {M : Heap} {w : World} (hM : Sub M w) (p0 : (List Key)) (v1 : Value) (h2 : RS Key.F M v1 p0) (p1 : (Key → Option Bool)) (p1v : Value) (p1h : FnS Tryd.prog M p1v (fun x => .agg (Key.C x).toArray) Value.bool p1) (r : Bool) (H : slices_ContainsFunc_Key p0 p1 = some r) :
  Calls Tryd.prog 59 [v1, p1v].toArray w (Post M w fun M' v => v = (.bool r)) := by
 refine enter 9 [(0, v1), (1, p1v)] Tryd.func59 rfl rfl rfl hM ?_
 intro Q hret
 unfold slices_ContainsFunc_Key at H
 refine c_sr fun _ hK3 => ?_
 refine va rfl rfl ?_
 refine w_nil (hK3 _ _ _ ?_)
 refine c_sr fun _ hK4 => ?_
 refine vm rfl rfl ?_
 refine vm rfl rfl ?_
 obtain ⟨t5, e10, H⟩ := bnd H
 refine w_call cf66 trivial rfl rfl (fun w hs => slices_IndexFunc_Key.calls hs p0 v1 h2 p1 p1v p1h _ e10) ?_
 rintro _ M7 l8 rfl
 refine wv rfl (fun hf hs => r_geq (hf.ev rfl) (hf.ev rfl)) ?_
 refine va rfl rfl ?_
 refine w_nil (hK4 _ _ _ ?_)
 obtain rfl := some_r H
 exact c_ret fun a w' hf hs => hret _ (.inl rfl) a w' hf.df ⟨_, _, Res.of1 rfl (RV.t hf rfl), hs.ext, rfl⟩
theorem ref27_within.calls {M : Heap} {w : World} (hM : Sub M w) (p0 : Int) (p1 : Int) (p2 : Int) (r : Bool) (H : ref27_within p0 p1 p2 = some r) :
  Calls Tryd.prog 56 [(.int .i64 p0), (.int .i64 p1), (.int .i64 p2)].toArray w (Post M w fun M' v => v = (.bool r)) := by
 refine enter 15 [(0, (.int .i64 p0)), (1, (.int .i64 p1)), (2, (.int .i64 p2))] Tryd.func56 rfl rfl rfl hM ?_
 intro Q hret
 unfold ref27_within at H
 refine c_sr fun _ hK1 => ?_
 refine va rfl rfl ?_
 refine w_nil (hK1 _ _ _ ?_)
 obtain ⟨t2, H1, H⟩ := bnd H
 refine c_cut (fun a' w' => ∃ (M3 : Heap), HLe M M3 ∧ Fr 15 [(6, (.bool t2))] a' ∧ St none' M w M3 (lt []) w') ?_ ?_
 ·replace H := H1
  clear H1
  refine c_reg ?_
  refine vm rfl rfl ?_
  refine vm rfl rfl ?_
  refine wv rfl (fun hf hs => r_geq (hf.ev rfl) (hf.ev rfl)) ?_
  refine vm rfl rfl ?_
  by_cases b5 : (decide (p1 ≤ p0)) = true
  ·replace H := if_t b5 H
   refine wg b5 rfl rfl rfl (fun hf hs => r_move (hf.ev rfl)) ?_
   refine wg b5 rfl rfl rfl (fun hf hs => r_move (hf.ev rfl)) ?_
   refine wg b5 rfl rfl rfl (fun hf hs => r_leq (hf.ev rfl) (hf.ev rfl)) ?_
   refine wv rfl (fun hf hs => r_pickT (hf.ev rfl) b5 (hf.ev rfl)) ?_
   refine va rfl rfl ?_
   obtain rfl := some_r H
   exact w_nil fun a w' hf hs => ⟨_, (HLe.refl _), (hf.pick (pk pk0 rfl)), hs.sel [] (by decide) rfl⟩
  replace b5 := Bool.eq_false_iff.2 b5
  replace H := if_f b5 H
  refine wq b5 rfl rfl rfl ?_
  refine wq b5 rfl rfl rfl ?_
  refine wq b5 rfl rfl rfl ?_
  refine wv rfl (fun hf hs => r_pickF (hf.ev rfl) b5 (hf.ev rfl)) ?_
  refine va rfl rfl ?_
  obtain rfl := some_r H
  exact w_nil fun a w' hf hs => ⟨_, (HLe.refl _), (hf.pick (pk pk0 rfl)), hs.sel [] (by decide) rfl⟩
 clear H1
 rintro a w' ⟨M3, l4, hf, hs⟩
 refine c_of (c := (Cx.mk Tryd.prog 15 none' M w)) ?_ hf hs
 clear hf hs
 obtain rfl := some_r H
 exact c_ret fun a w' hf hs => hret _ (.inl rfl) a w' hf.df ⟨_, _, Res.of1 rfl (RV.t hf rfl), hs.ext, rfl⟩
theorem ref27_Valid.calls {M : Heap} {w : World} (hM : Sub M w) (p0 : Key) (r : Bool) (H : ref27_Valid p0 = some r) :
  Calls Tryd.prog 57 [(.agg (Key.C p0).toArray)].toArray w (Post M w fun M' v => v = (.bool r)) := by
 refine enter 42 [(0, (.agg (Key.C p0).toArray))] Tryd.func57 rfl rfl rfl hM ?_
 intro Q hret
 unfold ref27_Valid at H
 refine c_sr fun _ hK1 => ?_
 refine w_boxM trivial rfl rfl rfl ?_
 intro b2 M3 l4 h5
 refine va rfl rfl ?_
 refine w_nil (hK1 _ _ _ ?_)
 obtain ⟨t6, H1, H⟩ := bnd H
 refine c_cut (fun a' w' => ∃ (M7 : Heap), HLe M3 M7 ∧ Fr 42 [(2, (.bool t6))] a' ∧ St none' M w M7 (lt []) w') ?_ ?_
 ·replace H := H1
  clear H1
  refine c_reg ?_
  refine v_fa fa55_1 rfl rfl ?_
  refine wv rfl (fun hf hs => r_load1 ta3 (hf.ev rfl) (hs.sub _ _ h5) rfl) ?_
  obtain ⟨t9, e14, H⟩ := bnd H
  refine w_call cf56 trivial rfl rfl (fun w hs => ref27_within.calls hs p0.Type_ (0 : Int) (31 : Int) _ e14) ?_
  rintro _ M11 l12 rfl
  replace h5 := l12 _ _ h5
  refine vm rfl rfl ?_
  by_cases b15 : t9 = true
  ·replace H := if_t b15 H
   refine wg b15 rfl rfl rfl (fun hf hs => r_fa fa55_2 (hf.ev rfl)) ?_
   refine wg b15 rfl rfl rfl (fun hf hs => r_load1 ta9 (hf.ev rfl) (hs.sub _ _ h5) rfl) ?_
   refine wg b15 rfl rfl rfl (fun hf hs => r_slen Tryd.underlying9 (hf.ev rfl)) ?_
   refine wg b15 rfl rfl rfl (fun hf hs => r_eql (hf.ev rfl) (hf.ev rfl)) ?_
   refine wv rfl (fun hf hs => r_pickT (hf.ev rfl) b15 (hf.ev rfl)) ?_
   refine vm rfl rfl ?_
   by_cases b16 : ((p0.Value.length : Int) == (32 : Int)) = true
   ·replace H := if_t b16 H
    refine wg b16 rfl rfl rfl (fun hf hs => r_fa fa55_3 (hf.ev rfl)) ?_
    refine wg b16 rfl rfl rfl (fun hf hs => r_load1 ta3 (hf.ev rfl) (hs.sub _ _ h5) rfl) ?_
    refine wg b16 rfl rfl rfl (fun hf hs => r_and (hf.ev rfl) (hf.ev rfl)) ?_
    refine wg b16 rfl rfl rfl (fun hf hs => r_fa fa55_3 (hf.ev rfl)) ?_
    refine wg b16 rfl rfl rfl (fun hf hs => r_load1 ta3 (hf.ev rfl) (hs.sub _ _ h5) rfl) ?_
    refine wg b16 rfl rfl rfl (fun hf hs => r_eql (hf.ev rfl) (hf.ev rfl)) ?_
    refine wv rfl (fun hf hs => r_pickT (hf.ev rfl) b16 (hf.ev rfl)) ?_
    refine vm rfl rfl ?_
    by_cases b17 : ((bits .and .i64 p0.Uses (956 : Int)) == p0.Uses) = true
    ·replace H := if_t b17 H
     refine wg b17 rfl rfl rfl (fun hf hs => r_fa fa55_4 (hf.ev rfl)) ?_
     refine wg b17 rfl rfl rfl (fun hf hs => r_load1 ta3 (hf.ev rfl) (hs.sub _ _ h5) rfl) ?_
     obtain ⟨t18, e23, H⟩ := bnd H
     refine w_call cf56 (Wnt.of rfl rfl b17) rfl rfl (fun w hs => ref27_within.calls hs p0.Start (0 : Int) (1099511627776 : Int) _ e23) ?_
     rintro _ M20 l21 rfl
     replace h5 := l21 _ _ h5
     refine wv rfl (fun hf hs => r_pickT (hf.ev rfl) b17 (hf.ev rfl)) ?_
     refine vm rfl rfl ?_
     by_cases b24 : t18 = true
     ·replace H := if_t b24 H
      refine wg b24 rfl rfl rfl (fun hf hs => r_fa fa55_5 (hf.ev rfl)) ?_
      refine wg b24 rfl rfl rfl (fun hf hs => r_load1 ta3 (hf.ev rfl) (hs.sub _ _ h5) rfl) ?_
      refine wg b24 rfl rfl rfl (fun hf hs => r_fa fa55_4 (hf.ev rfl)) ?_
      refine wg b24 rfl rfl rfl (fun hf hs => r_load1 ta3 (hf.ev rfl) (hs.sub _ _ h5) rfl) ?_
      obtain ⟨t25, e30, H⟩ := bnd H
      refine w_call cf56 (Wnt.of rfl rfl b24) rfl rfl (fun w hs => ref27_within.calls hs p0.End p0.Start (1099511627776 : Int) _ e30) ?_
      rintro _ M27 l28 rfl
      replace h5 := l28 _ _ h5
      refine wv rfl (fun hf hs => r_pickT (hf.ev rfl) b24 (hf.ev rfl)) ?_
      refine vm rfl rfl ?_
      by_cases b31 : t25 = true
      ·replace H := if_t b31 H
       refine wg b31 rfl rfl rfl (fun hf hs => r_fa fa55_6 (hf.ev rfl)) ?_
       refine wg b31 rfl rfl rfl (fun hf hs => r_load1 ta3 (hf.ev rfl) (hs.sub _ _ h5) rfl) ?_
       obtain ⟨t32, e37, H⟩ := bnd H
       refine w_call cf56 (Wnt.of rfl rfl b31) rfl rfl (fun w hs => ref27_within.calls hs p0.Version (1 : Int) (2147483647 : Int) _ e37) ?_
       rintro _ M34 l35 rfl
       replace h5 := l35 _ _ h5
       refine wv rfl (fun hf hs => r_pickT (hf.ev rfl) b31 (hf.ev rfl)) ?_
       refine vm rfl rfl ?_
       by_cases b38 : t32 = true
       ·replace H := if_t b38 H
        refine wg b38 rfl rfl rfl (fun hf hs => r_fa fa55_7 (hf.ev rfl)) ?_
        refine wg b38 rfl rfl rfl (fun hf hs => r_load1 ta3 (hf.ev rfl) (hs.sub _ _ h5) rfl) ?_
        obtain ⟨t39, e44, H⟩ := bnd H
        refine w_call cf56 (Wnt.of rfl rfl b38) rfl rfl (fun w hs => ref27_within.calls hs p0.Parent (0 : Int) (2147483647 : Int) _ e44) ?_
        rintro _ M41 l42 rfl
        refine wv rfl (fun hf hs => r_pickT (hf.ev rfl) b38 (hf.ev rfl)) ?_
        refine va rfl rfl ?_
        obtain rfl := some_r H
        exact w_nil fun a w' hf hs => ⟨_, (l12.trans (l21.trans (l28.trans (l35.trans l42)))), (hf.pick (pk pk0 rfl)), hs.sel [] (by decide) rfl⟩
       replace b38 := Bool.eq_false_iff.2 b38
       replace H := if_f b38 H
       refine wq b38 rfl rfl rfl ?_
       refine wq b38 rfl rfl rfl ?_
       refine wq b38 rfl rfl rfl ?_
       refine wv rfl (fun hf hs => r_pickF (hf.ev rfl) b38 (hf.ev rfl)) ?_
       refine va rfl rfl ?_
       obtain rfl := some_r H
       exact w_nil fun a w' hf hs => ⟨_, (l12.trans (l21.trans (l28.trans l35))), (hf.pick (pk pk0 rfl)), hs.sel [] (by decide) rfl⟩
      replace b31 := Bool.eq_false_iff.2 b31
      replace H := if_f b31 H
      refine wq b31 rfl rfl rfl ?_
      refine wq b31 rfl rfl rfl ?_
      refine wq b31 rfl rfl rfl ?_
      refine wv rfl (fun hf hs => r_pickF (hf.ev rfl) b31 (hf.ev rfl)) ?_
      refine vm rfl rfl ?_
      refine wq rfl rfl rfl rfl ?_
      refine wq rfl rfl rfl rfl ?_
      refine wq rfl rfl rfl rfl ?_
      refine wv rfl (fun hf hs => r_pickF (hf.ev rfl) rfl (hf.ev rfl)) ?_
      refine va rfl rfl ?_
      obtain rfl := some_r H
      exact w_nil fun a w' hf hs => ⟨_, (l12.trans (l21.trans l28)), (hf.pick (pk pk0 rfl)), hs.sel [] (by decide) rfl⟩
     replace b24 := Bool.eq_false_iff.2 b24
     replace H := if_f b24 H
     refine wq b24 rfl rfl rfl ?_
     refine wq b24 rfl rfl rfl ?_
     refine wq b24 rfl rfl rfl ?_
     refine wq b24 rfl rfl rfl ?_
     refine wq b24 rfl rfl rfl ?_
     refine wv rfl (fun hf hs => r_pickF (hf.ev rfl) b24 (hf.ev rfl)) ?_
     refine vm rfl rfl ?_
     refine wq rfl rfl rfl rfl ?_
     refine wq rfl rfl rfl rfl ?_
     refine wq rfl rfl rfl rfl ?_
     refine wv rfl (fun hf hs => r_pickF (hf.ev rfl) rfl (hf.ev rfl)) ?_
     refine vm rfl rfl ?_
     refine wq rfl rfl rfl rfl ?_
     refine wq rfl rfl rfl rfl ?_
     refine wq rfl rfl rfl rfl ?_
     refine wv rfl (fun hf hs => r_pickF (hf.ev rfl) rfl (hf.ev rfl)) ?_
     refine va rfl rfl ?_
     obtain rfl := some_r H
     exact w_nil fun a w' hf hs => ⟨_, (l12.trans l21), (hf.pick (pk pk0 rfl)), hs.sel [] (by decide) rfl⟩
    replace b17 := Bool.eq_false_iff.2 b17
    replace H := if_f b17 H
    refine wq b17 rfl rfl rfl ?_
    refine wq b17 rfl rfl rfl ?_
    refine wq b17 rfl rfl rfl ?_
    refine wv rfl (fun hf hs => r_pickF (hf.ev rfl) b17 (hf.ev rfl)) ?_
    refine vm rfl rfl ?_
    refine wq rfl rfl rfl rfl ?_
    refine wq rfl rfl rfl rfl ?_
    refine wq rfl rfl rfl rfl ?_
    refine wq rfl rfl rfl rfl ?_
    refine wq rfl rfl rfl rfl ?_
    refine wv rfl (fun hf hs => r_pickF (hf.ev rfl) rfl (hf.ev rfl)) ?_
    refine vm rfl rfl ?_
    refine wq rfl rfl rfl rfl ?_
    refine wq rfl rfl rfl rfl ?_
    refine wq rfl rfl rfl rfl ?_
    refine wv rfl (fun hf hs => r_pickF (hf.ev rfl) rfl (hf.ev rfl)) ?_
    refine vm rfl rfl ?_
    refine wq rfl rfl rfl rfl ?_
    refine wq rfl rfl rfl rfl ?_
    refine wq rfl rfl rfl rfl ?_
    refine wv rfl (fun hf hs => r_pickF (hf.ev rfl) rfl (hf.ev rfl)) ?_
    refine va rfl rfl ?_
    obtain rfl := some_r H
    exact w_nil fun a w' hf hs => ⟨_, l12, (hf.pick (pk pk0 rfl)), hs.sel [] (by decide) rfl⟩
   replace b16 := Bool.eq_false_iff.2 b16
   replace H := if_f b16 H
   refine wq b16 rfl rfl rfl ?_
   refine wq b16 rfl rfl rfl ?_
   refine wq b16 rfl rfl rfl ?_
   refine wq b16 rfl rfl rfl ?_
   refine wq b16 rfl rfl rfl ?_
   refine wq b16 rfl rfl rfl ?_
   refine wv rfl (fun hf hs => r_pickF (hf.ev rfl) b16 (hf.ev rfl)) ?_
   refine vm rfl rfl ?_
   refine wq rfl rfl rfl rfl ?_
   refine wq rfl rfl rfl rfl ?_
   refine wq rfl rfl rfl rfl ?_
   refine wv rfl (fun hf hs => r_pickF (hf.ev rfl) rfl (hf.ev rfl)) ?_
   refine vm rfl rfl ?_
   refine wq rfl rfl rfl rfl ?_
   refine wq rfl rfl rfl rfl ?_
   refine wq rfl rfl rfl rfl ?_
   refine wq rfl rfl rfl rfl ?_
   refine wq rfl rfl rfl rfl ?_
   refine wv rfl (fun hf hs => r_pickF (hf.ev rfl) rfl (hf.ev rfl)) ?_
   refine vm rfl rfl ?_
   refine wq rfl rfl rfl rfl ?_
   refine wq rfl rfl rfl rfl ?_
   refine wq rfl rfl rfl rfl ?_
   refine wv rfl (fun hf hs => r_pickF (hf.ev rfl) rfl (hf.ev rfl)) ?_
   refine vm rfl rfl ?_
   refine wq rfl rfl rfl rfl ?_
   refine wq rfl rfl rfl rfl ?_
   refine wq rfl rfl rfl rfl ?_
   refine wv rfl (fun hf hs => r_pickF (hf.ev rfl) rfl (hf.ev rfl)) ?_
   refine va rfl rfl ?_
   obtain rfl := some_r H
   exact w_nil fun a w' hf hs => ⟨_, l12, (hf.pick (pk pk0 rfl)), hs.sel [] (by decide) rfl⟩
  replace b15 := Bool.eq_false_iff.2 b15
  replace H := if_f b15 H
  refine wq b15 rfl rfl rfl ?_
  refine wq b15 rfl rfl rfl ?_
  refine wq b15 rfl rfl rfl ?_
  refine wq b15 rfl rfl rfl ?_
  refine wv rfl (fun hf hs => r_pickF (hf.ev rfl) b15 (hf.ev rfl)) ?_
  refine vm rfl rfl ?_
  refine wq rfl rfl rfl rfl ?_
  refine wq rfl rfl rfl rfl ?_
  refine wq rfl rfl rfl rfl ?_
  refine wq rfl rfl rfl rfl ?_
  refine wq rfl rfl rfl rfl ?_
  refine wq rfl rfl rfl rfl ?_
  refine wv rfl (fun hf hs => r_pickF (hf.ev rfl) rfl (hf.ev rfl)) ?_
  refine vm rfl rfl ?_
  refine wq rfl rfl rfl rfl ?_
  refine wq rfl rfl rfl rfl ?_
  refine wq rfl rfl rfl rfl ?_
  refine wv rfl (fun hf hs => r_pickF (hf.ev rfl) rfl (hf.ev rfl)) ?_
  refine vm rfl rfl ?_
  refine wq rfl rfl rfl rfl ?_
  refine wq rfl rfl rfl rfl ?_
  refine wq rfl rfl rfl rfl ?_
  refine wq rfl rfl rfl rfl ?_
  refine wq rfl rfl rfl rfl ?_
  refine wv rfl (fun hf hs => r_pickF (hf.ev rfl) rfl (hf.ev rfl)) ?_
  refine vm rfl rfl ?_
  refine wq rfl rfl rfl rfl ?_
  refine wq rfl rfl rfl rfl ?_
  refine wq rfl rfl rfl rfl ?_
  refine wv rfl (fun hf hs => r_pickF (hf.ev rfl) rfl (hf.ev rfl)) ?_
  refine vm rfl rfl ?_
  refine wq rfl rfl rfl rfl ?_
  refine wq rfl rfl rfl rfl ?_
  refine wq rfl rfl rfl rfl ?_
  refine wv rfl (fun hf hs => r_pickF (hf.ev rfl) rfl (hf.ev rfl)) ?_
  refine va rfl rfl ?_
  obtain rfl := some_r H
  exact w_nil fun a w' hf hs => ⟨_, l12, (hf.pick (pk pk0 rfl)), hs.sel [] (by decide) rfl⟩
 clear H1
 rintro a w' ⟨M7, l8, hf, hs⟩
 refine c_of (c := (Cx.mk Tryd.prog 42 none' M w)) ?_ hf hs
 clear hf hs
 obtain rfl := some_r H
 exact c_ret fun a w' hf hs => hret _ (.inl rfl) a w' hf.df ⟨_, _, Res.of1 rfl (RV.t hf rfl), hs.ext, rfl⟩
end Go.Cu
