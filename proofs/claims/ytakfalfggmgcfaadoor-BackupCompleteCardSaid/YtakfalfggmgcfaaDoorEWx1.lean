/- Each Go function comes to its pure function; condition: that one is defined there. -/
import Derived.Test.YtakfalfggmgcfaaDoorEWx0
import Derived.Test.YtakfalfggmgcfaaDoorK1
import Derived.Shelf.Strings.Repeat
import Derived.Shelf.Strings.OnBuilder
import Derived.Ground.NamesProg
import Derived.Lib.Agree
import Derived.Test.YtakfalfggmgcfaaDoorProg
import Derived.KernelRfl
set_option linter.unusedVariables false
set_option linter.unusedSimpArgs false
set_option maxHeartbeats 4000000
set_option maxRecDepth 20000
namespace Go.Cu
open Go.Proofs Go.Proofs.Tryd Go.Shelf
theorem cipher_State.calls {M : Heap} {w : World} (hM : Sub M w) (p0 : (List UInt8)) (p1 : Int) (p2 : (List UInt8)) (r : ((Vector Int 16) × Int)) (H : cipher_State p0 p1 p2 = some r) :
  Calls Tryd.prog 86 [(str p0), (.int .u32 p1), (str p2)].toArray w (Post M w fun M' v => v = .tuple #[(.agg (vI .u32 r.1).toArray), (.int .i64 r.2)]) := by
 refine enter 46 [(0, (str p0)), (1, (.int .u32 p1)), (2, (str p2))] Tryd.func86 rfl rfl rfl hM ?_
 intro Q hret
 unfold cipher_State at H
 refine c_sr fun _ hK1 => ?_
 refine w_allocL (A := vI .u32 (Vector.replicate 16 (0 : Int))) tz131 trivial rfl rfl ?_
 intro b2
 refine v_assign rfl rfl ?_
 refine w_nil (hK1 _ _ _ ?_)
 refine c_seq fun K3 hK3 => ?_
 obtain ⟨t4, H1, H⟩ := bnd H
 refine c_cut (fun a' w' => ∃ (M5 : Heap), HLe M M5 ∧ Fr 46 [(0, (str p0)), (1, (.int .u32 p1)), (2, (str p2)), (6, (ptr b2 0)), (17, (.bool t4))] a' ∧ St none' M w M5 (lt [.blk b2 (.cells (vI .u32 (Vector.replicate 16 (0 : Int))).toArray 131 (0, 0))]) w') ?_ ?_
 ·replace H := H1
  clear H1
  refine c_reg ?_
  refine v_move rfl rfl ?_
  refine wv rfl (fun a w hf hs => r_slen Tryd.underlying9 (hf.ev rfl)) ?_
  refine wv rfl (fun a w hf hs => r_neq (hf.ev rfl) (hf.ev rfl)) ?_
  refine v_move rfl rfl ?_
  by_cases b7 : ((p0.length : Int) != (32 : Int)) = true
  ·replace H := if_t b7 H
   refine w_not (Nwt.of rfl rfl b7) rfl ?_
   refine w_not (Nwt.of rfl rfl b7) rfl ?_
   refine w_not (Nwt.of rfl rfl b7) rfl ?_
   refine wv rfl (fun a w hf hs => r_pickT (hf.ev rfl) b7 (hf.ev rfl)) ?_
   obtain rfl := some_r H
   exact w_nil fun a w' hf hs => ⟨_, (HLe.refl _), (((((hf.nil.add (hf.get _ _ rfl)).add (hf.get _ _ rfl)).add (hf.get _ _ rfl)).add (hf.get _ _ rfl)).add (hf.get _ _ rfl)), hs.sel [0] (by decide) rfl⟩
  ·replace b7 := Bool.eq_false_iff.2 b7
   replace H := if_f b7 H
   refine w_val (Wnt.of rfl rfl b7) rfl (fun a w hf hs => r_move (hf.ev rfl)) ?_
   refine w_val (Wnt.of rfl rfl b7) rfl (fun a w hf hs => r_slen Tryd.underlying9 (hf.ev rfl)) ?_
   refine w_val (Wnt.of rfl rfl b7) rfl (fun a w hf hs => r_neq (hf.ev rfl) (hf.ev rfl)) ?_
   refine wv rfl (fun a w hf hs => r_pickF (hf.ev rfl) b7 (hf.ev rfl)) ?_
   obtain rfl := some_r H
   exact w_nil fun a w' hf hs => ⟨_, (HLe.refl _), (((((hf.nil.add (hf.get _ _ rfl)).add (hf.get _ _ rfl)).add (hf.get _ _ rfl)).add (hf.get _ _ rfl)).add (hf.get _ _ rfl)), hs.sel [0] (by decide) rfl⟩
 ·clear H1
  rintro a w' ⟨M5, l6, hf, hs⟩
  refine c_of (c := (Cx.mk Tryd.prog 46 none' M w)) ?_ hf hs
  clear hf hs
  refine c_if rfl (fun b8 => ?_) (fun b8 => ?_)
  ·replace H := if_t b8 H
   refine c_sr fun _ hK9 => ?_
   refine wv rfl (fun a w hf hs => r_loadA ta131 ts131 (hf.ev rfl) (hs.blk (i := 0) rfl) (vI_all _) (vI_len _)) ?_
   refine w_store (i := 0) (vs := vI .u32 (Vector.replicate 16 (0 : Int))) (A' := vI .u32 (Vector.replicate 16 (0 : Int))) trivial rfl rfl rfl rfl ts131 (vI_len _) (vI_one _) (by rw [vI_len]; decide) (vI_whole _ _) ?_
   refine v_assign rfl rfl ?_
   refine w_nil (hK9 _ _ _ ?_)
   obtain rfl := some_r H
   exact c_ret fun a w' hf hs => hret _ (.inl rfl) a w' hf.df ⟨_, _, Res.of2 rfl ⟨_, hf.get _ _ rfl, run_loadA (hs.blk (i := 0) rfl) ta131 ts131 (vI_all _) (vI_len _)⟩ (RV.t hf rfl), hs.ext, rfl⟩
  ·replace H := if_f b8 H
   refine c_skip (hK3 _ _ _ ?_)
   refine c_sr fun _ hK10 => ?_
   refine v_move rfl rfl ?_
   refine wv rfl (fun a w hf hs => r_build (is := [0, 1, 2, 3, 12]) (xs := [.const (.int .u32 1634760805), .const (.int .u32 857760878), .const (.int .u32 2036477234), .const (.int .u32 1797285236), .tmp 19]) (vs := [(.int .u32 1634760805), (.int .u32 857760878), (.int .u32 2036477234), (.int .u32 1797285236), (.int .u32 p1)]) (A := vI .u32 (#v[(1634760805 : Int), (857760878 : Int), (2036477234 : Int), (1797285236 : Int), 0, 0, 0, 0, 0, 0, 0, 0, p1, 0, 0, 0] : Vector Int 16)) rfl (hf.evs rfl) (by kernel_rfl)) ?_
   refine w_store (i := 0) (vs := vI .u32 (#v[(1634760805 : Int), (857760878 : Int), (2036477234 : Int), (1797285236 : Int), 0, 0, 0, 0, 0, 0, 0, 0, p1, 0, 0, 0] : Vector Int 16)) (A' := vI .u32 (#v[(1634760805 : Int), (857760878 : Int), (2036477234 : Int), (1797285236 : Int), 0, 0, 0, 0, 0, 0, 0, 0, p1, 0, 0, 0] : Vector Int 16)) trivial rfl rfl rfl rfl ts131 (vI_len _) (vI_one _) (by rw [vI_len]; decide) (vI_whole _ _) ?_
   refine w_nil (hK10 _ _ _ ?_)
   refine c_cut (fun a' w' => ∃ (x11 : (Vector Int 16)) (M12 : Heap), HLe M5 M12 ∧ Fr 46 [(2, (str p2)), (6, (ptr b2 0))] a' ∧ St none' M w M12 (lt [.blk b2 (.cells (vI .u32 x11).toArray 131 (0, 0))]) w' ∧ cipher_State.j3 p2 x11 = some r) ?_ ?_
   ·refine c_seq ?_
    intro K37 hK37
    refine c_reg ?_
    refine v_move rfl rfl ?_
    refine w_nil (hK37 _ _ _ ?_)
    refine c_block ?_
    refine c_loop (fun (s38 : ((Vector Int 16) × Int)) a' w' => ∃ (M39 : Heap), HLe M5 M39 ∧ Fr 46 [(0, (str p0)), (2, (str p2)), (6, (ptr b2 0)), (21, (.int .i64 s38.2))] a' ∧ St none' M w M39 (lt [.blk b2 (.cells (vI .u32 s38.1).toArray 131 (0, 0))]) w') ((#v[(1634760805 : Int), (857760878 : Int), (2036477234 : Int), (1797285236 : Int), 0, 0, 0, 0, 0, 0, 0, 0, p1, 0, 0, 0] : Vector Int 16), (0 : Int)) H ?_ ?_
    ·intro a w' hf hs
     exact ⟨_, HLe.refl _, ((((hf.nil.add (hf.get _ _ rfl)).add (hf.get _ _ rfl)).add (hf.get _ _ rfl)).add (hf.get _ _ rfl)), hs.selD [some 0] (by decide) rfl⟩
    ·clear H
     intro s38 y42 H r41 a w' hJ
     obtain ⟨M39, l40, hf, hs⟩ := hJ
     refine c_of (c := (Cx.mk Tryd.prog 46 none' M w)) ?_ hf hs
     unfold cipher_State.l4 at H
     clear hf hs
     refine c_sr fun _ hK43 => ?_
     refine v_lss rfl rfl rfl ?_
     refine w_nil (hK43 _ _ _ ?_)
     refine c_seq fun K44 hK44 => ?_
     refine c_if rfl (fun b45 => ?_) (fun b45 => ?_)
     ·replace H := if_t b45 H
      refine c_skip (hK44 _ _ _ ?_)
      refine c_seq fun K46 hK46 => ?_
      refine c_block ?_
      refine c_sr fun _ hK47 => ?_
      refine v_move rfl rfl ?_
      refine v_assign rfl rfl ?_
      refine w_nil (hK47 _ _ _ ?_)
      refine c_reg ?_
      refine v_move rfl rfl ?_
      refine v_add rfl rfl rfl ?_
      refine v_move rfl rfl ?_
      refine v_move rfl rfl ?_
      refine wv rfl (fun a w hf hs => r_mul (hf.ev rfl) (hf.ev rfl)) ?_
      obtain ⟨g48, H⟩ := grd_s H
      refine wv rfl (fun a w hf hs => r_sslice Tryd.underlying9 (hf.ev rfl) ⟨_, (hf.ev rfl)⟩ rfl g48.1 g48.2.1 g48.2.2) ?_
      obtain ⟨t49, e54, H⟩ := bnd H
      refine w_call cf118 trivial rfl rfl (fun w hs => cipher_get.calls hs ((p0.take ((p0.length : Int)).toNat).drop ((IntKind.i64.wrap ((4 : Int) * s38.2))).toNat) _ e54) ?_
      rintro _ M51 l52 rfl
      obtain ⟨g55, H⟩ := grd_s H
      refine wv rfl (fun a w hf hs => r_iaI Tryd.underlying131 ts70 (hf.ev rfl) (hf.ev rfl) g55.1 g55.2) ?_
      refine w_store (i := 0) (vs := [(.int .u32 t49)]) (A' := vI .u32 (vs s38.1 (IntKind.i64.wrap ((4 : Int) + s38.2)) t49)) trivial rfl rfl rfl rfl ts70 rfl (one1 rfl) (idx_le g55.1 g55.2 (vI_len _) (by decide)) (vI_set0 g55.1 g55.2) ?_
      refine w_nil (hK46 _ _ _ ?_)
      refine c_reg ?_
      refine v_add rfl rfl rfl ?_
      refine v_move rfl rfl ?_
      exact w_nil fun a w' hf hs => ⟨_, (some_r H).symm, _, l40.trans l52, ((((hf.nil.add (hf.get _ _ rfl)).add (hf.get _ _ rfl)).add (hf.get _ _ rfl)).add (hf.get _ _ rfl)), hs.selD [some 0] (by decide) rfl⟩
     ·replace H := if_f b45 H
      replace H := map_inr H r41
      refine c_exit ?_
      intro a w' hf hs
      exact ⟨s38.1, _, l40, ((hf.nil.add (hf.get _ _ rfl)).add (hf.get _ _ rfl)), hs.selD [some 0] (by decide) rfl, H⟩
   ·rintro a w' ⟨x11, M12, l13, hf, hs, H⟩
    refine c_of (c := (Cx.mk Tryd.prog 46 none' M w)) ?_ hf hs
    unfold cipher_State.j3 at H
    clear hf hs
    refine c_cut (fun a' w' => ∃ (x14 : (Vector Int 16)) (M15 : Heap), HLe M12 M15 ∧ Fr 46 [(6, (ptr b2 0))] a' ∧ St none' M w M15 (lt [.blk b2 (.cells (vI .u32 x14).toArray 131 (0, 0))]) w' ∧ cipher_State.j1 x14 = some r) ?_ ?_
    ·refine c_seq ?_
     intro K18 hK18
     refine c_reg ?_
     refine v_move rfl rfl ?_
     refine w_nil (hK18 _ _ _ ?_)
     refine c_block ?_
     refine c_loop (fun (s19 : ((Vector Int 16) × Int)) a' w' => ∃ (M20 : Heap), HLe M12 M20 ∧ Fr 46 [(2, (str p2)), (6, (ptr b2 0)), (33, (.int .i64 s19.2))] a' ∧ St none' M w M20 (lt [.blk b2 (.cells (vI .u32 s19.1).toArray 131 (0, 0))]) w') (x11, (0 : Int)) H ?_ ?_
     ·intro a w' hf hs
      exact ⟨_, HLe.refl _, (((hf.nil.add (hf.get _ _ rfl)).add (hf.get _ _ rfl)).add (hf.get _ _ rfl)), hs.selD [some 0] (by decide) rfl⟩
     ·clear H
      intro s19 y23 H r22 a w' hJ
      obtain ⟨M20, l21, hf, hs⟩ := hJ
      refine c_of (c := (Cx.mk Tryd.prog 46 none' M w)) ?_ hf hs
      unfold cipher_State.l2 at H
      clear hf hs
      refine c_sr fun _ hK24 => ?_
      refine v_lss rfl rfl rfl ?_
      refine w_nil (hK24 _ _ _ ?_)
      refine c_seq fun K25 hK25 => ?_
      refine c_if rfl (fun b26 => ?_) (fun b26 => ?_)
      ·replace H := if_t b26 H
       refine c_skip (hK25 _ _ _ ?_)
       refine c_seq fun K27 hK27 => ?_
       refine c_block ?_
       refine c_sr fun _ hK28 => ?_
       refine v_move rfl rfl ?_
       refine v_assign rfl rfl ?_
       refine w_nil (hK28 _ _ _ ?_)
       refine c_reg ?_
       refine v_move rfl rfl ?_
       refine v_add rfl rfl rfl ?_
       refine v_move rfl rfl ?_
       refine v_move rfl rfl ?_
       refine wv rfl (fun a w hf hs => r_mul (hf.ev rfl) (hf.ev rfl)) ?_
       obtain ⟨g29, H⟩ := grd_s H
       refine wv rfl (fun a w hf hs => r_sslice Tryd.underlying9 (hf.ev rfl) ⟨_, (hf.ev rfl)⟩ rfl g29.1 g29.2.1 g29.2.2) ?_
       obtain ⟨t30, e35, H⟩ := bnd H
       refine w_call cf118 trivial rfl rfl (fun w hs => cipher_get.calls hs ((p2.take ((p2.length : Int)).toNat).drop ((IntKind.i64.wrap ((4 : Int) * s19.2))).toNat) _ e35) ?_
       rintro _ M32 l33 rfl
       obtain ⟨g36, H⟩ := grd_s H
       refine wv rfl (fun a w hf hs => r_iaI Tryd.underlying131 ts70 (hf.ev rfl) (hf.ev rfl) g36.1 g36.2) ?_
       refine w_store (i := 0) (vs := [(.int .u32 t30)]) (A' := vI .u32 (vs s19.1 (IntKind.i64.wrap ((13 : Int) + s19.2)) t30)) trivial rfl rfl rfl rfl ts70 rfl (one1 rfl) (idx_le g36.1 g36.2 (vI_len _) (by decide)) (vI_set0 g36.1 g36.2) ?_
       refine w_nil (hK27 _ _ _ ?_)
       refine c_reg ?_
       refine v_add rfl rfl rfl ?_
       refine v_move rfl rfl ?_
       exact w_nil fun a w' hf hs => ⟨_, (some_r H).symm, _, l21.trans l33, (((hf.nil.add (hf.get _ _ rfl)).add (hf.get _ _ rfl)).add (hf.get _ _ rfl)), hs.selD [some 0] (by decide) rfl⟩
      ·replace H := if_f b26 H
       replace H := map_inr H r22
       refine c_exit ?_
       intro a w' hf hs
       exact ⟨s19.1, _, l21, (hf.nil.add (hf.get _ _ rfl)), hs.selD [some 0] (by decide) rfl, H⟩
    ·rintro a w' ⟨x14, M15, l16, hf, hs, H⟩
     refine c_of (c := (Cx.mk Tryd.prog 46 none' M w)) ?_ hf hs
     unfold cipher_State.j1 at H
     clear hf hs
     refine c_sr fun _ hK17 => ?_
     refine wv rfl (fun a w hf hs => r_loadA ta131 ts131 (hf.ev rfl) (hs.blk (i := 0) rfl) (vI_all _) (vI_len _)) ?_
     refine w_store (i := 0) (vs := vI .u32 x14) (A' := vI .u32 x14) trivial rfl rfl rfl rfl ts131 (vI_len _) (vI_one _) (by rw [vI_len]; decide) (vI_whole _ _) ?_
     refine v_assign rfl rfl ?_
     refine w_nil (hK17 _ _ _ ?_)
     obtain rfl := some_r H
     exact c_ret fun a w' hf hs => hret _ (.inl rfl) a w' hf.df ⟨_, _, Res.of2 rfl ⟨_, hf.get _ _ rfl, run_loadA (hs.blk (i := 0) rfl) ta131 ts131 (vI_all _) (vI_len _)⟩ (RV.t hf rfl), hs.ext, rfl⟩
theorem cipher_quarter.calls {X : Nat → Prop} {M : Heap} {w : World} {b : Nat} {p : (Vector Int 16)} {i0 : Int} {i1 : Int} {i2 : Int} {i3 : Int} (hs : St X M w M (lt [.blk b (.cells (vI .u32 p).toArray 131 (0, 0))]) w) (h00 : 0 ≤ i0) (h01 : i0 < (16 : Int)) (h10 : 0 ≤ i1) (h11 : i1 < (16 : Int)) (h20 : 0 ≤ i2) (h21 : i2 < (16 : Int)) (h30 : 0 ≤ i3) (h31 : i3 < (16 : Int)) (r : (Vector Int 16)) (H : cipher_quarter p i0 i1 i2 i3 = some r) :
  Calls Tryd.prog 134 [(ptr b (0 + (i0).toNat)), (ptr b (0 + (i1).toNat)), (ptr b (0 + (i2).toNat)), (ptr b (0 + (i3).toNat))].toArray w (PostI X M w fun M' x v => v = .tuple #[] ∧ x = .blk b (.cells (vI .u32 r).toArray 131 (0, 0))) := by
 refine enterI 80 [(0, (ptr b (0 + (i0).toNat))), (1, (ptr b (0 + (i1).toNat))), (2, (ptr b (0 + (i2).toNat))), (3, (ptr b (0 + (i3).toNat)))] Tryd.func134 rfl rfl rfl hs ?_
 clear hs
 intro Q hret
 unfold cipher_quarter at H
 refine c_seq fun K1 hK1 => ?_
 refine c_split2 6 (by kernel_rfl) (by kernel_rfl) (by kernel_rfl) (by kernel_rfl) rfl ?_
 intro K2 hK2
 refine d_drawP [([], [0]), ([(0, 8)], []), ([(1, 9)], []), ([], [1]), ([(3, 11)], []), ([(4, 12)], [])] [fun v M => v = (ptr b (0 + (i0).toNat)), fun v M => v = (ptr b (0 + (i0).toNat)), fun v M => v = (.int .u32 (rd p.toList i0)), fun v M => v = (ptr b (0 + (i1).toNat)), fun v M => v = (ptr b (0 + (i1).toNat)), fun v M => v = (.int .u32 (rd p.toList i1))] (by kernel_rfl) (by kernel_rfl) ?_ (AllT.cons ?_ (AllT.cons ?_ (AllT.cons ?_ (AllT.cons ?_ (AllT.cons ?_ (AllT.cons ?_ AllT.nil)))))) ?_
 ·exact (mC (mC (mC (mC (mC (mC MonoA.nil))))))
 ·intro a w' M3 l4 hd hs
  exact pv (hd.fr.add (hd.base 0 _ rfl rfl)) hs rfl (fun a w hf hs => r_move (hf.ev rfl)) rfl
 ·intro a w' M5 l6 hd hs
  have e7 := hd.val 0 8 _ rfl rfl
  exact pv (hd.fr.add e7) hs rfl (fun a w hf hs => r_nilCheck (hf.ev rfl)) rfl
 ·intro a w' M8 l9 hd hs
  have e10 := hd.val 1 9 _ rfl rfl
  exact pv (hd.fr.add e10) hs rfl (fun a w hf hs => r_load1 ta70 (hf.ev rfl) (hs.blk (i := 0) rfl) (vI_get0 h00 h01)) rfl
 ·intro a w' M11 l12 hd hs
  exact pv (hd.fr.add (hd.base 1 _ rfl rfl)) hs rfl (fun a w hf hs => r_move (hf.ev rfl)) rfl
 ·intro a w' M13 l14 hd hs
  have e15 := hd.val 3 11 _ rfl rfl
  exact pv (hd.fr.add e15) hs rfl (fun a w hf hs => r_nilCheck (hf.ev rfl)) rfl
 ·intro a w' M16 l17 hd hs
  have e18 := hd.val 4 12 _ rfl rfl
  exact pv (hd.fr.add e18) hs rfl (fun a w hf hs => r_load1 ta70 (hf.ev rfl) (hs.blk (i := 0) rfl) (vI_get0 h10 h11)) rfl
 intro a w' M19 l20 hdf hsz hb hv hs
 have e21 := hv 0 8 _ rfl rfl
 have e22 := hv 2 10 _ rfl rfl
 have e23 := hv 5 13 _ rfl rfl
 refine n_of (c := (Cx.mk Tryd.prog 80 X M w)) (l := [(0, (ptr b (0 + (i0).toNat))), (1, (ptr b (0 + (i1).toNat))), (2, (ptr b (0 + (i2).toNat))), (3, (ptr b (0 + (i3).toNat))), (8, (ptr b (0 + (i0).toNat))), (10, (.int .u32 (rd p.toList i0))), (13, (.int .u32 (rd p.toList i1)))]) ?_ ((((((((Fr.start hdf hsz).add e23).add e22).add e21).add (hb 3 _ rfl rfl)).add (hb 2 _ rfl rfl)).add (hb 1 _ rfl rfl)).add (hb 0 _ rfl rfl)) hs
 clear hdf hsz hb hv hs e21 e22 e23
 refine n_id (hK2 _ _ _ ?_)
 refine v_add rfl rfl rfl ?_
 refine wv rfl (fun a w hf hs => r_nilCheck (hf.ev rfl)) ?_
 refine w_store (i := 0) (vs := [(.int .u32 (IntKind.u32.wrap ((rd p.toList i0) + (rd p.toList i1))))]) (A' := vI .u32 (vs p i0 (IntKind.u32.wrap ((rd p.toList i0) + (rd p.toList i1))))) trivial rfl rfl rfl rfl ts70 rfl (one1 rfl) (idx_le h00 h01 (vI_len _) (by decide)) (vI_set0 h00 h01) ?_
 refine w_nil (hK1 _ _ _ ?_)
 refine c_seq fun K24 hK24 => ?_
 refine c_split2 9 (by kernel_rfl) (by kernel_rfl) (by kernel_rfl) (by kernel_rfl) rfl ?_
 intro K25 hK25
 obtain ⟨t51, e56, H⟩ := bnd H
 refine d_drawP [([], [3]), ([], [3]), ([(1, 17)], []), ([(2, 18)], []), ([], [0]), ([(4, 20)], []), ([(5, 21)], []), ([(3, 19), (6, 22)], []), ([(7, 23)], [])] [fun v M => v = (ptr b (0 + (i3).toNat)), fun v M => v = (ptr b (0 + (i3).toNat)), fun v M => v = (ptr b (0 + (i3).toNat)), fun v M => v = (.int .u32 (rd (vs p i0 (IntKind.u32.wrap ((rd p.toList i0) + (rd p.toList i1)))).toList i3)), fun v M => v = (ptr b (0 + (i0).toNat)), fun v M => v = (ptr b (0 + (i0).toNat)), fun v M => v = (.int .u32 (rd (vs p i0 (IntKind.u32.wrap ((rd p.toList i0) + (rd p.toList i1)))).toList i0)), fun v M => v = (.int .u32 (bits .xor .u32 (rd (vs p i0 (IntKind.u32.wrap ((rd p.toList i0) + (rd p.toList i1)))).toList i3) (rd (vs p i0 (IntKind.u32.wrap ((rd p.toList i0) + (rd p.toList i1)))).toList i0))), fun v M => v = (.int .u32 t51)] (by kernel_rfl) (by kernel_rfl) ?_ (AllT.cons ?_ (AllT.cons ?_ (AllT.cons ?_ (AllT.cons ?_ (AllT.cons ?_ (AllT.cons ?_ (AllT.cons ?_ (AllT.cons ?_ (AllT.cons ?_ AllT.nil))))))))) ?_
 ·exact (mC (mC (mC (mC (mC (mC (mC (mC (mC MonoA.nil)))))))))
 ·intro a w' M26 l27 hd hs
  exact pv (hd.fr.add (hd.base 3 _ rfl rfl)) hs rfl (fun a w hf hs => r_move (hf.ev rfl)) rfl
 ·intro a w' M28 l29 hd hs
  exact pv (hd.fr.add (hd.base 3 _ rfl rfl)) hs rfl (fun a w hf hs => r_move (hf.ev rfl)) rfl
 ·intro a w' M30 l31 hd hs
  have e32 := hd.val 1 17 _ rfl rfl
  exact pv (hd.fr.add e32) hs rfl (fun a w hf hs => r_nilCheck (hf.ev rfl)) rfl
 ·intro a w' M33 l34 hd hs
  have e35 := hd.val 2 18 _ rfl rfl
  exact pv (hd.fr.add e35) hs rfl (fun a w hf hs => r_load1 ta70 (hf.ev rfl) (hs.blk (i := 0) rfl) (vI_get0 h30 h31)) rfl
 ·intro a w' M36 l37 hd hs
  exact pv (hd.fr.add (hd.base 0 _ rfl rfl)) hs rfl (fun a w hf hs => r_move (hf.ev rfl)) rfl
 ·intro a w' M38 l39 hd hs
  have e40 := hd.val 4 20 _ rfl rfl
  exact pv (hd.fr.add e40) hs rfl (fun a w hf hs => r_nilCheck (hf.ev rfl)) rfl
 ·intro a w' M41 l42 hd hs
  have e43 := hd.val 5 21 _ rfl rfl
  exact pv (hd.fr.add e43) hs rfl (fun a w hf hs => r_load1 ta70 (hf.ev rfl) (hs.blk (i := 0) rfl) (vI_get0 h00 h01)) rfl
 ·intro a w' M44 l45 hd hs
  have e46 := hd.val 3 19 _ rfl rfl
  have e47 := hd.val 6 22 _ rfl rfl
  refine OP.ofW (l := [(19, (.int .u32 (rd (vs p i0 (IntKind.u32.wrap ((rd p.toList i0) + (rd p.toList i1)))).toList i3))), (22, (.int .u32 (rd (vs p i0 (IntKind.u32.wrap ((rd p.toList i0) + (rd p.toList i1)))).toList i0)))]) ((hd.fr.add e47).add e46) hs rfl ?_
  refine wv rfl (fun a w hf hs => r_xor (hf.ev rfl) (hf.ev rfl)) ?_
  exact w_nil fun a w' hf hs => ⟨rfl, hf.df, _, (HLe.refl _), hs, hf.get _ _ rfl⟩
 ·intro a w' M48 l49 hd hs
  have e50 := hd.val 7 23 _ rfl rfl
  refine OP.ofW (l := [(23, (.int .u32 (bits .xor .u32 (rd (vs p i0 (IntKind.u32.wrap ((rd p.toList i0) + (rd p.toList i1)))).toList i3) (rd (vs p i0 (IntKind.u32.wrap ((rd p.toList i0) + (rd p.toList i1)))).toList i0))))]) (hd.fr.add e50) hs rfl ?_
  refine w_call cf139 trivial rfl rfl (fun w hs => bits_RotateLeft32.calls hs (bits .xor .u32 (rd (vs p i0 (IntKind.u32.wrap ((rd p.toList i0) + (rd p.toList i1)))).toList i3) (rd (vs p i0 (IntKind.u32.wrap ((rd p.toList i0) + (rd p.toList i1)))).toList i0)) (16 : Int) _ e56) ?_
  rintro _ M53 l54 rfl
  exact w_nil fun a w' hf hs => ⟨rfl, hf.df, _, l54, hs, hf.get _ _ rfl⟩
 intro a w' M57 l58 hdf hsz hb hv hs
 have e59 := hv 0 16 _ rfl rfl
 have e60 := hv 8 24 _ rfl rfl
 refine n_of (c := (Cx.mk Tryd.prog 80 X M w)) (l := [(0, (ptr b (0 + (i0).toNat))), (1, (ptr b (0 + (i1).toNat))), (2, (ptr b (0 + (i2).toNat))), (3, (ptr b (0 + (i3).toNat))), (16, (ptr b (0 + (i3).toNat))), (24, (.int .u32 t51))]) ?_ (((((((Fr.start hdf hsz).add e60).add e59).add (hb 3 _ rfl rfl)).add (hb 2 _ rfl rfl)).add (hb 1 _ rfl rfl)).add (hb 0 _ rfl rfl)) hs
 clear hdf hsz hb hv hs e59 e60
 refine n_id (hK25 _ _ _ ?_)
 refine wv rfl (fun a w hf hs => r_nilCheck (hf.ev rfl)) ?_
 refine w_store (i := 0) (vs := [(.int .u32 t51)]) (A' := vI .u32 (vs (vs p i0 (IntKind.u32.wrap ((rd p.toList i0) + (rd p.toList i1)))) i3 t51)) trivial rfl rfl rfl rfl ts70 rfl (one1 rfl) (idx_le h30 h31 (vI_len _) (by decide)) (vI_set0 h30 h31) ?_
 refine w_nil (hK24 _ _ _ ?_)
 refine c_seq fun K61 hK61 => ?_
 refine c_split2 6 (by kernel_rfl) (by kernel_rfl) (by kernel_rfl) (by kernel_rfl) rfl ?_
 intro K62 hK62
 refine d_drawP [([], [2]), ([(0, 26)], []), ([(1, 27)], []), ([], [3]), ([(3, 29)], []), ([(4, 30)], [])] [fun v M => v = (ptr b (0 + (i2).toNat)), fun v M => v = (ptr b (0 + (i2).toNat)), fun v M => v = (.int .u32 (rd (vs (vs p i0 (IntKind.u32.wrap ((rd p.toList i0) + (rd p.toList i1)))) i3 t51).toList i2)), fun v M => v = (ptr b (0 + (i3).toNat)), fun v M => v = (ptr b (0 + (i3).toNat)), fun v M => v = (.int .u32 (rd (vs (vs p i0 (IntKind.u32.wrap ((rd p.toList i0) + (rd p.toList i1)))) i3 t51).toList i3))] (by kernel_rfl) (by kernel_rfl) ?_ (AllT.cons ?_ (AllT.cons ?_ (AllT.cons ?_ (AllT.cons ?_ (AllT.cons ?_ (AllT.cons ?_ AllT.nil)))))) ?_
 ·exact (mC (mC (mC (mC (mC (mC MonoA.nil))))))
 ·intro a w' M63 l64 hd hs
  exact pv (hd.fr.add (hd.base 2 _ rfl rfl)) hs rfl (fun a w hf hs => r_move (hf.ev rfl)) rfl
 ·intro a w' M65 l66 hd hs
  have e67 := hd.val 0 26 _ rfl rfl
  exact pv (hd.fr.add e67) hs rfl (fun a w hf hs => r_nilCheck (hf.ev rfl)) rfl
 ·intro a w' M68 l69 hd hs
  have e70 := hd.val 1 27 _ rfl rfl
  exact pv (hd.fr.add e70) hs rfl (fun a w hf hs => r_load1 ta70 (hf.ev rfl) (hs.blk (i := 0) rfl) (vI_get0 h20 h21)) rfl
 ·intro a w' M71 l72 hd hs
  exact pv (hd.fr.add (hd.base 3 _ rfl rfl)) hs rfl (fun a w hf hs => r_move (hf.ev rfl)) rfl
 ·intro a w' M73 l74 hd hs
  have e75 := hd.val 3 29 _ rfl rfl
  exact pv (hd.fr.add e75) hs rfl (fun a w hf hs => r_nilCheck (hf.ev rfl)) rfl
 ·intro a w' M76 l77 hd hs
  have e78 := hd.val 4 30 _ rfl rfl
  exact pv (hd.fr.add e78) hs rfl (fun a w hf hs => r_load1 ta70 (hf.ev rfl) (hs.blk (i := 0) rfl) (vI_get0 h30 h31)) rfl
 intro a w' M79 l80 hdf hsz hb hv hs
 have e81 := hv 0 26 _ rfl rfl
 have e82 := hv 2 28 _ rfl rfl
 have e83 := hv 5 31 _ rfl rfl
 refine n_of (c := (Cx.mk Tryd.prog 80 X M w)) (l := [(0, (ptr b (0 + (i0).toNat))), (1, (ptr b (0 + (i1).toNat))), (2, (ptr b (0 + (i2).toNat))), (3, (ptr b (0 + (i3).toNat))), (26, (ptr b (0 + (i2).toNat))), (28, (.int .u32 (rd (vs (vs p i0 (IntKind.u32.wrap ((rd p.toList i0) + (rd p.toList i1)))) i3 t51).toList i2))), (31, (.int .u32 (rd (vs (vs p i0 (IntKind.u32.wrap ((rd p.toList i0) + (rd p.toList i1)))) i3 t51).toList i3)))]) ?_ ((((((((Fr.start hdf hsz).add e83).add e82).add e81).add (hb 3 _ rfl rfl)).add (hb 2 _ rfl rfl)).add (hb 1 _ rfl rfl)).add (hb 0 _ rfl rfl)) hs
 clear hdf hsz hb hv hs e81 e82 e83
 refine n_id (hK62 _ _ _ ?_)
 refine v_add rfl rfl rfl ?_
 refine wv rfl (fun a w hf hs => r_nilCheck (hf.ev rfl)) ?_
 obtain ⟨z84, e85, H⟩ := bnd H
 have e86 := some_r e85
 refine w_store (i := 0) (vs := [(.int .u32 (IntKind.u32.wrap ((rd (vs (vs p i0 (IntKind.u32.wrap ((rd p.toList i0) + (rd p.toList i1)))) i3 t51).toList i2) + (rd (vs (vs p i0 (IntKind.u32.wrap ((rd p.toList i0) + (rd p.toList i1)))) i3 t51).toList i3))))]) (A' := vI .u32 z84) trivial rfl rfl rfl rfl ts70 rfl (one1 rfl) (idx_le h20 h21 (vI_len _) (by decide)) (by rw [← e86]; exact (vI_set0 h20 h21)) ?_
 clear e85 e86
 refine w_nil (hK61 _ _ _ ?_)
 refine c_seq fun K87 hK87 => ?_
 refine c_split2 9 (by kernel_rfl) (by kernel_rfl) (by kernel_rfl) (by kernel_rfl) rfl ?_
 intro K88 hK88
 obtain ⟨t114, e119, H⟩ := bnd H
 refine d_drawP [([], [1]), ([], [1]), ([(1, 35)], []), ([(2, 36)], []), ([], [2]), ([(4, 38)], []), ([(5, 39)], []), ([(3, 37), (6, 40)], []), ([(7, 41)], [])] [fun v M => v = (ptr b (0 + (i1).toNat)), fun v M => v = (ptr b (0 + (i1).toNat)), fun v M => v = (ptr b (0 + (i1).toNat)), fun v M => v = (.int .u32 (rd z84.toList i1)), fun v M => v = (ptr b (0 + (i2).toNat)), fun v M => v = (ptr b (0 + (i2).toNat)), fun v M => v = (.int .u32 (rd z84.toList i2)), fun v M => v = (.int .u32 (bits .xor .u32 (rd z84.toList i1) (rd z84.toList i2))), fun v M => v = (.int .u32 t114)] (by kernel_rfl) (by kernel_rfl) ?_ (AllT.cons ?_ (AllT.cons ?_ (AllT.cons ?_ (AllT.cons ?_ (AllT.cons ?_ (AllT.cons ?_ (AllT.cons ?_ (AllT.cons ?_ (AllT.cons ?_ AllT.nil))))))))) ?_
 ·exact (mC (mC (mC (mC (mC (mC (mC (mC (mC MonoA.nil)))))))))
 ·intro a w' M89 l90 hd hs
  exact pv (hd.fr.add (hd.base 1 _ rfl rfl)) hs rfl (fun a w hf hs => r_move (hf.ev rfl)) rfl
 ·intro a w' M91 l92 hd hs
  exact pv (hd.fr.add (hd.base 1 _ rfl rfl)) hs rfl (fun a w hf hs => r_move (hf.ev rfl)) rfl
 ·intro a w' M93 l94 hd hs
  have e95 := hd.val 1 35 _ rfl rfl
  exact pv (hd.fr.add e95) hs rfl (fun a w hf hs => r_nilCheck (hf.ev rfl)) rfl
 ·intro a w' M96 l97 hd hs
  have e98 := hd.val 2 36 _ rfl rfl
  exact pv (hd.fr.add e98) hs rfl (fun a w hf hs => r_load1 ta70 (hf.ev rfl) (hs.blk (i := 0) rfl) (vI_get0 h10 h11)) rfl
 ·intro a w' M99 l100 hd hs
  exact pv (hd.fr.add (hd.base 2 _ rfl rfl)) hs rfl (fun a w hf hs => r_move (hf.ev rfl)) rfl
 ·intro a w' M101 l102 hd hs
  have e103 := hd.val 4 38 _ rfl rfl
  exact pv (hd.fr.add e103) hs rfl (fun a w hf hs => r_nilCheck (hf.ev rfl)) rfl
 ·intro a w' M104 l105 hd hs
  have e106 := hd.val 5 39 _ rfl rfl
  exact pv (hd.fr.add e106) hs rfl (fun a w hf hs => r_load1 ta70 (hf.ev rfl) (hs.blk (i := 0) rfl) (vI_get0 h20 h21)) rfl
 ·intro a w' M107 l108 hd hs
  have e109 := hd.val 3 37 _ rfl rfl
  have e110 := hd.val 6 40 _ rfl rfl
  refine OP.ofW (l := [(37, (.int .u32 (rd z84.toList i1))), (40, (.int .u32 (rd z84.toList i2)))]) ((hd.fr.add e110).add e109) hs rfl ?_
  refine wv rfl (fun a w hf hs => r_xor (hf.ev rfl) (hf.ev rfl)) ?_
  exact w_nil fun a w' hf hs => ⟨rfl, hf.df, _, (HLe.refl _), hs, hf.get _ _ rfl⟩
 ·intro a w' M111 l112 hd hs
  have e113 := hd.val 7 41 _ rfl rfl
  refine OP.ofW (l := [(41, (.int .u32 (bits .xor .u32 (rd z84.toList i1) (rd z84.toList i2))))]) (hd.fr.add e113) hs rfl ?_
  refine w_call cf139 trivial rfl rfl (fun w hs => bits_RotateLeft32.calls hs (bits .xor .u32 (rd z84.toList i1) (rd z84.toList i2)) (12 : Int) _ e119) ?_
  rintro _ M116 l117 rfl
  exact w_nil fun a w' hf hs => ⟨rfl, hf.df, _, l117, hs, hf.get _ _ rfl⟩
 intro a w' M120 l121 hdf hsz hb hv hs
 have e122 := hv 0 34 _ rfl rfl
 have e123 := hv 8 42 _ rfl rfl
 refine n_of (c := (Cx.mk Tryd.prog 80 X M w)) (l := [(0, (ptr b (0 + (i0).toNat))), (1, (ptr b (0 + (i1).toNat))), (2, (ptr b (0 + (i2).toNat))), (3, (ptr b (0 + (i3).toNat))), (34, (ptr b (0 + (i1).toNat))), (42, (.int .u32 t114))]) ?_ (((((((Fr.start hdf hsz).add e123).add e122).add (hb 3 _ rfl rfl)).add (hb 2 _ rfl rfl)).add (hb 1 _ rfl rfl)).add (hb 0 _ rfl rfl)) hs
 clear hdf hsz hb hv hs e122 e123
 refine n_id (hK88 _ _ _ ?_)
 refine wv rfl (fun a w hf hs => r_nilCheck (hf.ev rfl)) ?_
 refine w_store (i := 0) (vs := [(.int .u32 t114)]) (A' := vI .u32 (vs z84 i1 t114)) trivial rfl rfl rfl rfl ts70 rfl (one1 rfl) (idx_le h10 h11 (vI_len _) (by decide)) (vI_set0 h10 h11) ?_
 refine w_nil (hK87 _ _ _ ?_)
 refine c_seq fun K124 hK124 => ?_
 refine c_split2 6 (by kernel_rfl) (by kernel_rfl) (by kernel_rfl) (by kernel_rfl) rfl ?_
 intro K125 hK125
 refine d_drawP [([], [0]), ([(0, 44)], []), ([(1, 45)], []), ([], [1]), ([(3, 47)], []), ([(4, 48)], [])] [fun v M => v = (ptr b (0 + (i0).toNat)), fun v M => v = (ptr b (0 + (i0).toNat)), fun v M => v = (.int .u32 (rd (vs z84 i1 t114).toList i0)), fun v M => v = (ptr b (0 + (i1).toNat)), fun v M => v = (ptr b (0 + (i1).toNat)), fun v M => v = (.int .u32 (rd (vs z84 i1 t114).toList i1))] (by kernel_rfl) (by kernel_rfl) ?_ (AllT.cons ?_ (AllT.cons ?_ (AllT.cons ?_ (AllT.cons ?_ (AllT.cons ?_ (AllT.cons ?_ AllT.nil)))))) ?_
 ·exact (mC (mC (mC (mC (mC (mC MonoA.nil))))))
 ·intro a w' M126 l127 hd hs
  exact pv (hd.fr.add (hd.base 0 _ rfl rfl)) hs rfl (fun a w hf hs => r_move (hf.ev rfl)) rfl
 ·intro a w' M128 l129 hd hs
  have e130 := hd.val 0 44 _ rfl rfl
  exact pv (hd.fr.add e130) hs rfl (fun a w hf hs => r_nilCheck (hf.ev rfl)) rfl
 ·intro a w' M131 l132 hd hs
  have e133 := hd.val 1 45 _ rfl rfl
  exact pv (hd.fr.add e133) hs rfl (fun a w hf hs => r_load1 ta70 (hf.ev rfl) (hs.blk (i := 0) rfl) (vI_get0 h00 h01)) rfl
 ·intro a w' M134 l135 hd hs
  exact pv (hd.fr.add (hd.base 1 _ rfl rfl)) hs rfl (fun a w hf hs => r_move (hf.ev rfl)) rfl
 ·intro a w' M136 l137 hd hs
  have e138 := hd.val 3 47 _ rfl rfl
  exact pv (hd.fr.add e138) hs rfl (fun a w hf hs => r_nilCheck (hf.ev rfl)) rfl
 ·intro a w' M139 l140 hd hs
  have e141 := hd.val 4 48 _ rfl rfl
  exact pv (hd.fr.add e141) hs rfl (fun a w hf hs => r_load1 ta70 (hf.ev rfl) (hs.blk (i := 0) rfl) (vI_get0 h10 h11)) rfl
 intro a w' M142 l143 hdf hsz hb hv hs
 have e144 := hv 0 44 _ rfl rfl
 have e145 := hv 2 46 _ rfl rfl
 have e146 := hv 5 49 _ rfl rfl
 refine n_of (c := (Cx.mk Tryd.prog 80 X M w)) (l := [(0, (ptr b (0 + (i0).toNat))), (1, (ptr b (0 + (i1).toNat))), (2, (ptr b (0 + (i2).toNat))), (3, (ptr b (0 + (i3).toNat))), (44, (ptr b (0 + (i0).toNat))), (46, (.int .u32 (rd (vs z84 i1 t114).toList i0))), (49, (.int .u32 (rd (vs z84 i1 t114).toList i1)))]) ?_ ((((((((Fr.start hdf hsz).add e146).add e145).add e144).add (hb 3 _ rfl rfl)).add (hb 2 _ rfl rfl)).add (hb 1 _ rfl rfl)).add (hb 0 _ rfl rfl)) hs
 clear hdf hsz hb hv hs e144 e145 e146
 refine n_id (hK125 _ _ _ ?_)
 refine v_add rfl rfl rfl ?_
 refine wv rfl (fun a w hf hs => r_nilCheck (hf.ev rfl)) ?_
 refine w_store (i := 0) (vs := [(.int .u32 (IntKind.u32.wrap ((rd (vs z84 i1 t114).toList i0) + (rd (vs z84 i1 t114).toList i1))))]) (A' := vI .u32 (vs (vs z84 i1 t114) i0 (IntKind.u32.wrap ((rd (vs z84 i1 t114).toList i0) + (rd (vs z84 i1 t114).toList i1))))) trivial rfl rfl rfl rfl ts70 rfl (one1 rfl) (idx_le h00 h01 (vI_len _) (by decide)) (vI_set0 h00 h01) ?_
 refine w_nil (hK124 _ _ _ ?_)
 refine c_seq fun K147 hK147 => ?_
 refine c_split2 9 (by kernel_rfl) (by kernel_rfl) (by kernel_rfl) (by kernel_rfl) rfl ?_
 intro K148 hK148
 obtain ⟨t174, e179, H⟩ := bnd H
 refine d_drawP [([], [3]), ([], [3]), ([(1, 53)], []), ([(2, 54)], []), ([], [0]), ([(4, 56)], []), ([(5, 57)], []), ([(3, 55), (6, 58)], []), ([(7, 59)], [])] [fun v M => v = (ptr b (0 + (i3).toNat)), fun v M => v = (ptr b (0 + (i3).toNat)), fun v M => v = (ptr b (0 + (i3).toNat)), fun v M => v = (.int .u32 (rd (vs (vs z84 i1 t114) i0 (IntKind.u32.wrap ((rd (vs z84 i1 t114).toList i0) + (rd (vs z84 i1 t114).toList i1)))).toList i3)), fun v M => v = (ptr b (0 + (i0).toNat)), fun v M => v = (ptr b (0 + (i0).toNat)), fun v M => v = (.int .u32 (rd (vs (vs z84 i1 t114) i0 (IntKind.u32.wrap ((rd (vs z84 i1 t114).toList i0) + (rd (vs z84 i1 t114).toList i1)))).toList i0)), fun v M => v = (.int .u32 (bits .xor .u32 (rd (vs (vs z84 i1 t114) i0 (IntKind.u32.wrap ((rd (vs z84 i1 t114).toList i0) + (rd (vs z84 i1 t114).toList i1)))).toList i3) (rd (vs (vs z84 i1 t114) i0 (IntKind.u32.wrap ((rd (vs z84 i1 t114).toList i0) + (rd (vs z84 i1 t114).toList i1)))).toList i0))), fun v M => v = (.int .u32 t174)] (by kernel_rfl) (by kernel_rfl) ?_ (AllT.cons ?_ (AllT.cons ?_ (AllT.cons ?_ (AllT.cons ?_ (AllT.cons ?_ (AllT.cons ?_ (AllT.cons ?_ (AllT.cons ?_ (AllT.cons ?_ AllT.nil))))))))) ?_
 ·exact (mC (mC (mC (mC (mC (mC (mC (mC (mC MonoA.nil)))))))))
 ·intro a w' M149 l150 hd hs
  exact pv (hd.fr.add (hd.base 3 _ rfl rfl)) hs rfl (fun a w hf hs => r_move (hf.ev rfl)) rfl
 ·intro a w' M151 l152 hd hs
  exact pv (hd.fr.add (hd.base 3 _ rfl rfl)) hs rfl (fun a w hf hs => r_move (hf.ev rfl)) rfl
 ·intro a w' M153 l154 hd hs
  have e155 := hd.val 1 53 _ rfl rfl
  exact pv (hd.fr.add e155) hs rfl (fun a w hf hs => r_nilCheck (hf.ev rfl)) rfl
 ·intro a w' M156 l157 hd hs
  have e158 := hd.val 2 54 _ rfl rfl
  exact pv (hd.fr.add e158) hs rfl (fun a w hf hs => r_load1 ta70 (hf.ev rfl) (hs.blk (i := 0) rfl) (vI_get0 h30 h31)) rfl
 ·intro a w' M159 l160 hd hs
  exact pv (hd.fr.add (hd.base 0 _ rfl rfl)) hs rfl (fun a w hf hs => r_move (hf.ev rfl)) rfl
 ·intro a w' M161 l162 hd hs
  have e163 := hd.val 4 56 _ rfl rfl
  exact pv (hd.fr.add e163) hs rfl (fun a w hf hs => r_nilCheck (hf.ev rfl)) rfl
 ·intro a w' M164 l165 hd hs
  have e166 := hd.val 5 57 _ rfl rfl
  exact pv (hd.fr.add e166) hs rfl (fun a w hf hs => r_load1 ta70 (hf.ev rfl) (hs.blk (i := 0) rfl) (vI_get0 h00 h01)) rfl
 ·intro a w' M167 l168 hd hs
  have e169 := hd.val 3 55 _ rfl rfl
  have e170 := hd.val 6 58 _ rfl rfl
  refine OP.ofW (l := [(55, (.int .u32 (rd (vs (vs z84 i1 t114) i0 (IntKind.u32.wrap ((rd (vs z84 i1 t114).toList i0) + (rd (vs z84 i1 t114).toList i1)))).toList i3))), (58, (.int .u32 (rd (vs (vs z84 i1 t114) i0 (IntKind.u32.wrap ((rd (vs z84 i1 t114).toList i0) + (rd (vs z84 i1 t114).toList i1)))).toList i0)))]) ((hd.fr.add e170).add e169) hs rfl ?_
  refine wv rfl (fun a w hf hs => r_xor (hf.ev rfl) (hf.ev rfl)) ?_
  exact w_nil fun a w' hf hs => ⟨rfl, hf.df, _, (HLe.refl _), hs, hf.get _ _ rfl⟩
 ·intro a w' M171 l172 hd hs
  have e173 := hd.val 7 59 _ rfl rfl
  refine OP.ofW (l := [(59, (.int .u32 (bits .xor .u32 (rd (vs (vs z84 i1 t114) i0 (IntKind.u32.wrap ((rd (vs z84 i1 t114).toList i0) + (rd (vs z84 i1 t114).toList i1)))).toList i3) (rd (vs (vs z84 i1 t114) i0 (IntKind.u32.wrap ((rd (vs z84 i1 t114).toList i0) + (rd (vs z84 i1 t114).toList i1)))).toList i0))))]) (hd.fr.add e173) hs rfl ?_
  refine w_call cf139 trivial rfl rfl (fun w hs => bits_RotateLeft32.calls hs (bits .xor .u32 (rd (vs (vs z84 i1 t114) i0 (IntKind.u32.wrap ((rd (vs z84 i1 t114).toList i0) + (rd (vs z84 i1 t114).toList i1)))).toList i3) (rd (vs (vs z84 i1 t114) i0 (IntKind.u32.wrap ((rd (vs z84 i1 t114).toList i0) + (rd (vs z84 i1 t114).toList i1)))).toList i0)) (8 : Int) _ e179) ?_
  rintro _ M176 l177 rfl
  exact w_nil fun a w' hf hs => ⟨rfl, hf.df, _, l177, hs, hf.get _ _ rfl⟩
 intro a w' M180 l181 hdf hsz hb hv hs
 have e182 := hv 0 52 _ rfl rfl
 have e183 := hv 8 60 _ rfl rfl
 refine n_of (c := (Cx.mk Tryd.prog 80 X M w)) (l := [(1, (ptr b (0 + (i1).toNat))), (2, (ptr b (0 + (i2).toNat))), (3, (ptr b (0 + (i3).toNat))), (52, (ptr b (0 + (i3).toNat))), (60, (.int .u32 t174))]) ?_ ((((((Fr.start hdf hsz).add e183).add e182).add (hb 3 _ rfl rfl)).add (hb 2 _ rfl rfl)).add (hb 1 _ rfl rfl)) hs
 clear hdf hsz hb hv hs e182 e183
 refine n_id (hK148 _ _ _ ?_)
 refine wv rfl (fun a w hf hs => r_nilCheck (hf.ev rfl)) ?_
 refine w_store (i := 0) (vs := [(.int .u32 t174)]) (A' := vI .u32 (vs (vs (vs z84 i1 t114) i0 (IntKind.u32.wrap ((rd (vs z84 i1 t114).toList i0) + (rd (vs z84 i1 t114).toList i1)))) i3 t174)) trivial rfl rfl rfl rfl ts70 rfl (one1 rfl) (idx_le h30 h31 (vI_len _) (by decide)) (vI_set0 h30 h31) ?_
 refine w_nil (hK147 _ _ _ ?_)
 refine c_seq fun K184 hK184 => ?_
 refine c_split2 6 (by kernel_rfl) (by kernel_rfl) (by kernel_rfl) (by kernel_rfl) rfl ?_
 intro K185 hK185
 refine d_drawP [([], [2]), ([(0, 62)], []), ([(1, 63)], []), ([], [3]), ([(3, 65)], []), ([(4, 66)], [])] [fun v M => v = (ptr b (0 + (i2).toNat)), fun v M => v = (ptr b (0 + (i2).toNat)), fun v M => v = (.int .u32 (rd (vs (vs (vs z84 i1 t114) i0 (IntKind.u32.wrap ((rd (vs z84 i1 t114).toList i0) + (rd (vs z84 i1 t114).toList i1)))) i3 t174).toList i2)), fun v M => v = (ptr b (0 + (i3).toNat)), fun v M => v = (ptr b (0 + (i3).toNat)), fun v M => v = (.int .u32 (rd (vs (vs (vs z84 i1 t114) i0 (IntKind.u32.wrap ((rd (vs z84 i1 t114).toList i0) + (rd (vs z84 i1 t114).toList i1)))) i3 t174).toList i3))] (by kernel_rfl) (by kernel_rfl) ?_ (AllT.cons ?_ (AllT.cons ?_ (AllT.cons ?_ (AllT.cons ?_ (AllT.cons ?_ (AllT.cons ?_ AllT.nil)))))) ?_
 ·exact (mC (mC (mC (mC (mC (mC MonoA.nil))))))
 ·intro a w' M186 l187 hd hs
  exact pv (hd.fr.add (hd.base 2 _ rfl rfl)) hs rfl (fun a w hf hs => r_move (hf.ev rfl)) rfl
 ·intro a w' M188 l189 hd hs
  have e190 := hd.val 0 62 _ rfl rfl
  exact pv (hd.fr.add e190) hs rfl (fun a w hf hs => r_nilCheck (hf.ev rfl)) rfl
 ·intro a w' M191 l192 hd hs
  have e193 := hd.val 1 63 _ rfl rfl
  exact pv (hd.fr.add e193) hs rfl (fun a w hf hs => r_load1 ta70 (hf.ev rfl) (hs.blk (i := 0) rfl) (vI_get0 h20 h21)) rfl
 ·intro a w' M194 l195 hd hs
  exact pv (hd.fr.add (hd.base 3 _ rfl rfl)) hs rfl (fun a w hf hs => r_move (hf.ev rfl)) rfl
 ·intro a w' M196 l197 hd hs
  have e198 := hd.val 3 65 _ rfl rfl
  exact pv (hd.fr.add e198) hs rfl (fun a w hf hs => r_nilCheck (hf.ev rfl)) rfl
 ·intro a w' M199 l200 hd hs
  have e201 := hd.val 4 66 _ rfl rfl
  exact pv (hd.fr.add e201) hs rfl (fun a w hf hs => r_load1 ta70 (hf.ev rfl) (hs.blk (i := 0) rfl) (vI_get0 h30 h31)) rfl
 intro a w' M202 l203 hdf hsz hb hv hs
 have e204 := hv 0 62 _ rfl rfl
 have e205 := hv 2 64 _ rfl rfl
 have e206 := hv 5 67 _ rfl rfl
 refine n_of (c := (Cx.mk Tryd.prog 80 X M w)) (l := [(1, (ptr b (0 + (i1).toNat))), (2, (ptr b (0 + (i2).toNat))), (62, (ptr b (0 + (i2).toNat))), (64, (.int .u32 (rd (vs (vs (vs z84 i1 t114) i0 (IntKind.u32.wrap ((rd (vs z84 i1 t114).toList i0) + (rd (vs z84 i1 t114).toList i1)))) i3 t174).toList i2))), (67, (.int .u32 (rd (vs (vs (vs z84 i1 t114) i0 (IntKind.u32.wrap ((rd (vs z84 i1 t114).toList i0) + (rd (vs z84 i1 t114).toList i1)))) i3 t174).toList i3)))]) ?_ ((((((Fr.start hdf hsz).add e206).add e205).add e204).add (hb 2 _ rfl rfl)).add (hb 1 _ rfl rfl)) hs
 clear hdf hsz hb hv hs e204 e205 e206
 refine n_id (hK185 _ _ _ ?_)
 refine v_add rfl rfl rfl ?_
 refine wv rfl (fun a w hf hs => r_nilCheck (hf.ev rfl)) ?_
 obtain ⟨z207, e208, H⟩ := bnd H
 have e209 := some_r e208
 refine w_store (i := 0) (vs := [(.int .u32 (IntKind.u32.wrap ((rd (vs (vs (vs z84 i1 t114) i0 (IntKind.u32.wrap ((rd (vs z84 i1 t114).toList i0) + (rd (vs z84 i1 t114).toList i1)))) i3 t174).toList i2) + (rd (vs (vs (vs z84 i1 t114) i0 (IntKind.u32.wrap ((rd (vs z84 i1 t114).toList i0) + (rd (vs z84 i1 t114).toList i1)))) i3 t174).toList i3))))]) (A' := vI .u32 z207) trivial rfl rfl rfl rfl ts70 rfl (one1 rfl) (idx_le h20 h21 (vI_len _) (by decide)) (by rw [← e209]; exact (vI_set0 h20 h21)) ?_
 clear e208 e209
 refine w_nil (hK184 _ _ _ ?_)
 refine c_split2 9 (by kernel_rfl) (by kernel_rfl) (by kernel_rfl) (by kernel_rfl) rfl ?_
 intro K210 hK210
 obtain ⟨t236, e241, H⟩ := bnd H
 refine d_drawP [([], [1]), ([], [1]), ([(1, 71)], []), ([(2, 72)], []), ([], [2]), ([(4, 74)], []), ([(5, 75)], []), ([(3, 73), (6, 76)], []), ([(7, 77)], [])] [fun v M => v = (ptr b (0 + (i1).toNat)), fun v M => v = (ptr b (0 + (i1).toNat)), fun v M => v = (ptr b (0 + (i1).toNat)), fun v M => v = (.int .u32 (rd z207.toList i1)), fun v M => v = (ptr b (0 + (i2).toNat)), fun v M => v = (ptr b (0 + (i2).toNat)), fun v M => v = (.int .u32 (rd z207.toList i2)), fun v M => v = (.int .u32 (bits .xor .u32 (rd z207.toList i1) (rd z207.toList i2))), fun v M => v = (.int .u32 t236)] (by kernel_rfl) (by kernel_rfl) ?_ (AllT.cons ?_ (AllT.cons ?_ (AllT.cons ?_ (AllT.cons ?_ (AllT.cons ?_ (AllT.cons ?_ (AllT.cons ?_ (AllT.cons ?_ (AllT.cons ?_ AllT.nil))))))))) ?_
 ·exact (mC (mC (mC (mC (mC (mC (mC (mC (mC MonoA.nil)))))))))
 ·intro a w' M211 l212 hd hs
  exact pv (hd.fr.add (hd.base 1 _ rfl rfl)) hs rfl (fun a w hf hs => r_move (hf.ev rfl)) rfl
 ·intro a w' M213 l214 hd hs
  exact pv (hd.fr.add (hd.base 1 _ rfl rfl)) hs rfl (fun a w hf hs => r_move (hf.ev rfl)) rfl
 ·intro a w' M215 l216 hd hs
  have e217 := hd.val 1 71 _ rfl rfl
  exact pv (hd.fr.add e217) hs rfl (fun a w hf hs => r_nilCheck (hf.ev rfl)) rfl
 ·intro a w' M218 l219 hd hs
  have e220 := hd.val 2 72 _ rfl rfl
  exact pv (hd.fr.add e220) hs rfl (fun a w hf hs => r_load1 ta70 (hf.ev rfl) (hs.blk (i := 0) rfl) (vI_get0 h10 h11)) rfl
 ·intro a w' M221 l222 hd hs
  exact pv (hd.fr.add (hd.base 2 _ rfl rfl)) hs rfl (fun a w hf hs => r_move (hf.ev rfl)) rfl
 ·intro a w' M223 l224 hd hs
  have e225 := hd.val 4 74 _ rfl rfl
  exact pv (hd.fr.add e225) hs rfl (fun a w hf hs => r_nilCheck (hf.ev rfl)) rfl
 ·intro a w' M226 l227 hd hs
  have e228 := hd.val 5 75 _ rfl rfl
  exact pv (hd.fr.add e228) hs rfl (fun a w hf hs => r_load1 ta70 (hf.ev rfl) (hs.blk (i := 0) rfl) (vI_get0 h20 h21)) rfl
 ·intro a w' M229 l230 hd hs
  have e231 := hd.val 3 73 _ rfl rfl
  have e232 := hd.val 6 76 _ rfl rfl
  refine OP.ofW (l := [(73, (.int .u32 (rd z207.toList i1))), (76, (.int .u32 (rd z207.toList i2)))]) ((hd.fr.add e232).add e231) hs rfl ?_
  refine wv rfl (fun a w hf hs => r_xor (hf.ev rfl) (hf.ev rfl)) ?_
  exact w_nil fun a w' hf hs => ⟨rfl, hf.df, _, (HLe.refl _), hs, hf.get _ _ rfl⟩
 ·intro a w' M233 l234 hd hs
  have e235 := hd.val 7 77 _ rfl rfl
  refine OP.ofW (l := [(77, (.int .u32 (bits .xor .u32 (rd z207.toList i1) (rd z207.toList i2))))]) (hd.fr.add e235) hs rfl ?_
  refine w_call cf139 trivial rfl rfl (fun w hs => bits_RotateLeft32.calls hs (bits .xor .u32 (rd z207.toList i1) (rd z207.toList i2)) (7 : Int) _ e241) ?_
  rintro _ M238 l239 rfl
  exact w_nil fun a w' hf hs => ⟨rfl, hf.df, _, l239, hs, hf.get _ _ rfl⟩
 intro a w' M242 l243 hdf hsz hb hv hs
 have e244 := hv 0 70 _ rfl rfl
 have e245 := hv 8 78 _ rfl rfl
 refine n_of (c := (Cx.mk Tryd.prog 80 X M w)) (l := [(70, (ptr b (0 + (i1).toNat))), (78, (.int .u32 t236))]) ?_ (((Fr.start hdf hsz).add e245).add e244) hs
 clear hdf hsz hb hv hs e244 e245
 refine n_id (hK210 _ _ _ ?_)
 refine wv rfl (fun a w hf hs => r_nilCheck (hf.ev rfl)) ?_
 refine w_store (i := 0) (vs := [(.int .u32 t236)]) (A' := vI .u32 (vs z207 i1 t236)) trivial rfl rfl rfl rfl ts70 rfl (one1 rfl) (idx_le h10 h11 (vI_len _) (by decide)) (vI_set0 h10 h11) ?_
 obtain rfl := some_r H
 exact w_nil fun a w' hf hs => hret _ (.inr rfl) a w' hf.df ⟨_, _, _, Res.of0 rfl, hs.sel [0] (by decide) rfl, rfl, rfl⟩
theorem cipher_Rounds.calls {M : Heap} {w : World} (hM : Sub M w) (p0 : (Vector Int 16)) (r : (Vector Int 16)) (H : cipher_Rounds p0 = some r) :
  Calls Tryd.prog 119 [(.agg (vI .u32 p0).toArray)].toArray w (Post M w fun M' v => v = (.agg (vI .u32 r).toArray)) := by
 refine enter 47 [(0, (.agg (vI .u32 p0).toArray))] Tryd.func119 rfl rfl rfl hM ?_
 intro Q hret
 unfold cipher_Rounds at H
 refine c_sr fun _ hK1 => ?_
 refine w_boxL trivial rfl rfl rfl ?_
 intro b2
 refine w_allocL (A := vI .u32 (Vector.replicate 16 (0 : Int))) tz131 trivial rfl rfl ?_
 intro b3
 refine w_nil (hK1 _ _ _ ?_)
 refine c_cut (fun a' w' => ∃ (x4 : (Vector Int 16)) (M5 : Heap), HLe M M5 ∧ Fr 47 [(1, (ptr b2 0)), (2, (ptr b3 0))] a' ∧ St none' M w M5 (lt [.blk b2 (.cells (vI .u32 x4).toArray 131 (0, 0)), .blk b3 (.cells (vI .u32 (Vector.replicate 16 (0 : Int))).toArray 131 (0, 0))]) w' ∧ cipher_Rounds.j1 x4 = some r) ?_ ?_
 ·refine c_seq ?_
  intro K8 hK8
  refine c_reg ?_
  refine v_move rfl rfl ?_
  refine w_nil (hK8 _ _ _ ?_)
  refine c_block ?_
  refine c_loop (fun (s9 : ((Vector Int 16) × Int)) a' w' => ∃ (M10 : Heap), HLe M M10 ∧ Fr 47 [(1, (ptr b2 0)), (2, (ptr b3 0)), (5, (.int .i64 s9.2))] a' ∧ St none' M w M10 (lt [.blk b2 (.cells (vI .u32 s9.1).toArray 131 (0, 0)), .blk b3 (.cells (vI .u32 (Vector.replicate 16 (0 : Int))).toArray 131 (0, 0))]) w') (p0, (0 : Int)) H ?_ ?_
  ·intro a w' hf hs
   exact ⟨_, HLe.refl _, (((hf.nil.add (hf.get _ _ rfl)).add (hf.get _ _ rfl)).add (hf.get _ _ rfl)), hs.selD [some 0, some 1] (by decide) rfl⟩
  ·clear H
   intro s9 y13 H r12 a w' hJ
   obtain ⟨M10, l11, hf, hs⟩ := hJ
   refine c_of (c := (Cx.mk Tryd.prog 47 none' M w)) ?_ hf hs
   unfold cipher_Rounds.l6 at H
   clear hf hs
   refine c_sr fun _ hK14 => ?_
   refine v_lss rfl rfl rfl ?_
   refine w_nil (hK14 _ _ _ ?_)
   refine c_seq fun K15 hK15 => ?_
   refine c_if rfl (fun b16 => ?_) (fun b16 => ?_)
   ·replace H := if_t b16 H
    refine c_skip (hK15 _ _ _ ?_)
    refine c_cut (fun a' w' => ∃ (x17 : (Vector Int 16)) (M18 : Heap), HLe M10 M18 ∧ Fr 47 [(1, (ptr b2 0)), (2, (ptr b3 0)), (5, (.int .i64 s9.2))] a' ∧ St none' M w M18 (lt [.blk b2 (.cells (vI .u32 x17).toArray 131 (0, 0)), .blk b3 (.cells (vI .u32 (Vector.replicate 16 (0 : Int))).toArray 131 (0, 0))]) w' ∧ cipher_Rounds.j2 x17 s9 = some y13) ?_ ?_
    ·refine c_block ?_
     refine c_cut (fun a' w' => ∃ (x20 : (Vector Int 16)) (M21 : Heap), HLe M10 M21 ∧ Fr 47 [(1, (ptr b2 0)), (2, (ptr b3 0)), (5, (.int .i64 s9.2))] a' ∧ St none' M w M21 (lt [.blk b2 (.cells (vI .u32 x20).toArray 131 (0, 0)), .blk b3 (.cells (vI .u32 (Vector.replicate 16 (0 : Int))).toArray 131 (0, 0))]) w' ∧ cipher_Rounds.j4 s9 x20 = some y13) ?_ ?_
     ·refine c_seq ?_
      intro K96 hK96
      refine c_reg ?_
      refine v_move rfl rfl ?_
      refine w_nil (hK96 _ _ _ ?_)
      refine c_block ?_
      refine c_loop (fun (s97 : ((Vector Int 16) × Int)) a' w' => ∃ (M98 : Heap), HLe M10 M98 ∧ Fr 47 [(1, (ptr b2 0)), (2, (ptr b3 0)), (5, (.int .i64 s9.2)), (7, (.int .i64 s97.2))] a' ∧ St none' M w M98 (lt [.blk b2 (.cells (vI .u32 s97.1).toArray 131 (0, 0)), .blk b3 (.cells (vI .u32 (Vector.replicate 16 (0 : Int))).toArray 131 (0, 0))]) w') (s9.1, (0 : Int)) H ?_ ?_
      ·intro a w' hf hs
       exact ⟨_, HLe.refl _, ((((hf.nil.add (hf.get _ _ rfl)).add (hf.get _ _ rfl)).add (hf.get _ _ rfl)).add (hf.get _ _ rfl)), hs.selD [some 0, some 1] (by decide) rfl⟩
      ·clear H
       intro s97 y101 H r100 a w' hJ
       obtain ⟨M98, l99, hf, hs⟩ := hJ
       refine c_of (c := (Cx.mk Tryd.prog 47 none' M w)) ?_ hf hs
       unfold cipher_Rounds.l5 at H
       clear hf hs
       refine c_sr fun _ hK102 => ?_
       refine v_lss rfl rfl rfl ?_
       refine w_nil (hK102 _ _ _ ?_)
       refine c_seq fun K103 hK103 => ?_
       refine c_if rfl (fun b104 => ?_) (fun b104 => ?_)
       ·replace H := if_t b104 H
        refine c_skip (hK103 _ _ _ ?_)
        refine c_seq fun K105 hK105 => ?_
        refine c_block ?_
        refine c_sr fun _ hK106 => ?_
        refine v_move rfl rfl ?_
        refine v_assign rfl rfl ?_
        refine w_nil (hK106 _ _ _ ?_)
        refine c_split2 11 (by kernel_rfl) (by kernel_rfl) (by kernel_rfl) (by kernel_rfl) rfl ?_
        intro K107 hK107
        obtain ⟨g113, H⟩ := grd_s H
        obtain ⟨g122, H⟩ := grd_s H
        obtain ⟨g131, H⟩ := grd_s H
        obtain ⟨g140, H⟩ := grd_s H
        refine d_drawP [([], [3]), ([(0, 10)], [1]), ([], [3]), ([(2, 12)], []), ([(3, 13)], [1]), ([], [3]), ([(5, 15)], []), ([(6, 16)], [1]), ([], [3]), ([(8, 18)], []), ([(9, 19)], [1])] [fun v M => v = (.int .i64 s97.2), fun v M => v = (ptr b2 (0 + (s97.2).toNat)), fun v M => v = (.int .i64 s97.2), fun v M => v = (.int .i64 (IntKind.i64.wrap ((4 : Int) + s97.2))), fun v M => v = (ptr b2 (0 + ((IntKind.i64.wrap ((4 : Int) + s97.2))).toNat)), fun v M => v = (.int .i64 s97.2), fun v M => v = (.int .i64 (IntKind.i64.wrap ((8 : Int) + s97.2))), fun v M => v = (ptr b2 (0 + ((IntKind.i64.wrap ((8 : Int) + s97.2))).toNat)), fun v M => v = (.int .i64 s97.2), fun v M => v = (.int .i64 (IntKind.i64.wrap ((12 : Int) + s97.2))), fun v M => v = (ptr b2 (0 + ((IntKind.i64.wrap ((12 : Int) + s97.2))).toNat))] (by kernel_rfl) (by kernel_rfl) ?_ (AllT.cons ?_ (AllT.cons ?_ (AllT.cons ?_ (AllT.cons ?_ (AllT.cons ?_ (AllT.cons ?_ (AllT.cons ?_ (AllT.cons ?_ (AllT.cons ?_ (AllT.cons ?_ (AllT.cons ?_ AllT.nil))))))))))) ?_
        ·exact (mC (mC (mC (mC (mC (mC (mC (mC (mC (mC (mC MonoA.nil)))))))))))
        ·intro a w' M108 l109 hd hs
         exact pv (hd.fr.add (hd.base 3 _ rfl rfl)) hs rfl (fun a w hf hs => r_move (hf.ev rfl)) rfl
        ·intro a w' M110 l111 hd hs
         have e112 := hd.val 0 10 _ rfl rfl
         refine OP.ofW (l := [(1, (ptr b2 0)), (10, (.int .i64 s97.2))]) ((hd.fr.add e112).add (hd.base 1 _ rfl rfl)) hs rfl ?_
         refine wv rfl (fun a w hf hs => r_iaI Tryd.underlying131 ts70 (hf.ev rfl) (hf.ev rfl) g113.1 g113.2) ?_
         exact w_nil fun a w' hf hs => ⟨rfl, hf.df, _, (HLe.refl _), hs, hf.get _ _ rfl⟩
        ·intro a w' M114 l115 hd hs
         exact pv (hd.fr.add (hd.base 3 _ rfl rfl)) hs rfl (fun a w hf hs => r_move (hf.ev rfl)) rfl
        ·intro a w' M116 l117 hd hs
         have e118 := hd.val 2 12 _ rfl rfl
         exact pv (hd.fr.add e118) hs rfl (fun a w hf hs => r_add (hf.ev rfl) (hf.ev rfl)) rfl
        ·intro a w' M119 l120 hd hs
         have e121 := hd.val 3 13 _ rfl rfl
         refine OP.ofW (l := [(1, (ptr b2 0)), (13, (.int .i64 (IntKind.i64.wrap ((4 : Int) + s97.2))))]) ((hd.fr.add e121).add (hd.base 1 _ rfl rfl)) hs rfl ?_
         refine wv rfl (fun a w hf hs => r_iaI Tryd.underlying131 ts70 (hf.ev rfl) (hf.ev rfl) g122.1 g122.2) ?_
         exact w_nil fun a w' hf hs => ⟨rfl, hf.df, _, (HLe.refl _), hs, hf.get _ _ rfl⟩
        ·intro a w' M123 l124 hd hs
         exact pv (hd.fr.add (hd.base 3 _ rfl rfl)) hs rfl (fun a w hf hs => r_move (hf.ev rfl)) rfl
        ·intro a w' M125 l126 hd hs
         have e127 := hd.val 5 15 _ rfl rfl
         exact pv (hd.fr.add e127) hs rfl (fun a w hf hs => r_add (hf.ev rfl) (hf.ev rfl)) rfl
        ·intro a w' M128 l129 hd hs
         have e130 := hd.val 6 16 _ rfl rfl
         refine OP.ofW (l := [(1, (ptr b2 0)), (16, (.int .i64 (IntKind.i64.wrap ((8 : Int) + s97.2))))]) ((hd.fr.add e130).add (hd.base 1 _ rfl rfl)) hs rfl ?_
         refine wv rfl (fun a w hf hs => r_iaI Tryd.underlying131 ts70 (hf.ev rfl) (hf.ev rfl) g131.1 g131.2) ?_
         exact w_nil fun a w' hf hs => ⟨rfl, hf.df, _, (HLe.refl _), hs, hf.get _ _ rfl⟩
        ·intro a w' M132 l133 hd hs
         exact pv (hd.fr.add (hd.base 3 _ rfl rfl)) hs rfl (fun a w hf hs => r_move (hf.ev rfl)) rfl
        ·intro a w' M134 l135 hd hs
         have e136 := hd.val 8 18 _ rfl rfl
         exact pv (hd.fr.add e136) hs rfl (fun a w hf hs => r_add (hf.ev rfl) (hf.ev rfl)) rfl
        ·intro a w' M137 l138 hd hs
         have e139 := hd.val 9 19 _ rfl rfl
         refine OP.ofW (l := [(1, (ptr b2 0)), (19, (.int .i64 (IntKind.i64.wrap ((12 : Int) + s97.2))))]) ((hd.fr.add e139).add (hd.base 1 _ rfl rfl)) hs rfl ?_
         refine wv rfl (fun a w hf hs => r_iaI Tryd.underlying131 ts70 (hf.ev rfl) (hf.ev rfl) g140.1 g140.2) ?_
         exact w_nil fun a w' hf hs => ⟨rfl, hf.df, _, (HLe.refl _), hs, hf.get _ _ rfl⟩
        intro a w' M141 l142 hdf hsz hb hv hs
        have e143 := hv 1 11 _ rfl rfl
        have e144 := hv 4 14 _ rfl rfl
        have e145 := hv 7 17 _ rfl rfl
        have e146 := hv 10 20 _ rfl rfl
        refine n_of (c := (Cx.mk Tryd.prog 47 none' M w)) (l := [(1, (ptr b2 0)), (2, (ptr b3 0)), (5, (.int .i64 s9.2)), (7, (.int .i64 s97.2)), (11, (ptr b2 (0 + (s97.2).toNat))), (14, (ptr b2 (0 + ((IntKind.i64.wrap ((4 : Int) + s97.2))).toNat))), (17, (ptr b2 (0 + ((IntKind.i64.wrap ((8 : Int) + s97.2))).toNat))), (20, (ptr b2 (0 + ((IntKind.i64.wrap ((12 : Int) + s97.2))).toNat)))]) ?_ (((((((((Fr.start hdf hsz).add e146).add e145).add e144).add e143).add (hb 7 _ rfl rfl)).add (hb 5 _ rfl rfl)).add (hb 2 _ rfl rfl)).add (hb 1 _ rfl rfl)) hs
        clear hdf hsz hb hv hs e143 e144 e145 e146
        refine n_id (hK107 _ _ _ ?_)
        obtain ⟨t147, e148, H⟩ := bnd H
        refine w_callI 0 cf134 trivial rfl rfl rfl (fun X' w hs => cipher_quarter.calls hs g113.1 g113.2 g122.1 g122.2 g131.1 g131.2 g140.1 g140.2 _ e148) ?_
        rintro _ M149 _ l150 ⟨rfl, rfl⟩
        refine w_nil (hK105 _ _ _ ?_)
        refine c_reg ?_
        refine v_add rfl rfl rfl ?_
        refine v_move rfl rfl ?_
        exact w_nil fun a w' hf hs => ⟨_, (some_r H).symm, _, l99.trans (l142.trans l150), ((((hf.nil.add (hf.get _ _ rfl)).add (hf.get _ _ rfl)).add (hf.get _ _ rfl)).add (hf.get _ _ rfl)), hs.selD [some 0, some 1] (by decide) rfl⟩
       ·replace H := if_f b104 H
        replace H := map_inr H r100
        refine c_exit ?_
        intro a w' hf hs
        exact ⟨s97.1, _, l99, (((hf.nil.add (hf.get _ _ rfl)).add (hf.get _ _ rfl)).add (hf.get _ _ rfl)), hs.selD [some 0, some 1] (by decide) rfl, H⟩
     ·rintro a w' ⟨x20, M21, l22, hf, hs, H⟩
      refine c_of (c := (Cx.mk Tryd.prog 47 none' M w)) ?_ hf hs
      unfold cipher_Rounds.j4 at H
      clear hf hs
      refine c_sr fun _ hK23 => ?_
      refine v_move rfl rfl ?_
      refine w_nil (hK23 _ _ _ ?_)
      refine c_block ?_
      refine c_loop (fun (s24 : ((Vector Int 16) × Int)) a' w' => ∃ (M25 : Heap), HLe M21 M25 ∧ Fr 47 [(1, (ptr b2 0)), (2, (ptr b3 0)), (5, (.int .i64 s9.2)), (23, (.int .i64 s24.2))] a' ∧ St none' M w M25 (lt [.blk b2 (.cells (vI .u32 s24.1).toArray 131 (0, 0)), .blk b3 (.cells (vI .u32 (Vector.replicate 16 (0 : Int))).toArray 131 (0, 0))]) w') (x20, (0 : Int)) H ?_ ?_
      ·intro a w' hf hs
       exact ⟨_, HLe.refl _, ((((hf.nil.add (hf.get _ _ rfl)).add (hf.get _ _ rfl)).add (hf.get _ _ rfl)).add (hf.get _ _ rfl)), hs.selD [some 0, some 1] (by decide) rfl⟩
      ·clear H
       intro s24 y28 H r27 a w' hJ
       obtain ⟨M25, l26, hf, hs⟩ := hJ
       refine c_of (c := (Cx.mk Tryd.prog 47 none' M w)) ?_ hf hs
       unfold cipher_Rounds.l3 at H
       clear hf hs
       refine c_sr fun _ hK29 => ?_
       refine v_lss rfl rfl rfl ?_
       refine w_nil (hK29 _ _ _ ?_)
       refine c_seq fun K30 hK30 => ?_
       refine c_if rfl (fun b31 => ?_) (fun b31 => ?_)
       ·replace H := if_t b31 H
        refine c_skip (hK30 _ _ _ ?_)
        refine c_seq fun K32 hK32 => ?_
        refine c_block ?_
        refine c_sr fun _ hK33 => ?_
        refine v_move rfl rfl ?_
        refine v_assign rfl rfl ?_
        refine w_nil (hK33 _ _ _ ?_)
        refine c_split2 17 (by kernel_rfl) (by kernel_rfl) (by kernel_rfl) (by kernel_rfl) rfl ?_
        intro K34 hK34
        obtain ⟨g40, H⟩ := grd_s H
        obtain ⟨g55, H⟩ := grd_s H
        obtain ⟨g70, H⟩ := grd_s H
        obtain ⟨g85, H⟩ := grd_s H
        refine d_drawP [([], [4]), ([(0, 26)], [1]), ([], [4]), ([(2, 28)], []), ([(3, 29)], []), ([(4, 30)], []), ([(5, 31)], [1]), ([], [4]), ([(7, 33)], []), ([(8, 34)], []), ([(9, 35)], []), ([(10, 36)], [1]), ([], [4]), ([(12, 38)], []), ([(13, 39)], []), ([(14, 40)], []), ([(15, 41)], [1])] [fun v M => v = (.int .i64 s24.2), fun v M => v = (ptr b2 (0 + (s24.2).toNat)), fun v M => v = (.int .i64 s24.2), fun v M => v = (.int .i64 (IntKind.i64.wrap (s24.2 + (1 : Int)))), fun v M => v = (.int .i64 (Int.tmod (IntKind.i64.wrap (s24.2 + (1 : Int))) (4 : Int))), fun v M => v = (.int .i64 (IntKind.i64.wrap ((4 : Int) + (Int.tmod (IntKind.i64.wrap (s24.2 + (1 : Int))) (4 : Int))))), fun v M => v = (ptr b2 (0 + ((IntKind.i64.wrap ((4 : Int) + (Int.tmod (IntKind.i64.wrap (s24.2 + (1 : Int))) (4 : Int))))).toNat)), fun v M => v = (.int .i64 s24.2), fun v M => v = (.int .i64 (IntKind.i64.wrap (s24.2 + (2 : Int)))), fun v M => v = (.int .i64 (Int.tmod (IntKind.i64.wrap (s24.2 + (2 : Int))) (4 : Int))), fun v M => v = (.int .i64 (IntKind.i64.wrap ((8 : Int) + (Int.tmod (IntKind.i64.wrap (s24.2 + (2 : Int))) (4 : Int))))), fun v M => v = (ptr b2 (0 + ((IntKind.i64.wrap ((8 : Int) + (Int.tmod (IntKind.i64.wrap (s24.2 + (2 : Int))) (4 : Int))))).toNat)), fun v M => v = (.int .i64 s24.2), fun v M => v = (.int .i64 (IntKind.i64.wrap (s24.2 + (3 : Int)))), fun v M => v = (.int .i64 (Int.tmod (IntKind.i64.wrap (s24.2 + (3 : Int))) (4 : Int))), fun v M => v = (.int .i64 (IntKind.i64.wrap ((12 : Int) + (Int.tmod (IntKind.i64.wrap (s24.2 + (3 : Int))) (4 : Int))))), fun v M => v = (ptr b2 (0 + ((IntKind.i64.wrap ((12 : Int) + (Int.tmod (IntKind.i64.wrap (s24.2 + (3 : Int))) (4 : Int))))).toNat))] (by kernel_rfl) (by kernel_rfl) ?_ (AllT.cons ?_ (AllT.cons ?_ (AllT.cons ?_ (AllT.cons ?_ (AllT.cons ?_ (AllT.cons ?_ (AllT.cons ?_ (AllT.cons ?_ (AllT.cons ?_ (AllT.cons ?_ (AllT.cons ?_ (AllT.cons ?_ (AllT.cons ?_ (AllT.cons ?_ (AllT.cons ?_ (AllT.cons ?_ (AllT.cons ?_ AllT.nil))))))))))))))))) ?_
        ·exact (mC (mC (mC (mC (mC (mC (mC (mC (mC (mC (mC (mC (mC (mC (mC (mC (mC MonoA.nil)))))))))))))))))
        ·intro a w' M35 l36 hd hs
         exact pv (hd.fr.add (hd.base 4 _ rfl rfl)) hs rfl (fun a w hf hs => r_move (hf.ev rfl)) rfl
        ·intro a w' M37 l38 hd hs
         have e39 := hd.val 0 26 _ rfl rfl
         refine OP.ofW (l := [(1, (ptr b2 0)), (26, (.int .i64 s24.2))]) ((hd.fr.add e39).add (hd.base 1 _ rfl rfl)) hs rfl ?_
         refine wv rfl (fun a w hf hs => r_iaI Tryd.underlying131 ts70 (hf.ev rfl) (hf.ev rfl) g40.1 g40.2) ?_
         exact w_nil fun a w' hf hs => ⟨rfl, hf.df, _, (HLe.refl _), hs, hf.get _ _ rfl⟩
        ·intro a w' M41 l42 hd hs
         exact pv (hd.fr.add (hd.base 4 _ rfl rfl)) hs rfl (fun a w hf hs => r_move (hf.ev rfl)) rfl
        ·intro a w' M43 l44 hd hs
         have e45 := hd.val 2 28 _ rfl rfl
         exact pv (hd.fr.add e45) hs rfl (fun a w hf hs => r_add (hf.ev rfl) (hf.ev rfl)) rfl
        ·intro a w' M46 l47 hd hs
         have e48 := hd.val 3 29 _ rfl rfl
         exact pv (hd.fr.add e48) hs rfl (fun a w hf hs => r_rem (hf.ev rfl) (hf.ev rfl) (by decide)) rfl
        ·intro a w' M49 l50 hd hs
         have e51 := hd.val 4 30 _ rfl rfl
         exact pv (hd.fr.add e51) hs rfl (fun a w hf hs => r_add (hf.ev rfl) (hf.ev rfl)) rfl
        ·intro a w' M52 l53 hd hs
         have e54 := hd.val 5 31 _ rfl rfl
         refine OP.ofW (l := [(1, (ptr b2 0)), (31, (.int .i64 (IntKind.i64.wrap ((4 : Int) + (Int.tmod (IntKind.i64.wrap (s24.2 + (1 : Int))) (4 : Int))))))]) ((hd.fr.add e54).add (hd.base 1 _ rfl rfl)) hs rfl ?_
         refine wv rfl (fun a w hf hs => r_iaI Tryd.underlying131 ts70 (hf.ev rfl) (hf.ev rfl) g55.1 g55.2) ?_
         exact w_nil fun a w' hf hs => ⟨rfl, hf.df, _, (HLe.refl _), hs, hf.get _ _ rfl⟩
        ·intro a w' M56 l57 hd hs
         exact pv (hd.fr.add (hd.base 4 _ rfl rfl)) hs rfl (fun a w hf hs => r_move (hf.ev rfl)) rfl
        ·intro a w' M58 l59 hd hs
         have e60 := hd.val 7 33 _ rfl rfl
         exact pv (hd.fr.add e60) hs rfl (fun a w hf hs => r_add (hf.ev rfl) (hf.ev rfl)) rfl
        ·intro a w' M61 l62 hd hs
         have e63 := hd.val 8 34 _ rfl rfl
         exact pv (hd.fr.add e63) hs rfl (fun a w hf hs => r_rem (hf.ev rfl) (hf.ev rfl) (by decide)) rfl
        ·intro a w' M64 l65 hd hs
         have e66 := hd.val 9 35 _ rfl rfl
         exact pv (hd.fr.add e66) hs rfl (fun a w hf hs => r_add (hf.ev rfl) (hf.ev rfl)) rfl
        ·intro a w' M67 l68 hd hs
         have e69 := hd.val 10 36 _ rfl rfl
         refine OP.ofW (l := [(1, (ptr b2 0)), (36, (.int .i64 (IntKind.i64.wrap ((8 : Int) + (Int.tmod (IntKind.i64.wrap (s24.2 + (2 : Int))) (4 : Int))))))]) ((hd.fr.add e69).add (hd.base 1 _ rfl rfl)) hs rfl ?_
         refine wv rfl (fun a w hf hs => r_iaI Tryd.underlying131 ts70 (hf.ev rfl) (hf.ev rfl) g70.1 g70.2) ?_
         exact w_nil fun a w' hf hs => ⟨rfl, hf.df, _, (HLe.refl _), hs, hf.get _ _ rfl⟩
        ·intro a w' M71 l72 hd hs
         exact pv (hd.fr.add (hd.base 4 _ rfl rfl)) hs rfl (fun a w hf hs => r_move (hf.ev rfl)) rfl
        ·intro a w' M73 l74 hd hs
         have e75 := hd.val 12 38 _ rfl rfl
         exact pv (hd.fr.add e75) hs rfl (fun a w hf hs => r_add (hf.ev rfl) (hf.ev rfl)) rfl
        ·intro a w' M76 l77 hd hs
         have e78 := hd.val 13 39 _ rfl rfl
         exact pv (hd.fr.add e78) hs rfl (fun a w hf hs => r_rem (hf.ev rfl) (hf.ev rfl) (by decide)) rfl
        ·intro a w' M79 l80 hd hs
         have e81 := hd.val 14 40 _ rfl rfl
         exact pv (hd.fr.add e81) hs rfl (fun a w hf hs => r_add (hf.ev rfl) (hf.ev rfl)) rfl
        ·intro a w' M82 l83 hd hs
         have e84 := hd.val 15 41 _ rfl rfl
         refine OP.ofW (l := [(1, (ptr b2 0)), (41, (.int .i64 (IntKind.i64.wrap ((12 : Int) + (Int.tmod (IntKind.i64.wrap (s24.2 + (3 : Int))) (4 : Int))))))]) ((hd.fr.add e84).add (hd.base 1 _ rfl rfl)) hs rfl ?_
         refine wv rfl (fun a w hf hs => r_iaI Tryd.underlying131 ts70 (hf.ev rfl) (hf.ev rfl) g85.1 g85.2) ?_
         exact w_nil fun a w' hf hs => ⟨rfl, hf.df, _, (HLe.refl _), hs, hf.get _ _ rfl⟩
        intro a w' M86 l87 hdf hsz hb hv hs
        have e88 := hv 1 27 _ rfl rfl
        have e89 := hv 6 32 _ rfl rfl
        have e90 := hv 11 37 _ rfl rfl
        have e91 := hv 16 42 _ rfl rfl
        refine n_of (c := (Cx.mk Tryd.prog 47 none' M w)) (l := [(1, (ptr b2 0)), (2, (ptr b3 0)), (5, (.int .i64 s9.2)), (23, (.int .i64 s24.2)), (27, (ptr b2 (0 + (s24.2).toNat))), (32, (ptr b2 (0 + ((IntKind.i64.wrap ((4 : Int) + (Int.tmod (IntKind.i64.wrap (s24.2 + (1 : Int))) (4 : Int))))).toNat))), (37, (ptr b2 (0 + ((IntKind.i64.wrap ((8 : Int) + (Int.tmod (IntKind.i64.wrap (s24.2 + (2 : Int))) (4 : Int))))).toNat))), (42, (ptr b2 (0 + ((IntKind.i64.wrap ((12 : Int) + (Int.tmod (IntKind.i64.wrap (s24.2 + (3 : Int))) (4 : Int))))).toNat)))]) ?_ (((((((((Fr.start hdf hsz).add e91).add e90).add e89).add e88).add (hb 23 _ rfl rfl)).add (hb 5 _ rfl rfl)).add (hb 2 _ rfl rfl)).add (hb 1 _ rfl rfl)) hs
        clear hdf hsz hb hv hs e88 e89 e90 e91
        refine n_id (hK34 _ _ _ ?_)
        obtain ⟨t92, e93, H⟩ := bnd H
        refine w_callI 0 cf134 trivial rfl rfl rfl (fun X' w hs => cipher_quarter.calls hs g40.1 g40.2 g55.1 g55.2 g70.1 g70.2 g85.1 g85.2 _ e93) ?_
        rintro _ M94 _ l95 ⟨rfl, rfl⟩
        refine w_nil (hK32 _ _ _ ?_)
        refine c_reg ?_
        refine v_add rfl rfl rfl ?_
        refine v_move rfl rfl ?_
        exact w_nil fun a w' hf hs => ⟨_, (some_r H).symm, _, l26.trans (l87.trans l95), ((((hf.nil.add (hf.get _ _ rfl)).add (hf.get _ _ rfl)).add (hf.get _ _ rfl)).add (hf.get _ _ rfl)), hs.selD [some 0, some 1] (by decide) rfl⟩
       ·replace H := if_f b31 H
        replace H := map_inr H r27
        refine c_exit ?_
        intro a w' hf hs
        exact ⟨s24.1, _, (l22.trans l26), (((hf.nil.add (hf.get _ _ rfl)).add (hf.get _ _ rfl)).add (hf.get _ _ rfl)), hs.selD [some 0, some 1] (by decide) rfl, H⟩
    ·rintro a w' ⟨x17, M18, l19, hf, hs, H⟩
     refine c_of (c := (Cx.mk Tryd.prog 47 none' M w)) ?_ hf hs
     unfold cipher_Rounds.j2 at H
     clear hf hs
     refine c_reg ?_
     refine v_add rfl rfl rfl ?_
     refine v_move rfl rfl ?_
     exact w_nil fun a w' hf hs => ⟨_, (some_r H).symm, _, l11.trans l19, (((hf.nil.add (hf.get _ _ rfl)).add (hf.get _ _ rfl)).add (hf.get _ _ rfl)), hs.selD [some 0, some 1] (by decide) rfl⟩
   ·replace H := if_f b16 H
    replace H := map_inr H r12
    refine c_exit ?_
    intro a w' hf hs
    exact ⟨s9.1, _, l11, ((hf.nil.add (hf.get _ _ rfl)).add (hf.get _ _ rfl)), hs.selD [some 0, some 1] (by decide) rfl, H⟩
 ·rintro a w' ⟨x4, M5, l6, hf, hs, H⟩
  refine c_of (c := (Cx.mk Tryd.prog 47 none' M w)) ?_ hf hs
  unfold cipher_Rounds.j1 at H
  clear hf hs
  refine c_sr fun _ hK7 => ?_
  refine wv rfl (fun a w hf hs => r_loadA ta131 ts131 (hf.ev rfl) (hs.blk (i := 0) rfl) (vI_all _) (vI_len _)) ?_
  refine w_store (i := 1) (vs := vI .u32 x4) (A' := vI .u32 x4) trivial rfl rfl rfl rfl ts131 (vI_len _) (vI_one _) (by rw [vI_len]; decide) (vI_whole _ _) ?_
  refine w_nil (hK7 _ _ _ ?_)
  obtain rfl := some_r H
  exact c_ret fun a w' hf hs => hret _ (.inl rfl) a w' hf.df ⟨_, _, Res.of1 rfl ⟨_, hf.get _ _ rfl, run_loadA (hs.blk (i := 1) rfl) ta131 ts131 (vI_all _) (vI_len _)⟩, hs.ext, rfl⟩
theorem cipher_put.calls {X : Nat → Prop} {M : Heap} {w : World} {v0 : Value} {p0 : (List Int)} (hs : St X M w M (lt [rowI (FI .u8) v0 5 p0]) w) (p1 : Int) (r : (List Int)) (H : cipher_put p0 p1 = some r) :
  Calls Tryd.prog 120 [v0, (.int .u32 p1)].toArray w (PostI X M w fun M' x v => x = rowI (FI .u8) v 5 r) := by
 refine enterI 19 [(0, v0), (1, (.int .u32 p1))] Tryd.func120 rfl rfl rfl hs ?_
 clear hs
 intro Q hret
 unfold cipher_put at H
 refine c_sr fun _ hK1 => ?_
 refine v_assign rfl rfl ?_
 refine w_nil (hK1 _ _ _ ?_)
 refine c_sr fun _ hK2 => ?_
 refine v_move rfl rfl ?_
 refine v_move rfl rfl ?_
 refine wv rfl (fun a w hf hs => r_conv Tryd.underlying70 Tryd.underlying5 (hf.ev rfl)) ?_
 refine v_move rfl rfl ?_
 refine wv rfl (fun a w hf hs => r_shr (hf.ev rfl) (hf.ev rfl) (by decide)) ?_
 refine wv rfl (fun a w hf hs => r_conv Tryd.underlying70 Tryd.underlying5 (hf.ev rfl)) ?_
 refine v_move rfl rfl ?_
 refine wv rfl (fun a w hf hs => r_shr (hf.ev rfl) (hf.ev rfl) (by decide)) ?_
 refine wv rfl (fun a w hf hs => r_conv Tryd.underlying70 Tryd.underlying5 (hf.ev rfl)) ?_
 refine v_move rfl rfl ?_
 refine wv rfl (fun a w hf hs => r_shr (hf.ev rfl) (hf.ev rfl) (by decide)) ?_
 refine wv rfl (fun a w hf hs => r_conv Tryd.underlying70 Tryd.underlying5 (hf.ev rfl)) ?_
 refine w_bsl (F := (FI .u8)) (es := ([(IntKind.u8.wrap p1), (IntKind.u8.wrap (shrI .u32 p1 (8 : Int))), (IntKind.u8.wrap (shrI .u32 p1 (16 : Int))), (IntKind.u8.wrap (shrI .u32 p1 (24 : Int)))] : List Int)) (xs := [.tmp 7, .tmp 10, .tmp 13, .tmp 16]) (vs := [(.int .u8 (IntKind.u8.wrap p1)), (.int .u8 (IntKind.u8.wrap (shrI .u32 p1 (8 : Int)))), (.int .u8 (IntKind.u8.wrap (shrI .u32 p1 (16 : Int)))), (.int .u8 (IntKind.u8.wrap (shrI .u32 p1 (24 : Int))))]) Tryd.underlying66 te5 trivial rfl rfl rfl rfl rfl (by decide) ?_
 intro v3 M4 l5 h6 c7
 obtain ⟨g8, H⟩ := grd_s H
 refine w_app (F := (FI .u8)) (m2 := ([(IntKind.u8.wrap p1), (IntKind.u8.wrap (shrI .u32 p1 (8 : Int))), (IntKind.u8.wrap (shrI .u32 p1 (16 : Int))), (IntKind.u8.wrap (shrI .u32 p1 (24 : Int)))] : List Int)) (i := 0) Tryd.underlying66 te5 Tryd.underlying66 (.inl ⟨_, rfl⟩) trivial rfl rfl rfl rfl (Src.rs (FI.one _) h6) g8 ?_
 intro v9
 refine v_assign rfl rfl ?_
 refine w_nil (hK2 _ _ _ ?_)
 obtain rfl := some_r H
 exact c_ret fun a w' hf hs => hret _ (.inl rfl) a w' hf.df ⟨_, _, _, Res.of1 rfl (RV.t hf rfl), hs.sel [0] (by decide) rfl, rfl⟩
theorem cipher_Block.calls {M : Heap} {w : World} (hM : Sub M w) (p0 : (List UInt8)) (p1 : Int) (p2 : (List UInt8)) (r : ((List UInt8) × Int)) (H : cipher_Block p0 p1 p2 = some r) :
  Calls Tryd.prog 87 [(str p0), (.int .u32 p1), (str p2)].toArray w (Post M w fun M' v => v = .tuple #[(str r.1), (.int .i64 r.2)]) := by
 refine enter 40 [(0, (str p0)), (1, (.int .u32 p1)), (2, (str p2))] Tryd.func87 rfl rfl rfl hM ?_
 intro Q hret
 unfold cipher_Block at H
 refine c_sr fun _ hK1 => ?_
 refine v_assign rfl rfl ?_
 refine v_assign rfl rfl ?_
 refine w_nil (hK1 _ _ _ ?_)
 refine c_sr fun _ hK2 => ?_
 refine v_move rfl rfl ?_
 refine v_move rfl rfl ?_
 refine v_move rfl rfl ?_
 obtain ⟨t3, e8, H⟩ := bnd H
 refine w_call cf86 trivial rfl rfl (fun w hs => cipher_State.calls hs p0 p1 p2 _ e8) ?_
 rintro _ M5 l6 rfl
 refine v_move rfl rfl ?_
 refine v_extract rfl rfl rfl ?_
 refine v_extract rfl rfl rfl ?_
 refine w_allocL (A := vI .u32 (Vector.replicate 16 (0 : Int))) tz131 trivial rfl rfl ?_
 intro b9
 refine w_store (i := 0) (vs := vI .u32 t3.1) (A' := vI .u32 t3.1) trivial rfl rfl rfl rfl ts131 (vI_len _) (vI_one _) (by rw [vI_len]; decide) (vI_whole _ _) ?_
 refine v_assign rfl rfl ?_
 refine w_nil (hK2 _ _ _ ?_)
 refine c_seq fun K10 hK10 => ?_
 refine c_sr fun _ hK11 => ?_
 refine v_move rfl rfl ?_
 refine wv rfl (fun a w hf hs => r_neq (hf.ev rfl) (hf.ev rfl)) ?_
 refine w_nil (hK11 _ _ _ ?_)
 refine c_if rfl (fun b12 => ?_) (fun b12 => ?_)
 ·replace H := if_t b12 H
  refine c_sr fun _ hK13 => ?_
  refine v_move rfl rfl ?_
  refine v_assign rfl rfl ?_
  refine v_assign rfl rfl ?_
  refine w_nil (hK13 _ _ _ ?_)
  obtain rfl := some_r H
  exact c_ret fun a w' hf hs => hret _ (.inl rfl) a w' hf.df ⟨_, _, Res.of2 rfl (RV.t hf rfl) (RV.t hf rfl), hs.ext, rfl⟩
 ·replace H := if_f b12 H
  refine c_skip (hK10 _ _ _ ?_)
  refine c_sr fun _ hK14 => ?_
  obtain ⟨g16, H⟩ := grd_s H
  refine w_mk (F := (FI .u8)) Tryd.underlying66 fz5 trivial rfl rfl rfl g16.1 g16.2.1 g16.2.2 ?_
  intro v15
  refine v_assign rfl rfl ?_
  refine w_nil (hK14 _ _ _ ?_)
  refine c_cut (fun a' w' => ∃ (x17 : (List Int)) (v18 : Value) (M19 : Heap), HLe M5 M19 ∧ Fr 40 [(10, v18)] a' ∧ St none' M w M19 (lt [dead, rowI (FI .u8) v18 5 x17]) w' ∧ cipher_Block.j1 x17 = some r) ?_ ?_
  ·refine c_seq ?_
   intro K25 hK25
   refine c_reg ?_
   refine wv rfl (fun a w hf hs => r_loadA ta131 ts131 (hf.ev rfl) (hs.blk (i := 0) rfl) (vI_all _) (vI_len _)) ?_
   obtain ⟨t26, e31, H⟩ := bnd H
   refine w_call cf119 trivial rfl rfl (fun w hs => cipher_Rounds.calls hs t3.1 _ e31) ?_
   rintro _ M28 l29 rfl
   refine v_move rfl rfl ?_
   refine w_nil (hK25 _ _ _ ?_)
   refine c_block ?_
   refine c_loop (fun (s32 : ((List Int) × Int)) a' w' => ∃ (v33 : Value) (M34 : Heap), HLe M28 M34 ∧ Fr 40 [(8, (ptr b9 0)), (10, v33), (25, (.agg (vI .u32 t26).toArray)), (26, (.int .i64 s32.2))] a' ∧ St none' M w M34 (lt [.blk b9 (.cells (vI .u32 t3.1).toArray 131 (0, 0)), rowI (FI .u8) v33 5 s32.1]) w') ((List.replicate ((0 : Int)).toNat (0 : Int)), (0 : Int)) H ?_ ?_
   ·intro a w' hf hs
    exact ⟨v15, _, HLe.refl _, ((((hf.nil.add (hf.get _ _ rfl)).add (hf.get _ _ rfl)).add (hf.get _ _ rfl)).add (hf.get _ _ rfl)), hs.selD [some 0, some 1] (by decide) rfl⟩
   ·clear H
    intro s32 y37 H r36 a w' hJ
    obtain ⟨v33, M34, l35, hf, hs⟩ := hJ
    refine c_of (c := (Cx.mk Tryd.prog 40 none' M w)) ?_ hf hs
    unfold cipher_Block.l2 at H
    clear hf hs
    refine c_sr fun _ hK38 => ?_
    refine v_lss rfl rfl rfl ?_
    refine w_nil (hK38 _ _ _ ?_)
    refine c_seq fun K39 hK39 => ?_
    refine c_if rfl (fun b40 => ?_) (fun b40 => ?_)
    ·replace H := if_t b40 H
     refine c_skip (hK39 _ _ _ ?_)
     refine c_seq fun K41 hK41 => ?_
     refine c_block ?_
     refine c_sr fun _ hK42 => ?_
     refine v_move rfl rfl ?_
     obtain ⟨g43, H⟩ := grd_s H
     refine wv rfl (fun a w hf hs => r_index Tryd.underlying131 ta70 ts70 (hf.ev rfl) (hf.ev rfl) g43.1 g43.2 (vI_get g43.1 g43.2)) ?_
     refine v_assign rfl rfl ?_
     refine v_assign rfl rfl ?_
     refine w_nil (hK42 _ _ _ ?_)
     refine c_reg ?_
     refine v_move rfl rfl ?_
     refine v_move rfl rfl ?_
     refine v_move rfl rfl ?_
     obtain ⟨g44, H⟩ := grd_s H
     refine wv rfl (fun a w hf hs => r_iaI Tryd.underlying131 ts70 (hf.ev rfl) (hf.ev rfl) g44.1 g44.2) ?_
     refine wv rfl (fun a w hf hs => r_load1 ta70 (hf.ev rfl) (hs.blk (i := 0) rfl) (vI_get0 g44.1 g44.2)) ?_
     refine v_add rfl rfl rfl ?_
     obtain ⟨t45, e46, H⟩ := bnd H
     refine w_callI 1 cf120 trivial rfl rfl rfl (fun X' w hs => cipher_put.calls hs (IntKind.u32.wrap ((rd t26.toList s32.2) + (rd t3.1.toList s32.2))) _ e46) ?_
     rintro v49 M47 _ l48 rfl
     refine v_assign rfl rfl ?_
     refine w_nil (hK41 _ _ _ ?_)
     refine c_reg ?_
     refine v_add rfl rfl rfl ?_
     refine v_move rfl rfl ?_
     exact w_nil fun a w' hf hs => ⟨_, (some_r H).symm, v49, _, l35.trans l48, ((((hf.nil.add (hf.get _ _ rfl)).add (hf.get _ _ rfl)).add (hf.get _ _ rfl)).add (hf.get _ _ rfl)), hs.selD [some 0, some 1] (by decide) rfl⟩
    ·replace H := if_f b40 H
     replace H := map_inr H r36
     refine c_exit ?_
     intro a w' hf hs
     exact ⟨s32.1, v33, _, (l29.trans l35), (hf.nil.add (hf.get _ _ rfl)), hs.selD [none, some 1] (by decide) rfl, H⟩
  ·rintro a w' ⟨x17, v18, M19, l20, hf, hs, H⟩
   refine c_of (c := (Cx.mk Tryd.prog 40 none' M w)) ?_ hf hs
   unfold cipher_Block.j1 at H
   clear hf hs
   refine c_sr fun _ hK21 => ?_
   refine v_move rfl rfl ?_
   refine w_give 1 rfl (fun _ h => h) ?_
   intro M22 l23 h24
   refine wv rfl (fun a w hf hs => r_b2s Tryd.underlying66 Tryd.underlying5 Tryd.underlying9 h24 hs.sub (hf.ev rfl)) ?_
   refine v_assign rfl rfl ?_
   refine v_assign rfl rfl ?_
   refine w_nil (hK21 _ _ _ ?_)
   obtain rfl := some_r H
   exact c_ret fun a w' hf hs => hret _ (.inl rfl) a w' hf.df ⟨_, _, Res.of2 rfl (RV.t hf rfl) (RV.t hf rfl), hs.ext, rfl⟩
theorem cipher_Xor.calls {M : Heap} {w : World} (hM : Sub M w) (p0 : (List UInt8)) (p1 : Int) (p2 : (List UInt8)) (p3 : (List UInt8)) (r : ((List UInt8) × Int)) (H : cipher_Xor p0 p1 p2 p3 = some r) :
  Calls Tryd.prog 40 [(str p0), (.int .u32 p1), (str p2), (str p3)].toArray w (Post M w fun M' v => v = .tuple #[(str r.1), (.int .i64 r.2)]) := by
 refine enter 57 [(0, (str p0)), (1, (.int .u32 p1)), (2, (str p2)), (3, (str p3))] Tryd.func40 rfl rfl rfl hM ?_
 intro Q hret
 unfold cipher_Xor at H
 refine c_sr fun _ hK1 => ?_
 refine v_assign rfl rfl ?_
 refine v_assign rfl rfl ?_
 refine w_nil (hK1 _ _ _ ?_)
 refine c_seq fun K2 hK2 => ?_
 refine c_sr fun _ hK3 => ?_
 refine v_move rfl rfl ?_
 refine v_move rfl rfl ?_
 refine v_move rfl rfl ?_
 obtain ⟨t4, e9, H⟩ := bnd H
 refine w_call cf86 trivial rfl rfl (fun w hs => cipher_State.calls hs p0 p1 p2 _ e9) ?_
 rintro _ M6 l7 rfl
 refine v_move rfl rfl ?_
 refine v_extract rfl rfl rfl ?_
 refine v_extract rfl rfl rfl ?_
 refine w_allocL (A := vI .u32 (Vector.replicate 16 (0 : Int))) tz131 trivial rfl rfl ?_
 intro b10
 refine w_store (i := 0) (vs := vI .u32 t4.1) (A' := vI .u32 t4.1) trivial rfl rfl rfl rfl ts131 (vI_len _) (vI_one _) (by rw [vI_len]; decide) (vI_whole _ _) ?_
 refine v_assign rfl rfl ?_
 refine w_nil (hK3 _ _ _ ?_)
 refine c_sr fun _ hK11 => ?_
 refine v_move rfl rfl ?_
 refine wv rfl (fun a w hf hs => r_neq (hf.ev rfl) (hf.ev rfl)) ?_
 refine w_nil (hK11 _ _ _ ?_)
 refine c_if rfl (fun b12 => ?_) (fun b12 => ?_)
 ·replace H := if_t b12 H
  refine c_sr fun _ hK13 => ?_
  refine v_move rfl rfl ?_
  refine v_assign rfl rfl ?_
  refine v_assign rfl rfl ?_
  refine w_nil (hK13 _ _ _ ?_)
  obtain rfl := some_r H
  exact c_ret fun a w' hf hs => hret _ (.inl rfl) a w' hf.df ⟨_, _, Res.of2 rfl (RV.t hf rfl) (RV.t hf rfl), hs.ext, rfl⟩
 ·replace H := if_f b12 H
  refine c_skip (hK2 _ _ _ ?_)
  refine c_sr fun _ hK14 => ?_
  refine v_move rfl rfl ?_
  refine w_s2bW Tryd.underlying9 Tryd.underlying66 Tryd.underlying5 trivial rfl rfl ?_
  intro v15
  refine v_assign rfl rfl ?_
  refine v_assign rfl rfl ?_
  refine w_nil (hK14 _ _ _ ?_)
  refine c_cut (fun a' w' => ∃ (x16 : (List Int)) (v17 : Value) (M18 : Heap), HLe M6 M18 ∧ Fr 57 [(12, v17)] a' ∧ St none' M w M18 (lt [dead, rowI (FI .u8) v17 5 x16]) w' ∧ cipher_Xor.j1 x16 = some r) ?_ ?_
  ·refine c_seq ?_
   intro K24 hK24
   refine c_reg ?_
   refine v_move rfl rfl ?_
   refine wv rfl (fun a w hf hs => r_lenW 1 hs rfl Tryd.underlying66 (hf.ev rfl)) ?_
   refine v_move rfl rfl ?_
   refine w_nil (hK24 _ _ _ ?_)
   refine c_block ?_
   refine c_loop (fun (s25 : ((List Int) × Int × (List UInt8) × Int)) a' w' => ∃ (v26 : Value) (M27 : Heap), HLe M6 M27 ∧ Fr 57 [(0, (str p0)), (1, (.int .u32 s25.2.1)), (2, (str p2)), (12, v26), (13, (str s25.2.2.1)), (28, (.int .i64 ((bytesI p3).length : Int))), (29, (.int .i64 s25.2.2.2))] a' ∧ St none' M w M27 (lt [dead, rowI (FI .u8) v26 5 s25.1]) w') ((bytesI p3), p1, ([] : List UInt8), (0 : Int)) H ?_ ?_
   ·intro a w' hf hs
    exact ⟨v15, _, HLe.refl _, (((((((hf.nil.add (hf.get _ _ rfl)).add (hf.get _ _ rfl)).add (hf.get _ _ rfl)).add (hf.get _ _ rfl)).add (hf.get _ _ rfl)).add (hf.get _ _ rfl)).add (hf.get _ _ rfl)), hs.selD [none, some 1] (by decide) rfl⟩
   ·clear H
    intro s25 y30 H r29 a w' hJ
    obtain ⟨v26, M27, l28, hf, hs⟩ := hJ
    refine c_of (c := (Cx.mk Tryd.prog 57 none' M w)) ?_ hf hs
    unfold cipher_Xor.l3 at H
    clear hf hs
    refine c_sr fun _ hK31 => ?_
    refine v_lss rfl rfl rfl ?_
    refine w_nil (hK31 _ _ _ ?_)
    refine c_seq fun K32 hK32 => ?_
    refine c_if rfl (fun b33 => ?_) (fun b33 => ?_)
    ·replace H := if_t b33 H
     refine c_skip (hK32 _ _ _ ?_)
     refine c_seq fun K34 hK34 => ?_
     refine c_block ?_
     refine c_sr fun _ hK35 => ?_
     refine v_move rfl rfl ?_
     refine v_assign rfl rfl ?_
     refine w_nil (hK35 _ _ _ ?_)
     refine c_cut (fun a' w' => ∃ (x36 : Int) (x37 : (List UInt8)) (M38 : Heap), HLe M27 M38 ∧ Fr 57 [(0, (str p0)), (1, (.int .u32 x36)), (2, (str p2)), (12, v26), (13, (str x37)), (14, (.int .i64 s25.2.2.2)), (28, (.int .i64 ((bytesI p3).length : Int))), (29, (.int .i64 s25.2.2.2))] a' ∧ St none' M w M38 (lt [dead, rowI (FI .u8) v26 5 s25.1]) w' ∧ cipher_Xor.j2 s25 x37 x36 = some y30) ?_ ?_
     ·refine c_seq ?_
      intro K72 hK72
      refine c_reg ?_
      refine v_move rfl rfl ?_
      refine wv rfl (fun a w hf hs => r_rem (hf.ev rfl) (hf.ev rfl) (by decide)) ?_
      refine wv rfl (fun a w hf hs => r_eql (hf.ev rfl) (hf.ev rfl)) ?_
      refine w_nil (hK72 _ _ _ ?_)
      refine c_if rfl (fun b73 => ?_) (fun b73 => ?_)
      ·replace H := if_t b73 H
       refine c_sr fun _ hK74 => ?_
       refine v_move rfl rfl ?_
       refine v_move rfl rfl ?_
       refine v_move rfl rfl ?_
       obtain ⟨t75, e80, H⟩ := bnd H
       refine w_call cf87 trivial rfl rfl (fun w hs => cipher_Block.calls hs p0 s25.2.1 p2 _ e80) ?_
       rintro _ M77 l78 rfl
       refine v_move rfl rfl ?_
       refine v_extract rfl rfl rfl ?_
       refine v_extract rfl rfl rfl ?_
       refine v_assign rfl rfl ?_
       refine w_nil (hK74 _ _ _ ?_)
       refine c_reg ?_
       refine v_move rfl rfl ?_
       refine v_add rfl rfl rfl ?_
       refine v_assign rfl rfl ?_
       exact w_nil fun a w' hf hs => ⟨(IntKind.u32.wrap (s25.2.1 + (1 : Int))), t75.1, _, l78, ((((((((hf.nil.add (hf.get _ _ rfl)).add (hf.get _ _ rfl)).add (hf.get _ _ rfl)).add (hf.get _ _ rfl)).add (hf.get _ _ rfl)).add (hf.get _ _ rfl)).add (hf.get _ _ rfl)).add (hf.get _ _ rfl)), hs.selD [none, some 1] (by decide) rfl, H⟩
      ·replace H := if_f b73 H
       refine c_skip ?_
       intro a w' hf hs
       exact ⟨s25.2.1, s25.2.2.1, _, (HLe.refl _), ((((((((hf.nil.add (hf.get _ _ rfl)).add (hf.get _ _ rfl)).add (hf.get _ _ rfl)).add (hf.get _ _ rfl)).add (hf.get _ _ rfl)).add (hf.get _ _ rfl)).add (hf.get _ _ rfl)).add (hf.get _ _ rfl)), hs.selD [none, some 1] (by decide) rfl, H⟩
     ·rintro a w' ⟨x36, x37, M38, l39, hf, hs, H⟩
      refine c_of (c := (Cx.mk Tryd.prog 57 none' M w)) ?_ hf hs
      unfold cipher_Xor.j2 at H
      clear hf hs
      refine c_split2 8 (by kernel_rfl) (by kernel_rfl) (by kernel_rfl) (by kernel_rfl) rfl ?_
      intro K40 hK40
      obtain ⟨g49, H⟩ := grd_s H
      obtain ⟨g64, H⟩ := grd_s H
      refine d_drawP [([], [12]), ([], [14]), ([(0, 44), (1, 45)], []), ([(2, 46)], []), ([], [13]), ([], [14]), ([(5, 49)], []), ([(4, 48), (6, 50)], [])] [fun v M => v = v26, fun v M => v = (.int .i64 s25.2.2.2), fun v M => v = (eP v26 s25.2.2.2 1 0), fun v M => v = (.int .u8 (rd s25.1 s25.2.2.2)), fun v M => v = (str x37), fun v M => v = (.int .i64 s25.2.2.2), fun v M => v = (.int .i64 (Int.tmod s25.2.2.2 (64 : Int))), fun v M => v = (.int .u8 (sbyte x37 (Int.tmod s25.2.2.2 (64 : Int))))] (by kernel_rfl) (by kernel_rfl) ?_ (AllT.cons ?_ (AllT.cons ?_ (AllT.cons ?_ (AllT.cons ?_ (AllT.cons ?_ (AllT.cons ?_ (AllT.cons ?_ (AllT.cons ?_ AllT.nil)))))))) ?_
      ·exact (mC (mC (mC (mC (mC (mC (mC (mC MonoA.nil))))))))
      ·intro a w' M41 l42 hd hs
       exact pv (hd.fr.add (hd.base 12 _ rfl rfl)) hs rfl (fun a w hf hs => r_move (hf.ev rfl)) rfl
      ·intro a w' M43 l44 hd hs
       exact pv (hd.fr.add (hd.base 14 _ rfl rfl)) hs rfl (fun a w hf hs => r_move (hf.ev rfl)) rfl
      ·intro a w' M45 l46 hd hs
       have e47 := hd.val 0 44 _ rfl rfl
       have e48 := hd.val 1 45 _ rfl rfl
       refine OP.ofW (l := [(44, v26), (45, (.int .i64 s25.2.2.2))]) ((hd.fr.add e48).add e47) hs rfl ?_
       refine wv rfl (fun a w hf hs => r_iW 1 hs rfl Tryd.underlying66 ts5 (hf.ev rfl) (hf.ev rfl) g49.1 g49.2) ?_
       exact w_nil fun a w' hf hs => ⟨rfl, hf.df, _, (HLe.refl _), hs, hf.get _ _ rfl⟩
      ·intro a w' M50 l51 hd hs
       have e52 := hd.val 2 46 _ rfl rfl
       exact pv (hd.fr.add e52) hs rfl (fun a w hf hs => r_loadW1 1 ta5 hs rfl g49.1 g49.2 (hf.ev rfl) rfl) rfl
      ·intro a w' M53 l54 hd hs
       exact pv (hd.fr.add (hd.base 13 _ rfl rfl)) hs rfl (fun a w hf hs => r_move (hf.ev rfl)) rfl
      ·intro a w' M55 l56 hd hs
       exact pv (hd.fr.add (hd.base 14 _ rfl rfl)) hs rfl (fun a w hf hs => r_move (hf.ev rfl)) rfl
      ·intro a w' M57 l58 hd hs
       have e59 := hd.val 5 49 _ rfl rfl
       exact pv (hd.fr.add e59) hs rfl (fun a w hf hs => r_rem (hf.ev rfl) (hf.ev rfl) (by decide)) rfl
      ·intro a w' M60 l61 hd hs
       have e62 := hd.val 4 48 _ rfl rfl
       have e63 := hd.val 6 50 _ rfl rfl
       refine OP.ofW (l := [(48, (str x37)), (50, (.int .i64 (Int.tmod s25.2.2.2 (64 : Int))))]) ((hd.fr.add e63).add e62) hs rfl ?_
       refine wv rfl (fun a w hf hs => r_sidx Tryd.underlying9 (hf.ev rfl) (hf.ev rfl) g64.1 g64.2) ?_
       exact w_nil fun a w' hf hs => ⟨rfl, hf.df, _, (HLe.refl _), hs, hf.get _ _ rfl⟩
      intro a w' M65 l66 hdf hsz hb hv hs
      have e67 := hv 0 44 _ rfl rfl
      have e68 := hv 1 45 _ rfl rfl
      have e69 := hv 3 47 _ rfl rfl
      have e70 := hv 7 51 _ rfl rfl
      refine n_of (c := (Cx.mk Tryd.prog 57 none' M w)) (l := [(0, (str p0)), (1, (.int .u32 x36)), (2, (str p2)), (12, v26), (13, (str x37)), (28, (.int .i64 ((bytesI p3).length : Int))), (29, (.int .i64 s25.2.2.2)), (44, v26), (45, (.int .i64 s25.2.2.2)), (47, (.int .u8 (rd s25.1 s25.2.2.2))), (51, (.int .u8 (sbyte x37 (Int.tmod s25.2.2.2 (64 : Int)))))]) ?_ ((((((((((((Fr.start hdf hsz).add e70).add e69).add e68).add e67).add (hb 29 _ rfl rfl)).add (hb 28 _ rfl rfl)).add (hb 13 _ rfl rfl)).add (hb 12 _ rfl rfl)).add (hb 2 _ rfl rfl)).add (hb 1 _ rfl rfl)).add (hb 0 _ rfl rfl)) hs
      clear hdf hsz hb hv hs e67 e68 e69 e70
      refine n_id (hK40 _ _ _ ?_)
      refine wv rfl (fun a w hf hs => r_xor (hf.ev rfl) (hf.ev rfl)) ?_
      obtain ⟨g71, H⟩ := grd_s H
      refine wv rfl (fun a w hf hs => r_iW 1 hs rfl Tryd.underlying66 ts5 (hf.ev rfl) (hf.ev rfl) g71.1 g71.2) ?_
      refine w_storeW (e := (bits .xor .u8 (rd s25.1 s25.2.2.2) (sbyte x37 (Int.tmod s25.2.2.2 (64 : Int))))) 1 (FI.one _) trivial rfl rfl rfl rfl ts5 g71.1 g71.2 ?_
      refine w_nil (hK34 _ _ _ ?_)
      refine c_reg ?_
      refine v_add rfl rfl rfl ?_
      refine v_move rfl rfl ?_
      exact w_nil fun a w' hf hs => ⟨_, (some_r H).symm, v26, _, l28.trans (l39.trans l66), (((((((hf.nil.add (hf.get _ _ rfl)).add (hf.get _ _ rfl)).add (hf.get _ _ rfl)).add (hf.get _ _ rfl)).add (hf.get _ _ rfl)).add (hf.get _ _ rfl)).add (hf.get _ _ rfl)), hs.selD [none, some 1] (by decide) rfl⟩
    ·replace H := if_f b33 H
     replace H := map_inr H r29
     refine c_exit ?_
     intro a w' hf hs
     exact ⟨s25.1, v26, _, l28, (hf.nil.add (hf.get _ _ rfl)), hs.selD [none, some 1] (by decide) rfl, H⟩
  ·rintro a w' ⟨x16, v17, M18, l19, hf, hs, H⟩
   refine c_of (c := (Cx.mk Tryd.prog 57 none' M w)) ?_ hf hs
   unfold cipher_Xor.j1 at H
   clear hf hs
   refine c_sr fun _ hK20 => ?_
   refine v_move rfl rfl ?_
   refine w_give 1 rfl (fun _ h => h) ?_
   intro M21 l22 h23
   refine wv rfl (fun a w hf hs => r_b2s Tryd.underlying66 Tryd.underlying5 Tryd.underlying9 h23 hs.sub (hf.ev rfl)) ?_
   refine v_assign rfl rfl ?_
   refine v_assign rfl rfl ?_
   refine w_nil (hK20 _ _ _ ?_)
   obtain rfl := some_r H
   exact c_ret fun a w' hf hs => hret _ (.inl rfl) a w' hf.df ⟨_, _, Res.of2 rfl (RV.t hf rfl) (RV.t hf rfl), hs.ext, rfl⟩
theorem seal_Seal.calls {M : Heap} {w : World} (hM : Sub M w) (hG : Gl M) (p0 : (List UInt8)) (p1 : (List UInt8)) (p2 : (List UInt8)) (r : ((List UInt8) × Int)) (H : seal_Seal p0 p1 p2 = some r) :
  Calls Tryd.prog 15 [(str p0), (str p1), (str p2)].toArray w (Post M w fun M' v => v = .tuple #[(str r.1), (.int .i64 r.2)]) := by
 refine enter 58 [(0, (str p0)), (1, (str p1)), (2, (str p2))] Tryd.func15 rfl rfl rfl hM ?_
 intro Q hret
 unfold seal_Seal at H
 refine c_sr fun _ hK1 => ?_
 refine v_assign rfl rfl ?_
 refine v_assign rfl rfl ?_
 refine w_nil (hK1 _ _ _ ?_)
 refine c_sr fun _ hK2 => ?_
 refine v_move rfl rfl ?_
 obtain ⟨t3, e8, H⟩ := bnd H
 refine w_call cf13 trivial rfl rfl (fun w hs => seal_Keys.calls hs hG p0 _ e8) ?_
 rintro _ M5 l6 rfl
 replace hG := hG.mono l6
 refine v_move rfl rfl ?_
 refine v_extract rfl rfl rfl ?_
 refine v_extract rfl rfl rfl ?_
 refine v_extract rfl rfl rfl ?_
 refine v_assign rfl rfl ?_
 refine v_assign rfl rfl ?_
 refine v_assign rfl rfl ?_
 refine w_nil (hK2 _ _ _ ?_)
 refine c_seq fun K9 hK9 => ?_
 refine c_block ?_
 refine c_sr fun _ hK10 => ?_
 refine v_move rfl rfl ?_
 refine wv rfl (fun a w hf hs => r_neq (hf.ev rfl) (hf.ev rfl)) ?_
 refine v_assign rfl rfl ?_
 refine w_nil (hK10 _ _ _ ?_)
 refine c_if rfl (fun b11 => ?_) (fun b11 => ?_)
 ·replace H := if_t b11 H
  refine c_sr fun _ hK12 => ?_
  refine v_move rfl rfl ?_
  refine v_assign rfl rfl ?_
  refine v_assign rfl rfl ?_
  refine w_nil (hK12 _ _ _ ?_)
  obtain rfl := some_r H
  exact c_ret fun a w' hf hs => hret _ (.inl rfl) a w' hf.df ⟨_, _, Res.of2 rfl (RV.t hf rfl) (RV.t hf rfl), hs.ext, rfl⟩
 ·replace H := if_f b11 H
  obtain ⟨t13, H1, H⟩ := bnd H
  refine c_cut (fun a' w' => ∃ (M14 : Heap), HLe M5 M14 ∧ Fr 58 [(1, (str p1)), (2, (str p2)), (8, (str t3.1)), (9, (str t3.2.1)), (24, (.bool t13))] a' ∧ St none' M w M14 (lt []) w') ?_ ?_
  ·replace H := H1
   clear H1
   refine c_reg ?_
   refine v_move rfl rfl ?_
   refine wv rfl (fun a w hf hs => r_slen Tryd.underlying9 (hf.ev rfl)) ?_
   refine wv rfl (fun a w hf hs => r_gtr (hf.ev rfl) (hf.ev rfl)) ?_
   refine v_move rfl rfl ?_
   by_cases b16 : (decide ((1048576 : Int) < (p1.length : Int))) = true
   ·replace H := if_t b16 H
    refine w_not (Nwt.of rfl rfl b16) rfl ?_
    refine w_not (Nwt.of rfl rfl b16) rfl ?_
    refine w_not (Nwt.of rfl rfl b16) rfl ?_
    refine wv rfl (fun a w hf hs => r_pickT (hf.ev rfl) b16 (hf.ev rfl)) ?_
    refine v_assign rfl rfl ?_
    obtain rfl := some_r H
    exact w_nil fun a w' hf hs => ⟨_, (HLe.refl _), (((((hf.nil.add (hf.get _ _ rfl)).add (hf.get _ _ rfl)).add (hf.get _ _ rfl)).add (hf.get _ _ rfl)).add (hf.get _ _ rfl)), hs.sel [] (by decide) rfl⟩
   ·replace b16 := Bool.eq_false_iff.2 b16
    replace H := if_f b16 H
    refine w_val (Wnt.of rfl rfl b16) rfl (fun a w hf hs => r_move (hf.ev rfl)) ?_
    refine w_val (Wnt.of rfl rfl b16) rfl (fun a w hf hs => r_slen Tryd.underlying9 (hf.ev rfl)) ?_
    refine w_val (Wnt.of rfl rfl b16) rfl (fun a w hf hs => r_gtr (hf.ev rfl) (hf.ev rfl)) ?_
    refine wv rfl (fun a w hf hs => r_pickF (hf.ev rfl) b16 (hf.ev rfl)) ?_
    refine v_assign rfl rfl ?_
    obtain rfl := some_r H
    exact w_nil fun a w' hf hs => ⟨_, (HLe.refl _), (((((hf.nil.add (hf.get _ _ rfl)).add (hf.get _ _ rfl)).add (hf.get _ _ rfl)).add (hf.get _ _ rfl)).add (hf.get _ _ rfl)), hs.sel [] (by decide) rfl⟩
  ·clear H1
   rintro a w' ⟨M14, l15, hf, hs⟩
   refine c_of (c := (Cx.mk Tryd.prog 58 none' M w)) ?_ hf hs
   clear hf hs
   replace hG := hG.mono l15
   refine c_if rfl (fun b17 => ?_) (fun b17 => ?_)
   ·replace H := if_t b17 H
    refine c_sr fun _ hK18 => ?_
    refine v_assign rfl rfl ?_
    refine v_assign rfl rfl ?_
    refine w_nil (hK18 _ _ _ ?_)
    obtain rfl := some_r H
    exact c_ret fun a w' hf hs => hret _ (.inl rfl) a w' hf.df ⟨_, _, Res.of2 rfl (RV.t hf rfl) (RV.t hf rfl), hs.ext, rfl⟩
   ·replace H := if_f b17 H
    refine c_skip (hK9 _ _ _ ?_)
    refine c_sr fun _ hK19 => ?_
    refine v_move rfl rfl ?_
    obtain ⟨t20, e25, H⟩ := bnd H
    refine w_call cf38 trivial rfl rfl (fun w hs => wire_Bytes.calls hs p1 _ e25) ?_
    rintro v61 M22 l23 ⟨v26, hv_, h27⟩
    replace hv_ := hv_.symm
    subst hv_
    replace hG := hG.mono l23
    refine wv rfl (fun a w hf hs => r_b2s Tryd.underlying66 Tryd.underlying5 Tryd.underlying9 h27 hs.sub (hf.ev rfl)) ?_
    refine v_assign rfl rfl ?_
    refine w_nil (hK19 _ _ _ ?_)
    refine c_sr fun _ hK28 => ?_
    refine v_move rfl rfl ?_
    refine v_move rfl rfl ?_
    refine v_move rfl rfl ?_
    refine w_bsl (F := FS) (es := ([([110, 111, 110, 99, 101] : List UInt8), (intsB t20), p2] : List (List UInt8))) (xs := [.const (str ([110, 111, 110, 99, 101] : List UInt8)), .tmp 37, .tmp 38]) (vs := [(str ([110, 111, 110, 99, 101] : List UInt8)), (str (intsB t20)), (str p2)]) Tryd.underlying63 te9 trivial rfl rfl rfl rfl rfl (by decide) ?_
    intro v29 M30 l31 h32 c33
    replace hG := hG.mono l31
    obtain ⟨t34, e39, H⟩ := bnd H
    refine w_call cf39 trivial rfl rfl (fun w hs => seal_code.calls hs hG t3.2.1 (12 : Int) ([([110, 111, 110, 99, 101] : List UInt8), (intsB t20), p2] : List (List UInt8)) v29 h32 _ e39) ?_
    rintro _ M36 l37 rfl
    replace hG := hG.mono l37
    refine v_assign rfl rfl ?_
    refine w_nil (hK28 _ _ _ ?_)
    refine c_sr fun _ hK40 => ?_
    refine v_move rfl rfl ?_
    refine v_move rfl rfl ?_
    refine v_move rfl rfl ?_
    obtain ⟨t41, e46, H⟩ := bnd H
    refine w_call cf40 trivial rfl rfl (fun w hs => cipher_Xor.calls hs t3.1 (1 : Int) t34 p2 _ e46) ?_
    rintro _ M43 l44 rfl
    replace hG := hG.mono l44
    refine v_move rfl rfl ?_
    refine v_extract rfl rfl rfl ?_
    refine v_extract rfl rfl rfl ?_
    refine v_assign rfl rfl ?_
    refine v_assign rfl rfl ?_
    refine w_nil (hK40 _ _ _ ?_)
    refine c_sr fun _ hK47 => ?_
    refine v_move rfl rfl ?_
    refine v_move rfl rfl ?_
    obtain ⟨g48, H⟩ := grd_s H
    refine wv rfl (fun a w hf hs => r_sadd (hf.ev rfl) (hf.ev rfl) g48) ?_
    refine v_move rfl rfl ?_
    refine v_move rfl rfl ?_
    refine v_move rfl rfl ?_
    refine v_move rfl rfl ?_
    refine w_bsl (F := FS) (es := ([([116, 97, 103] : List UInt8), t34, (intsB t20), t41.1] : List (List UInt8))) (xs := [.const (str ([116, 97, 103] : List UInt8)), .tmp 52, .tmp 53, .tmp 54]) (vs := [(str ([116, 97, 103] : List UInt8)), (str t34), (str (intsB t20)), (str t41.1)]) Tryd.underlying63 te9 trivial rfl rfl rfl rfl rfl (by decide) ?_
    intro v49 M50 l51 h52 c53
    replace hG := hG.mono l51
    obtain ⟨t54, e59, H⟩ := bnd H
    refine w_call cf39 trivial rfl rfl (fun w hs => seal_code.calls hs hG t3.2.1 (16 : Int) ([([116, 97, 103] : List UInt8), t34, (intsB t20), t41.1] : List (List UInt8)) v49 h52 _ e59) ?_
    rintro _ M56 l57 rfl
    obtain ⟨g60, H⟩ := grd_s H
    refine wv rfl (fun a w hf hs => r_sadd (hf.ev rfl) (hf.ev rfl) g60) ?_
    refine v_assign rfl rfl ?_
    refine v_assign rfl rfl ?_
    refine w_nil (hK47 _ _ _ ?_)
    obtain rfl := some_r H
    exact c_ret fun a w' hf hs => hret _ (.inl rfl) a w' hf.df ⟨_, _, Res.of2 rfl (RV.t hf rfl) (RV.t hf rfl), hs.ext, rfl⟩
theorem backup_Make.calls {M : Heap} {w : World} (hM : Sub M w) (hG : Gl M) (p0 : (List UInt8)) (p1 : Backup) (v1 : Value) (h2 : RS Key.F M v1 p1.Keys) (r : ((List UInt8) × Int)) (H : backup_Make p0 p1 = some r) :
  Calls Tryd.prog 21 [(str p0), (.agg (Backup.C p1 v1).toArray)].toArray w (Post M w fun M' v => v = .tuple #[(str r.1), (.int .i64 r.2)]) := by
 refine enter 37 [(0, (str p0)), (1, (.agg (Backup.C p1 v1).toArray))] Tryd.func21 rfl rfl rfl hM ?_
 intro Q hret
 unfold backup_Make at H
 refine c_sr fun _ hK3 => ?_
 refine w_boxM trivial rfl rfl rfl ?_
 intro b4 M5 l6 h7
 replace hG := hG.mono l6
 replace h2 := h2.mono l6
 refine v_assign rfl rfl ?_
 refine v_assign rfl rfl ?_
 refine w_nil (hK3 _ _ _ ?_)
 refine c_seq fun K8 hK8 => ?_
 obtain ⟨t9, H1, H⟩ := bnd H
 refine c_cut (fun a' w' => ∃ (M10 : Heap), HLe M5 M10 ∧ Fr 37 [(0, (str p0)), (3, (ptr b4 0)), (16, (.bool t9))] a' ∧ St none' M w M10 (lt []) w') ?_ ?_
 ·replace H := H1
  clear H1
  refine c_reg ?_
  refine v_move rfl rfl ?_
  refine wv rfl (fun a w hf hs => r_slen Tryd.underlying9 (hf.ev rfl)) ?_
  refine wv rfl (fun a w hf hs => r_neq (hf.ev rfl) (hf.ev rfl)) ?_
  refine v_move rfl rfl ?_
  by_cases b12 : ((p0.length : Int) != (32 : Int)) = true
  ·replace H := if_t b12 H
   refine w_not (Nwt.of rfl rfl b12) rfl ?_
   refine w_not (Nwt.of rfl rfl b12) rfl ?_
   refine w_not (Nwt.of rfl rfl b12) rfl ?_
   refine wv rfl (fun a w hf hs => r_pickT (hf.ev rfl) b12 (hf.ev rfl)) ?_
   obtain rfl := some_r H
   exact w_nil fun a w' hf hs => ⟨_, (HLe.refl _), (((hf.nil.add (hf.get _ _ rfl)).add (hf.get _ _ rfl)).add (hf.get _ _ rfl)), hs.sel [] (by decide) rfl⟩
  ·replace b12 := Bool.eq_false_iff.2 b12
   replace H := if_f b12 H
   refine w_val (Wnt.of rfl rfl b12) rfl (fun a w hf hs => r_loadA ta36 ts36 (hf.ev rfl) (hs.sub _ _ h7) (Backup.d0_38 _ _) (Backup.len _ _)) ?_
   obtain ⟨t13, e18, H⟩ := bnd H
   refine w_call cf46 (Wnt.of rfl rfl b12) rfl rfl (fun w hs => backup_Valid.calls hs p1 v1 h2 _ e18) ?_
   rintro _ M15 l16 rfl
   replace hG := hG.mono l16
   replace h2 := h2.mono l16
   replace h7 := l16 _ _ h7
   refine w_val (Wnt.of rfl rfl b12) rfl (fun a w hf hs => r_not (hf.ev rfl)) ?_
   refine wv rfl (fun a w hf hs => r_pickF (hf.ev rfl) b12 (hf.ev rfl)) ?_
   obtain rfl := some_r H
   exact w_nil fun a w' hf hs => ⟨_, l16, (((hf.nil.add (hf.get _ _ rfl)).add (hf.get _ _ rfl)).add (hf.get _ _ rfl)), hs.sel [] (by decide) rfl⟩
 ·clear H1
  rintro a w' ⟨M10, l11, hf, hs⟩
  refine c_of (c := (Cx.mk Tryd.prog 37 none' M w)) ?_ hf hs
  clear hf hs
  replace hG := hG.mono l11
  replace h2 := h2.mono l11
  replace h7 := l11 _ _ h7
  refine c_if rfl (fun b19 => ?_) (fun b19 => ?_)
  ·replace H := if_t b19 H
   refine c_sr fun _ hK20 => ?_
   refine v_assign rfl rfl ?_
   refine v_assign rfl rfl ?_
   refine w_nil (hK20 _ _ _ ?_)
   obtain rfl := some_r H
   exact c_ret fun a w' hf hs => hret _ (.inl rfl) a w' hf.df ⟨_, _, Res.of2 rfl (RV.t hf rfl) (RV.t hf rfl), hs.ext, rfl⟩
  ·replace H := if_f b19 H
   refine c_skip (hK8 _ _ _ ?_)
   refine c_sr fun _ hK21 => ?_
   refine wv rfl (fun a w hf hs => r_loadA ta36 ts36 (hf.ev rfl) (hs.sub _ _ h7) (Backup.d0_38 _ _) (Backup.len _ _)) ?_
   obtain ⟨t22, e27, H⟩ := bnd H
   refine w_call cf48 trivial rfl rfl (fun w hs => backup_Header.calls hs p1 v1 h2 _ e27) ?_
   rintro _ M24 l25 rfl
   replace hG := hG.mono l25
   replace h2 := h2.mono l25
   replace h7 := l25 _ _ h7
   refine v_assign rfl rfl ?_
   refine w_nil (hK21 _ _ _ ?_)
   refine c_seq fun K28 hK28 => ?_
   obtain ⟨t34, e39, H⟩ := bnd H
   obtain ⟨t50, e55, H⟩ := bnd H
   obtain ⟨t61, e66, H⟩ := bnd H
   refine c_drawP [([], [0]), ([(0, 20)], []), ([], [6]), ([], [3]), ([(3, 23)], []), ([(4, 24)], []), ([(1, 21), (2, 22), (5, 25)], []), ([(6, 26)], []), ([(7, 19)], []), ([(7, 19)], []), ([(8, 27)], []), ([(9, 28)], [])] [fun v M => v = (str p0), fun v M => v = (str t34), fun v M => v = (str t22), fun v M => v = (ptr b4 37), fun v M => v = v1, fun v M => v = (str t50), fun v M => v = (.tuple #[(str t61.1), (.int .i64 t61.2)]), fun v M => v = (.tuple #[(str t61.1), (.int .i64 t61.2)]), fun v M => v = (str t61.1), fun v M => v = (.int .i64 t61.2), fun v M => v = (str t61.1), fun v M => v = (.int .i64 t61.2)] (by kernel_rfl) (by kernel_rfl) ?_ (AllT.cons ?_ (AllT.cons ?_ (AllT.cons ?_ (AllT.cons ?_ (AllT.cons ?_ (AllT.cons ?_ (AllT.cons ?_ (AllT.cons ?_ (AllT.cons ?_ (AllT.cons ?_ (AllT.cons ?_ (AllT.cons ?_ AllT.nil)))))))))))) ?_
   ·exact (mC (mC (mC (mC (mC (mC (mC (mC (mC (mC (mC (mC MonoA.nil))))))))))))
   ·intro a w' M29 l30 hd hs
    exact pv (hd.fr.add (hd.base 0 _ rfl rfl)) hs rfl (fun a w hf hs => r_move (hf.ev rfl)) rfl
   ·intro a w' M31 l32 hd hs
    have e33 := hd.val 0 20 _ rfl rfl
    replace hG := hG.mono l32
    refine OP.ofW (l := [(20, (str p0))]) (hd.fr.add e33) hs rfl ?_
    refine w_call cf49 trivial rfl rfl (fun w hs => kdf_Derive.calls hs hG p0 ([98, 97, 99, 107, 117, 112] : List UInt8) ([] : (List (List UInt8))) (.slice none 0 0) RS.none _ e39) ?_
    rintro _ M36 l37 rfl
    exact w_nil fun a w' hf hs => ⟨rfl, hf.df, _, l37, hs, hf.get _ _ rfl⟩
   ·intro a w' M40 l41 hd hs
    exact pv (hd.fr.add (hd.base 6 _ rfl rfl)) hs rfl (fun a w hf hs => r_move (hf.ev rfl)) rfl
   ·intro a w' M42 l43 hd hs
    replace h7 := l43 _ _ h7
    replace h2 := h2.mono l43
    exact pv (hd.fr.add (hd.base 3 _ rfl rfl)) hs rfl (fun a w hf hs => r_fa fa36_7 (hf.ev rfl)) rfl
   ·intro a w' M44 l45 hd hs
    have e46 := hd.val 3 23 _ rfl rfl
    replace h7 := l45 _ _ h7
    replace h2 := h2.mono l45
    exact pv (hd.fr.add e46) hs rfl (fun a w hf hs => r_load1 ta34 (hf.ev rfl) (hs.sub _ _ h7) (Backup.g37 _ _)) rfl
   ·intro a w' M47 l48 hd hs
    have e49 := hd.val 4 24 _ rfl rfl
    replace h2 := h2.mono l48
    refine OP.ofW (l := [(24, v1)]) (hd.fr.add e49) hs rfl ?_
    refine w_call cf50 trivial rfl rfl (fun w hs => backup_content.calls hs p1.Keys v1 h2 _ e55) ?_
    rintro _ M52 l53 rfl
    exact w_nil fun a w' hf hs => ⟨rfl, hf.df, _, l53, hs, hf.get _ _ rfl⟩
   ·intro a w' M56 l57 hd hs
    have e58 := hd.val 1 21 _ rfl rfl
    have e59 := hd.val 2 22 _ rfl rfl
    have e60 := hd.val 5 25 _ rfl rfl
    replace hG := hG.mono l57
    refine OP.ofW (l := [(21, (str t34)), (22, (str t22)), (25, (str t50))]) (((hd.fr.add e60).add e59).add e58) hs rfl ?_
    refine w_call cf15 trivial rfl rfl (fun w hs => seal_Seal.calls hs hG t34 t22 t50 _ e66) ?_
    rintro _ M63 l64 rfl
    exact w_nil fun a w' hf hs => ⟨rfl, hf.df, _, l64, hs, hf.get _ _ rfl⟩
   ·intro a w' M67 l68 hd hs
    have e69 := hd.val 6 26 _ rfl rfl
    exact pv (hd.fr.add e69) hs rfl (fun a w hf hs => r_move (hf.ev rfl)) rfl
   ·intro a w' M70 l71 hd hs
    have e72 := hd.val 7 19 _ rfl rfl
    exact pv (hd.fr.add e72) hs rfl (fun a w hf hs => r_extract (hf.ev rfl) rfl) rfl
   ·intro a w' M73 l74 hd hs
    have e75 := hd.val 7 19 _ rfl rfl
    exact pv (hd.fr.add e75) hs rfl (fun a w hf hs => r_extract (hf.ev rfl) rfl) rfl
   ·intro a w' M76 l77 hd hs
    have e78 := hd.val 8 27 _ rfl rfl
    exact pv (hd.fr.add e78) hs rfl (fun a w hf hs => r_assign (hf.ev rfl)) rfl
   ·intro a w' M79 l80 hd hs
    have e81 := hd.val 9 28 _ rfl rfl
    exact pv (hd.fr.add e81) hs rfl (fun a w hf hs => r_assign (hf.ev rfl)) rfl
   intro a w' M82 l83 hdf hsz hb hv hs
   have e84 := hv 10 7 _ rfl rfl
   have e85 := hv 11 8 _ rfl rfl
   refine n_of (c := (Cx.mk Tryd.prog 37 none' M w)) (l := [(6, (str t22)), (7, (str t61.1)), (8, (.int .i64 t61.2))]) ?_ ((((Fr.start hdf hsz).add e85).add e84).add (hb 6 _ rfl rfl)) hs
   clear hdf hsz hb hv hs e84 e85
   refine n_id (hK28 _ _ _ ?_)
   refine c_seq fun K86 hK86 => ?_
   refine c_sr fun _ hK87 => ?_
   refine v_move rfl rfl ?_
   refine wv rfl (fun a w hf hs => r_neq (hf.ev rfl) (hf.ev rfl)) ?_
   refine w_nil (hK87 _ _ _ ?_)
   refine c_if rfl (fun b88 => ?_) (fun b88 => ?_)
   ·replace H := if_t b88 H
    refine c_sr fun _ hK89 => ?_
    refine v_move rfl rfl ?_
    refine v_assign rfl rfl ?_
    refine v_assign rfl rfl ?_
    refine w_nil (hK89 _ _ _ ?_)
    obtain rfl := some_r H
    exact c_ret fun a w' hf hs => hret _ (.inl rfl) a w' hf.df ⟨_, _, Res.of2 rfl (RV.t hf rfl) (RV.t hf rfl), hs.ext, rfl⟩
   ·replace H := if_f b88 H
    refine c_skip (hK86 _ _ _ ?_)
    refine c_sr fun _ hK90 => ?_
    refine v_move rfl rfl ?_
    obtain ⟨t91, e96, H⟩ := bnd H
    refine w_call cf38 trivial rfl rfl (fun w hs => wire_Bytes.calls hs t22 _ e96) ?_
    rintro v100 M93 l94 ⟨v97, hv_, h98⟩
    replace hv_ := hv_.symm
    subst hv_
    refine wv rfl (fun a w hf hs => r_b2s Tryd.underlying66 Tryd.underlying5 Tryd.underlying9 h98 hs.sub (hf.ev rfl)) ?_
    refine v_move rfl rfl ?_
    obtain ⟨g99, H⟩ := grd_s H
    refine wv rfl (fun a w hf hs => r_sadd (hf.ev rfl) (hf.ev rfl) g99) ?_
    refine v_assign rfl rfl ?_
    refine v_assign rfl rfl ?_
    refine w_nil (hK90 _ _ _ ?_)
    obtain rfl := some_r H
    exact c_ret fun a w' hf hs => hret _ (.inl rfl) a w' hf.df ⟨_, _, Res.of2 rfl (RV.t hf rfl) (RV.t hf rfl), hs.ext, rfl⟩
theorem backup_reader_check.calls {M : Heap} {w : World} {b : Nat} {T : TypeId} {q : List Value} {x_ : backup_reader} {v1 : Value} (hs : St (fun k => k = b) M w M (lt [.blk b (.cells ((backup_reader.C x_ v1 ++ q)).toArray T (0, 0))]) w) (h2 : RS (FI .u8) M v1 x_.rest_) (p1 : Bool) (p2 : Int) (r : (Bool × backup_reader)) (H : backup_reader_check x_ p1 p2 = some r) :
  Calls Tryd.prog 55 [(ptr b 0), (.bool p1), (.int .i64 p2)].toArray w (PostI (fun k => k = b) M w fun M' x v => ∃ (v15 : Value), v = (.bool r.1) ∧ RS (FI .u8) M' v15 r.2.rest_ ∧ x = .blk b (.cells ((backup_reader.C r.2 v15 ++ q)).toArray T (0, 0))) := by
 refine enterI 25 [(0, (ptr b 0)), (1, (.bool p1)), (2, (.int .i64 p2))] Tryd.func55 rfl rfl rfl hs ?_
 clear hs
 intro Q hret
 unfold backup_reader_check at H
 refine c_sr fun _ hK3 => ?_
 refine v_assign rfl rfl ?_
 refine w_nil (hK3 _ _ _ ?_)
 refine c_cut (fun a' w' => ∃ (x4 : backup_reader) (v5 : Value) (M7 : Heap), HLe M M7 ∧ RS (FI .u8) M7 v5 x4.rest_ ∧ Fr 25 [(0, (ptr b 0))] a' ∧ St (fun k => k = b) M w M7 (lt [.blk b (.cells ((backup_reader.C x4 v5 ++ q)).toArray T (0, 0))]) w' ∧ backup_reader_check.j1 x4 = some r) ?_ ?_
 ·obtain ⟨t10, H1, H⟩ := bnd H
  refine c_cut (fun a' w' => ∃ (M11 : Heap), HLe M M11 ∧ Fr 25 [(0, (ptr b 0)), (2, (.int .i64 p2)), (15, (.bool t10))] a' ∧ St (fun k => k = b) M w M11 (lt [.blk b (.cells ((backup_reader.C x_ v1 ++ q)).toArray T (0, 0))]) w') ?_ ?_
  ·replace H := H1
   clear H1
   refine c_reg ?_
   refine v_move rfl rfl ?_
   refine wv rfl (fun a w hf hs => r_nilCheck (hf.ev rfl)) ?_
   refine v_fa fa80_1 rfl rfl ?_
   refine wv rfl (fun a w hf hs => r_load1 ta24 (hf.ev rfl) (hs.blk (i := 0) rfl) rfl) ?_
   refine wv rfl (fun a w hf hs => r_eql (hf.ev rfl) (hf.ev rfl)) ?_
   refine v_move rfl rfl ?_
   by_cases b13 : (x_.e == (0 : Int)) = true
   ·replace H := if_t b13 H
    refine w_val (Wnt.of rfl rfl b13) rfl (fun a w hf hs => r_move (hf.ev rfl)) ?_
    refine w_val (Wnt.of rfl rfl b13) rfl (fun a w hf hs => r_not (hf.ev rfl)) ?_
    refine wv rfl (fun a w hf hs => r_pickT (hf.ev rfl) b13 (hf.ev rfl)) ?_
    obtain rfl := some_r H
    exact w_nil fun a w' hf hs => ⟨_, (HLe.refl _), (((hf.nil.add (hf.get _ _ rfl)).add (hf.get _ _ rfl)).add (hf.get _ _ rfl)), hs.sel [0] (by decide) rfl⟩
   ·replace b13 := Bool.eq_false_iff.2 b13
    replace H := if_f b13 H
    refine w_not (Nwt.of rfl rfl b13) rfl ?_
    refine w_not (Nwt.of rfl rfl b13) rfl ?_
    refine wv rfl (fun a w hf hs => r_pickF (hf.ev rfl) b13 (hf.ev rfl)) ?_
    obtain rfl := some_r H
    exact w_nil fun a w' hf hs => ⟨_, (HLe.refl _), (((hf.nil.add (hf.get _ _ rfl)).add (hf.get _ _ rfl)).add (hf.get _ _ rfl)), hs.sel [0] (by decide) rfl⟩
  ·clear H1
   rintro a w' ⟨M11, l12, hf, hs⟩
   refine c_of (c := (Cx.mk Tryd.prog 25 (fun k => k = b) M w)) ?_ hf hs
   clear hf hs
   replace h2 := h2.mono l12
   refine c_if rfl (fun b14 => ?_) (fun b14 => ?_)
   ·replace H := if_t b14 H
    refine c_reg ?_
    refine v_move rfl rfl ?_
    refine v_move rfl rfl ?_
    refine wv rfl (fun a w hf hs => r_nilCheck (hf.ev rfl)) ?_
    refine v_fa fa80_1 rfl rfl ?_
    refine w_store (i := 0) (vs := [(.int .i64 p2)]) (A' := (backup_reader.C ({ x_ with e := p2 } : backup_reader) v1 ++ q)) trivial rfl rfl rfl rfl ts24 rfl (one1 rfl) (Nat.le_of_ble_eq_true rfl) rfl ?_
    exact w_nil fun a w' hf hs => ⟨({ x_ with e := p2 } : backup_reader), v1, _, l12, h2, (hf.nil.add (hf.get _ _ rfl)), hs.selD [some 0] (by decide) rfl, H⟩
   ·replace H := if_f b14 H
    refine c_skip ?_
    intro a w' hf hs
    exact ⟨x_, v1, _, l12, h2, (hf.nil.add (hf.get _ _ rfl)), hs.selD [some 0] (by decide) rfl, H⟩
 ·rintro a w' ⟨x4, v5, M7, l8, h6, hf, hs, H⟩
  refine c_of (c := (Cx.mk Tryd.prog 25 (fun k => k = b) M w)) ?_ hf hs
  unfold backup_reader_check.j1 at H
  clear hf hs
  refine c_sr fun _ hK9 => ?_
  refine v_move rfl rfl ?_
  refine wv rfl (fun a w hf hs => r_nilCheck (hf.ev rfl)) ?_
  refine v_fa fa80_1 rfl rfl ?_
  refine wv rfl (fun a w hf hs => r_load1 ta24 (hf.ev rfl) (hs.blk (i := 0) rfl) rfl) ?_
  refine wv rfl (fun a w hf hs => r_eql (hf.ev rfl) (hf.ev rfl)) ?_
  refine v_assign rfl rfl ?_
  refine w_nil (hK9 _ _ _ ?_)
  obtain rfl := some_r H
  exact c_ret fun a w' hf hs => hret _ (.inl rfl) a w' hf.df ⟨_, _, _, Res.of1 rfl (RV.t hf rfl), hs.sel [0] (by decide) rfl, ⟨_, rfl, h6, rfl⟩⟩
theorem wire_GetInt.calls {M : Heap} {w : World} (hM : Sub M w) (p0 : (List Int)) (v1 : Value) (h2 : RS (FI .u8) M v1 p0) (r : (Int × Int × Int)) (H : wire_GetInt p0 = some r) :
  Calls Tryd.prog 129 [v1].toArray w (Post M w fun M' v => v = .tuple #[(.int .i64 r.1), (.int .i64 r.2.1), (.int .i64 r.2.2)]) := by
 refine enter 71 [(0, v1)] Tryd.func129 rfl rfl rfl hM ?_
 intro Q hret
 unfold wire_GetInt at H
 refine c_sr fun _ hK3 => ?_
 refine v_assign rfl rfl ?_
 refine v_assign rfl rfl ?_
 refine v_assign rfl rfl ?_
 refine w_nil (hK3 _ _ _ ?_)
 refine c_seq fun K4 hK4 => ?_
 refine c_sr fun _ hK5 => ?_
 refine v_move rfl rfl ?_
 refine wv rfl (fun a w hf hs => r_lenR Tryd.underlying66 h2 (hf.ev rfl)) ?_
 refine wv rfl (fun a w hf hs => r_eql (hf.ev rfl) (hf.ev rfl)) ?_
 refine w_nil (hK5 _ _ _ ?_)
 refine c_if rfl (fun b6 => ?_) (fun b6 => ?_)
 ·replace H := if_t b6 H
  refine c_sr fun _ hK7 => ?_
  refine v_assign rfl rfl ?_
  refine v_assign rfl rfl ?_
  refine v_assign rfl rfl ?_
  refine w_nil (hK7 _ _ _ ?_)
  obtain rfl := some_r H
  exact c_ret fun a w' hf hs => hret _ (.inl rfl) a w' hf.df ⟨_, _, Res.of3 rfl (RV.t hf rfl) (RV.t hf rfl) (RV.t hf rfl), hs.ext, rfl⟩
 ·replace H := if_f b6 H
  refine c_skip (hK4 _ _ _ ?_)
  refine c_sr fun _ hK8 => ?_
  refine v_assign rfl rfl ?_
  refine w_nil (hK8 _ _ _ ?_)
  refine c_cut (fun a' w' => ∃ (x9 : Int) (M10 : Heap), HLe M M10 ∧ Fr 71 [(0, v1), (5, (.int .u8 x9))] a' ∧ St none' M w M10 (lt []) w' ∧ wire_GetInt.j4 p0 x9 = some r) ?_ ?_
  ·refine c_seq ?_
   intro K57 hK57
   refine c_reg ?_
   refine v_move rfl rfl ?_
   obtain ⟨g58, H⟩ := grd_s H
   refine wv rfl (fun a w hf hs => r_iR Tryd.underlying66 ts5 h2 (hf.ev rfl) (hf.ev rfl) g58.1 g58.2) ?_
   refine wv rfl (fun a w hf hs => r_loadE1 ta5 h2 hs.sub g58.1 g58.2 (hf.ev rfl) rfl) ?_
   refine v_lss rfl rfl rfl ?_
   refine w_nil (hK57 _ _ _ ?_)
   refine c_if rfl (fun b59 => ?_) (fun b59 => ?_)
   ·replace H := if_t b59 H
    refine c_reg ?_
    refine v_assign rfl rfl ?_
    exact w_nil fun a w' hf hs => ⟨(255 : Int), _, (HLe.refl _), ((hf.nil.add (hf.get _ _ rfl)).add (hf.get _ _ rfl)), hs.selD [] (by decide) rfl, H⟩
   ·replace H := if_f b59 H
    refine c_skip ?_
    intro a w' hf hs
    exact ⟨(0 : Int), _, (HLe.refl _), ((hf.nil.add (hf.get _ _ rfl)).add (hf.get _ _ rfl)), hs.selD [] (by decide) rfl, H⟩
  ·rintro a w' ⟨x9, M10, l11, hf, hs, H⟩
   refine c_of (c := (Cx.mk Tryd.prog 71 none' M w)) ?_ hf hs
   unfold wire_GetInt.j4 at H
   clear hf hs
   replace h2 := h2.mono l11
   refine c_sr fun _ hK12 => ?_
   refine v_move rfl rfl ?_
   obtain ⟨g13, H⟩ := grd_s H
   refine wv rfl (fun a w hf hs => r_iR Tryd.underlying66 ts5 h2 (hf.ev rfl) (hf.ev rfl) g13.1 g13.2) ?_
   refine wv rfl (fun a w hf hs => r_loadE1 ta5 h2 hs.sub g13.1 g13.2 (hf.ev rfl) rfl) ?_
   refine v_move rfl rfl ?_
   refine wv rfl (fun a w hf hs => r_xor (hf.ev rfl) (hf.ev rfl)) ?_
   refine wv rfl (fun a w hf hs => r_conv Tryd.underlying5 Tryd.underlying3 (hf.ev rfl)) ?_
   refine wv rfl (fun a w hf hs => r_sub (hf.ev rfl) (hf.ev rfl)) ?_
   refine v_assign rfl rfl ?_
   refine w_nil (hK12 _ _ _ ?_)
   refine c_seq fun K14 hK14 => ?_
   refine c_block ?_
   refine c_sr fun _ hK15 => ?_
   refine v_move rfl rfl ?_
   refine wv rfl (fun a w hf hs => r_gtr (hf.ev rfl) (hf.ev rfl)) ?_
   refine v_assign rfl rfl ?_
   refine w_nil (hK15 _ _ _ ?_)
   refine c_if rfl (fun b16 => ?_) (fun b16 => ?_)
   ·replace H := if_t b16 H
    refine c_sr fun _ hK17 => ?_
    refine v_assign rfl rfl ?_
    refine v_assign rfl rfl ?_
    refine v_assign rfl rfl ?_
    refine w_nil (hK17 _ _ _ ?_)
    obtain rfl := some_r H
    exact c_ret fun a w' hf hs => hret _ (.inl rfl) a w' hf.df ⟨_, _, Res.of3 rfl (RV.t hf rfl) (RV.t hf rfl) (RV.t hf rfl), hs.ext, rfl⟩
   ·replace H := if_f b16 H
    refine c_sr fun _ hK18 => ?_
    refine v_move rfl rfl ?_
    refine wv rfl (fun a w hf hs => r_lenR Tryd.underlying66 h2 (hf.ev rfl)) ?_
    refine v_move rfl rfl ?_
    refine wv rfl (fun a w hf hs => r_leq (hf.ev rfl) (hf.ev rfl)) ?_
    refine v_assign rfl rfl ?_
    refine w_nil (hK18 _ _ _ ?_)
    refine c_if rfl (fun b19 => ?_) (fun b19 => ?_)
    ·replace H := if_t b19 H
     refine c_sr fun _ hK20 => ?_
     refine v_assign rfl rfl ?_
     refine v_assign rfl rfl ?_
     refine v_assign rfl rfl ?_
     refine w_nil (hK20 _ _ _ ?_)
     obtain rfl := some_r H
     exact c_ret fun a w' hf hs => hret _ (.inl rfl) a w' hf.df ⟨_, _, Res.of3 rfl (RV.t hf rfl) (RV.t hf rfl) (RV.t hf rfl), hs.ext, rfl⟩
    ·replace H := if_f b19 H
     obtain ⟨t21, H1, H⟩ := bnd H
     refine c_cut (fun a' w' => ∃ (M22 : Heap), HLe M10 M22 ∧ Fr 71 [(0, v1), (5, (.int .u8 x9)), (6, (.int .i64 (IntKind.i64.wrap ((IntKind.i64.wrap (bits .xor .u8 (rd p0 0) x9)) - (128 : Int))))), (32, (.bool t21))] a' ∧ St none' M w M22 (lt []) w') ?_ ?_
     ·replace H := H1
      clear H1
      refine c_reg ?_
      refine v_move rfl rfl ?_
      refine wv rfl (fun a w hf hs => r_gtr (hf.ev rfl) (hf.ev rfl)) ?_
      refine v_move rfl rfl ?_
      by_cases b24 : (decide ((0 : Int) < (IntKind.i64.wrap ((IntKind.i64.wrap (bits .xor .u8 (rd p0 0) x9)) - (128 : Int))))) = true
      ·replace H := if_t b24 H
       refine w_val (Wnt.of rfl rfl b24) rfl (fun a w hf hs => r_move (hf.ev rfl)) ?_
       obtain ⟨g25, H⟩ := grd_s H
       refine w_val (Wnt.of rfl rfl b24) rfl (fun a w hf hs => r_iR Tryd.underlying66 ts5 h2 (hf.ev rfl) (hf.ev rfl) g25.1 g25.2) ?_
       refine w_val (Wnt.of rfl rfl b24) rfl (fun a w hf hs => r_loadE1 ta5 h2 hs.sub g25.1 g25.2 (hf.ev rfl) rfl) ?_
       refine w_val (Wnt.of rfl rfl b24) rfl (fun a w hf hs => r_move (hf.ev rfl)) ?_
       refine w_val (Wnt.of rfl rfl b24) rfl (fun a w hf hs => r_xor (hf.ev rfl) (hf.ev rfl)) ?_
       refine w_val (Wnt.of rfl rfl b24) rfl (fun a w hf hs => r_eql (hf.ev rfl) (hf.ev rfl)) ?_
       refine wv rfl (fun a w hf hs => r_pickT (hf.ev rfl) b24 (hf.ev rfl)) ?_
       refine v_assign rfl rfl ?_
       obtain rfl := some_r H
       exact w_nil fun a w' hf hs => ⟨_, (HLe.refl _), ((((hf.nil.add (hf.get _ _ rfl)).add (hf.get _ _ rfl)).add (hf.get _ _ rfl)).add (hf.get _ _ rfl)), hs.sel [] (by decide) rfl⟩
      ·replace b24 := Bool.eq_false_iff.2 b24
       replace H := if_f b24 H
       refine w_not (Nwt.of rfl rfl b24) rfl ?_
       refine w_not (Nwt.of rfl rfl b24) rfl ?_
       refine w_not (Nwt.of rfl rfl b24) rfl ?_
       refine w_not (Nwt.of rfl rfl b24) rfl ?_
       refine w_not (Nwt.of rfl rfl b24) rfl ?_
       refine w_not (Nwt.of rfl rfl b24) rfl ?_
       refine wv rfl (fun a w hf hs => r_pickF (hf.ev rfl) b24 (hf.ev rfl)) ?_
       refine v_assign rfl rfl ?_
       obtain rfl := some_r H
       exact w_nil fun a w' hf hs => ⟨_, (HLe.refl _), ((((hf.nil.add (hf.get _ _ rfl)).add (hf.get _ _ rfl)).add (hf.get _ _ rfl)).add (hf.get _ _ rfl)), hs.sel [] (by decide) rfl⟩
     ·clear H1
      rintro a w' ⟨M22, l23, hf, hs⟩
      refine c_of (c := (Cx.mk Tryd.prog 71 none' M w)) ?_ hf hs
      clear hf hs
      replace h2 := h2.mono l23
      refine c_if rfl (fun b26 => ?_) (fun b26 => ?_)
      ·replace H := if_t b26 H
       refine c_sr fun _ hK27 => ?_
       refine v_assign rfl rfl ?_
       refine v_assign rfl rfl ?_
       refine v_assign rfl rfl ?_
       refine w_nil (hK27 _ _ _ ?_)
       obtain rfl := some_r H
       exact c_ret fun a w' hf hs => hret _ (.inl rfl) a w' hf.df ⟨_, _, Res.of3 rfl (RV.t hf rfl) (RV.t hf rfl) (RV.t hf rfl), hs.ext, rfl⟩
      ·replace H := if_f b26 H
       refine c_skip (hK14 _ _ _ ?_)
       refine c_sr fun _ hK28 => ?_
       refine v_assign rfl rfl ?_
       refine w_nil (hK28 _ _ _ ?_)
       refine c_cut (fun a' w' => ∃ (x29 : Int) (M30 : Heap), HLe M22 M30 ∧ Fr 71 [(5, (.int .u8 x9)), (6, (.int .i64 (IntKind.i64.wrap ((IntKind.i64.wrap (bits .xor .u8 (rd p0 0) x9)) - (128 : Int))))), (7, (.int .u64 x29))] a' ∧ St none' M w M30 (lt []) w' ∧ wire_GetInt.j2 x29 x9 p0 = some r) ?_ ?_
       ·refine c_seq ?_
        intro K42 hK42
        refine c_reg ?_
        refine v_move rfl rfl ?_
        refine v_move rfl rfl ?_
        refine v_add rfl rfl rfl ?_
        obtain ⟨g45, H⟩ := grd_s H
        refine w_ex (Φ := fun v => RS (FI .u8) M22 v ((p0.take ((IntKind.i64.wrap ((IntKind.i64.wrap ((IntKind.i64.wrap (bits .xor .u8 (rd p0 0) x9)) - (128 : Int))) + (1 : Int)))).toNat).drop ((1 : Int)).toNat)) trivial rfl (fun a w hf hs => r_slR Tryd.underlying66 ts5 (hf.ev rfl) h2 ⟨_, hf.ev rfl⟩ ⟨_, hf.ev rfl⟩ g45.1 g45.2.1 g45.2.2) ?_
        intro v43 h44
        refine wv rfl (fun a w hf hs => r_lenR Tryd.underlying66 h44 (hf.ev rfl)) ?_
        refine v_move rfl rfl ?_
        refine w_nil (hK42 _ _ _ ?_)
        refine c_block ?_
        refine c_loop (fun (s46 : (Int × Int)) a' w' => ∃ (M47 : Heap), HLe M22 M47 ∧ Fr 71 [(5, (.int .u8 x9)), (6, (.int .i64 (IntKind.i64.wrap ((IntKind.i64.wrap (bits .xor .u8 (rd p0 0) x9)) - (128 : Int))))), (7, (.int .u64 s46.1)), (46, v43), (47, (.int .i64 (((p0.take ((IntKind.i64.wrap ((IntKind.i64.wrap ((IntKind.i64.wrap (bits .xor .u8 (rd p0 0) x9)) - (128 : Int))) + (1 : Int)))).toNat).drop ((1 : Int)).toNat).length : Int))), (48, (.int .i64 s46.2))] a' ∧ St none' M w M47 (lt []) w') ((0 : Int), (0 : Int)) H ?_ ?_
        ·intro a w' hf hs
         exact ⟨_, HLe.refl _, ((((((hf.nil.add (hf.get _ _ rfl)).add (hf.get _ _ rfl)).add (hf.get _ _ rfl)).add (hf.get _ _ rfl)).add (hf.get _ _ rfl)).add (hf.get _ _ rfl)), hs.selD [] (by decide) rfl⟩
        ·clear H
         intro s46 y50 H r49 a w' hJ
         obtain ⟨M47, l48, hf, hs⟩ := hJ
         refine c_of (c := (Cx.mk Tryd.prog 71 none' M w)) ?_ hf hs
         unfold wire_GetInt.l3 at H
         clear hf hs
         replace h44 := h44.mono l48
         refine c_sr fun _ hK51 => ?_
         refine v_lss rfl rfl rfl ?_
         refine w_nil (hK51 _ _ _ ?_)
         refine c_seq fun K52 hK52 => ?_
         refine c_if rfl (fun b53 => ?_) (fun b53 => ?_)
         ·replace H := if_t b53 H
          refine c_skip (hK52 _ _ _ ?_)
          refine c_seq fun K54 hK54 => ?_
          refine c_block ?_
          refine c_sr fun _ hK55 => ?_
          obtain ⟨g56, H⟩ := grd_s H
          refine wv rfl (fun a w hf hs => r_iR Tryd.underlying66 ts5 h44 (hf.ev rfl) (hf.ev rfl) g56.1 g56.2) ?_
          refine wv rfl (fun a w hf hs => r_loadE1 ta5 h44 hs.sub g56.1 g56.2 (hf.ev rfl) rfl) ?_
          refine v_assign rfl rfl ?_
          refine w_nil (hK55 _ _ _ ?_)
          refine c_reg ?_
          refine v_move rfl rfl ?_
          refine wv rfl (fun a w hf hs => r_shl (hf.ev rfl) (hf.ev rfl) (by decide)) ?_
          refine v_move rfl rfl ?_
          refine v_move rfl rfl ?_
          refine wv rfl (fun a w hf hs => r_xor (hf.ev rfl) (hf.ev rfl)) ?_
          refine wv rfl (fun a w hf hs => r_conv Tryd.underlying5 Tryd.underlying121 (hf.ev rfl)) ?_
          refine wv rfl (fun a w hf hs => r_or (hf.ev rfl) (hf.ev rfl)) ?_
          refine v_assign rfl rfl ?_
          refine w_nil (hK54 _ _ _ ?_)
          refine c_reg ?_
          refine v_add rfl rfl rfl ?_
          refine v_move rfl rfl ?_
          exact w_nil fun a w' hf hs => ⟨_, (some_r H).symm, _, l48.trans (HLe.refl _), ((((((hf.nil.add (hf.get _ _ rfl)).add (hf.get _ _ rfl)).add (hf.get _ _ rfl)).add (hf.get _ _ rfl)).add (hf.get _ _ rfl)).add (hf.get _ _ rfl)), hs.selD [] (by decide) rfl⟩
         ·replace H := if_f b53 H
          replace H := map_inr H r49
          refine c_exit ?_
          intro a w' hf hs
          exact ⟨s46.1, _, l48, (((hf.nil.add (hf.get _ _ rfl)).add (hf.get _ _ rfl)).add (hf.get _ _ rfl)), hs.selD [] (by decide) rfl, H⟩
       ·rintro a w' ⟨x29, M30, l31, hf, hs, H⟩
        refine c_of (c := (Cx.mk Tryd.prog 71 none' M w)) ?_ hf hs
        unfold wire_GetInt.j2 at H
        clear hf hs
        refine c_seq fun K32 hK32 => ?_
        refine c_sr fun _ hK33 => ?_
        refine v_move rfl rfl ?_
        refine wv rfl (fun a w hf hs => r_shr (hf.ev rfl) (hf.ev rfl) (by decide)) ?_
        refine wv rfl (fun a w hf hs => r_gtr (hf.ev rfl) (hf.ev rfl)) ?_
        refine w_nil (hK33 _ _ _ ?_)
        refine c_if rfl (fun b34 => ?_) (fun b34 => ?_)
        ·replace H := if_t b34 H
         refine c_sr fun _ hK35 => ?_
         refine v_assign rfl rfl ?_
         refine v_assign rfl rfl ?_
         refine v_assign rfl rfl ?_
         refine w_nil (hK35 _ _ _ ?_)
         obtain rfl := some_r H
         exact c_ret fun a w' hf hs => hret _ (.inl rfl) a w' hf.df ⟨_, _, Res.of3 rfl (RV.t hf rfl) (RV.t hf rfl) (RV.t hf rfl), hs.ext, rfl⟩
        ·replace H := if_f b34 H
         refine c_skip (hK32 _ _ _ ?_)
         refine c_cut (fun a' w' => ∃ (x36 : Int) (M37 : Heap), HLe M30 M37 ∧ Fr 71 [(6, (.int .i64 (IntKind.i64.wrap ((IntKind.i64.wrap (bits .xor .u8 (rd p0 0) x9)) - (128 : Int))))), (7, (.int .u64 x36))] a' ∧ St none' M w M37 (lt []) w' ∧ wire_GetInt.j1 x36 p0 x9 = some r) ?_ ?_
         ·refine c_seq ?_
          intro K40 hK40
          refine c_reg ?_
          refine v_move rfl rfl ?_
          refine wv rfl (fun a w hf hs => r_gtr (hf.ev rfl) (hf.ev rfl)) ?_
          refine w_nil (hK40 _ _ _ ?_)
          refine c_if rfl (fun b41 => ?_) (fun b41 => ?_)
          ·replace H := if_t b41 H
           refine c_reg ?_
           refine v_move rfl rfl ?_
           refine wv rfl (fun a w hf hs => r_com (hf.ev rfl)) ?_
           refine v_assign rfl rfl ?_
           exact w_nil fun a w' hf hs => ⟨(bits .xor .u64 IntKind.u64.max x29), _, (HLe.refl _), ((hf.nil.add (hf.get _ _ rfl)).add (hf.get _ _ rfl)), hs.selD [] (by decide) rfl, H⟩
          ·replace H := if_f b41 H
           refine c_skip ?_
           intro a w' hf hs
           exact ⟨x29, _, (HLe.refl _), ((hf.nil.add (hf.get _ _ rfl)).add (hf.get _ _ rfl)), hs.selD [] (by decide) rfl, H⟩
         ·rintro a w' ⟨x36, M37, l38, hf, hs, H⟩
          refine c_of (c := (Cx.mk Tryd.prog 71 none' M w)) ?_ hf hs
          unfold wire_GetInt.j1 at H
          clear hf hs
          refine c_sr fun _ hK39 => ?_
          refine v_move rfl rfl ?_
          refine wv rfl (fun a w hf hs => r_conv Tryd.underlying121 Tryd.underlying3 (hf.ev rfl)) ?_
          refine v_move rfl rfl ?_
          refine v_add rfl rfl rfl ?_
          refine v_assign rfl rfl ?_
          refine v_assign rfl rfl ?_
          refine v_assign rfl rfl ?_
          refine w_nil (hK39 _ _ _ ?_)
          obtain rfl := some_r H
          exact c_ret fun a w' hf hs => hret _ (.inl rfl) a w' hf.df ⟨_, _, Res.of3 rfl (RV.t hf rfl) (RV.t hf rfl) (RV.t hf rfl), hs.ext, rfl⟩
theorem wire_count.calls {M : Heap} {w : World} (hM : Sub M w) (p0 : (List Int)) (v1 : Value) (h2 : RS (FI .u8) M v1 p0) (p1 : Int) (r : (Int × Int × Int)) (H : wire_count p0 p1 = some r) :
  Calls Tryd.prog 105 [v1, (.int .i64 p1)].toArray w (Post M w fun M' v => v = .tuple #[(.int .i64 r.1), (.int .i64 r.2.1), (.int .i64 r.2.2)]) := by
 refine enter 31 [(0, v1), (1, (.int .i64 p1))] Tryd.func105 rfl rfl rfl hM ?_
 intro Q hret
 unfold wire_count at H
 refine c_sr fun _ hK3 => ?_
 refine v_assign rfl rfl ?_
 refine v_assign rfl rfl ?_
 refine v_assign rfl rfl ?_
 refine w_nil (hK3 _ _ _ ?_)
 refine c_sr fun _ hK4 => ?_
 refine v_move rfl rfl ?_
 obtain ⟨t5, e10, H⟩ := bnd H
 refine w_call cf129 trivial rfl rfl (fun w hs => wire_GetInt.calls hs p0 v1 h2 _ e10) ?_
 rintro _ M7 l8 rfl
 replace h2 := h2.mono l8
 refine v_move rfl rfl ?_
 refine v_extract rfl rfl rfl ?_
 refine v_extract rfl rfl rfl ?_
 refine v_extract rfl rfl rfl ?_
 refine v_assign rfl rfl ?_
 refine v_assign rfl rfl ?_
 refine v_assign rfl rfl ?_
 refine w_nil (hK4 _ _ _ ?_)
 refine c_cut (fun a' w' => ∃ (x11 : Int) (M12 : Heap), HLe M7 M12 ∧ Fr 31 [(4, (.int .i64 t5.1)), (5, (.int .i64 t5.2.1)), (6, (.int .i64 x11))] a' ∧ St none' M w M12 (lt []) w' ∧ wire_count.j1 t5 x11 = some r) ?_ ?_
 ·refine c_block ?_
  refine c_sr fun _ hK15 => ?_
  refine v_move rfl rfl ?_
  refine wv rfl (fun a w hf hs => r_neq (hf.ev rfl) (hf.ev rfl)) ?_
  refine v_assign rfl rfl ?_
  refine w_nil (hK15 _ _ _ ?_)
  refine c_if rfl (fun b16 => ?_) (fun b16 => ?_)
  ·replace H := if_t b16 H
   refine c_skip ?_
   intro a w' hf hs
   exact ⟨t5.2.2, _, (HLe.refl _), (((hf.nil.add (hf.get _ _ rfl)).add (hf.get _ _ rfl)).add (hf.get _ _ rfl)), hs.selD [] (by decide) rfl, H⟩
  ·replace H := if_f b16 H
   refine c_sr fun _ hK17 => ?_
   refine v_move rfl rfl ?_
   refine v_lss rfl rfl rfl ?_
   refine v_assign rfl rfl ?_
   refine w_nil (hK17 _ _ _ ?_)
   refine c_if rfl (fun b18 => ?_) (fun b18 => ?_)
   ·replace H := if_t b18 H
    refine c_reg ?_
    refine v_assign rfl rfl ?_
    exact w_nil fun a w' hf hs => ⟨(6 : Int), _, (HLe.refl _), (((hf.nil.add (hf.get _ _ rfl)).add (hf.get _ _ rfl)).add (hf.get _ _ rfl)), hs.selD [] (by decide) rfl, H⟩
   ·replace H := if_f b18 H
    refine c_sr fun _ hK19 => ?_
    refine v_move rfl rfl ?_
    refine v_move rfl rfl ?_
    refine wv rfl (fun a w hf hs => r_lenR Tryd.underlying66 h2 (hf.ev rfl)) ?_
    refine v_move rfl rfl ?_
    refine wv rfl (fun a w hf hs => r_sub (hf.ev rfl) (hf.ev rfl)) ?_
    refine v_move rfl rfl ?_
    obtain ⟨g20, H⟩ := grd_s H
    refine wv rfl (fun a w hf hs => r_quo (hf.ev rfl) (hf.ev rfl) g20) ?_
    refine wv rfl (fun a w hf hs => r_gtr (hf.ev rfl) (hf.ev rfl)) ?_
    refine v_assign rfl rfl ?_
    refine w_nil (hK19 _ _ _ ?_)
    refine c_if rfl (fun b21 => ?_) (fun b21 => ?_)
    ·replace H := if_t b21 H
     refine c_reg ?_
     refine v_assign rfl rfl ?_
     exact w_nil fun a w' hf hs => ⟨(5 : Int), _, (HLe.refl _), (((hf.nil.add (hf.get _ _ rfl)).add (hf.get _ _ rfl)).add (hf.get _ _ rfl)), hs.selD [] (by decide) rfl, H⟩
    ·replace H := if_f b21 H
     refine c_skip ?_
     intro a w' hf hs
     exact ⟨t5.2.2, _, (HLe.refl _), (((hf.nil.add (hf.get _ _ rfl)).add (hf.get _ _ rfl)).add (hf.get _ _ rfl)), hs.selD [] (by decide) rfl, H⟩
 ·rintro a w' ⟨x11, M12, l13, hf, hs, H⟩
  refine c_of (c := (Cx.mk Tryd.prog 31 none' M w)) ?_ hf hs
  unfold wire_count.j1 at H
  clear hf hs
  refine c_sr fun _ hK14 => ?_
  refine v_move rfl rfl ?_
  refine v_move rfl rfl ?_
  refine v_move rfl rfl ?_
  refine v_assign rfl rfl ?_
  refine v_assign rfl rfl ?_
  refine v_assign rfl rfl ?_
  refine w_nil (hK14 _ _ _ ?_)
  obtain rfl := some_r H
  exact c_ret fun a w' hf hs => hret _ (.inl rfl) a w' hf.df ⟨_, _, Res.of3 rfl (RV.t hf rfl) (RV.t hf rfl) (RV.t hf rfl), hs.ext, rfl⟩
theorem wire_GetBytes.calls {M : Heap} {w : World} (hM : Sub M w) (p0 : (List Int)) (v1 : Value) (h2 : RS (FI .u8) M v1 p0) (r : ((List UInt8) × Int × Int)) (H : wire_GetBytes p0 = some r) :
  Calls Tryd.prog 98 [v1].toArray w (Post M w fun M' v => v = .tuple #[(str r.1), (.int .i64 r.2.1), (.int .i64 r.2.2)]) := by
 refine enter 27 [(0, v1)] Tryd.func98 rfl rfl rfl hM ?_
 intro Q hret
 unfold wire_GetBytes at H
 refine c_sr fun _ hK3 => ?_
 refine v_assign rfl rfl ?_
 refine v_assign rfl rfl ?_
 refine v_assign rfl rfl ?_
 refine w_nil (hK3 _ _ _ ?_)
 refine c_sr fun _ hK4 => ?_
 refine v_move rfl rfl ?_
 obtain ⟨t5, e10, H⟩ := bnd H
 refine w_call cf105 trivial rfl rfl (fun w hs => wire_count.calls hs p0 v1 h2 (1 : Int) _ e10) ?_
 rintro _ M7 l8 rfl
 replace h2 := h2.mono l8
 refine v_move rfl rfl ?_
 refine v_extract rfl rfl rfl ?_
 refine v_extract rfl rfl rfl ?_
 refine v_extract rfl rfl rfl ?_
 refine v_assign rfl rfl ?_
 refine v_assign rfl rfl ?_
 refine v_assign rfl rfl ?_
 refine w_nil (hK4 _ _ _ ?_)
 refine c_seq fun K11 hK11 => ?_
 refine c_sr fun _ hK12 => ?_
 refine v_move rfl rfl ?_
 refine wv rfl (fun a w hf hs => r_neq (hf.ev rfl) (hf.ev rfl)) ?_
 refine w_nil (hK12 _ _ _ ?_)
 refine c_if rfl (fun b13 => ?_) (fun b13 => ?_)
 ·replace H := if_t b13 H
  refine c_sr fun _ hK14 => ?_
  refine v_move rfl rfl ?_
  refine v_assign rfl rfl ?_
  refine v_assign rfl rfl ?_
  refine v_assign rfl rfl ?_
  refine w_nil (hK14 _ _ _ ?_)
  obtain rfl := some_r H
  exact c_ret fun a w' hf hs => hret _ (.inl rfl) a w' hf.df ⟨_, _, Res.of3 rfl (RV.t hf rfl) (RV.t hf rfl) (RV.t hf rfl), hs.ext, rfl⟩
 ·replace H := if_f b13 H
  refine c_skip (hK11 _ _ _ ?_)
  refine c_sr fun _ hK15 => ?_
  refine v_move rfl rfl ?_
  refine v_move rfl rfl ?_
  refine v_move rfl rfl ?_
  refine v_move rfl rfl ?_
  refine v_add rfl rfl rfl ?_
  obtain ⟨g18, H⟩ := grd_s H
  refine w_ex (Φ := fun v => RS (FI .u8) M7 v ((p0.take ((IntKind.i64.wrap (t5.2.1 + t5.1))).toNat).drop (t5.2.1).toNat)) trivial rfl (fun a w hf hs => r_slR Tryd.underlying66 ts5 (hf.ev rfl) h2 ⟨_, hf.ev rfl⟩ ⟨_, hf.ev rfl⟩ g18.1 g18.2.1 g18.2.2) ?_
  intro v16 h17
  refine wv rfl (fun a w hf hs => r_b2s Tryd.underlying66 Tryd.underlying5 Tryd.underlying9 h17 hs.sub (hf.ev rfl)) ?_
  refine v_move rfl rfl ?_
  refine v_move rfl rfl ?_
  refine v_add rfl rfl rfl ?_
  refine v_assign rfl rfl ?_
  refine v_assign rfl rfl ?_
  refine v_assign rfl rfl ?_
  refine w_nil (hK15 _ _ _ ?_)
  obtain rfl := some_r H
  exact c_ret fun a w' hf hs => hret _ (.inl rfl) a w' hf.df ⟨_, _, Res.of3 rfl (RV.t hf rfl) (RV.t hf rfl) (RV.t hf rfl), hs.ext, rfl⟩
theorem backup_read_string.calls {M : Heap} {w : World} {b : Nat} {T : TypeId} {q : List Value} {x_ : backup_reader} {v1 : Value} (hs : St (fun k => k = b) M w M (lt [.blk b (.cells ((backup_reader.C x_ v1 ++ q)).toArray T (0, 0))]) w) (h2 : RS (FI .u8) M v1 x_.rest_) (r : ((List UInt8) × backup_reader)) (H : backup_read_string x_ = some r) :
  Calls Tryd.prog 97 [(ptr b 0), (.func (.func 98) #[] #[])].toArray w (PostI (fun k => k = b) M w fun M' x v => ∃ (v31 : Value), v = (str r.1) ∧ RS (FI .u8) M' v31 r.2.rest_ ∧ x = .blk b (.cells ((backup_reader.C r.2 v31 ++ q)).toArray T (0, 0))) := by
 refine enterI 41 [(0, (ptr b 0)), (1, (.func (.func 98) #[] #[]))] Tryd.func97 rfl rfl rfl hs ?_
 clear hs
 intro Q hret
 unfold backup_read_string at H
 refine c_sr fun _ hK3 => ?_
 refine v_assign rfl rfl ?_
 refine w_nil (hK3 _ _ _ ?_)
 refine c_seq fun K4 hK4 => ?_
 refine c_sr fun _ hK5 => ?_
 refine v_move rfl rfl ?_
 refine wv rfl (fun a w hf hs => r_nilCheck (hf.ev rfl)) ?_
 refine v_fa fa80_1 rfl rfl ?_
 refine wv rfl (fun a w hf hs => r_load1 ta24 (hf.ev rfl) (hs.blk (i := 0) rfl) rfl) ?_
 refine wv rfl (fun a w hf hs => r_neq (hf.ev rfl) (hf.ev rfl)) ?_
 refine w_nil (hK5 _ _ _ ?_)
 refine c_if rfl (fun b6 => ?_) (fun b6 => ?_)
 ·replace H := if_t b6 H
  refine c_sr fun _ hK7 => ?_
  refine v_move rfl rfl ?_
  refine v_assign rfl rfl ?_
  refine w_nil (hK7 _ _ _ ?_)
  obtain rfl := some_r H
  exact c_ret fun a w' hf hs => hret _ (.inl rfl) a w' hf.df ⟨_, _, _, Res.of1 rfl (RV.t hf rfl), hs.sel [0] (by decide) rfl, ⟨_, rfl, h2, rfl⟩⟩
 ·replace H := if_f b6 H
  refine c_skip (hK4 _ _ _ ?_)
  refine c_sr fun _ hK8 => ?_
  refine v_move rfl rfl ?_
  refine v_move rfl rfl ?_
  refine wv rfl (fun a w hf hs => r_nilCheck (hf.ev rfl)) ?_
  refine v_fa fa80_0 rfl rfl ?_
  refine wv rfl (fun a w hf hs => r_load1 ta66 (hf.ev rfl) (hs.blk (i := 0) rfl) rfl) ?_
  obtain ⟨t9, e14, H⟩ := bnd H
  refine w_callV trivial rfl rfl rfl (fun _ h => by cases h) (fun w hs => ⟨_, _, _, rfl, cf98, wire_GetBytes.calls hs x_.rest_ v1 h2 _ e14⟩) ?_
  rintro _ M11 l12 rfl
  replace h2 := h2.mono l12
  refine v_move rfl rfl ?_
  refine v_extract rfl rfl rfl ?_
  refine v_extract rfl rfl rfl ?_
  refine v_extract rfl rfl rfl ?_
  refine v_assign rfl rfl ?_
  refine v_assign rfl rfl ?_
  refine v_assign rfl rfl ?_
  refine w_nil (hK8 _ _ _ ?_)
  refine c_seq fun K15 hK15 => ?_
  refine c_sr fun _ hK16 => ?_
  refine v_move rfl rfl ?_
  refine v_move rfl rfl ?_
  refine wv rfl (fun a w hf hs => r_eql (hf.ev rfl) (hf.ev rfl)) ?_
  refine v_move rfl rfl ?_
  obtain ⟨t17, e18, H⟩ := bnd H
  refine w_callJ (b0 := b) 0 cf55 trivial rfl rfl rfl rfl (fun w hs => backup_reader_check.calls (b := b) (T := T) (q := (q)) (x_ := x_) hs h2 (t9.2.2 == (0 : Int)) t9.2.2 _ e18) ?_
  rintro v21 M19 _ l20 ⟨v22, hv_, h23, rfl⟩
  subst hv_
  refine w_L [.blk b (.cells ((backup_reader.C t17.2 v22 ++ q)).toArray T (0, 0))] rfl ?_
  refine wv rfl (fun a w hf hs => r_not (hf.ev rfl)) ?_
  refine w_nil (hK16 _ _ _ ?_)
  refine c_if rfl (fun b24 => ?_) (fun b24 => ?_)
  ·replace H := if_t b24 H
   refine c_sr fun _ hK25 => ?_
   refine v_move rfl rfl ?_
   refine v_assign rfl rfl ?_
   refine w_nil (hK25 _ _ _ ?_)
   obtain rfl := some_r H
   exact c_ret fun a w' hf hs => hret _ (.inl rfl) a w' hf.df ⟨_, _, _, Res.of1 rfl (RV.t hf rfl), hs.sel [0] (by decide) rfl, ⟨_, rfl, h23, rfl⟩⟩
  ·replace H := if_f b24 H
   refine c_skip (hK15 _ _ _ ?_)
   refine c_sr fun _ hK26 => ?_
   refine v_move rfl rfl ?_
   refine v_move rfl rfl ?_
   refine wv rfl (fun a w hf hs => r_nilCheck (hf.ev rfl)) ?_
   refine v_fa fa80_0 rfl rfl ?_
   refine wv rfl (fun a w hf hs => r_load1 ta66 (hf.ev rfl) (hs.blk (i := 0) rfl) rfl) ?_
   refine v_move rfl rfl ?_
   obtain ⟨g29, H⟩ := grd_s H
   refine w_ex (Φ := fun v => RS (FI .u8) M19 v ((t17.2.rest_.take ((t17.2.rest_.length : Int)).toNat).drop (t9.2.1).toNat)) trivial rfl (fun a w hf hs => r_slR Tryd.underlying66 ts5 (hf.ev rfl) h23 ⟨_, hf.ev rfl⟩ rfl g29.1 g29.2.1 g29.2.2) ?_
   intro v27 h28
   refine wv rfl (fun a w hf hs => r_nilCheck (hf.ev rfl)) ?_
   refine v_fa fa80_0 rfl rfl ?_
   refine w_store (i := 0) (vs := [v27]) (A' := (backup_reader.C ({ t17.2 with rest_ := ((t17.2.rest_.take ((t17.2.rest_.length : Int)).toNat).drop (t9.2.1).toNat) } : backup_reader) v27 ++ q)) trivial rfl rfl rfl h28.cells1 ts66 rfl (one1 h28.one) (Nat.le_of_ble_eq_true rfl) rfl ?_
   refine w_nil (hK26 _ _ _ ?_)
   refine c_sr fun _ hK30 => ?_
   refine v_move rfl rfl ?_
   refine v_assign rfl rfl ?_
   refine w_nil (hK30 _ _ _ ?_)
   obtain rfl := some_r H
   exact c_ret fun a w' hf hs => hret _ (.inl rfl) a w' hf.df ⟨_, _, _, Res.of1 rfl (RV.t hf rfl), hs.sel [0] (by decide) rfl, ⟨_, rfl, h28, rfl⟩⟩
theorem backup_digest.calls {M : Heap} {w : World} (hM : Sub M w) (p0 : (List Int)) (v1 : Value) (h2 : RS (FI .u8) M v1 p0) (r : ((Vector Int 16) × Int × Int)) (H : backup_digest p0 = some r) :
  Calls Tryd.prog 100 [v1].toArray w (Post M w fun M' v => v = .tuple #[(.agg (vI .u8 r.1).toArray), (.int .i64 r.2.1), (.int .i64 r.2.2)]) := by
 refine enter 13 [(0, v1)] Tryd.func100 rfl rfl rfl hM ?_
 intro Q hret
 unfold backup_digest at H
 refine c_sr fun _ hK3 => ?_
 refine w_allocL (A := vI .u8 (Vector.replicate 16 (0 : Int))) tz33 trivial rfl rfl ?_
 intro b4
 refine v_assign rfl rfl ?_
 refine v_assign rfl rfl ?_
 refine w_nil (hK3 _ _ _ ?_)
 refine c_seq fun K5 hK5 => ?_
 refine c_sr fun _ hK6 => ?_
 refine v_move rfl rfl ?_
 refine wv rfl (fun a w hf hs => r_lenR Tryd.underlying66 h2 (hf.ev rfl)) ?_
 refine v_lss rfl rfl rfl ?_
 refine w_nil (hK6 _ _ _ ?_)
 refine c_if rfl (fun b7 => ?_) (fun b7 => ?_)
 ·replace H := if_t b7 H
  refine c_sr fun _ hK8 => ?_
  refine wv rfl (fun a w hf hs => r_loadA ta33 ts33 (hf.ev rfl) (hs.blk (i := 0) rfl) (vI_all _) (vI_len _)) ?_
  refine w_store (i := 0) (vs := vI .u8 (Vector.replicate 16 (0 : Int))) (A' := vI .u8 (Vector.replicate 16 (0 : Int))) trivial rfl rfl rfl rfl ts33 (vI_len _) (vI_one _) (by rw [vI_len]; decide) (vI_whole _ _) ?_
  refine v_assign rfl rfl ?_
  refine v_assign rfl rfl ?_
  refine w_nil (hK8 _ _ _ ?_)
  obtain rfl := some_r H
  exact c_ret fun a w' hf hs => hret _ (.inl rfl) a w' hf.df ⟨_, _, Res.of3 rfl ⟨_, hf.get _ _ rfl, run_loadA (hs.blk (i := 0) rfl) ta33 ts33 (vI_all _) (vI_len _)⟩ (RV.t hf rfl) (RV.t hf rfl), hs.ext, rfl⟩
 ·replace H := if_f b7 H
  refine c_skip (hK5 _ _ _ ?_)
  refine c_sr fun _ hK9 => ?_
  refine v_move rfl rfl ?_
  obtain ⟨g12, H⟩ := grd_s H
  refine w_ex (Φ := fun v => RS (FI .u8) M v ((p0.take ((16 : Int)).toNat).drop ((0 : Int)).toNat)) trivial rfl (fun a w hf hs => r_slR Tryd.underlying66 ts5 (hf.ev rfl) h2 rfl ⟨_, hf.ev rfl⟩ g12.1 g12.2.1 g12.2.2) ?_
  intro v10 h11
  obtain ⟨g13, H⟩ := grd_s H
  refine wv rfl (fun a w hf hs => r_s2aR Tryd.underlying33 h11 (hf.ev rfl) g13) ?_
  refine wv rfl (fun a w hf hs => r_loadSP ta33 ts33 h11 hs.sub g13 (hf.ev rfl)) ?_
  refine w_store (i := 0) (vs := vI .u8 (lv ((p0.take ((16 : Int)).toNat).drop ((0 : Int)).toNat) 0 16)) (A' := vI .u8 (lv ((p0.take ((16 : Int)).toNat).drop ((0 : Int)).toNat) 0 16)) trivial rfl rfl rfl rfl ts33 (vI_len _) (vI_one _) (by rw [vI_len]; decide) (vI_whole _ _) ?_
  refine v_assign rfl rfl ?_
  refine v_assign rfl rfl ?_
  refine w_nil (hK9 _ _ _ ?_)
  obtain rfl := some_r H
  exact c_ret fun a w' hf hs => hret _ (.inl rfl) a w' hf.df ⟨_, _, Res.of3 rfl ⟨_, hf.get _ _ rfl, run_loadA (hs.blk (i := 0) rfl) ta33 ts33 (vI_all _) (vI_len _)⟩ (RV.t hf rfl) (RV.t hf rfl), hs.ext, rfl⟩
theorem backup_read_Digest.calls {M : Heap} {w : World} {b : Nat} {T : TypeId} {q : List Value} {x_ : backup_reader} {v1 : Value} (hs : St (fun k => k = b) M w M (lt [.blk b (.cells ((backup_reader.C x_ v1 ++ q)).toArray T (0, 0))]) w) (h2 : RS (FI .u8) M v1 x_.rest_) (r : ((Vector Int 16) × backup_reader)) (H : backup_read_Digest x_ = some r) :
  Calls Tryd.prog 99 [(ptr b 0), (.func (.func 100) #[] #[])].toArray w (PostI (fun k => k = b) M w fun M' x v => ∃ (v33 : Value), v = (.agg (vI .u8 r.1).toArray) ∧ RS (FI .u8) M' v33 r.2.rest_ ∧ x = .blk b (.cells ((backup_reader.C r.2 v33 ++ q)).toArray T (0, 0))) := by
 refine enterI 41 [(0, (ptr b 0)), (1, (.func (.func 100) #[] #[]))] Tryd.func99 rfl rfl rfl hs ?_
 clear hs
 intro Q hret
 unfold backup_read_Digest at H
 refine c_sr fun _ hK3 => ?_
 refine w_allocL (A := vI .u8 (Vector.replicate 16 (0 : Int))) tz33 trivial rfl rfl ?_
 intro b4
 refine w_nil (hK3 _ _ _ ?_)
 refine c_seq fun K5 hK5 => ?_
 refine c_sr fun _ hK6 => ?_
 refine v_move rfl rfl ?_
 refine wv rfl (fun a w hf hs => r_nilCheck (hf.ev rfl)) ?_
 refine v_fa fa80_1 rfl rfl ?_
 refine wv rfl (fun a w hf hs => r_load1 ta24 (hf.ev rfl) (hs.blk (i := 0) rfl) rfl) ?_
 refine wv rfl (fun a w hf hs => r_neq (hf.ev rfl) (hf.ev rfl)) ?_
 refine w_nil (hK6 _ _ _ ?_)
 refine c_if rfl (fun b7 => ?_) (fun b7 => ?_)
 ·replace H := if_t b7 H
  refine c_sr fun _ hK8 => ?_
  refine wv rfl (fun a w hf hs => r_loadA ta33 ts33 (hf.ev rfl) (hs.blk (i := 1) rfl) (vI_all _) (vI_len _)) ?_
  refine w_store (i := 1) (vs := vI .u8 (Vector.replicate 16 (0 : Int))) (A' := vI .u8 (Vector.replicate 16 (0 : Int))) trivial rfl rfl rfl rfl ts33 (vI_len _) (vI_one _) (by rw [vI_len]; decide) (vI_whole _ _) ?_
  refine w_nil (hK8 _ _ _ ?_)
  obtain rfl := some_r H
  exact c_ret fun a w' hf hs => hret _ (.inl rfl) a w' hf.df ⟨_, _, _, Res.of1 rfl ⟨_, hf.get _ _ rfl, run_loadA (hs.blk (i := 1) rfl) ta33 ts33 (vI_all _) (vI_len _)⟩, hs.sel [0] (by decide) rfl, ⟨_, rfl, h2, rfl⟩⟩
 ·replace H := if_f b7 H
  refine c_skip (hK5 _ _ _ ?_)
  refine c_sr fun _ hK9 => ?_
  refine v_move rfl rfl ?_
  refine v_move rfl rfl ?_
  refine wv rfl (fun a w hf hs => r_nilCheck (hf.ev rfl)) ?_
  refine v_fa fa80_0 rfl rfl ?_
  refine wv rfl (fun a w hf hs => r_load1 ta66 (hf.ev rfl) (hs.blk (i := 0) rfl) rfl) ?_
  obtain ⟨t10, e15, H⟩ := bnd H
  refine w_callV trivial rfl rfl rfl (fun _ h => by cases h) (fun w hs => ⟨_, _, _, rfl, cf100, backup_digest.calls hs x_.rest_ v1 h2 _ e15⟩) ?_
  rintro _ M12 l13 rfl
  replace h2 := h2.mono l13
  refine v_move rfl rfl ?_
  refine v_extract rfl rfl rfl ?_
  refine v_extract rfl rfl rfl ?_
  refine v_extract rfl rfl rfl ?_
  refine w_allocL (A := vI .u8 (Vector.replicate 16 (0 : Int))) tz33 trivial rfl rfl ?_
  intro b16
  refine w_L [.blk b (.cells ((backup_reader.C x_ v1 ++ q)).toArray T (0, 0)), .blk b4 (.cells (vI .u8 (Vector.replicate 16 (0 : Int))).toArray 33 (0, 0)), .blk b16 (.cells (vI .u8 (Vector.replicate 16 (0 : Int))).toArray 33 (0, 0))] rfl ?_
  refine w_store (i := 2) (vs := vI .u8 t10.1) (A' := vI .u8 t10.1) trivial rfl rfl rfl rfl ts33 (vI_len _) (vI_one _) (by rw [vI_len]; decide) (vI_whole _ _) ?_
  refine w_L [.blk b (.cells ((backup_reader.C x_ v1 ++ q)).toArray T (0, 0)), .blk b4 (.cells (vI .u8 (Vector.replicate 16 (0 : Int))).toArray 33 (0, 0)), .blk b16 (.cells (vI .u8 t10.1).toArray 33 (0, 0))] rfl ?_
  refine v_assign rfl rfl ?_
  refine v_assign rfl rfl ?_
  refine w_nil (hK9 _ _ _ ?_)
  refine c_seq fun K17 hK17 => ?_
  refine c_sr fun _ hK18 => ?_
  refine v_move rfl rfl ?_
  refine v_move rfl rfl ?_
  refine wv rfl (fun a w hf hs => r_eql (hf.ev rfl) (hf.ev rfl)) ?_
  refine v_move rfl rfl ?_
  obtain ⟨t19, e20, H⟩ := bnd H
  refine w_callJ (b0 := b) 0 cf55 trivial rfl rfl rfl rfl (fun w hs => backup_reader_check.calls (b := b) (T := T) (q := (q)) (x_ := x_) hs h2 (t10.2.2 == (0 : Int)) t10.2.2 _ e20) ?_
  rintro v23 M21 _ l22 ⟨v24, hv_, h25, rfl⟩
  subst hv_
  refine w_L [.blk b (.cells ((backup_reader.C t19.2 v24 ++ q)).toArray T (0, 0)), .blk b4 (.cells (vI .u8 (Vector.replicate 16 (0 : Int))).toArray 33 (0, 0)), .blk b16 (.cells (vI .u8 t10.1).toArray 33 (0, 0))] rfl ?_
  refine wv rfl (fun a w hf hs => r_not (hf.ev rfl)) ?_
  refine w_nil (hK18 _ _ _ ?_)
  refine c_if rfl (fun b26 => ?_) (fun b26 => ?_)
  ·replace H := if_t b26 H
   refine c_sr fun _ hK27 => ?_
   refine wv rfl (fun a w hf hs => r_loadA ta33 ts33 (hf.ev rfl) (hs.blk (i := 1) rfl) (vI_all _) (vI_len _)) ?_
   refine w_store (i := 1) (vs := vI .u8 (Vector.replicate 16 (0 : Int))) (A' := vI .u8 (Vector.replicate 16 (0 : Int))) trivial rfl rfl rfl rfl ts33 (vI_len _) (vI_one _) (by rw [vI_len]; decide) (vI_whole _ _) ?_
   refine w_L [.blk b (.cells ((backup_reader.C t19.2 v24 ++ q)).toArray T (0, 0)), .blk b4 (.cells (vI .u8 (Vector.replicate 16 (0 : Int))).toArray 33 (0, 0)), .blk b16 (.cells (vI .u8 t10.1).toArray 33 (0, 0))] rfl ?_
   refine w_nil (hK27 _ _ _ ?_)
   obtain rfl := some_r H
   exact c_ret fun a w' hf hs => hret _ (.inl rfl) a w' hf.df ⟨_, _, _, Res.of1 rfl ⟨_, hf.get _ _ rfl, run_loadA (hs.blk (i := 1) rfl) ta33 ts33 (vI_all _) (vI_len _)⟩, hs.sel [0] (by decide) rfl, ⟨_, rfl, h25, rfl⟩⟩
  ·replace H := if_f b26 H
   refine c_skip (hK17 _ _ _ ?_)
   refine c_sr fun _ hK28 => ?_
   refine v_move rfl rfl ?_
   refine v_move rfl rfl ?_
   refine wv rfl (fun a w hf hs => r_nilCheck (hf.ev rfl)) ?_
   refine v_fa fa80_0 rfl rfl ?_
   refine wv rfl (fun a w hf hs => r_load1 ta66 (hf.ev rfl) (hs.blk (i := 0) rfl) rfl) ?_
   refine v_move rfl rfl ?_
   obtain ⟨g31, H⟩ := grd_s H
   refine w_ex (Φ := fun v => RS (FI .u8) M21 v ((t19.2.rest_.take ((t19.2.rest_.length : Int)).toNat).drop (t10.2.1).toNat)) trivial rfl (fun a w hf hs => r_slR Tryd.underlying66 ts5 (hf.ev rfl) h25 ⟨_, hf.ev rfl⟩ rfl g31.1 g31.2.1 g31.2.2) ?_
   intro v29 h30
   refine wv rfl (fun a w hf hs => r_nilCheck (hf.ev rfl)) ?_
   refine v_fa fa80_0 rfl rfl ?_
   refine w_store (i := 0) (vs := [v29]) (A' := (backup_reader.C ({ t19.2 with rest_ := ((t19.2.rest_.take ((t19.2.rest_.length : Int)).toNat).drop (t10.2.1).toNat) } : backup_reader) v29 ++ q)) trivial rfl rfl rfl h30.cells1 ts66 rfl (one1 h30.one) (Nat.le_of_ble_eq_true rfl) rfl ?_
   refine w_L [.blk b (.cells ((backup_reader.C ({ t19.2 with rest_ := ((t19.2.rest_.take ((t19.2.rest_.length : Int)).toNat).drop (t10.2.1).toNat) } : backup_reader) v29 ++ q)).toArray T (0, 0)), .blk b4 (.cells (vI .u8 (Vector.replicate 16 (0 : Int))).toArray 33 (0, 0)), .blk b16 (.cells (vI .u8 t10.1).toArray 33 (0, 0))] rfl ?_
   refine w_nil (hK28 _ _ _ ?_)
   refine c_sr fun _ hK32 => ?_
   refine wv rfl (fun a w hf hs => r_loadA ta33 ts33 (hf.ev rfl) (hs.blk (i := 2) rfl) (vI_all _) (vI_len _)) ?_
   refine w_store (i := 1) (vs := vI .u8 t10.1) (A' := vI .u8 t10.1) trivial rfl rfl rfl rfl ts33 (vI_len _) (vI_one _) (by rw [vI_len]; decide) (vI_whole _ _) ?_
   refine w_L [.blk b (.cells ((backup_reader.C ({ t19.2 with rest_ := ((t19.2.rest_.take ((t19.2.rest_.length : Int)).toNat).drop (t10.2.1).toNat) } : backup_reader) v29 ++ q)).toArray T (0, 0)), .blk b4 (.cells (vI .u8 t10.1).toArray 33 (0, 0)), .blk b16 (.cells (vI .u8 t10.1).toArray 33 (0, 0))] rfl ?_
   refine w_nil (hK32 _ _ _ ?_)
   obtain rfl := some_r H
   exact c_ret fun a w' hf hs => hret _ (.inl rfl) a w' hf.df ⟨_, _, _, Res.of1 rfl ⟨_, hf.get _ _ rfl, run_loadA (hs.blk (i := 1) rfl) ta33 ts33 (vI_all _) (vI_len _)⟩, hs.sel [0] (by decide) rfl, ⟨_, rfl, h30, rfl⟩⟩
theorem wire_reader_1.calls {M : Heap} {w : World} {b : Nat} {x_ : Int} (hs : St (fun k => k = b) M w M (lt [.blk b (.cells ([(.int .i64 x_)]).toArray 3 (0, 0))]) w) (c0_ : (List Int)) (cb0_ : Nat) (v1 : Value) (h2 : RS (FI .u8) M v1 c0_) (ch0_ : M cb0_ = some (.cells ([v1]).toArray 66 (0, 0))) (r : ((Int × Int × Int) × Int)) (H : wire_reader_1 c0_ x_ = some r) :
  Calls Tryd.prog 138 [(ptr cb0_ 0), (ptr b 0)].toArray w (PostI (fun k => k = b) M w fun M' x v => v = .tuple #[(.int .i64 r.1.1), (.int .i64 r.1.2.1), (.int .i64 r.1.2.2)] ∧ x = .blk b (.cells ([(.int .i64 r.2)]).toArray 3 (0, 0))) := by
 refine enterI 22 [(0, (ptr cb0_ 0)), (1, (ptr b 0))] Tryd.func138 rfl rfl rfl hs ?_
 clear hs
 intro Q hret
 unfold wire_reader_1 at H
 refine c_sr fun _ hK3 => ?_
 refine v_assign rfl rfl ?_
 refine v_assign rfl rfl ?_
 refine v_assign rfl rfl ?_
 refine w_nil (hK3 _ _ _ ?_)
 refine c_sr fun _ hK4 => ?_
 refine wv rfl (fun a w hf hs => r_load1 ta66 (hf.ev rfl) (hs.sub _ _ ch0_) rfl) ?_
 refine wv rfl (fun a w hf hs => r_load1 ta3 (hf.ev rfl) (hs.blk (i := 0) rfl) rfl) ?_
 obtain ⟨g7, H⟩ := grd_s H
 refine w_ex (Φ := fun v => RS (FI .u8) M v ((c0_.take ((c0_.length : Int)).toNat).drop (x_).toNat)) trivial rfl (fun a w hf hs => r_slR Tryd.underlying66 ts5 (hf.ev rfl) h2 ⟨_, hf.ev rfl⟩ rfl g7.1 g7.2.1 g7.2.2) ?_
 intro v5 h6
 obtain ⟨t8, e13, H⟩ := bnd H
 refine w_call cf129 trivial rfl rfl (fun w hs => wire_GetInt.calls hs ((c0_.take ((c0_.length : Int)).toNat).drop (x_).toNat) v5 h6 _ e13) ?_
 rintro _ M10 l11 rfl
 refine v_move rfl rfl ?_
 refine v_extract rfl rfl rfl ?_
 refine v_extract rfl rfl rfl ?_
 refine v_extract rfl rfl rfl ?_
 refine v_assign rfl rfl ?_
 refine v_assign rfl rfl ?_
 refine v_assign rfl rfl ?_
 refine w_nil (hK4 _ _ _ ?_)
 refine c_sr fun _ hK14 => ?_
 refine wv rfl (fun a w hf hs => r_load1 ta3 (hf.ev rfl) (hs.blk (i := 0) rfl) rfl) ?_
 refine v_move rfl rfl ?_
 refine v_add rfl rfl rfl ?_
 refine w_store (i := 0) (vs := [(.int .i64 (IntKind.i64.wrap (x_ + t8.2.1)))]) (A' := [(.int .i64 (IntKind.i64.wrap (x_ + t8.2.1)))]) trivial rfl rfl rfl rfl ts3 rfl (one1 rfl) (Nat.le_of_ble_eq_true rfl) rfl ?_
 refine w_nil (hK14 _ _ _ ?_)
 refine c_seq fun K15 hK15 => ?_
 refine c_drawP [([], [5]), ([], [1]), ([], [7]), ([(0, 19)], []), ([(1, 20)], []), ([(2, 21)], [])] [fun v M => v = (.int .i64 t8.1), fun v M => v = (.int .i64 (IntKind.i64.wrap (x_ + t8.2.1))), fun v M => v = (.int .i64 t8.2.2), fun v M => v = (.int .i64 t8.1), fun v M => v = (.int .i64 (IntKind.i64.wrap (x_ + t8.2.1))), fun v M => v = (.int .i64 t8.2.2)] (by kernel_rfl) (by kernel_rfl) ?_ (AllT.cons ?_ (AllT.cons ?_ (AllT.cons ?_ (AllT.cons ?_ (AllT.cons ?_ (AllT.cons ?_ AllT.nil)))))) ?_
 ·exact (mC (mC (mC (mC (mC (mC MonoA.nil))))))
 ·intro a w' M16 l17 hd hs
  exact pv (hd.fr.add (hd.base 5 _ rfl rfl)) hs rfl (fun a w hf hs => r_move (hf.ev rfl)) rfl
 ·intro a w' M18 l19 hd hs
  exact pv (hd.fr.add (hd.base 1 _ rfl rfl)) hs rfl (fun a w hf hs => r_load1 ta3 (hf.ev rfl) (hs.blk (i := 0) rfl) rfl) rfl
 ·intro a w' M20 l21 hd hs
  exact pv (hd.fr.add (hd.base 7 _ rfl rfl)) hs rfl (fun a w hf hs => r_move (hf.ev rfl)) rfl
 ·intro a w' M22 l23 hd hs
  have e24 := hd.val 0 19 _ rfl rfl
  exact pv (hd.fr.add e24) hs rfl (fun a w hf hs => r_assign (hf.ev rfl)) rfl
 ·intro a w' M25 l26 hd hs
  have e27 := hd.val 1 20 _ rfl rfl
  exact pv (hd.fr.add e27) hs rfl (fun a w hf hs => r_assign (hf.ev rfl)) rfl
 ·intro a w' M28 l29 hd hs
  have e30 := hd.val 2 21 _ rfl rfl
  exact pv (hd.fr.add e30) hs rfl (fun a w hf hs => r_assign (hf.ev rfl)) rfl
 intro a w' M31 l32 hdf hsz hb hv hs
 have e33 := hv 3 2 _ rfl rfl
 have e34 := hv 4 3 _ rfl rfl
 have e35 := hv 5 4 _ rfl rfl
 refine n_of (c := (Cx.mk Tryd.prog 22 (fun k => k = b) M w)) (l := [(2, (.int .i64 t8.1)), (3, (.int .i64 (IntKind.i64.wrap (x_ + t8.2.1)))), (4, (.int .i64 t8.2.2))]) ?_ ((((Fr.start hdf hsz).add e35).add e34).add e33) hs
 clear hdf hsz hb hv hs e33 e34 e35
 refine n_id (hK15 _ _ _ ?_)
 obtain rfl := some_r H
 exact c_ret fun a w' hf hs => hret _ (.inl rfl) a w' hf.df ⟨_, _, _, Res.of3 rfl (RV.t hf rfl) (RV.t hf rfl) (RV.t hf rfl), hs.sel [0] (by decide) rfl, rfl, rfl⟩
theorem wire_reader.callsC {M : Heap} {w : World} (hM : Sub M w) (v0 : Value) (p1 : Int) (hc : v0.cells = [v0].toArray) :
  Calls Tryd.prog 128 [v0, (.int .i64 p1)].toArray w (PostI none' M w fun M' x v => ∃ b0 b1 : Nat, v = .func (.func 138) #[] #[ptr b0 0, ptr b1 0] ∧ M' b0 = some (.cells [v0].toArray 66 (0, 0)) ∧ x = .blk b1 (.cells [(.int .i64 p1)].toArray 3 (0, 0))) := by
 refine enterR 6 [(0, v0), (1, .int .i64 p1)] Tryd.func128 rfl rfl rfl hM ?_
 intro Q hret
 refine c_seq fun K1 hK1 => ?_
 refine c_reg ?_
 refine w_boxM trivial rfl rfl hc ?_
 intro b0 M2 hl hb
 refine w_boxL trivial rfl rfl rfl ?_
 intro b1
 refine v_assign rfl rfl ?_
 refine w_nil (hK1 _ _ _ ?_)
 refine c_seq fun K2 hK2 => ?_
 refine c_reg ?_
 refine wv rfl (fun a w hf hs => r_makeFunc (hf.evs rfl)) ?_
 refine v_assign rfl rfl ?_
 refine w_nil (hK2 _ _ _ ?_)
 exact c_ret fun a w' hf hs => hret _ (.inl rfl) a w' hf.df ⟨_, _, _, Res.of1 rfl (RV.t hf rfl), hs.sel [0] (by decide) rfl, b0, b1, rfl, hb, rfl⟩
theorem wire_GetInts.calls {M : Heap} {w : World} (hM : Sub M w) (p0 : (List Int)) (v1 : Value) (h2 : RS (FI .u8) M v1 p0) (r : ((List Int) × Int × Int)) (H : wire_GetInts p0 = some r) :
  Calls Tryd.prog 102 [v1].toArray w (Post M w fun M' v => ∃ v59, v = .tuple #[v59, (.int .i64 r.2.1), (.int .i64 r.2.2)] ∧ RS (FI .i64) M' v59 r.1) := by
 refine enter 45 [(0, v1)] Tryd.func102 rfl rfl rfl hM ?_
 intro Q hret
 unfold wire_GetInts at H
 refine c_sr fun _ hK3 => ?_
 refine v_assign rfl rfl ?_
 refine v_assign rfl rfl ?_
 refine v_assign rfl rfl ?_
 refine w_nil (hK3 _ _ _ ?_)
 refine c_sr fun _ hK4 => ?_
 refine v_move rfl rfl ?_
 obtain ⟨t5, e10, H⟩ := bnd H
 refine w_call cf105 trivial rfl rfl (fun w hs => wire_count.calls hs p0 v1 h2 (1 : Int) _ e10) ?_
 rintro _ M7 l8 rfl
 replace h2 := h2.mono l8
 refine v_move rfl rfl ?_
 refine v_extract rfl rfl rfl ?_
 refine v_extract rfl rfl rfl ?_
 refine v_extract rfl rfl rfl ?_
 refine v_assign rfl rfl ?_
 refine v_assign rfl rfl ?_
 refine v_assign rfl rfl ?_
 refine w_nil (hK4 _ _ _ ?_)
 refine c_seq fun K11 hK11 => ?_
 refine c_sr fun _ hK12 => ?_
 refine v_move rfl rfl ?_
 refine wv rfl (fun a w hf hs => r_neq (hf.ev rfl) (hf.ev rfl)) ?_
 refine w_nil (hK12 _ _ _ ?_)
 refine c_if rfl (fun b13 => ?_) (fun b13 => ?_)
 ·replace H := if_t b13 H
  refine c_sr fun _ hK14 => ?_
  refine v_move rfl rfl ?_
  refine v_assign rfl rfl ?_
  refine v_assign rfl rfl ?_
  refine v_assign rfl rfl ?_
  refine w_nil (hK14 _ _ _ ?_)
  obtain rfl := some_r H
  exact c_ret fun a w' hf hs => hret _ (.inl rfl) a w' hf.df ⟨_, _, Res.of3 rfl (RV.t hf rfl) (RV.t hf rfl) (RV.t hf rfl), hs.ext, ⟨_, rfl, RS.none⟩⟩
 ·replace H := if_f b13 H
  refine c_skip (hK11 _ _ _ ?_)
  refine c_sr fun _ hK15 => ?_
  refine v_move rfl rfl ?_
  refine v_move rfl rfl ?_
  refine w_callR cf128 trivial rfl rfl (fun w hs => wire_reader.callsC hs v1 t5.2.1 (h2.cells1)) ?_
  rintro _ M16 _ l17 ⟨b18, b19, rfl, h20, rfl⟩
  replace h2 := h2.mono l17
  refine v_assign rfl rfl ?_
  refine w_nil (hK15 _ _ _ ?_)
  refine c_sr fun _ hK22 => ?_
  refine v_assign rfl rfl ?_
  refine w_nil (hK22 _ _ _ ?_)
  refine c_row0 3 1 ?_
  refine c_cut (fun a' w' => ∃ (x23 : (List Int)) (v24 : Value) (x25 : Int) (M26 : Heap), HLe M16 M26 ∧ Fr 45 [(6, (.int .i64 x25)), (9, v24)] a' ∧ St none' M w M26 (lt [dead, rowI (FI .i64) v24 3 x23]) w' ∧ wire_GetInts.j1 x23 x25 = some r) ?_ ?_
  ·refine c_seq ?_
   intro K32 hK32
   refine c_reg ?_
   refine v_move rfl rfl ?_
   refine v_move rfl rfl ?_
   refine w_nil (hK32 _ _ _ ?_)
   refine c_block ?_
   refine c_loop (fun (s33 : (Int × (List Int) × Int × Int)) a' w' => ∃ (v34 : Value) (M35 : Heap), HLe M16 M35 ∧ Fr 45 [(6, (.int .i64 s33.2.2.1)), (8, (.func (.func 138) #[] #[(ptr b18 0), (ptr b19 0)])), (9, v34), (25, (.int .i64 t5.1)), (26, (.int .i64 s33.2.2.2))] a' ∧ St none' M w M35 (lt [.blk b19 (.cells ([(.int .i64 s33.1)]).toArray 3 (0, 0)), rowI (FI .i64) v34 3 s33.2.1]) w') (t5.2.1, ([] : (List Int)), t5.2.1, (0 : Int)) H ?_ ?_
   ·intro a w' hf hs
    exact ⟨(.slice none 0 0), _, HLe.refl _, (((((hf.nil.add (hf.get _ _ rfl)).add (hf.get _ _ rfl)).add (hf.get _ _ rfl)).add (hf.get _ _ rfl)).add (hf.get _ _ rfl)), hs.selD [some 0, some 1] (by decide) rfl⟩
   ·clear H
    intro s33 y38 H r37 a w' hJ
    obtain ⟨v34, M35, l36, hf, hs⟩ := hJ
    refine c_of (c := (Cx.mk Tryd.prog 45 none' M w)) ?_ hf hs
    unfold wire_GetInts.l2 at H
    clear hf hs
    replace h2 := h2.mono l36
    replace h20 := l36 _ _ h20
    refine c_sr fun _ hK39 => ?_
    refine v_lss rfl rfl rfl ?_
    refine w_nil (hK39 _ _ _ ?_)
    refine c_seq fun K40 hK40 => ?_
    refine c_if rfl (fun b41 => ?_) (fun b41 => ?_)
    ·replace H := if_t b41 H
     refine c_skip (hK40 _ _ _ ?_)
     refine c_seq fun K42 hK42 => ?_
     refine c_block ?_
     refine c_sr fun _ hK43 => ?_
     refine v_move rfl rfl ?_
     obtain ⟨t44, e45, H⟩ := bnd H
     refine w_callVJ (b0 := b19) (cap := [(ptr b18 0), (ptr b19 0)]) (vs := []) 0 cf138 trivial rfl rfl rfl (fun _ h => by cases h) rfl rfl (fun w hs => wire_reader_1.calls hs p0 b18 v1 h2 h20 _ e45) ?_
     rintro _ M46 _ l47 ⟨rfl, rfl⟩
     refine w_L [.blk b19 (.cells ([(.int .i64 t44.2)]).toArray 3 (0, 0)), rowI (FI .i64) v34 3 s33.2.1] rfl ?_
     refine v_move rfl rfl ?_
     refine v_extract rfl rfl rfl ?_
     refine v_extract rfl rfl rfl ?_
     refine v_extract rfl rfl rfl ?_
     refine v_assign rfl rfl ?_
     refine v_assign rfl rfl ?_
     refine v_assign rfl rfl ?_
     refine w_nil (hK43 _ _ _ ?_)
     refine c_seq fun K48 hK48 => ?_
     refine c_sr fun _ hK49 => ?_
     refine v_move rfl rfl ?_
     refine wv rfl (fun a w hf hs => r_neq (hf.ev rfl) (hf.ev rfl)) ?_
     refine w_nil (hK49 _ _ _ ?_)
     refine c_if rfl (fun b50 => ?_) (fun b50 => ?_)
     ·replace H := if_t b50 H
      refine c_sr fun _ hK51 => ?_
      refine v_move rfl rfl ?_
      refine v_assign rfl rfl ?_
      refine v_assign rfl rfl ?_
      refine v_assign rfl rfl ?_
      refine w_nil (hK51 _ _ _ ?_)
      obtain rfl := (r37 _ (Option.some.inj H).symm)
      exact c_ret fun a w' hf hs => hret _ (.inl rfl) a w' hf.df ⟨_, _, Res.of3 rfl (RV.t hf rfl) (RV.t hf rfl) (RV.t hf rfl), hs.ext, ⟨_, rfl, RS.none⟩⟩
     ·replace H := if_f b50 H
      refine c_skip (hK48 _ _ _ ?_)
      refine c_reg ?_
      refine v_move rfl rfl ?_
      refine v_move rfl rfl ?_
      refine w_bsl (F := (FI .i64)) (es := ([t44.1.1] : List Int)) (xs := [.tmp 38]) (vs := [(.int .i64 t44.1.1)]) Tryd.underlying51 te3 trivial rfl rfl rfl rfl rfl (by decide) ?_
      intro v52 M53 l54 h55 c56
      obtain ⟨g57, H⟩ := grd_s H
      refine w_app (F := (FI .i64)) (m2 := ([t44.1.1] : List Int)) (i := 1) Tryd.underlying51 te3 Tryd.underlying51 (.inl ⟨_, rfl⟩) trivial rfl rfl rfl rfl (Src.rs (FI.one _) h55) g57 ?_
      intro v58
      refine v_move rfl rfl ?_
      refine v_assign rfl rfl ?_
      refine v_assign rfl rfl ?_
      refine w_nil (hK42 _ _ _ ?_)
      refine c_reg ?_
      refine v_add rfl rfl rfl ?_
      refine v_move rfl rfl ?_
      exact w_nil fun a w' hf hs => ⟨_, (some_r H).symm, v58, _, l36.trans (l47.trans l54), (((((hf.nil.add (hf.get _ _ rfl)).add (hf.get _ _ rfl)).add (hf.get _ _ rfl)).add (hf.get _ _ rfl)).add (hf.get _ _ rfl)), hs.selD [some 0, some 1] (by decide) rfl⟩
    ·replace H := if_f b41 H
     replace H := map_inr H r37
     refine c_exit ?_
     intro a w' hf hs
     exact ⟨s33.2.1, v34, s33.2.2.1, _, l36, ((hf.nil.add (hf.get _ _ rfl)).add (hf.get _ _ rfl)), hs.selD [none, some 1] (by decide) rfl, H⟩
  ·rintro a w' ⟨x23, v24, x25, M26, l27, hf, hs, H⟩
   refine c_of (c := (Cx.mk Tryd.prog 45 none' M w)) ?_ hf hs
   unfold wire_GetInts.j1 at H
   clear hf hs
   refine c_sr fun _ hK28 => ?_
   refine v_move rfl rfl ?_
   refine v_move rfl rfl ?_
   refine v_assign rfl rfl ?_
   refine v_assign rfl rfl ?_
   refine v_assign rfl rfl ?_
   refine w_nil (hK28 _ _ _ ?_)
   obtain rfl := some_r H
   refine c_ret ?_
   refine n_give 1 rfl (fun _ h => h) ?_
   intro M29 l30 h31
   intro a w' hf hs
   exact hret _ (.inl rfl) a w' hf.df ⟨_, _, Res.of3 rfl (RV.t hf rfl) (RV.t hf rfl) (RV.t hf rfl), hs.ext, ⟨_, rfl, h31⟩⟩
theorem backup_read_LLint.calls {M : Heap} {w : World} {b : Nat} {T : TypeId} {q : List Value} {x_ : backup_reader} {v1 : Value} (hs : St (fun k => k = b) M w M (lt [.blk b (.cells ((backup_reader.C x_ v1 ++ q)).toArray T (0, 0))]) w) (h2 : RS (FI .u8) M v1 x_.rest_) (r : ((List Int) × backup_reader)) (H : backup_read_LLint x_ = some r) :
  Calls Tryd.prog 101 [(ptr b 0), (.func (.func 102) #[] #[])].toArray w (PostI (fun k => k = b) M w fun M' x v => ∃ (v34 : Value) (v36 : Value), v = v34 ∧ RS (FI .i64) M' v34 r.1 ∧ RS (FI .u8) M' v36 r.2.rest_ ∧ x = .blk b (.cells ((backup_reader.C r.2 v36 ++ q)).toArray T (0, 0))) := by
 refine enterI 41 [(0, (ptr b 0)), (1, (.func (.func 102) #[] #[]))] Tryd.func101 rfl rfl rfl hs ?_
 clear hs
 intro Q hret
 unfold backup_read_LLint at H
 refine c_sr fun _ hK3 => ?_
 refine v_assign rfl rfl ?_
 refine w_nil (hK3 _ _ _ ?_)
 refine c_seq fun K4 hK4 => ?_
 refine c_sr fun _ hK5 => ?_
 refine v_move rfl rfl ?_
 refine wv rfl (fun a w hf hs => r_nilCheck (hf.ev rfl)) ?_
 refine v_fa fa80_1 rfl rfl ?_
 refine wv rfl (fun a w hf hs => r_load1 ta24 (hf.ev rfl) (hs.blk (i := 0) rfl) rfl) ?_
 refine wv rfl (fun a w hf hs => r_neq (hf.ev rfl) (hf.ev rfl)) ?_
 refine w_nil (hK5 _ _ _ ?_)
 refine c_if rfl (fun b6 => ?_) (fun b6 => ?_)
 ·replace H := if_t b6 H
  refine c_sr fun _ hK7 => ?_
  refine v_move rfl rfl ?_
  refine v_assign rfl rfl ?_
  refine w_nil (hK7 _ _ _ ?_)
  obtain rfl := some_r H
  exact c_ret fun a w' hf hs => hret _ (.inl rfl) a w' hf.df ⟨_, _, _, Res.of1 rfl (RV.t hf rfl), hs.sel [0] (by decide) rfl, ⟨_, _, rfl, RS.none, h2, rfl⟩⟩
 ·replace H := if_f b6 H
  refine c_skip (hK4 _ _ _ ?_)
  refine c_sr fun _ hK8 => ?_
  refine v_move rfl rfl ?_
  refine v_move rfl rfl ?_
  refine wv rfl (fun a w hf hs => r_nilCheck (hf.ev rfl)) ?_
  refine v_fa fa80_0 rfl rfl ?_
  refine wv rfl (fun a w hf hs => r_load1 ta66 (hf.ev rfl) (hs.blk (i := 0) rfl) rfl) ?_
  obtain ⟨t9, e14, H⟩ := bnd H
  refine w_callV trivial rfl rfl rfl (fun _ h => by cases h) (fun w hs => ⟨_, _, _, rfl, cf102, wire_GetInts.calls hs x_.rest_ v1 h2 _ e14⟩) ?_
  rintro v33 M11 l12 ⟨v15, hv_, h16⟩
  replace hv_ := hv_.symm
  subst hv_
  replace h2 := h2.mono l12
  refine v_move rfl rfl ?_
  refine v_extract rfl rfl rfl ?_
  refine v_extract rfl rfl rfl ?_
  refine v_extract rfl rfl rfl ?_
  refine v_assign rfl rfl ?_
  refine v_assign rfl rfl ?_
  refine v_assign rfl rfl ?_
  refine w_nil (hK8 _ _ _ ?_)
  refine c_seq fun K17 hK17 => ?_
  refine c_sr fun _ hK18 => ?_
  refine v_move rfl rfl ?_
  refine v_move rfl rfl ?_
  refine wv rfl (fun a w hf hs => r_eql (hf.ev rfl) (hf.ev rfl)) ?_
  refine v_move rfl rfl ?_
  obtain ⟨t19, e20, H⟩ := bnd H
  refine w_callJ (b0 := b) 0 cf55 trivial rfl rfl rfl rfl (fun w hs => backup_reader_check.calls (b := b) (T := T) (q := (q)) (x_ := x_) hs h2 (t9.2.2 == (0 : Int)) t9.2.2 _ e20) ?_
  rintro v23 M21 _ l22 ⟨v24, hv_, h25, rfl⟩
  subst hv_
  replace h16 := h16.mono l22
  refine w_L [.blk b (.cells ((backup_reader.C t19.2 v24 ++ q)).toArray T (0, 0))] rfl ?_
  refine wv rfl (fun a w hf hs => r_not (hf.ev rfl)) ?_
  refine w_nil (hK18 _ _ _ ?_)
  refine c_if rfl (fun b26 => ?_) (fun b26 => ?_)
  ·replace H := if_t b26 H
   refine c_sr fun _ hK27 => ?_
   refine v_move rfl rfl ?_
   refine v_assign rfl rfl ?_
   refine w_nil (hK27 _ _ _ ?_)
   obtain rfl := some_r H
   exact c_ret fun a w' hf hs => hret _ (.inl rfl) a w' hf.df ⟨_, _, _, Res.of1 rfl (RV.t hf rfl), hs.sel [0] (by decide) rfl, ⟨_, _, rfl, RS.none, h25, rfl⟩⟩
  ·replace H := if_f b26 H
   refine c_skip (hK17 _ _ _ ?_)
   refine c_sr fun _ hK28 => ?_
   refine v_move rfl rfl ?_
   refine v_move rfl rfl ?_
   refine wv rfl (fun a w hf hs => r_nilCheck (hf.ev rfl)) ?_
   refine v_fa fa80_0 rfl rfl ?_
   refine wv rfl (fun a w hf hs => r_load1 ta66 (hf.ev rfl) (hs.blk (i := 0) rfl) rfl) ?_
   refine v_move rfl rfl ?_
   obtain ⟨g31, H⟩ := grd_s H
   refine w_ex (Φ := fun v => RS (FI .u8) M21 v ((t19.2.rest_.take ((t19.2.rest_.length : Int)).toNat).drop (t9.2.1).toNat)) trivial rfl (fun a w hf hs => r_slR Tryd.underlying66 ts5 (hf.ev rfl) h25 ⟨_, hf.ev rfl⟩ rfl g31.1 g31.2.1 g31.2.2) ?_
   intro v29 h30
   refine wv rfl (fun a w hf hs => r_nilCheck (hf.ev rfl)) ?_
   refine v_fa fa80_0 rfl rfl ?_
   refine w_store (i := 0) (vs := [v29]) (A' := (backup_reader.C ({ t19.2 with rest_ := ((t19.2.rest_.take ((t19.2.rest_.length : Int)).toNat).drop (t9.2.1).toNat) } : backup_reader) v29 ++ q)) trivial rfl rfl rfl h30.cells1 ts66 rfl (one1 h30.one) (Nat.le_of_ble_eq_true rfl) rfl ?_
   refine w_nil (hK28 _ _ _ ?_)
   refine c_sr fun _ hK32 => ?_
   refine v_move rfl rfl ?_
   refine v_assign rfl rfl ?_
   refine w_nil (hK32 _ _ _ ?_)
   obtain rfl := some_r H
   exact c_ret fun a w' hf hs => hret _ (.inl rfl) a w' hf.df ⟨_, _, _, Res.of1 rfl (RV.t hf rfl), hs.sel [0] (by decide) rfl, ⟨_, _, rfl, h16, h30, rfl⟩⟩
theorem backup_whole_string.calls {M : Heap} {w : World} {b : Nat} {T : TypeId} {q : List Value} {x_ : backup_reader} {v1 : Value} (hs : St (fun k => k = b) M w M (lt [.blk b (.cells ((backup_reader.C x_ v1 ++ q)).toArray T (0, 0))]) w) (h2 : RS (FI .u8) M v1 x_.rest_) (r : ((List UInt8) × backup_reader)) (H : backup_whole_string x_ = some r) :
  Calls Tryd.prog 103 [(ptr b 0), (.func (.func 98) #[] #[])].toArray w (PostI (fun k => k = b) M w fun M' x v => ∃ (v21 : Value), v = (str r.1) ∧ RS (FI .u8) M' v21 r.2.rest_ ∧ x = .blk b (.cells ((backup_reader.C r.2 v21 ++ q)).toArray T (0, 0))) := by
 refine enterI 18 [(0, (ptr b 0)), (1, (.func (.func 98) #[] #[]))] Tryd.func103 rfl rfl rfl hs ?_
 clear hs
 intro Q hret
 unfold backup_whole_string at H
 refine c_sr fun _ hK3 => ?_
 refine v_assign rfl rfl ?_
 refine w_nil (hK3 _ _ _ ?_)
 refine c_sr fun _ hK4 => ?_
 refine v_move rfl rfl ?_
 refine v_move rfl rfl ?_
 obtain ⟨t5, e6, H⟩ := bnd H
 refine w_callJ (b0 := b) 0 cf97 trivial rfl rfl rfl rfl (fun w hs => backup_read_string.calls (b := b) (T := T) (q := (q)) (x_ := x_) hs h2 _ e6) ?_
 rintro v9 M7 _ l8 ⟨v10, hv_, h11, rfl⟩
 subst hv_
 refine w_L [.blk b (.cells ((backup_reader.C t5.2 v10 ++ q)).toArray T (0, 0))] rfl ?_
 refine v_assign rfl rfl ?_
 refine w_nil (hK4 _ _ _ ?_)
 refine c_sr fun _ hK12 => ?_
 refine v_move rfl rfl ?_
 refine v_move rfl rfl ?_
 refine wv rfl (fun a w hf hs => r_nilCheck (hf.ev rfl)) ?_
 refine v_fa fa80_0 rfl rfl ?_
 refine wv rfl (fun a w hf hs => r_load1 ta66 (hf.ev rfl) (hs.blk (i := 0) rfl) rfl) ?_
 refine wv rfl (fun a w hf hs => r_lenR Tryd.underlying66 h11 (hf.ev rfl)) ?_
 refine wv rfl (fun a w hf hs => r_eql (hf.ev rfl) (hf.ev rfl)) ?_
 obtain ⟨t13, e14, H⟩ := bnd H
 refine w_callJ (b0 := b) 0 cf55 trivial rfl rfl rfl rfl (fun w hs => backup_reader_check.calls (b := b) (T := T) (q := (q)) (x_ := t5.2) hs h11 ((t5.2.rest_.length : Int) == (0 : Int)) (6 : Int) _ e14) ?_
 rintro v17 M15 _ l16 ⟨v18, hv_, h19, rfl⟩
 subst hv_
 refine w_L [.blk b (.cells ((backup_reader.C t13.2 v18 ++ q)).toArray T (0, 0))] rfl ?_
 refine w_nil (hK12 _ _ _ ?_)
 refine c_sr fun _ hK20 => ?_
 refine v_move rfl rfl ?_
 refine v_assign rfl rfl ?_
 refine w_nil (hK20 _ _ _ ?_)
 obtain rfl := some_r H
 exact c_ret fun a w' hf hs => hret _ (.inl rfl) a w' hf.df ⟨_, _, _, Res.of1 rfl (RV.t hf rfl), hs.sel [0] (by decide) rfl, ⟨_, rfl, h19, rfl⟩⟩
theorem backup_blobReader_peek.calls {M : Heap} {w : World} {b : Nat} {T : TypeId} {q : List Value} {x_ : backup_blobReader} {v1 : Value} (hs : St (fun k => k = b) M w M (lt [.blk b (.cells ((backup_blobReader.C x_ v1 ++ q)).toArray T (0, 0))]) w) (h2 : RS (FI .u8) M v1 x_.reader.rest_) (r : (Backup × backup_blobReader)) (H : backup_blobReader_peek x_ = some r) :
  Calls Tryd.prog 51 [(ptr b 0)].toArray w (PostI (fun k => k = b) M w fun M' x v => ∃ (v214 : Value), v = (.agg (Backup.C r.1 (.slice none 0 0)).toArray) ∧ RS (FI .u8) M' v214 r.2.reader.rest_ ∧ r.1.Keys = [] ∧ x = .blk b (.cells ((backup_blobReader.C r.2 v214 ++ q)).toArray T (0, 0))) := by
 refine enterI 69 [(0, (ptr b 0))] Tryd.func51 rfl rfl rfl hs ?_
 clear hs
 intro Q hret
 unfold backup_blobReader_peek at H
 refine c_sr fun _ hK3 => ?_
 refine w_allocL (A := Backup.C (⟨(Vector.replicate 16 (0 : Int)), (0 : Int), (0 : Int), (0 : Int), (0 : Int), (Vector.replicate 16 (0 : Int)), ([] : List UInt8), ([] : (List Key))⟩ : Backup) (.slice none 0 0)) tz36 trivial rfl rfl ?_
 intro b4
 refine w_nil (hK3 _ _ _ ?_)
 refine c_sr fun _ hK5 => ?_
 refine v_move rfl rfl ?_
 refine v_move rfl rfl ?_
 refine wv rfl (fun a w hf hs => r_nilCheck (hf.ev rfl)) ?_
 refine v_fa fa82_0 rfl rfl ?_
 obtain ⟨t6, e7, H⟩ := bnd H
 refine w_callJ (b0 := b) 0 cf97 trivial rfl rfl rfl rfl (fun w hs => backup_read_string.calls (b := b) (T := T) (q := ([(str x_.header)] ++ q)) (x_ := x_.reader) hs h2 _ e7) ?_
 rintro v10 M8 _ l9 ⟨v11, hv_, h12, rfl⟩
 subst hv_
 refine w_L [.blk b (.cells ((backup_blobReader.C ({ x_ with reader := t6.2 } : backup_blobReader) v11 ++ q)).toArray T (0, 0)), .blk b4 (.cells (Backup.C (⟨(Vector.replicate 16 (0 : Int)), (0 : Int), (0 : Int), (0 : Int), (0 : Int), (Vector.replicate 16 (0 : Int)), ([] : List UInt8), ([] : (List Key))⟩ : Backup) (.slice none 0 0)).toArray 36 (0, 0))] rfl ?_
 refine wv rfl (fun a w hf hs => r_nilCheck (hf.ev rfl)) ?_
 refine v_fa fa82_1 rfl rfl ?_
 refine w_store (i := 0) (vs := [(str t6.1)]) (A' := (backup_blobReader.C (⟨t6.2, t6.1⟩ : backup_blobReader) v11 ++ q)) trivial rfl rfl rfl rfl ts9 rfl (one1 rfl) (Nat.le_of_ble_eq_true rfl) rfl ?_
 refine w_nil (hK5 _ _ _ ?_)
 refine c_seq fun K13 hK13 => ?_
 refine c_split2 10 (by kernel_rfl) (by kernel_rfl) (by kernel_rfl) (by kernel_rfl) rfl ?_
 intro K14 hK14
 refine d_drawP [([], [0]), ([(0, 12)], []), ([(1, 13)], []), ([(2, 14)], []), ([(3, 15)], []), ([], [0]), ([(5, 17)], []), ([(6, 18)], []), ([(7, 19)], []), ([(8, 20)], [])] [fun v M => v = (ptr b 0), fun v M => v = (ptr b 0), fun v M => v = (ptr b 2), fun v M => v = (str t6.1), fun v M => ∃ (v29 : Value), v = v29 ∧ RS (FI .u8) M v29 (bytesI t6.1), fun v M => v = (ptr b 0), fun v M => v = (ptr b 0), fun v M => v = (ptr b 0), fun v M => v = (ptr b 1), fun v M => v = (.int .i64 t6.2.e)] (by kernel_rfl) (by kernel_rfl) ?_ (AllT.cons ?_ (AllT.cons ?_ (AllT.cons ?_ (AllT.cons ?_ (AllT.cons ?_ (AllT.cons ?_ (AllT.cons ?_ (AllT.cons ?_ (AllT.cons ?_ (AllT.cons ?_ AllT.nil)))))))))) ?_
 ·exact (mC (mC (mC (mC (MonoA.cons (fun _ _ _ hM h => by obtain ⟨v29, e_, q0⟩ := h; exact ⟨v29, e_, q0.mono hM⟩) (mC (mC (mC (mC (mC MonoA.nil))))))))))
 ·intro a w' M15 l16 hd hs
  exact pv (hd.fr.add (hd.base 0 _ rfl rfl)) hs rfl (fun a w hf hs => r_move (hf.ev rfl)) rfl
 ·intro a w' M17 l18 hd hs
  have e19 := hd.val 0 12 _ rfl rfl
  exact pv (hd.fr.add e19) hs rfl (fun a w hf hs => r_nilCheck (hf.ev rfl)) rfl
 ·intro a w' M20 l21 hd hs
  have e22 := hd.val 1 13 _ rfl rfl
  exact pv (hd.fr.add e22) hs rfl (fun a w hf hs => r_fa fa82_1 (hf.ev rfl)) rfl
 ·intro a w' M23 l24 hd hs
  have e25 := hd.val 2 14 _ rfl rfl
  exact pv (hd.fr.add e25) hs rfl (fun a w hf hs => r_load1 ta9 (hf.ev rfl) (hs.blk (i := 0) rfl) rfl) rfl
 ·intro a w' M26 l27 hd hs
  have e28 := hd.val 3 15 _ rfl rfl
  refine OP.ofW (l := [(15, (str t6.1))]) (hd.fr.add e28) hs rfl ?_
  refine w_s2b Tryd.underlying9 Tryd.underlying66 Tryd.underlying5 trivial rfl rfl ?_
  intro v29 M30 l31 h32
  exact w_nil fun a w' hf hs => ⟨rfl, hf.df, _, l31, hs, ⟨v29, hf.get _ _ rfl, h32⟩⟩
 ·intro a w' M33 l34 hd hs
  exact pv (hd.fr.add (hd.base 0 _ rfl rfl)) hs rfl (fun a w hf hs => r_move (hf.ev rfl)) rfl
 ·intro a w' M35 l36 hd hs
  have e37 := hd.val 5 17 _ rfl rfl
  exact pv (hd.fr.add e37) hs rfl (fun a w hf hs => r_nilCheck (hf.ev rfl)) rfl
 ·intro a w' M38 l39 hd hs
  have e40 := hd.val 6 18 _ rfl rfl
  exact pv (hd.fr.add e40) hs rfl (fun a w hf hs => r_fa fa82_0 (hf.ev rfl)) rfl
 ·intro a w' M41 l42 hd hs
  have e43 := hd.val 7 19 _ rfl rfl
  exact pv (hd.fr.add e43) hs rfl (fun a w hf hs => r_fa fa80_1 (hf.ev rfl)) rfl
 ·intro a w' M44 l45 hd hs
  have e46 := hd.val 8 20 _ rfl rfl
  exact pv (hd.fr.add e46) hs rfl (fun a w hf hs => r_load1 ta24 (hf.ev rfl) (hs.blk (i := 0) rfl) rfl) rfl
 intro a w' M47 l48 hdf hsz hb hv hs
 replace h12 := h12.mono l48
 obtain ⟨v49, e51, h50⟩ := hv 4 16 _ rfl rfl
 have e52 := hv 9 21 _ rfl rfl
 refine n_of (c := (Cx.mk Tryd.prog 69 (fun k => k = b) M w)) (l := [(0, (ptr b 0)), (2, (ptr b4 0)), (16, v49), (21, (.int .i64 t6.2.e))]) ?_ (((((Fr.start hdf hsz).add e52).add e51).add (hb 2 _ rfl rfl)).add (hb 0 _ rfl rfl)) hs
 clear hdf hsz hb hv hs e51 e52
 refine n_id (hK14 _ _ _ ?_)
 refine wv rfl (fun a w hf hs => r_build (is := [0, 1]) (xs := [.tmp 16, .tmp 21]) (vs := [v49, (.int .i64 t6.2.e)]) (A := backup_reader.C (⟨(bytesI t6.1), t6.2.e⟩ : backup_reader) v49) rfl (hf.evs rfl) (built_of (pl := [(0, 1), (1, 1)]) (A0 := backup_reader.C (⟨([] : (List Int)), (0 : Int)⟩ : backup_reader) (.slice none 0 0)) tz80 Tryd.underlying80 (by kernel_rfl) rfl (.cons (vs := [v49]) (B := backup_reader.C (⟨(bytesI t6.1), (0 : Int)⟩ : backup_reader) v49) rfl (h50.cells1) rfl (by rw [backup_reader.len]; decide) rfl (.cons (vs := [(.int .i64 t6.2.e)]) (B := backup_reader.C (⟨(bytesI t6.1), t6.2.e⟩ : backup_reader) v49) rfl rfl rfl (by rw [backup_reader.len]; decide) rfl .nil)))) ?_
 refine w_boxL trivial rfl rfl rfl ?_
 intro b53
 refine v_assign rfl rfl ?_
 refine w_nil (hK13 _ _ _ ?_)
 refine c_sr fun _ hK54 => ?_
 refine v_move rfl rfl ?_
 obtain ⟨t55, e56, H⟩ := bnd H
 refine w_callJ (b0 := b53) 2 cf99 trivial rfl rfl rfl rfl (fun w hs => backup_read_Digest.calls (b := b53) (T := 80) (q := []) (x_ := (⟨(bytesI t6.1), t6.2.e⟩ : backup_reader)) hs h50 _ e56) ?_
 rintro v59 M57 _ l58 ⟨v60, hv_, h61, rfl⟩
 subst hv_
 replace h12 := h12.mono l58
 refine w_L [.blk b (.cells ((backup_blobReader.C (⟨t6.2, t6.1⟩ : backup_blobReader) v11 ++ q)).toArray T (0, 0)), .blk b4 (.cells (Backup.C (⟨(Vector.replicate 16 (0 : Int)), (0 : Int), (0 : Int), (0 : Int), (0 : Int), (Vector.replicate 16 (0 : Int)), ([] : List UInt8), ([] : (List Key))⟩ : Backup) (.slice none 0 0)).toArray 36 (0, 0)), .blk b53 (.cells (backup_reader.C t55.2 v60).toArray 80 (0, 0))] rfl ?_
 refine v_fa fa36_0 rfl rfl ?_
 refine w_store (i := 1) (vs := vI .u8 t55.1) (A' := Backup.C (⟨t55.1, (0 : Int), (0 : Int), (0 : Int), (0 : Int), (Vector.replicate 16 (0 : Int)), ([] : List UInt8), ([] : (List Key))⟩ : Backup) (.slice none 0 0)) trivial rfl rfl rfl rfl ts33 (vI_len _) (vI_one _) (by rw [Backup.len]; decide) (Backup.s0_16 _ _) ?_
 refine w_L [.blk b (.cells ((backup_blobReader.C (⟨t6.2, t6.1⟩ : backup_blobReader) v11 ++ q)).toArray T (0, 0)), .blk b4 (.cells (Backup.C (⟨t55.1, (0 : Int), (0 : Int), (0 : Int), (0 : Int), (Vector.replicate 16 (0 : Int)), ([] : List UInt8), ([] : (List Key))⟩ : Backup) (.slice none 0 0)).toArray 36 (0, 0)), .blk b53 (.cells (backup_reader.C t55.2 v60).toArray 80 (0, 0))] rfl ?_
 refine w_nil (hK54 _ _ _ ?_)
 refine c_seq fun K62 hK62 => ?_
 refine c_sr fun _ hK63 => ?_
 refine v_move rfl rfl ?_
 obtain ⟨t64, e65, H⟩ := bnd H
 refine w_callJ (b0 := b53) 2 cf101 trivial rfl rfl rfl rfl (fun w hs => backup_read_LLint.calls (b := b53) (T := 80) (q := []) (x_ := t55.2) hs h61 _ e65) ?_
 rintro v68 M66 _ l67 ⟨v69, v71, hv_, h70, h72, rfl⟩
 replace hv_ := hv_.symm
 subst hv_
 replace h12 := h12.mono l67
 refine w_L [.blk b (.cells ((backup_blobReader.C (⟨t6.2, t6.1⟩ : backup_blobReader) v11 ++ q)).toArray T (0, 0)), .blk b4 (.cells (Backup.C (⟨t55.1, (0 : Int), (0 : Int), (0 : Int), (0 : Int), (Vector.replicate 16 (0 : Int)), ([] : List UInt8), ([] : (List Key))⟩ : Backup) (.slice none 0 0)).toArray 36 (0, 0)), .blk b53 (.cells (backup_reader.C t64.2 v71).toArray 80 (0, 0))] rfl ?_
 refine v_assign rfl rfl ?_
 refine w_nil (hK63 _ _ _ ?_)
 refine c_sr fun _ hK73 => ?_
 refine v_move rfl rfl ?_
 refine v_move rfl rfl ?_
 refine wv rfl (fun a w hf hs => r_lenR Tryd.underlying51 h70 (hf.ev rfl)) ?_
 refine wv rfl (fun a w hf hs => r_eql (hf.ev rfl) (hf.ev rfl)) ?_
 obtain ⟨t74, e75, H⟩ := bnd H
 refine w_callJ (b0 := b53) 2 cf55 trivial rfl rfl rfl rfl (fun w hs => backup_reader_check.calls (b := b53) (T := 80) (q := []) (x_ := t64.2) hs h72 ((t64.1.length : Int) == (4 : Int)) (6 : Int) _ e75) ?_
 rintro v78 M76 _ l77 ⟨v79, hv_, h80, rfl⟩
 subst hv_
 replace h12 := h12.mono l77
 replace h70 := h70.mono l77
 refine w_L [.blk b (.cells ((backup_blobReader.C (⟨t6.2, t6.1⟩ : backup_blobReader) v11 ++ q)).toArray T (0, 0)), .blk b4 (.cells (Backup.C (⟨t55.1, (0 : Int), (0 : Int), (0 : Int), (0 : Int), (Vector.replicate 16 (0 : Int)), ([] : List UInt8), ([] : (List Key))⟩ : Backup) (.slice none 0 0)).toArray 36 (0, 0)), .blk b53 (.cells (backup_reader.C t74.2 v79).toArray 80 (0, 0))] rfl ?_
 refine w_nil (hK73 _ _ _ ?_)
 refine c_if rfl (fun b81 => ?_) (fun b81 => ?_)
 ·replace H := if_t b81 H
  refine c_split2 18 (by kernel_rfl) (by kernel_rfl) (by kernel_rfl) (by kernel_rfl) rfl ?_
  intro K82 hK82
  obtain ⟨g88, H⟩ := grd_s H
  obtain ⟨g97, H⟩ := grd_s H
  obtain ⟨g106, H⟩ := grd_s H
  obtain ⟨g115, H⟩ := grd_s H
  refine d_drawW [[], [13, 15, 17], []] [⟨[], [4], [], none⟩, ⟨[(0, 34)], [], [], none⟩, ⟨[(1, 35)], [], [], none⟩, ⟨[], [4], [], none⟩, ⟨[(3, 37)], [], [], none⟩, ⟨[(4, 38)], [], [], none⟩, ⟨[], [4], [], none⟩, ⟨[(6, 40)], [], [], none⟩, ⟨[(7, 41)], [], [], none⟩, ⟨[], [4], [], none⟩, ⟨[(9, 43)], [], [], none⟩, ⟨[(10, 44)], [], [], none⟩, ⟨[], [2], [], none⟩, ⟨[(12, 46), (2, 36)], [], [(1, 0)], some (1, 0)⟩, ⟨[], [2], [], none⟩, ⟨[(14, 47), (5, 39)], [], [(1, 1)], some (1, 1)⟩, ⟨[], [2], [], none⟩, ⟨[(16, 48), (8, 42)], [], [(1, 2)], some (1, 2)⟩] [fun v M => v = v69, fun v M => v = (eP v69 (0 : Int) 1 0), fun v M => v = (.int .i64 (rd t64.1 0)), fun v M => v = v69, fun v M => v = (eP v69 (1 : Int) 1 0), fun v M => v = (.int .i64 (rd t64.1 1)), fun v M => v = v69, fun v M => v = (eP v69 (2 : Int) 1 0), fun v M => v = (.int .i64 (rd t64.1 2)), fun v M => v = v69, fun v M => v = (eP v69 (3 : Int) 1 0), fun v M => v = (.int .i64 (rd t64.1 3)), fun v M => v = (ptr b4 16), fun _ _ => True, fun v M => v = (ptr b4 17), fun _ _ => True, fun v M => v = (ptr b4 18), fun _ _ => True] [[fun y M => y = .blk b (.cells ((backup_blobReader.C (⟨t6.2, t6.1⟩ : backup_blobReader) v11 ++ q)).toArray T (0, 0))], [fun y M => y = .blk b4 (.cells (Backup.C (⟨t55.1, (0 : Int), (0 : Int), (0 : Int), (0 : Int), (Vector.replicate 16 (0 : Int)), ([] : List UInt8), ([] : (List Key))⟩ : Backup) (.slice none 0 0)).toArray 36 (0, 0)), fun y M => y = .blk b4 (.cells (Backup.C (⟨t55.1, (rd t64.1 0), (0 : Int), (0 : Int), (0 : Int), (Vector.replicate 16 (0 : Int)), ([] : List UInt8), ([] : (List Key))⟩ : Backup) (.slice none 0 0)).toArray 36 (0, 0)), fun y M => y = .blk b4 (.cells (Backup.C (⟨t55.1, (rd t64.1 0), (rd t64.1 1), (0 : Int), (0 : Int), (Vector.replicate 16 (0 : Int)), ([] : List UInt8), ([] : (List Key))⟩ : Backup) (.slice none 0 0)).toArray 36 (0, 0)), fun y M => y = .blk b4 (.cells (Backup.C (⟨t55.1, (rd t64.1 0), (rd t64.1 1), (rd t64.1 2), (0 : Int), (Vector.replicate 16 (0 : Int)), ([] : List UInt8), ([] : (List Key))⟩ : Backup) (.slice none 0 0)).toArray 36 (0, 0))], [fun y M => y = .blk b53 (.cells (backup_reader.C t74.2 v79).toArray 80 (0, 0))]] (by kernel_rfl) (by kernel_rfl) ?_ ?_ rfl ?_ (AllW.cons ?_ (AllW.cons ?_ (AllW.cons ?_ (AllW.cons ?_ (AllW.cons ?_ (AllW.cons ?_ (AllW.cons ?_ (AllW.cons ?_ (AllW.cons ?_ (AllW.cons ?_ (AllW.cons ?_ (AllW.cons ?_ (AllW.cons ?_ (AllW.cons ?_ (AllW.cons ?_ (AllW.cons ?_ (AllW.cons ?_ (AllW.cons ?_ AllW.nil)))))))))))))))))) ?_
  ·exact (mC (mC (mC (mC (mC (mC (mC (mC (mC (mC (mC (mC (mC (mC (mC (mC (mC (mC MonoA.nil))))))))))))))))))
  ·exact (MonoK.cons (mono_cons (fun _ _ _ _ h => h) mono_nil) (MonoK.cons (mono_cons (fun _ _ _ _ h => h) (mono_cons (fun _ _ _ _ h => h) (mono_cons (fun _ _ _ _ h => h) (mono_cons (fun _ _ _ _ h => h) mono_nil)))) (MonoK.cons (mono_cons (fun _ _ _ _ h => h) mono_nil) MonoK.nil)))
  ·exact (All0.cons rfl (All0.cons rfl (All0.cons rfl All0.nil)))
  ·intro a w' M83 L_ l84 hL hd hs
   replace h70 := h70.mono l84
   obtain ⟨x0_, L0_, rfl, hL0⟩ := lenS hL
   obtain ⟨x1_, L1_, rfl, hL1⟩ := lenS hL0
   obtain ⟨x2_, L2_, rfl, hL2⟩ := lenS hL1
   obtain rfl := len0 hL2
   exact pw (hd.fr.add (hd.base 4 _ rfl rfl)) hs rfl (fun a w hf hs => r_move (hf.ev rfl)) rfl rfl
  ·intro a w' M85 L_ l86 hL hd hs
   have e87 := hd.val 0 34 _ rfl rfl
   replace h70 := h70.mono l86
   obtain ⟨x0_, L0_, rfl, hL0⟩ := lenS hL
   obtain ⟨x1_, L1_, rfl, hL1⟩ := lenS hL0
   obtain ⟨x2_, L2_, rfl, hL2⟩ := lenS hL1
   obtain rfl := len0 hL2
   exact pw (hd.fr.add e87) hs rfl (fun a w hf hs => r_iR Tryd.underlying51 ts3 h70 (hf.ev rfl) (hf.ev rfl) g88.1 g88.2) rfl rfl
  ·intro a w' M89 L_ l90 hL hd hs
   have e91 := hd.val 1 35 _ rfl rfl
   replace h70 := h70.mono l90
   obtain ⟨x0_, L0_, rfl, hL0⟩ := lenS hL
   obtain ⟨x1_, L1_, rfl, hL1⟩ := lenS hL0
   obtain ⟨x2_, L2_, rfl, hL2⟩ := lenS hL1
   obtain rfl := len0 hL2
   exact pw (hd.fr.add e91) hs rfl (fun a w hf hs => r_loadE1 ta3 h70 hs.sub g88.1 g88.2 (hf.ev rfl) rfl) rfl rfl
  ·intro a w' M92 L_ l93 hL hd hs
   replace h70 := h70.mono l93
   obtain ⟨x0_, L0_, rfl, hL0⟩ := lenS hL
   obtain ⟨x1_, L1_, rfl, hL1⟩ := lenS hL0
   obtain ⟨x2_, L2_, rfl, hL2⟩ := lenS hL1
   obtain rfl := len0 hL2
   exact pw (hd.fr.add (hd.base 4 _ rfl rfl)) hs rfl (fun a w hf hs => r_move (hf.ev rfl)) rfl rfl
  ·intro a w' M94 L_ l95 hL hd hs
   have e96 := hd.val 3 37 _ rfl rfl
   replace h70 := h70.mono l95
   obtain ⟨x0_, L0_, rfl, hL0⟩ := lenS hL
   obtain ⟨x1_, L1_, rfl, hL1⟩ := lenS hL0
   obtain ⟨x2_, L2_, rfl, hL2⟩ := lenS hL1
   obtain rfl := len0 hL2
   exact pw (hd.fr.add e96) hs rfl (fun a w hf hs => r_iR Tryd.underlying51 ts3 h70 (hf.ev rfl) (hf.ev rfl) g97.1 g97.2) rfl rfl
  ·intro a w' M98 L_ l99 hL hd hs
   have e100 := hd.val 4 38 _ rfl rfl
   replace h70 := h70.mono l99
   obtain ⟨x0_, L0_, rfl, hL0⟩ := lenS hL
   obtain ⟨x1_, L1_, rfl, hL1⟩ := lenS hL0
   obtain ⟨x2_, L2_, rfl, hL2⟩ := lenS hL1
   obtain rfl := len0 hL2
   exact pw (hd.fr.add e100) hs rfl (fun a w hf hs => r_loadE1 ta3 h70 hs.sub g97.1 g97.2 (hf.ev rfl) rfl) rfl rfl
  ·intro a w' M101 L_ l102 hL hd hs
   replace h70 := h70.mono l102
   obtain ⟨x0_, L0_, rfl, hL0⟩ := lenS hL
   obtain ⟨x1_, L1_, rfl, hL1⟩ := lenS hL0
   obtain ⟨x2_, L2_, rfl, hL2⟩ := lenS hL1
   obtain rfl := len0 hL2
   exact pw (hd.fr.add (hd.base 4 _ rfl rfl)) hs rfl (fun a w hf hs => r_move (hf.ev rfl)) rfl rfl
  ·intro a w' M103 L_ l104 hL hd hs
   have e105 := hd.val 6 40 _ rfl rfl
   replace h70 := h70.mono l104
   obtain ⟨x0_, L0_, rfl, hL0⟩ := lenS hL
   obtain ⟨x1_, L1_, rfl, hL1⟩ := lenS hL0
   obtain ⟨x2_, L2_, rfl, hL2⟩ := lenS hL1
   obtain rfl := len0 hL2
   exact pw (hd.fr.add e105) hs rfl (fun a w hf hs => r_iR Tryd.underlying51 ts3 h70 (hf.ev rfl) (hf.ev rfl) g106.1 g106.2) rfl rfl
  ·intro a w' M107 L_ l108 hL hd hs
   have e109 := hd.val 7 41 _ rfl rfl
   replace h70 := h70.mono l108
   obtain ⟨x0_, L0_, rfl, hL0⟩ := lenS hL
   obtain ⟨x1_, L1_, rfl, hL1⟩ := lenS hL0
   obtain ⟨x2_, L2_, rfl, hL2⟩ := lenS hL1
   obtain rfl := len0 hL2
   exact pw (hd.fr.add e109) hs rfl (fun a w hf hs => r_loadE1 ta3 h70 hs.sub g106.1 g106.2 (hf.ev rfl) rfl) rfl rfl
  ·intro a w' M110 L_ l111 hL hd hs
   replace h70 := h70.mono l111
   obtain ⟨x0_, L0_, rfl, hL0⟩ := lenS hL
   obtain ⟨x1_, L1_, rfl, hL1⟩ := lenS hL0
   obtain ⟨x2_, L2_, rfl, hL2⟩ := lenS hL1
   obtain rfl := len0 hL2
   exact pw (hd.fr.add (hd.base 4 _ rfl rfl)) hs rfl (fun a w hf hs => r_move (hf.ev rfl)) rfl rfl
  ·intro a w' M112 L_ l113 hL hd hs
   have e114 := hd.val 9 43 _ rfl rfl
   replace h70 := h70.mono l113
   obtain ⟨x0_, L0_, rfl, hL0⟩ := lenS hL
   obtain ⟨x1_, L1_, rfl, hL1⟩ := lenS hL0
   obtain ⟨x2_, L2_, rfl, hL2⟩ := lenS hL1
   obtain rfl := len0 hL2
   exact pw (hd.fr.add e114) hs rfl (fun a w hf hs => r_iR Tryd.underlying51 ts3 h70 (hf.ev rfl) (hf.ev rfl) g115.1 g115.2) rfl rfl
  ·intro a w' M116 L_ l117 hL hd hs
   have e118 := hd.val 10 44 _ rfl rfl
   replace h70 := h70.mono l117
   obtain ⟨x0_, L0_, rfl, hL0⟩ := lenS hL
   obtain ⟨x1_, L1_, rfl, hL1⟩ := lenS hL0
   obtain ⟨x2_, L2_, rfl, hL2⟩ := lenS hL1
   obtain rfl := len0 hL2
   exact pw (hd.fr.add e118) hs rfl (fun a w hf hs => r_loadE1 ta3 h70 hs.sub g115.1 g115.2 (hf.ev rfl) rfl) rfl rfl
  ·intro a w' M119 L_ l120 hL hd hs
   obtain ⟨x0_, L0_, rfl, hL0⟩ := lenS hL
   obtain ⟨x1_, L1_, rfl, hL1⟩ := lenS hL0
   obtain ⟨x2_, L2_, rfl, hL2⟩ := lenS hL1
   obtain rfl := len0 hL2
   exact pw (hd.fr.add (hd.base 2 _ rfl rfl)) hs rfl (fun a w hf hs => r_fa fa36_1 (hf.ev rfl)) rfl rfl
  ·intro a w' M121 L_ l122 hL hd hs
   have e123 := hd.val 12 46 _ rfl rfl
   have e124 := hd.val 2 36 _ rfl rfl
   obtain ⟨x0_, L0_, rfl, hL0⟩ := lenS hL
   obtain ⟨x1_, L1_, rfl, hL1⟩ := lenS hL0
   obtain ⟨x2_, L2_, rfl, hL2⟩ := lenS hL1
   obtain rfl := len0 hL2
   obtain ⟨_, ⟨⟩, rfl⟩ := hd.item 1 0 _ rfl rfl
   refine OP.ofW (l := [(46, (ptr b4 16)), (36, (.int .i64 (rd t64.1 0)))]) ((hd.fr.add e124).add e123) hs rfl ?_
   refine w_store (i := 1) (vs := [(.int .i64 (rd t64.1 0))]) (A' := Backup.C (⟨t55.1, (rd t64.1 0), (0 : Int), (0 : Int), (0 : Int), (Vector.replicate 16 (0 : Int)), ([] : List UInt8), ([] : (List Key))⟩ : Backup) (.slice none 0 0)) trivial rfl rfl rfl rfl ts3 rfl (one1 rfl) (by rw [Backup.len]; decide) (Backup.s16_1 _ _) ?_
   exact w_nil fun a w' hf hs => ⟨rfl, hf.df, _, _, (HLe.refl _), hs, trivial, ⟨.blk b4 (.cells (Backup.C (⟨t55.1, (rd t64.1 0), (0 : Int), (0 : Int), (0 : Int), (Vector.replicate 16 (0 : Int)), ([] : List UInt8), ([] : (List Key))⟩ : Backup) (.slice none 0 0)).toArray 36 (0, 0)), rfl, of_some (q := fun y M => y = .blk b4 (.cells (Backup.C (⟨t55.1, (rd t64.1 0), (0 : Int), (0 : Int), (0 : Int), (Vector.replicate 16 (0 : Int)), ([] : List UInt8), ([] : (List Key))⟩ : Backup) (.slice none 0 0)).toArray 36 (0, 0))) rfl⟩⟩
  ·intro a w' M125 L_ l126 hL hd hs
   obtain ⟨x0_, L0_, rfl, hL0⟩ := lenS hL
   obtain ⟨x1_, L1_, rfl, hL1⟩ := lenS hL0
   obtain ⟨x2_, L2_, rfl, hL2⟩ := lenS hL1
   obtain rfl := len0 hL2
   exact pw (hd.fr.add (hd.base 2 _ rfl rfl)) hs rfl (fun a w hf hs => r_fa fa36_2 (hf.ev rfl)) rfl rfl
  ·intro a w' M127 L_ l128 hL hd hs
   have e129 := hd.val 14 47 _ rfl rfl
   have e130 := hd.val 5 39 _ rfl rfl
   obtain ⟨x0_, L0_, rfl, hL0⟩ := lenS hL
   obtain ⟨x1_, L1_, rfl, hL1⟩ := lenS hL0
   obtain ⟨x2_, L2_, rfl, hL2⟩ := lenS hL1
   obtain rfl := len0 hL2
   obtain ⟨_, ⟨⟩, rfl⟩ := hd.item 1 1 _ rfl rfl
   refine OP.ofW (l := [(47, (ptr b4 17)), (39, (.int .i64 (rd t64.1 1)))]) ((hd.fr.add e130).add e129) hs rfl ?_
   refine w_store (i := 1) (vs := [(.int .i64 (rd t64.1 1))]) (A' := Backup.C (⟨t55.1, (rd t64.1 0), (rd t64.1 1), (0 : Int), (0 : Int), (Vector.replicate 16 (0 : Int)), ([] : List UInt8), ([] : (List Key))⟩ : Backup) (.slice none 0 0)) trivial rfl rfl rfl rfl ts3 rfl (one1 rfl) (by rw [Backup.len]; decide) (Backup.s17_1 _ _) ?_
   exact w_nil fun a w' hf hs => ⟨rfl, hf.df, _, _, (HLe.refl _), hs, trivial, ⟨.blk b4 (.cells (Backup.C (⟨t55.1, (rd t64.1 0), (rd t64.1 1), (0 : Int), (0 : Int), (Vector.replicate 16 (0 : Int)), ([] : List UInt8), ([] : (List Key))⟩ : Backup) (.slice none 0 0)).toArray 36 (0, 0)), rfl, of_some (q := fun y M => y = .blk b4 (.cells (Backup.C (⟨t55.1, (rd t64.1 0), (rd t64.1 1), (0 : Int), (0 : Int), (Vector.replicate 16 (0 : Int)), ([] : List UInt8), ([] : (List Key))⟩ : Backup) (.slice none 0 0)).toArray 36 (0, 0))) rfl⟩⟩
  ·intro a w' M131 L_ l132 hL hd hs
   obtain ⟨x0_, L0_, rfl, hL0⟩ := lenS hL
   obtain ⟨x1_, L1_, rfl, hL1⟩ := lenS hL0
   obtain ⟨x2_, L2_, rfl, hL2⟩ := lenS hL1
   obtain rfl := len0 hL2
   exact pw (hd.fr.add (hd.base 2 _ rfl rfl)) hs rfl (fun a w hf hs => r_fa fa36_3 (hf.ev rfl)) rfl rfl
  ·intro a w' M133 L_ l134 hL hd hs
   have e135 := hd.val 16 48 _ rfl rfl
   have e136 := hd.val 8 42 _ rfl rfl
   obtain ⟨x0_, L0_, rfl, hL0⟩ := lenS hL
   obtain ⟨x1_, L1_, rfl, hL1⟩ := lenS hL0
   obtain ⟨x2_, L2_, rfl, hL2⟩ := lenS hL1
   obtain rfl := len0 hL2
   obtain ⟨_, ⟨⟩, rfl⟩ := hd.item 1 2 _ rfl rfl
   refine OP.ofW (l := [(48, (ptr b4 18)), (42, (.int .i64 (rd t64.1 2)))]) ((hd.fr.add e136).add e135) hs rfl ?_
   refine w_store (i := 1) (vs := [(.int .i64 (rd t64.1 2))]) (A' := Backup.C (⟨t55.1, (rd t64.1 0), (rd t64.1 1), (rd t64.1 2), (0 : Int), (Vector.replicate 16 (0 : Int)), ([] : List UInt8), ([] : (List Key))⟩ : Backup) (.slice none 0 0)) trivial rfl rfl rfl rfl ts3 rfl (one1 rfl) (by rw [Backup.len]; decide) (Backup.s18_1 _ _) ?_
   exact w_nil fun a w' hf hs => ⟨rfl, hf.df, _, _, (HLe.refl _), hs, trivial, ⟨.blk b4 (.cells (Backup.C (⟨t55.1, (rd t64.1 0), (rd t64.1 1), (rd t64.1 2), (0 : Int), (Vector.replicate 16 (0 : Int)), ([] : List UInt8), ([] : (List Key))⟩ : Backup) (.slice none 0 0)).toArray 36 (0, 0)), rfl, of_some (q := fun y M => y = .blk b4 (.cells (Backup.C (⟨t55.1, (rd t64.1 0), (rd t64.1 1), (rd t64.1 2), (0 : Int), (Vector.replicate 16 (0 : Int)), ([] : List UInt8), ([] : (List Key))⟩ : Backup) (.slice none 0 0)).toArray 36 (0, 0))) rfl⟩⟩
  intro a w' M137 L_ l138 hL hdf hsz hb hv hi hs
  replace h12 := h12.mono l138
  replace h80 := h80.mono l138
  have e139 := hv 11 45 _ rfl rfl
  obtain ⟨x0_, L0_, rfl, hL0⟩ := lenS hL
  obtain ⟨x1_, L1_, rfl, hL1⟩ := lenS hL0
  obtain ⟨x2_, L2_, rfl, hL2⟩ := lenS hL1
  obtain rfl := len0 hL2
  obtain ⟨_, hy, rfl⟩ := hi 0 _ rfl
  obtain rfl := Option.some.inj hy
  obtain ⟨_, hy, rfl⟩ := hi 1 _ rfl
  obtain rfl := Option.some.inj hy
  obtain ⟨_, hy, rfl⟩ := hi 2 _ rfl
  obtain rfl := Option.some.inj hy
  clear hi hy
  refine n_of (c := (Cx.mk Tryd.prog 69 (fun k => k = b) M w)) (l := [(0, (ptr b 0)), (2, (ptr b4 0)), (3, (ptr b53 0)), (45, (.int .i64 (rd t64.1 3)))]) ?_ (((((Fr.start hdf hsz).add e139).add (hb 3 _ rfl rfl)).add (hb 2 _ rfl rfl)).add (hb 0 _ rfl rfl)) hs
  clear hdf hsz hb hv hs e139
  refine n_id (hK82 _ _ _ ?_)
  refine v_fa fa36_4 rfl rfl ?_
  refine w_store (i := 1) (vs := [(.int .i64 (rd t64.1 3))]) (A' := Backup.C (⟨t55.1, (rd t64.1 0), (rd t64.1 1), (rd t64.1 2), (rd t64.1 3), (Vector.replicate 16 (0 : Int)), ([] : List UInt8), ([] : (List Key))⟩ : Backup) (.slice none 0 0)) trivial rfl rfl rfl rfl ts3 rfl (one1 rfl) (by rw [Backup.len]; decide) (Backup.s19_1 _ _) ?_
  refine w_L [.blk b (.cells ((backup_blobReader.C (⟨t6.2, t6.1⟩ : backup_blobReader) v11 ++ q)).toArray T (0, 0)), .blk b4 (.cells (Backup.C (⟨t55.1, (rd t64.1 0), (rd t64.1 1), (rd t64.1 2), (rd t64.1 3), (Vector.replicate 16 (0 : Int)), ([] : List UInt8), ([] : (List Key))⟩ : Backup) (.slice none 0 0)).toArray 36 (0, 0)), .blk b53 (.cells (backup_reader.C t74.2 v79).toArray 80 (0, 0))] rfl ?_
  refine w_nil (hK62 _ _ _ ?_)
  refine c_sr fun _ hK140 => ?_
  refine v_move rfl rfl ?_
  obtain ⟨t141, e142, H⟩ := bnd H
  refine w_callJ (b0 := b53) 2 cf99 trivial rfl rfl rfl rfl (fun w hs => backup_read_Digest.calls (b := b53) (T := 80) (q := []) (x_ := t74.2) hs h80 _ e142) ?_
  rintro v145 M143 _ l144 ⟨v146, hv_, h147, rfl⟩
  subst hv_
  replace h12 := h12.mono l144
  replace h80 := h80.mono l144
  refine w_L [.blk b (.cells ((backup_blobReader.C (⟨t6.2, t6.1⟩ : backup_blobReader) v11 ++ q)).toArray T (0, 0)), .blk b4 (.cells (Backup.C (⟨t55.1, (rd t64.1 0), (rd t64.1 1), (rd t64.1 2), (rd t64.1 3), (Vector.replicate 16 (0 : Int)), ([] : List UInt8), ([] : (List Key))⟩ : Backup) (.slice none 0 0)).toArray 36 (0, 0)), .blk b53 (.cells (backup_reader.C t141.2 v146).toArray 80 (0, 0))] rfl ?_
  refine v_fa fa36_5 rfl rfl ?_
  refine w_store (i := 1) (vs := vI .u8 t141.1) (A' := Backup.C (⟨t55.1, (rd t64.1 0), (rd t64.1 1), (rd t64.1 2), (rd t64.1 3), t141.1, ([] : List UInt8), ([] : (List Key))⟩ : Backup) (.slice none 0 0)) trivial rfl rfl rfl rfl ts33 (vI_len _) (vI_one _) (by rw [Backup.len]; decide) (Backup.s20_16 _ _) ?_
  refine w_L [.blk b (.cells ((backup_blobReader.C (⟨t6.2, t6.1⟩ : backup_blobReader) v11 ++ q)).toArray T (0, 0)), .blk b4 (.cells (Backup.C (⟨t55.1, (rd t64.1 0), (rd t64.1 1), (rd t64.1 2), (rd t64.1 3), t141.1, ([] : List UInt8), ([] : (List Key))⟩ : Backup) (.slice none 0 0)).toArray 36 (0, 0)), .blk b53 (.cells (backup_reader.C t141.2 v146).toArray 80 (0, 0))] rfl ?_
  refine w_nil (hK140 _ _ _ ?_)
  refine c_sr fun _ hK148 => ?_
  refine v_move rfl rfl ?_
  obtain ⟨t149, e150, H⟩ := bnd H
  refine w_callJ (b0 := b53) 2 cf103 trivial rfl rfl rfl rfl (fun w hs => backup_whole_string.calls (b := b53) (T := 80) (q := []) (x_ := t141.2) hs h147 _ e150) ?_
  rintro v153 M151 _ l152 ⟨v154, hv_, h155, rfl⟩
  subst hv_
  replace h12 := h12.mono l152
  replace h80 := h80.mono l152
  refine w_L [.blk b (.cells ((backup_blobReader.C (⟨t6.2, t6.1⟩ : backup_blobReader) v11 ++ q)).toArray T (0, 0)), .blk b4 (.cells (Backup.C (⟨t55.1, (rd t64.1 0), (rd t64.1 1), (rd t64.1 2), (rd t64.1 3), t141.1, ([] : List UInt8), ([] : (List Key))⟩ : Backup) (.slice none 0 0)).toArray 36 (0, 0)), .blk b53 (.cells (backup_reader.C t149.2 v154).toArray 80 (0, 0))] rfl ?_
  refine v_fa fa36_6 rfl rfl ?_
  refine w_store (i := 1) (vs := [(str t149.1)]) (A' := Backup.C (⟨t55.1, (rd t64.1 0), (rd t64.1 1), (rd t64.1 2), (rd t64.1 3), t141.1, t149.1, ([] : (List Key))⟩ : Backup) (.slice none 0 0)) trivial rfl rfl rfl rfl ts9 rfl (one1 rfl) (by rw [Backup.len]; decide) (Backup.s36_1 _ _) ?_
  refine w_L [.blk b (.cells ((backup_blobReader.C (⟨t6.2, t6.1⟩ : backup_blobReader) v11 ++ q)).toArray T (0, 0)), .blk b4 (.cells (Backup.C (⟨t55.1, (rd t64.1 0), (rd t64.1 1), (rd t64.1 2), (rd t64.1 3), t141.1, t149.1, ([] : (List Key))⟩ : Backup) (.slice none 0 0)).toArray 36 (0, 0)), .blk b53 (.cells (backup_reader.C t149.2 v154).toArray 80 (0, 0))] rfl ?_
  refine w_nil (hK148 _ _ _ ?_)
  refine c_sr fun _ hK156 => ?_
  refine v_move rfl rfl ?_
  refine wv rfl (fun a w hf hs => r_loadA ta36 ts36 (hf.ev rfl) (hs.blk (i := 1) rfl) (Backup.d0_38 _ _) (Backup.len _ _)) ?_
  obtain ⟨t157, e162, H⟩ := bnd H
  refine w_call cf46 trivial rfl rfl (fun w hs => backup_Valid.calls hs (⟨t55.1, (rd t64.1 0), (rd t64.1 1), (rd t64.1 2), (rd t64.1 3), t141.1, t149.1, ([] : (List Key))⟩ : Backup) (.slice none 0 0) RS.none _ e162) ?_
  rintro _ M159 l160 rfl
  replace h12 := h12.mono l160
  replace h80 := h80.mono l160
  replace h155 := h155.mono l160
  obtain ⟨t163, e164, H⟩ := bnd H
  refine w_callJ (b0 := b53) 2 cf55 trivial rfl rfl rfl rfl (fun w hs => backup_reader_check.calls (b := b53) (T := 80) (q := []) (x_ := t149.2) hs h155 t157 (6 : Int) _ e164) ?_
  rintro v167 M165 _ l166 ⟨v168, hv_, h169, rfl⟩
  subst hv_
  replace h12 := h12.mono l166
  replace h80 := h80.mono l166
  refine w_L [.blk b (.cells ((backup_blobReader.C (⟨t6.2, t6.1⟩ : backup_blobReader) v11 ++ q)).toArray T (0, 0)), .blk b4 (.cells (Backup.C (⟨t55.1, (rd t64.1 0), (rd t64.1 1), (rd t64.1 2), (rd t64.1 3), t141.1, t149.1, ([] : (List Key))⟩ : Backup) (.slice none 0 0)).toArray 36 (0, 0)), .blk b53 (.cells (backup_reader.C t163.2 v168).toArray 80 (0, 0))] rfl ?_
  refine w_nil (hK156 _ _ _ ?_)
  refine c_sr fun _ hK170 => ?_
  refine v_move rfl rfl ?_
  refine v_move rfl rfl ?_
  refine wv rfl (fun a w hf hs => r_nilCheck (hf.ev rfl)) ?_
  refine v_fa fa80_1 rfl rfl ?_
  refine wv rfl (fun a w hf hs => r_load1 ta24 (hf.ev rfl) (hs.blk (i := 2) rfl) rfl) ?_
  refine wv rfl (fun a w hf hs => r_nilCheck (hf.ev rfl)) ?_
  refine v_fa fa82_0 rfl rfl ?_
  refine v_fa fa80_1 rfl rfl ?_
  refine w_store (i := 0) (vs := [(.int .i64 t163.2.e)]) (A' := (backup_blobReader.C (⟨({ t6.2 with e := t163.2.e } : backup_reader), t6.1⟩ : backup_blobReader) v11 ++ q)) trivial rfl rfl rfl rfl ts24 rfl (one1 rfl) (Nat.le_of_ble_eq_true rfl) rfl ?_
  refine w_L [.blk b (.cells ((backup_blobReader.C (⟨({ t6.2 with e := t163.2.e } : backup_reader), t6.1⟩ : backup_blobReader) v11 ++ q)).toArray T (0, 0)), .blk b4 (.cells (Backup.C (⟨t55.1, (rd t64.1 0), (rd t64.1 1), (rd t64.1 2), (rd t64.1 3), t141.1, t149.1, ([] : (List Key))⟩ : Backup) (.slice none 0 0)).toArray 36 (0, 0)), .blk b53 (.cells (backup_reader.C t163.2 v168).toArray 80 (0, 0))] rfl ?_
  refine w_nil (hK170 _ _ _ ?_)
  refine c_sr fun _ hK171 => ?_
  refine wv rfl (fun a w hf hs => r_loadA ta36 ts36 (hf.ev rfl) (hs.blk (i := 1) rfl) (Backup.d0_38 _ _) (Backup.len _ _)) ?_
  obtain ⟨z172, e174, H⟩ := bnd H
  have e173 := some_r e174
  refine w_store (i := 1) (vs := Backup.C (⟨t55.1, (rd t64.1 0), (rd t64.1 1), (rd t64.1 2), (rd t64.1 3), t141.1, t149.1, ([] : (List Key))⟩ : Backup) (.slice none 0 0)) (A' := Backup.C z172 (.slice none 0 0)) trivial rfl rfl rfl rfl ts36 (Backup.len _ _) (Backup.C_one _ rfl) (by rw [Backup.len]; decide) (by rw [← e173]; exact (splice_all _ _ (by simp [Backup.C]))) ?_
  have h175 : RS Key.F M165 (.slice none 0 0) z172.Keys := by rw [← e173]; exact RS.none
  clear e174 e173
  refine w_L [.blk b (.cells ((backup_blobReader.C (⟨({ t6.2 with e := t163.2.e } : backup_reader), t6.1⟩ : backup_blobReader) v11 ++ q)).toArray T (0, 0)), .blk b4 (.cells (Backup.C z172 (.slice none 0 0)).toArray 36 (0, 0)), .blk b53 (.cells (backup_reader.C t163.2 v168).toArray 80 (0, 0))] rfl ?_
  refine w_nil (hK171 _ _ _ ?_)
  obtain rfl := some_r H
  exact c_ret fun a w' hf hs => hret _ (.inl rfl) a w' hf.df ⟨_, _, _, Res.of1 rfl ⟨_, hf.get _ _ rfl, run_loadA (hs.blk (i := 1) rfl) ta36 ts36 (Backup.d0_38 _ _) (Backup.len _ _)⟩, hs.sel [0] (by decide) rfl, ⟨_, rfl, h12, (by first | rfl | exact rs_nil (by assumption)), rfl⟩⟩
 ·replace H := if_f b81 H
  refine c_skip (hK62 _ _ _ ?_)
  refine c_sr fun _ hK176 => ?_
  refine v_move rfl rfl ?_
  obtain ⟨t177, e178, H⟩ := bnd H
  refine w_callJ (b0 := b53) 2 cf99 trivial rfl rfl rfl rfl (fun w hs => backup_read_Digest.calls (b := b53) (T := 80) (q := []) (x_ := t74.2) hs h80 _ e178) ?_
  rintro v181 M179 _ l180 ⟨v182, hv_, h183, rfl⟩
  subst hv_
  replace h12 := h12.mono l180
  refine w_L [.blk b (.cells ((backup_blobReader.C (⟨t6.2, t6.1⟩ : backup_blobReader) v11 ++ q)).toArray T (0, 0)), .blk b4 (.cells (Backup.C (⟨t55.1, (0 : Int), (0 : Int), (0 : Int), (0 : Int), (Vector.replicate 16 (0 : Int)), ([] : List UInt8), ([] : (List Key))⟩ : Backup) (.slice none 0 0)).toArray 36 (0, 0)), .blk b53 (.cells (backup_reader.C t177.2 v182).toArray 80 (0, 0))] rfl ?_
  refine v_fa fa36_5 rfl rfl ?_
  refine w_store (i := 1) (vs := vI .u8 t177.1) (A' := Backup.C (⟨t55.1, (0 : Int), (0 : Int), (0 : Int), (0 : Int), t177.1, ([] : List UInt8), ([] : (List Key))⟩ : Backup) (.slice none 0 0)) trivial rfl rfl rfl rfl ts33 (vI_len _) (vI_one _) (by rw [Backup.len]; decide) (Backup.s20_16 _ _) ?_
  refine w_L [.blk b (.cells ((backup_blobReader.C (⟨t6.2, t6.1⟩ : backup_blobReader) v11 ++ q)).toArray T (0, 0)), .blk b4 (.cells (Backup.C (⟨t55.1, (0 : Int), (0 : Int), (0 : Int), (0 : Int), t177.1, ([] : List UInt8), ([] : (List Key))⟩ : Backup) (.slice none 0 0)).toArray 36 (0, 0)), .blk b53 (.cells (backup_reader.C t177.2 v182).toArray 80 (0, 0))] rfl ?_
  refine w_nil (hK176 _ _ _ ?_)
  refine c_sr fun _ hK184 => ?_
  refine v_move rfl rfl ?_
  obtain ⟨t185, e186, H⟩ := bnd H
  refine w_callJ (b0 := b53) 2 cf103 trivial rfl rfl rfl rfl (fun w hs => backup_whole_string.calls (b := b53) (T := 80) (q := []) (x_ := t177.2) hs h183 _ e186) ?_
  rintro v189 M187 _ l188 ⟨v190, hv_, h191, rfl⟩
  subst hv_
  replace h12 := h12.mono l188
  refine w_L [.blk b (.cells ((backup_blobReader.C (⟨t6.2, t6.1⟩ : backup_blobReader) v11 ++ q)).toArray T (0, 0)), .blk b4 (.cells (Backup.C (⟨t55.1, (0 : Int), (0 : Int), (0 : Int), (0 : Int), t177.1, ([] : List UInt8), ([] : (List Key))⟩ : Backup) (.slice none 0 0)).toArray 36 (0, 0)), .blk b53 (.cells (backup_reader.C t185.2 v190).toArray 80 (0, 0))] rfl ?_
  refine v_fa fa36_6 rfl rfl ?_
  refine w_store (i := 1) (vs := [(str t185.1)]) (A' := Backup.C (⟨t55.1, (0 : Int), (0 : Int), (0 : Int), (0 : Int), t177.1, t185.1, ([] : (List Key))⟩ : Backup) (.slice none 0 0)) trivial rfl rfl rfl rfl ts9 rfl (one1 rfl) (by rw [Backup.len]; decide) (Backup.s36_1 _ _) ?_
  refine w_L [.blk b (.cells ((backup_blobReader.C (⟨t6.2, t6.1⟩ : backup_blobReader) v11 ++ q)).toArray T (0, 0)), .blk b4 (.cells (Backup.C (⟨t55.1, (0 : Int), (0 : Int), (0 : Int), (0 : Int), t177.1, t185.1, ([] : (List Key))⟩ : Backup) (.slice none 0 0)).toArray 36 (0, 0)), .blk b53 (.cells (backup_reader.C t185.2 v190).toArray 80 (0, 0))] rfl ?_
  refine w_nil (hK184 _ _ _ ?_)
  refine c_sr fun _ hK192 => ?_
  refine v_move rfl rfl ?_
  refine wv rfl (fun a w hf hs => r_loadA ta36 ts36 (hf.ev rfl) (hs.blk (i := 1) rfl) (Backup.d0_38 _ _) (Backup.len _ _)) ?_
  obtain ⟨t193, e198, H⟩ := bnd H
  refine w_call cf46 trivial rfl rfl (fun w hs => backup_Valid.calls hs (⟨t55.1, (0 : Int), (0 : Int), (0 : Int), (0 : Int), t177.1, t185.1, ([] : (List Key))⟩ : Backup) (.slice none 0 0) RS.none _ e198) ?_
  rintro _ M195 l196 rfl
  replace h12 := h12.mono l196
  replace h191 := h191.mono l196
  obtain ⟨t199, e200, H⟩ := bnd H
  refine w_callJ (b0 := b53) 2 cf55 trivial rfl rfl rfl rfl (fun w hs => backup_reader_check.calls (b := b53) (T := 80) (q := []) (x_ := t185.2) hs h191 t193 (6 : Int) _ e200) ?_
  rintro v203 M201 _ l202 ⟨v204, hv_, h205, rfl⟩
  subst hv_
  replace h12 := h12.mono l202
  refine w_L [.blk b (.cells ((backup_blobReader.C (⟨t6.2, t6.1⟩ : backup_blobReader) v11 ++ q)).toArray T (0, 0)), .blk b4 (.cells (Backup.C (⟨t55.1, (0 : Int), (0 : Int), (0 : Int), (0 : Int), t177.1, t185.1, ([] : (List Key))⟩ : Backup) (.slice none 0 0)).toArray 36 (0, 0)), .blk b53 (.cells (backup_reader.C t199.2 v204).toArray 80 (0, 0))] rfl ?_
  refine w_nil (hK192 _ _ _ ?_)
  refine c_sr fun _ hK206 => ?_
  refine v_move rfl rfl ?_
  refine v_move rfl rfl ?_
  refine wv rfl (fun a w hf hs => r_nilCheck (hf.ev rfl)) ?_
  refine v_fa fa80_1 rfl rfl ?_
  refine wv rfl (fun a w hf hs => r_load1 ta24 (hf.ev rfl) (hs.blk (i := 2) rfl) rfl) ?_
  refine wv rfl (fun a w hf hs => r_nilCheck (hf.ev rfl)) ?_
  refine v_fa fa82_0 rfl rfl ?_
  refine v_fa fa80_1 rfl rfl ?_
  refine w_store (i := 0) (vs := [(.int .i64 t199.2.e)]) (A' := (backup_blobReader.C (⟨({ t6.2 with e := t199.2.e } : backup_reader), t6.1⟩ : backup_blobReader) v11 ++ q)) trivial rfl rfl rfl rfl ts24 rfl (one1 rfl) (Nat.le_of_ble_eq_true rfl) rfl ?_
  refine w_L [.blk b (.cells ((backup_blobReader.C (⟨({ t6.2 with e := t199.2.e } : backup_reader), t6.1⟩ : backup_blobReader) v11 ++ q)).toArray T (0, 0)), .blk b4 (.cells (Backup.C (⟨t55.1, (0 : Int), (0 : Int), (0 : Int), (0 : Int), t177.1, t185.1, ([] : (List Key))⟩ : Backup) (.slice none 0 0)).toArray 36 (0, 0)), .blk b53 (.cells (backup_reader.C t199.2 v204).toArray 80 (0, 0))] rfl ?_
  refine w_nil (hK206 _ _ _ ?_)
  refine c_sr fun _ hK207 => ?_
  refine wv rfl (fun a w hf hs => r_loadA ta36 ts36 (hf.ev rfl) (hs.blk (i := 1) rfl) (Backup.d0_38 _ _) (Backup.len _ _)) ?_
  obtain ⟨z208, e210, H⟩ := bnd H
  have e209 := some_r e210
  refine w_store (i := 1) (vs := Backup.C (⟨t55.1, (0 : Int), (0 : Int), (0 : Int), (0 : Int), t177.1, t185.1, ([] : (List Key))⟩ : Backup) (.slice none 0 0)) (A' := Backup.C z208 (.slice none 0 0)) trivial rfl rfl rfl rfl ts36 (Backup.len _ _) (Backup.C_one _ rfl) (by rw [Backup.len]; decide) (by rw [← e209]; exact (splice_all _ _ (by simp [Backup.C]))) ?_
  have h211 : RS Key.F M201 (.slice none 0 0) z208.Keys := by rw [← e209]; exact RS.none
  clear e210 e209
  refine w_L [.blk b (.cells ((backup_blobReader.C (⟨({ t6.2 with e := t199.2.e } : backup_reader), t6.1⟩ : backup_blobReader) v11 ++ q)).toArray T (0, 0)), .blk b4 (.cells (Backup.C z208 (.slice none 0 0)).toArray 36 (0, 0)), .blk b53 (.cells (backup_reader.C t199.2 v204).toArray 80 (0, 0))] rfl ?_
  refine w_nil (hK207 _ _ _ ?_)
  obtain rfl := some_r H
  exact c_ret fun a w' hf hs => hret _ (.inl rfl) a w' hf.df ⟨_, _, _, Res.of1 rfl ⟨_, hf.get _ _ rfl, run_loadA (hs.blk (i := 1) rfl) ta36 ts36 (Backup.d0_38 _ _) (Backup.len _ _)⟩, hs.sel [0] (by decide) rfl, ⟨_, rfl, h12, (by first | rfl | exact rs_nil (by assumption)), rfl⟩⟩
theorem seal_Open.calls {M : Heap} {w : World} (hM : Sub M w) (hG : Gl M) (p0 : (List UInt8)) (p1 : (List UInt8)) (p2 : (List UInt8)) (r : ((List UInt8) × Int)) (H : seal_Open p0 p1 p2 = some r) :
  Calls Tryd.prog 17 [(str p0), (str p1), (str p2)].toArray w (Post M w fun M' v => v = .tuple #[(str r.1), (.int .i64 r.2)]) := by
 refine enter 73 [(0, (str p0)), (1, (str p1)), (2, (str p2))] Tryd.func17 rfl rfl rfl hM ?_
 intro Q hret
 unfold seal_Open at H
 refine c_sr fun _ hK1 => ?_
 refine v_assign rfl rfl ?_
 refine v_assign rfl rfl ?_
 refine w_nil (hK1 _ _ _ ?_)
 refine c_sr fun _ hK2 => ?_
 refine v_move rfl rfl ?_
 obtain ⟨t3, e8, H⟩ := bnd H
 refine w_call cf13 trivial rfl rfl (fun w hs => seal_Keys.calls hs hG p0 _ e8) ?_
 rintro _ M5 l6 rfl
 replace hG := hG.mono l6
 refine v_move rfl rfl ?_
 refine v_extract rfl rfl rfl ?_
 refine v_extract rfl rfl rfl ?_
 refine v_extract rfl rfl rfl ?_
 refine v_assign rfl rfl ?_
 refine v_assign rfl rfl ?_
 refine v_assign rfl rfl ?_
 refine w_nil (hK2 _ _ _ ?_)
 refine c_seq fun K9 hK9 => ?_
 refine c_block ?_
 refine c_sr fun _ hK10 => ?_
 refine v_move rfl rfl ?_
 refine wv rfl (fun a w hf hs => r_neq (hf.ev rfl) (hf.ev rfl)) ?_
 refine v_assign rfl rfl ?_
 refine w_nil (hK10 _ _ _ ?_)
 refine c_if rfl (fun b11 => ?_) (fun b11 => ?_)
 ·replace H := if_t b11 H
  refine c_sr fun _ hK12 => ?_
  refine v_move rfl rfl ?_
  refine v_assign rfl rfl ?_
  refine v_assign rfl rfl ?_
  refine w_nil (hK12 _ _ _ ?_)
  obtain rfl := some_r H
  exact c_ret fun a w' hf hs => hret _ (.inl rfl) a w' hf.df ⟨_, _, Res.of2 rfl (RV.t hf rfl) (RV.t hf rfl), hs.ext, rfl⟩
 ·replace H := if_f b11 H
  obtain ⟨t13, H1, H⟩ := bnd H
  refine c_cut (fun a' w' => ∃ (M14 : Heap), HLe M5 M14 ∧ Fr 73 [(1, (str p1)), (2, (str p2)), (8, (str t3.1)), (9, (str t3.2.1)), (24, (.bool t13))] a' ∧ St none' M w M14 (lt []) w') ?_ ?_
  ·replace H := H1
   clear H1
   refine c_reg ?_
   refine v_move rfl rfl ?_
   refine wv rfl (fun a w hf hs => r_slen Tryd.underlying9 (hf.ev rfl)) ?_
   refine wv rfl (fun a w hf hs => r_gtr (hf.ev rfl) (hf.ev rfl)) ?_
   refine v_move rfl rfl ?_
   by_cases b16 : (decide ((1048576 : Int) < (p1.length : Int))) = true
   ·replace H := if_t b16 H
    refine w_not (Nwt.of rfl rfl b16) rfl ?_
    refine w_not (Nwt.of rfl rfl b16) rfl ?_
    refine w_not (Nwt.of rfl rfl b16) rfl ?_
    refine wv rfl (fun a w hf hs => r_pickT (hf.ev rfl) b16 (hf.ev rfl)) ?_
    refine v_assign rfl rfl ?_
    obtain rfl := some_r H
    exact w_nil fun a w' hf hs => ⟨_, (HLe.refl _), (((((hf.nil.add (hf.get _ _ rfl)).add (hf.get _ _ rfl)).add (hf.get _ _ rfl)).add (hf.get _ _ rfl)).add (hf.get _ _ rfl)), hs.sel [] (by decide) rfl⟩
   ·replace b16 := Bool.eq_false_iff.2 b16
    replace H := if_f b16 H
    refine w_val (Wnt.of rfl rfl b16) rfl (fun a w hf hs => r_move (hf.ev rfl)) ?_
    refine w_val (Wnt.of rfl rfl b16) rfl (fun a w hf hs => r_slen Tryd.underlying9 (hf.ev rfl)) ?_
    refine w_val (Wnt.of rfl rfl b16) rfl (fun a w hf hs => r_gtr (hf.ev rfl) (hf.ev rfl)) ?_
    refine wv rfl (fun a w hf hs => r_pickF (hf.ev rfl) b16 (hf.ev rfl)) ?_
    refine v_assign rfl rfl ?_
    obtain rfl := some_r H
    exact w_nil fun a w' hf hs => ⟨_, (HLe.refl _), (((((hf.nil.add (hf.get _ _ rfl)).add (hf.get _ _ rfl)).add (hf.get _ _ rfl)).add (hf.get _ _ rfl)).add (hf.get _ _ rfl)), hs.sel [] (by decide) rfl⟩
  ·clear H1
   rintro a w' ⟨M14, l15, hf, hs⟩
   refine c_of (c := (Cx.mk Tryd.prog 73 none' M w)) ?_ hf hs
   clear hf hs
   replace hG := hG.mono l15
   refine c_if rfl (fun b17 => ?_) (fun b17 => ?_)
   ·replace H := if_t b17 H
    refine c_sr fun _ hK18 => ?_
    refine v_assign rfl rfl ?_
    refine v_assign rfl rfl ?_
    refine w_nil (hK18 _ _ _ ?_)
    obtain rfl := some_r H
    exact c_ret fun a w' hf hs => hret _ (.inl rfl) a w' hf.df ⟨_, _, Res.of2 rfl (RV.t hf rfl) (RV.t hf rfl), hs.ext, rfl⟩
   ·replace H := if_f b17 H
    refine c_sr fun _ hK19 => ?_
    refine v_move rfl rfl ?_
    refine wv rfl (fun a w hf hs => r_slen Tryd.underlying9 (hf.ev rfl)) ?_
    refine v_lss rfl rfl rfl ?_
    refine v_assign rfl rfl ?_
    refine w_nil (hK19 _ _ _ ?_)
    refine c_if rfl (fun b20 => ?_) (fun b20 => ?_)
    ·replace H := if_t b20 H
     refine c_sr fun _ hK21 => ?_
     refine v_assign rfl rfl ?_
     refine v_assign rfl rfl ?_
     refine w_nil (hK21 _ _ _ ?_)
     obtain rfl := some_r H
     exact c_ret fun a w' hf hs => hret _ (.inl rfl) a w' hf.df ⟨_, _, Res.of2 rfl (RV.t hf rfl) (RV.t hf rfl), hs.ext, rfl⟩
    ·replace H := if_f b20 H
     refine c_skip (hK9 _ _ _ ?_)
     refine c_sr fun _ hK22 => ?_
     refine v_move rfl rfl ?_
     obtain ⟨t23, e28, H⟩ := bnd H
     refine w_call cf38 trivial rfl rfl (fun w hs => wire_Bytes.calls hs p1 _ e28) ?_
     rintro v132 M25 l26 ⟨v29, hv_, h30⟩
     replace hv_ := hv_.symm
     subst hv_
     replace hG := hG.mono l26
     refine wv rfl (fun a w hf hs => r_b2s Tryd.underlying66 Tryd.underlying5 Tryd.underlying9 h30 hs.sub (hf.ev rfl)) ?_
     refine v_move rfl rfl ?_
     refine wv rfl (fun a w hf hs => r_slen Tryd.underlying9 (hf.ev rfl)) ?_
     refine wv rfl (fun a w hf hs => r_sub (hf.ev rfl) (hf.ev rfl)) ?_
     refine v_assign rfl rfl ?_
     refine v_assign rfl rfl ?_
     refine w_nil (hK22 _ _ _ ?_)
     refine c_seq fun K31 hK31 => ?_
     obtain ⟨g37, H⟩ := grd_s H
     obtain ⟨g46, H⟩ := grd_s H
     refine c_drawP [([], [2]), ([(0, 43)], []), ([], [2]), ([], [11]), ([(2, 45), (3, 46)], []), ([(1, 44)], []), ([(4, 47)], [])] [fun v M => v = (str p2), fun v M => v = (str ((p2.take ((12 : Int)).toNat).drop ((0 : Int)).toNat)), fun v M => v = (str p2), fun v M => v = (.int .i64 (IntKind.i64.wrap ((p2.length : Int) - (16 : Int)))), fun v M => v = (str ((p2.take ((IntKind.i64.wrap ((p2.length : Int) - (16 : Int)))).toNat).drop ((12 : Int)).toNat)), fun v M => v = (str ((p2.take ((12 : Int)).toNat).drop ((0 : Int)).toNat)), fun v M => v = (str ((p2.take ((IntKind.i64.wrap ((p2.length : Int) - (16 : Int)))).toNat).drop ((12 : Int)).toNat))] (by kernel_rfl) (by kernel_rfl) ?_ (AllT.cons ?_ (AllT.cons ?_ (AllT.cons ?_ (AllT.cons ?_ (AllT.cons ?_ (AllT.cons ?_ (AllT.cons ?_ AllT.nil))))))) ?_
     ·exact (mC (mC (mC (mC (mC (mC (mC MonoA.nil)))))))
     ·intro a w' M32 l33 hd hs
      exact pv (hd.fr.add (hd.base 2 _ rfl rfl)) hs rfl (fun a w hf hs => r_move (hf.ev rfl)) rfl
     ·intro a w' M34 l35 hd hs
      have e36 := hd.val 0 43 _ rfl rfl
      refine OP.ofW (l := [(43, (str p2))]) (hd.fr.add e36) hs rfl ?_
      refine wv rfl (fun a w hf hs => r_sslice Tryd.underlying9 (hf.ev rfl) rfl ⟨_, (hf.ev rfl)⟩ g37.1 g37.2.1 g37.2.2) ?_
      exact w_nil fun a w' hf hs => ⟨rfl, hf.df, _, (HLe.refl _), hs, hf.get _ _ rfl⟩
     ·intro a w' M38 l39 hd hs
      exact pv (hd.fr.add (hd.base 2 _ rfl rfl)) hs rfl (fun a w hf hs => r_move (hf.ev rfl)) rfl
     ·intro a w' M40 l41 hd hs
      exact pv (hd.fr.add (hd.base 11 _ rfl rfl)) hs rfl (fun a w hf hs => r_move (hf.ev rfl)) rfl
     ·intro a w' M42 l43 hd hs
      have e44 := hd.val 2 45 _ rfl rfl
      have e45 := hd.val 3 46 _ rfl rfl
      refine OP.ofW (l := [(45, (str p2)), (46, (.int .i64 (IntKind.i64.wrap ((p2.length : Int) - (16 : Int)))))]) ((hd.fr.add e45).add e44) hs rfl ?_
      refine wv rfl (fun a w hf hs => r_sslice Tryd.underlying9 (hf.ev rfl) ⟨_, (hf.ev rfl)⟩ ⟨_, (hf.ev rfl)⟩ g46.1 g46.2.1 g46.2.2) ?_
      exact w_nil fun a w' hf hs => ⟨rfl, hf.df, _, (HLe.refl _), hs, hf.get _ _ rfl⟩
     ·intro a w' M47 l48 hd hs
      have e49 := hd.val 1 44 _ rfl rfl
      exact pv (hd.fr.add e49) hs rfl (fun a w hf hs => r_assign (hf.ev rfl)) rfl
     ·intro a w' M50 l51 hd hs
      have e52 := hd.val 4 47 _ rfl rfl
      exact pv (hd.fr.add e52) hs rfl (fun a w hf hs => r_assign (hf.ev rfl)) rfl
     intro a w' M53 l54 hdf hsz hb hv hs
     replace hG := hG.mono l54
     have e55 := hv 5 12 _ rfl rfl
     have e56 := hv 6 13 _ rfl rfl
     refine n_of (c := (Cx.mk Tryd.prog 73 none' M w)) (l := [(2, (str p2)), (8, (str t3.1)), (9, (str t3.2.1)), (10, (str (intsB t23))), (11, (.int .i64 (IntKind.i64.wrap ((p2.length : Int) - (16 : Int))))), (12, (str ((p2.take ((12 : Int)).toNat).drop ((0 : Int)).toNat))), (13, (str ((p2.take ((IntKind.i64.wrap ((p2.length : Int) - (16 : Int)))).toNat).drop ((12 : Int)).toNat)))]) ?_ ((((((((Fr.start hdf hsz).add e56).add e55).add (hb 11 _ rfl rfl)).add (hb 10 _ rfl rfl)).add (hb 9 _ rfl rfl)).add (hb 8 _ rfl rfl)).add (hb 2 _ rfl rfl)) hs
     clear hdf hsz hb hv hs e55 e56
     refine n_id (hK31 _ _ _ ?_)
     refine c_seq fun K57 hK57 => ?_
     refine c_seq fun K58 hK58 => ?_
     obtain ⟨t85, e90, H⟩ := bnd H
     obtain ⟨g99, H⟩ := grd_s H
     refine c_drawP [([], [9]), ([], [12]), ([], [10]), ([], [13]), ([(1, 49), (2, 50), (3, 51)], []), ([(0, 48), (4, 52)], []), ([], [2]), ([], [11]), ([(6, 54), (7, 55)], []), ([(5, 53), (8, 56)], [])] [fun v M => v = (str t3.2.1), fun v M => v = (str ((p2.take ((12 : Int)).toNat).drop ((0 : Int)).toNat)), fun v M => v = (str (intsB t23)), fun v M => v = (str ((p2.take ((IntKind.i64.wrap ((p2.length : Int) - (16 : Int)))).toNat).drop ((12 : Int)).toNat)), fun v M => ∃ (v72 : Value), v = v72 ∧ RS FS M v72 ([([116, 97, 103] : List UInt8), ((p2.take ((12 : Int)).toNat).drop ((0 : Int)).toNat), (intsB t23), ((p2.take ((IntKind.i64.wrap ((p2.length : Int) - (16 : Int)))).toNat).drop ((12 : Int)).toNat)] : List (List UInt8)) ∧ ∃ A, v72 = .slice A ([([116, 97, 103] : List UInt8), ((p2.take ((12 : Int)).toNat).drop ((0 : Int)).toNat), (intsB t23), ((p2.take ((IntKind.i64.wrap ((p2.length : Int) - (16 : Int)))).toNat).drop ((12 : Int)).toNat)] : List (List UInt8)).length ([([116, 97, 103] : List UInt8), ((p2.take ((12 : Int)).toNat).drop ((0 : Int)).toNat), (intsB t23), ((p2.take ((IntKind.i64.wrap ((p2.length : Int) - (16 : Int)))).toNat).drop ((12 : Int)).toNat)] : List (List UInt8)).length, fun v M => v = (str t85), fun v M => v = (str p2), fun v M => v = (.int .i64 (IntKind.i64.wrap ((p2.length : Int) - (16 : Int)))), fun v M => v = (str ((p2.take ((p2.length : Int)).toNat).drop ((IntKind.i64.wrap ((p2.length : Int) - (16 : Int)))).toNat)), fun v M => v = (.bool (!(t85 == ((p2.take ((p2.length : Int)).toNat).drop ((IntKind.i64.wrap ((p2.length : Int) - (16 : Int)))).toNat))))] (by kernel_rfl) (by kernel_rfl) ?_ (AllT.cons ?_ (AllT.cons ?_ (AllT.cons ?_ (AllT.cons ?_ (AllT.cons ?_ (AllT.cons ?_ (AllT.cons ?_ (AllT.cons ?_ (AllT.cons ?_ (AllT.cons ?_ AllT.nil)))))))))) ?_
     ·exact (mC (mC (mC (mC (MonoA.cons (fun _ _ _ hM h => by obtain ⟨v72, e_, q0, q1⟩ := h; exact ⟨v72, e_, q0.mono hM, q1⟩) (mC (mC (mC (mC (mC MonoA.nil))))))))))
     ·intro a w' M59 l60 hd hs
      exact pv (hd.fr.add (hd.base 9 _ rfl rfl)) hs rfl (fun a w hf hs => r_move (hf.ev rfl)) rfl
     ·intro a w' M61 l62 hd hs
      exact pv (hd.fr.add (hd.base 12 _ rfl rfl)) hs rfl (fun a w hf hs => r_move (hf.ev rfl)) rfl
     ·intro a w' M63 l64 hd hs
      exact pv (hd.fr.add (hd.base 10 _ rfl rfl)) hs rfl (fun a w hf hs => r_move (hf.ev rfl)) rfl
     ·intro a w' M65 l66 hd hs
      exact pv (hd.fr.add (hd.base 13 _ rfl rfl)) hs rfl (fun a w hf hs => r_move (hf.ev rfl)) rfl
     ·intro a w' M67 l68 hd hs
      have e69 := hd.val 1 49 _ rfl rfl
      have e70 := hd.val 2 50 _ rfl rfl
      have e71 := hd.val 3 51 _ rfl rfl
      refine OP.ofW (l := [(49, (str ((p2.take ((12 : Int)).toNat).drop ((0 : Int)).toNat))), (50, (str (intsB t23))), (51, (str ((p2.take ((IntKind.i64.wrap ((p2.length : Int) - (16 : Int)))).toNat).drop ((12 : Int)).toNat)))]) (((hd.fr.add e71).add e70).add e69) hs rfl ?_
      refine w_bsl (F := FS) (es := ([([116, 97, 103] : List UInt8), ((p2.take ((12 : Int)).toNat).drop ((0 : Int)).toNat), (intsB t23), ((p2.take ((IntKind.i64.wrap ((p2.length : Int) - (16 : Int)))).toNat).drop ((12 : Int)).toNat)] : List (List UInt8))) (xs := [.const (str ([116, 97, 103] : List UInt8)), .tmp 49, .tmp 50, .tmp 51]) (vs := [(str ([116, 97, 103] : List UInt8)), (str ((p2.take ((12 : Int)).toNat).drop ((0 : Int)).toNat)), (str (intsB t23)), (str ((p2.take ((IntKind.i64.wrap ((p2.length : Int) - (16 : Int)))).toNat).drop ((12 : Int)).toNat))]) Tryd.underlying63 te9 trivial rfl rfl rfl rfl rfl (by decide) ?_
      intro v72 M73 l74 h75 c76
      exact w_nil fun a w' hf hs => ⟨rfl, hf.df, _, l74, hs, ⟨v72, hf.get _ _ rfl, h75, c76⟩⟩
     ·intro a w' M77 l78 hd hs
      have e79 := hd.val 0 48 _ rfl rfl
      obtain ⟨v80, e84, h81, h83⟩ := hd.val 4 52 _ rfl rfl
      replace hG := hG.mono l78
      refine OP.ofW (l := [(48, (str t3.2.1)), (52, v80)]) ((hd.fr.add e84).add e79) hs rfl ?_
      refine w_call cf39 trivial rfl rfl (fun w hs => seal_code.calls hs hG t3.2.1 (16 : Int) ([([116, 97, 103] : List UInt8), ((p2.take ((12 : Int)).toNat).drop ((0 : Int)).toNat), (intsB t23), ((p2.take ((IntKind.i64.wrap ((p2.length : Int) - (16 : Int)))).toNat).drop ((12 : Int)).toNat)] : List (List UInt8)) v80 h81 _ e90) ?_
      rintro _ M87 l88 rfl
      exact w_nil fun a w' hf hs => ⟨rfl, hf.df, _, l88, hs, hf.get _ _ rfl⟩
     ·intro a w' M91 l92 hd hs
      exact pv (hd.fr.add (hd.base 2 _ rfl rfl)) hs rfl (fun a w hf hs => r_move (hf.ev rfl)) rfl
     ·intro a w' M93 l94 hd hs
      exact pv (hd.fr.add (hd.base 11 _ rfl rfl)) hs rfl (fun a w hf hs => r_move (hf.ev rfl)) rfl
     ·intro a w' M95 l96 hd hs
      have e97 := hd.val 6 54 _ rfl rfl
      have e98 := hd.val 7 55 _ rfl rfl
      refine OP.ofW (l := [(54, (str p2)), (55, (.int .i64 (IntKind.i64.wrap ((p2.length : Int) - (16 : Int)))))]) ((hd.fr.add e98).add e97) hs rfl ?_
      refine wv rfl (fun a w hf hs => r_sslice Tryd.underlying9 (hf.ev rfl) ⟨_, (hf.ev rfl)⟩ rfl g99.1 g99.2.1 g99.2.2) ?_
      exact w_nil fun a w' hf hs => ⟨rfl, hf.df, _, (HLe.refl _), hs, hf.get _ _ rfl⟩
     ·intro a w' M100 l101 hd hs
      have e102 := hd.val 5 53 _ rfl rfl
      have e103 := hd.val 8 56 _ rfl rfl
      refine OP.ofW (l := [(53, (str t85)), (56, (str ((p2.take ((p2.length : Int)).toNat).drop ((IntKind.i64.wrap ((p2.length : Int) - (16 : Int)))).toNat)))]) ((hd.fr.add e103).add e102) hs rfl ?_
      refine wv rfl (fun a w hf hs => r_sneq (hf.ev rfl) (hf.ev rfl)) ?_
      exact w_nil fun a w' hf hs => ⟨rfl, hf.df, _, (HLe.refl _), hs, hf.get _ _ rfl⟩
     intro a w' M104 l105 hdf hsz hb hv hs
     replace hG := hG.mono l105
     have e106 := hv 9 57 _ rfl rfl
     refine n_of (c := (Cx.mk Tryd.prog 73 none' M w)) (l := [(8, (str t3.1)), (9, (str t3.2.1)), (10, (str (intsB t23))), (12, (str ((p2.take ((12 : Int)).toNat).drop ((0 : Int)).toNat))), (13, (str ((p2.take ((IntKind.i64.wrap ((p2.length : Int) - (16 : Int)))).toNat).drop ((12 : Int)).toNat))), (57, (.bool (!(t85 == ((p2.take ((p2.length : Int)).toNat).drop ((IntKind.i64.wrap ((p2.length : Int) - (16 : Int)))).toNat)))))]) ?_ (((((((Fr.start hdf hsz).add e106).add (hb 13 _ rfl rfl)).add (hb 12 _ rfl rfl)).add (hb 10 _ rfl rfl)).add (hb 9 _ rfl rfl)).add (hb 8 _ rfl rfl)) hs
     clear hdf hsz hb hv hs e106
     refine n_id (hK58 _ _ _ ?_)
     refine c_if rfl (fun b107 => ?_) (fun b107 => ?_)
     ·replace H := if_t b107 H
      refine c_sr fun _ hK108 => ?_
      refine v_assign rfl rfl ?_
      refine v_assign rfl rfl ?_
      refine w_nil (hK108 _ _ _ ?_)
      obtain rfl := some_r H
      exact c_ret fun a w' hf hs => hret _ (.inl rfl) a w' hf.df ⟨_, _, Res.of2 rfl (RV.t hf rfl) (RV.t hf rfl), hs.ext, rfl⟩
     ·replace H := if_f b107 H
      refine c_skip (hK57 _ _ _ ?_)
      refine c_sr fun _ hK109 => ?_
      refine v_move rfl rfl ?_
      refine v_move rfl rfl ?_
      refine v_move rfl rfl ?_
      obtain ⟨t110, e115, H⟩ := bnd H
      refine w_call cf40 trivial rfl rfl (fun w hs => cipher_Xor.calls hs t3.1 (1 : Int) ((p2.take ((12 : Int)).toNat).drop ((0 : Int)).toNat) ((p2.take ((IntKind.i64.wrap ((p2.length : Int) - (16 : Int)))).toNat).drop ((12 : Int)).toNat) _ e115) ?_
      rintro _ M112 l113 rfl
      replace hG := hG.mono l113
      refine v_move rfl rfl ?_
      refine v_extract rfl rfl rfl ?_
      refine v_extract rfl rfl rfl ?_
      refine v_assign rfl rfl ?_
      refine w_nil (hK109 _ _ _ ?_)
      refine c_seq fun K116 hK116 => ?_
      refine c_sr fun _ hK117 => ?_
      refine v_move rfl rfl ?_
      refine v_move rfl rfl ?_
      refine v_move rfl rfl ?_
      refine w_bsl (F := FS) (es := ([([110, 111, 110, 99, 101] : List UInt8), (intsB t23), t110.1] : List (List UInt8))) (xs := [.const (str ([110, 111, 110, 99, 101] : List UInt8)), .tmp 66, .tmp 67]) (vs := [(str ([110, 111, 110, 99, 101] : List UInt8)), (str (intsB t23)), (str t110.1)]) Tryd.underlying63 te9 trivial rfl rfl rfl rfl rfl (by decide) ?_
      intro v118 M119 l120 h121 c122
      replace hG := hG.mono l120
      obtain ⟨t123, e128, H⟩ := bnd H
      refine w_call cf39 trivial rfl rfl (fun w hs => seal_code.calls hs hG t3.2.1 (12 : Int) ([([110, 111, 110, 99, 101] : List UInt8), (intsB t23), t110.1] : List (List UInt8)) v118 h121 _ e128) ?_
      rintro _ M125 l126 rfl
      refine v_move rfl rfl ?_
      refine wv rfl (fun a w hf hs => r_sneq (hf.ev rfl) (hf.ev rfl)) ?_
      refine w_nil (hK117 _ _ _ ?_)
      refine c_if rfl (fun b129 => ?_) (fun b129 => ?_)
      ·replace H := if_t b129 H
       refine c_sr fun _ hK130 => ?_
       refine v_assign rfl rfl ?_
       refine v_assign rfl rfl ?_
       refine w_nil (hK130 _ _ _ ?_)
       obtain rfl := some_r H
       exact c_ret fun a w' hf hs => hret _ (.inl rfl) a w' hf.df ⟨_, _, Res.of2 rfl (RV.t hf rfl) (RV.t hf rfl), hs.ext, rfl⟩
      ·replace H := if_f b129 H
       refine c_skip (hK116 _ _ _ ?_)
       refine c_sr fun _ hK131 => ?_
       refine v_move rfl rfl ?_
       refine v_assign rfl rfl ?_
       refine v_assign rfl rfl ?_
       refine w_nil (hK131 _ _ _ ?_)
       obtain rfl := some_r H
       exact c_ret fun a w' hf hs => hret _ (.inl rfl) a w' hf.df ⟨_, _, Res.of2 rfl (RV.t hf rfl) (RV.t hf rfl), hs.ext, rfl⟩
theorem wire_GetStrings.calls {M : Heap} {w : World} (hM : Sub M w) (p0 : (List Int)) (v1 : Value) (h2 : RS (FI .u8) M v1 p0) (r : ((List (List UInt8)) × Int × Int)) (H : wire_GetStrings p0 = some r) :
  Calls Tryd.prog 53 [v1].toArray w (Post M w fun M' v => ∃ v57, v = .tuple #[v57, (.int .i64 r.2.1), (.int .i64 r.2.2)] ∧ RS FS M' v57 r.1) := by
 refine enter 45 [(0, v1)] Tryd.func53 rfl rfl rfl hM ?_
 intro Q hret
 unfold wire_GetStrings at H
 refine c_sr fun _ hK3 => ?_
 refine v_assign rfl rfl ?_
 refine v_assign rfl rfl ?_
 refine v_assign rfl rfl ?_
 refine w_nil (hK3 _ _ _ ?_)
 refine c_sr fun _ hK4 => ?_
 refine v_move rfl rfl ?_
 obtain ⟨t5, e10, H⟩ := bnd H
 refine w_call cf105 trivial rfl rfl (fun w hs => wire_count.calls hs p0 v1 h2 (1 : Int) _ e10) ?_
 rintro _ M7 l8 rfl
 replace h2 := h2.mono l8
 refine v_move rfl rfl ?_
 refine v_extract rfl rfl rfl ?_
 refine v_extract rfl rfl rfl ?_
 refine v_extract rfl rfl rfl ?_
 refine v_assign rfl rfl ?_
 refine v_assign rfl rfl ?_
 refine v_assign rfl rfl ?_
 refine w_nil (hK4 _ _ _ ?_)
 refine c_seq fun K11 hK11 => ?_
 refine c_sr fun _ hK12 => ?_
 refine v_move rfl rfl ?_
 refine wv rfl (fun a w hf hs => r_neq (hf.ev rfl) (hf.ev rfl)) ?_
 refine w_nil (hK12 _ _ _ ?_)
 refine c_if rfl (fun b13 => ?_) (fun b13 => ?_)
 ·replace H := if_t b13 H
  refine c_sr fun _ hK14 => ?_
  refine v_move rfl rfl ?_
  refine v_assign rfl rfl ?_
  refine v_assign rfl rfl ?_
  refine v_assign rfl rfl ?_
  refine w_nil (hK14 _ _ _ ?_)
  obtain rfl := some_r H
  exact c_ret fun a w' hf hs => hret _ (.inl rfl) a w' hf.df ⟨_, _, Res.of3 rfl (RV.t hf rfl) (RV.t hf rfl) (RV.t hf rfl), hs.ext, ⟨_, rfl, RS.none⟩⟩
 ·replace H := if_f b13 H
  refine c_skip (hK11 _ _ _ ?_)
  refine c_sr fun _ hK15 => ?_
  refine v_assign rfl rfl ?_
  refine w_nil (hK15 _ _ _ ?_)
  refine c_row0 9 1 ?_
  refine c_cut (fun a' w' => ∃ (x16 : (List (List UInt8))) (v17 : Value) (x18 : Int) (M19 : Heap), HLe M7 M19 ∧ Fr 45 [(6, (.int .i64 x18)), (8, v17)] a' ∧ St none' M w M19 (lt [rowI FS v17 9 x16]) w' ∧ wire_GetStrings.j1 x16 x18 = some r) ?_ ?_
  ·refine c_seq ?_
   intro K25 hK25
   refine c_reg ?_
   refine v_move rfl rfl ?_
   refine v_move rfl rfl ?_
   refine w_nil (hK25 _ _ _ ?_)
   refine c_block ?_
   refine c_loop (fun (s26 : ((List (List UInt8)) × Int × Int)) a' w' => ∃ (v27 : Value) (M28 : Heap), HLe M7 M28 ∧ Fr 45 [(0, v1), (6, (.int .i64 s26.2.1)), (8, v27), (21, (.int .i64 t5.1)), (22, (.int .i64 s26.2.2))] a' ∧ St none' M w M28 (lt [rowI FS v27 9 s26.1]) w') (([] : (List (List UInt8))), t5.2.1, (0 : Int)) H ?_ ?_
   ·intro a w' hf hs
    exact ⟨(.slice none 0 0), _, HLe.refl _, (((((hf.nil.add (hf.get _ _ rfl)).add (hf.get _ _ rfl)).add (hf.get _ _ rfl)).add (hf.get _ _ rfl)).add (hf.get _ _ rfl)), hs.selD [some 0] (by decide) rfl⟩
   ·clear H
    intro s26 y31 H r30 a w' hJ
    obtain ⟨v27, M28, l29, hf, hs⟩ := hJ
    refine c_of (c := (Cx.mk Tryd.prog 45 none' M w)) ?_ hf hs
    unfold wire_GetStrings.l2 at H
    clear hf hs
    replace h2 := h2.mono l29
    refine c_sr fun _ hK32 => ?_
    refine v_lss rfl rfl rfl ?_
    refine w_nil (hK32 _ _ _ ?_)
    refine c_seq fun K33 hK33 => ?_
    refine c_if rfl (fun b34 => ?_) (fun b34 => ?_)
    ·replace H := if_t b34 H
     refine c_skip (hK33 _ _ _ ?_)
     refine c_seq fun K35 hK35 => ?_
     refine c_block ?_
     refine c_sr fun _ hK36 => ?_
     refine v_move rfl rfl ?_
     refine v_move rfl rfl ?_
     obtain ⟨g39, H⟩ := grd_s H
     refine w_ex (Φ := fun v => RS (FI .u8) M28 v ((p0.take ((p0.length : Int)).toNat).drop (s26.2.1).toNat)) trivial rfl (fun a w hf hs => r_slR Tryd.underlying66 ts5 (hf.ev rfl) h2 ⟨_, hf.ev rfl⟩ rfl g39.1 g39.2.1 g39.2.2) ?_
     intro v37 h38
     obtain ⟨t40, e45, H⟩ := bnd H
     refine w_call cf98 trivial rfl rfl (fun w hs => wire_GetBytes.calls hs ((p0.take ((p0.length : Int)).toNat).drop (s26.2.1).toNat) v37 h38 _ e45) ?_
     rintro _ M42 l43 rfl
     refine v_move rfl rfl ?_
     refine v_extract rfl rfl rfl ?_
     refine v_extract rfl rfl rfl ?_
     refine v_extract rfl rfl rfl ?_
     refine v_assign rfl rfl ?_
     refine v_assign rfl rfl ?_
     refine v_assign rfl rfl ?_
     refine w_nil (hK36 _ _ _ ?_)
     refine c_seq fun K46 hK46 => ?_
     refine c_sr fun _ hK47 => ?_
     refine v_move rfl rfl ?_
     refine wv rfl (fun a w hf hs => r_neq (hf.ev rfl) (hf.ev rfl)) ?_
     refine w_nil (hK47 _ _ _ ?_)
     refine c_if rfl (fun b48 => ?_) (fun b48 => ?_)
     ·replace H := if_t b48 H
      refine c_sr fun _ hK49 => ?_
      refine v_move rfl rfl ?_
      refine v_assign rfl rfl ?_
      refine v_assign rfl rfl ?_
      refine v_assign rfl rfl ?_
      refine w_nil (hK49 _ _ _ ?_)
      obtain rfl := (r30 _ (Option.some.inj H).symm)
      exact c_ret fun a w' hf hs => hret _ (.inl rfl) a w' hf.df ⟨_, _, Res.of3 rfl (RV.t hf rfl) (RV.t hf rfl) (RV.t hf rfl), hs.ext, ⟨_, rfl, RS.none⟩⟩
     ·replace H := if_f b48 H
      refine c_skip (hK46 _ _ _ ?_)
      refine c_reg ?_
      refine v_move rfl rfl ?_
      refine v_move rfl rfl ?_
      refine w_bsl (F := FS) (es := ([t40.1] : List (List UInt8))) (xs := [.tmp 36]) (vs := [(str t40.1)]) Tryd.underlying63 te9 trivial rfl rfl rfl rfl rfl (by decide) ?_
      intro v50 M51 l52 h53 c54
      obtain ⟨g55, H⟩ := grd_s H
      refine w_app (F := FS) (m2 := ([t40.1] : List (List UInt8))) (i := 0) Tryd.underlying63 te9 Tryd.underlying63 (.inl ⟨_, rfl⟩) trivial rfl rfl rfl rfl (Src.rs FS.one h53) g55 ?_
      intro v56
      refine v_move rfl rfl ?_
      refine v_move rfl rfl ?_
      refine v_add rfl rfl rfl ?_
      refine v_assign rfl rfl ?_
      refine v_assign rfl rfl ?_
      refine w_nil (hK35 _ _ _ ?_)
      refine c_reg ?_
      refine v_add rfl rfl rfl ?_
      refine v_move rfl rfl ?_
      exact w_nil fun a w' hf hs => ⟨_, (some_r H).symm, v56, _, l29.trans (l43.trans l52), (((((hf.nil.add (hf.get _ _ rfl)).add (hf.get _ _ rfl)).add (hf.get _ _ rfl)).add (hf.get _ _ rfl)).add (hf.get _ _ rfl)), hs.selD [some 0] (by decide) rfl⟩
    ·replace H := if_f b34 H
     replace H := map_inr H r30
     refine c_exit ?_
     intro a w' hf hs
     exact ⟨s26.1, v27, s26.2.1, _, l29, ((hf.nil.add (hf.get _ _ rfl)).add (hf.get _ _ rfl)), hs.selD [some 0] (by decide) rfl, H⟩
  ·rintro a w' ⟨x16, v17, x18, M19, l20, hf, hs, H⟩
   refine c_of (c := (Cx.mk Tryd.prog 45 none' M w)) ?_ hf hs
   unfold wire_GetStrings.j1 at H
   clear hf hs
   refine c_sr fun _ hK21 => ?_
   refine v_move rfl rfl ?_
   refine v_move rfl rfl ?_
   refine v_assign rfl rfl ?_
   refine v_assign rfl rfl ?_
   refine v_assign rfl rfl ?_
   refine w_nil (hK21 _ _ _ ?_)
   obtain rfl := some_r H
   refine c_ret ?_
   refine n_give 0 rfl (fun _ h => h) ?_
   intro M22 l23 h24
   intro a w' hf hs
   exact hret _ (.inl rfl) a w' hf.df ⟨_, _, Res.of3 rfl (RV.t hf rfl) (RV.t hf rfl) (RV.t hf rfl), hs.ext, ⟨_, rfl, h24⟩⟩
theorem backup_read_LLstring.calls {M : Heap} {w : World} {b : Nat} {T : TypeId} {q : List Value} {x_ : backup_reader} {v1 : Value} (hs : St (fun k => k = b) M w M (lt [.blk b (.cells ((backup_reader.C x_ v1 ++ q)).toArray T (0, 0))]) w) (h2 : RS (FI .u8) M v1 x_.rest_) (r : ((List (List UInt8)) × backup_reader)) (H : backup_read_LLstring x_ = some r) :
  Calls Tryd.prog 104 [(ptr b 0), (.func (.func 53) #[] #[])].toArray w (PostI (fun k => k = b) M w fun M' x v => ∃ (v34 : Value) (v36 : Value), v = v34 ∧ RS FS M' v34 r.1 ∧ RS (FI .u8) M' v36 r.2.rest_ ∧ x = .blk b (.cells ((backup_reader.C r.2 v36 ++ q)).toArray T (0, 0))) := by
 refine enterI 41 [(0, (ptr b 0)), (1, (.func (.func 53) #[] #[]))] Tryd.func104 rfl rfl rfl hs ?_
 clear hs
 intro Q hret
 unfold backup_read_LLstring at H
 refine c_sr fun _ hK3 => ?_
 refine v_assign rfl rfl ?_
 refine w_nil (hK3 _ _ _ ?_)
 refine c_seq fun K4 hK4 => ?_
 refine c_sr fun _ hK5 => ?_
 refine v_move rfl rfl ?_
 refine wv rfl (fun a w hf hs => r_nilCheck (hf.ev rfl)) ?_
 refine v_fa fa80_1 rfl rfl ?_
 refine wv rfl (fun a w hf hs => r_load1 ta24 (hf.ev rfl) (hs.blk (i := 0) rfl) rfl) ?_
 refine wv rfl (fun a w hf hs => r_neq (hf.ev rfl) (hf.ev rfl)) ?_
 refine w_nil (hK5 _ _ _ ?_)
 refine c_if rfl (fun b6 => ?_) (fun b6 => ?_)
 ·replace H := if_t b6 H
  refine c_sr fun _ hK7 => ?_
  refine v_move rfl rfl ?_
  refine v_assign rfl rfl ?_
  refine w_nil (hK7 _ _ _ ?_)
  obtain rfl := some_r H
  exact c_ret fun a w' hf hs => hret _ (.inl rfl) a w' hf.df ⟨_, _, _, Res.of1 rfl (RV.t hf rfl), hs.sel [0] (by decide) rfl, ⟨_, _, rfl, RS.none, h2, rfl⟩⟩
 ·replace H := if_f b6 H
  refine c_skip (hK4 _ _ _ ?_)
  refine c_sr fun _ hK8 => ?_
  refine v_move rfl rfl ?_
  refine v_move rfl rfl ?_
  refine wv rfl (fun a w hf hs => r_nilCheck (hf.ev rfl)) ?_
  refine v_fa fa80_0 rfl rfl ?_
  refine wv rfl (fun a w hf hs => r_load1 ta66 (hf.ev rfl) (hs.blk (i := 0) rfl) rfl) ?_
  obtain ⟨t9, e14, H⟩ := bnd H
  refine w_callV trivial rfl rfl rfl (fun _ h => by cases h) (fun w hs => ⟨_, _, _, rfl, cf53, wire_GetStrings.calls hs x_.rest_ v1 h2 _ e14⟩) ?_
  rintro v33 M11 l12 ⟨v15, hv_, h16⟩
  replace hv_ := hv_.symm
  subst hv_
  replace h2 := h2.mono l12
  refine v_move rfl rfl ?_
  refine v_extract rfl rfl rfl ?_
  refine v_extract rfl rfl rfl ?_
  refine v_extract rfl rfl rfl ?_
  refine v_assign rfl rfl ?_
  refine v_assign rfl rfl ?_
  refine v_assign rfl rfl ?_
  refine w_nil (hK8 _ _ _ ?_)
  refine c_seq fun K17 hK17 => ?_
  refine c_sr fun _ hK18 => ?_
  refine v_move rfl rfl ?_
  refine v_move rfl rfl ?_
  refine wv rfl (fun a w hf hs => r_eql (hf.ev rfl) (hf.ev rfl)) ?_
  refine v_move rfl rfl ?_
  obtain ⟨t19, e20, H⟩ := bnd H
  refine w_callJ (b0 := b) 0 cf55 trivial rfl rfl rfl rfl (fun w hs => backup_reader_check.calls (b := b) (T := T) (q := (q)) (x_ := x_) hs h2 (t9.2.2 == (0 : Int)) t9.2.2 _ e20) ?_
  rintro v23 M21 _ l22 ⟨v24, hv_, h25, rfl⟩
  subst hv_
  replace h16 := h16.mono l22
  refine w_L [.blk b (.cells ((backup_reader.C t19.2 v24 ++ q)).toArray T (0, 0))] rfl ?_
  refine wv rfl (fun a w hf hs => r_not (hf.ev rfl)) ?_
  refine w_nil (hK18 _ _ _ ?_)
  refine c_if rfl (fun b26 => ?_) (fun b26 => ?_)
  ·replace H := if_t b26 H
   refine c_sr fun _ hK27 => ?_
   refine v_move rfl rfl ?_
   refine v_assign rfl rfl ?_
   refine w_nil (hK27 _ _ _ ?_)
   obtain rfl := some_r H
   exact c_ret fun a w' hf hs => hret _ (.inl rfl) a w' hf.df ⟨_, _, _, Res.of1 rfl (RV.t hf rfl), hs.sel [0] (by decide) rfl, ⟨_, _, rfl, RS.none, h25, rfl⟩⟩
  ·replace H := if_f b26 H
   refine c_skip (hK17 _ _ _ ?_)
   refine c_sr fun _ hK28 => ?_
   refine v_move rfl rfl ?_
   refine v_move rfl rfl ?_
   refine wv rfl (fun a w hf hs => r_nilCheck (hf.ev rfl)) ?_
   refine v_fa fa80_0 rfl rfl ?_
   refine wv rfl (fun a w hf hs => r_load1 ta66 (hf.ev rfl) (hs.blk (i := 0) rfl) rfl) ?_
   refine v_move rfl rfl ?_
   obtain ⟨g31, H⟩ := grd_s H
   refine w_ex (Φ := fun v => RS (FI .u8) M21 v ((t19.2.rest_.take ((t19.2.rest_.length : Int)).toNat).drop (t9.2.1).toNat)) trivial rfl (fun a w hf hs => r_slR Tryd.underlying66 ts5 (hf.ev rfl) h25 ⟨_, hf.ev rfl⟩ rfl g31.1 g31.2.1 g31.2.2) ?_
   intro v29 h30
   refine wv rfl (fun a w hf hs => r_nilCheck (hf.ev rfl)) ?_
   refine v_fa fa80_0 rfl rfl ?_
   refine w_store (i := 0) (vs := [v29]) (A' := (backup_reader.C ({ t19.2 with rest_ := ((t19.2.rest_.take ((t19.2.rest_.length : Int)).toNat).drop (t9.2.1).toNat) } : backup_reader) v29 ++ q)) trivial rfl rfl rfl h30.cells1 ts66 rfl (one1 h30.one) (Nat.le_of_ble_eq_true rfl) rfl ?_
   refine w_nil (hK28 _ _ _ ?_)
   refine c_sr fun _ hK32 => ?_
   refine v_move rfl rfl ?_
   refine v_assign rfl rfl ?_
   refine w_nil (hK32 _ _ _ ?_)
   obtain rfl := some_r H
   exact c_ret fun a w' hf hs => hret _ (.inl rfl) a w' hf.df ⟨_, _, _, Res.of1 rfl (RV.t hf rfl), hs.sel [0] (by decide) rfl, ⟨_, _, rfl, h16, h30, rfl⟩⟩
theorem backup_whole_LLstring.calls {M : Heap} {w : World} {b : Nat} {T : TypeId} {q : List Value} {x_ : backup_reader} {v1 : Value} (hs : St (fun k => k = b) M w M (lt [.blk b (.cells ((backup_reader.C x_ v1 ++ q)).toArray T (0, 0))]) w) (h2 : RS (FI .u8) M v1 x_.rest_) (r : ((List (List UInt8)) × backup_reader)) (H : backup_whole_LLstring x_ = some r) :
  Calls Tryd.prog 52 [(ptr b 0), (.func (.func 53) #[] #[])].toArray w (PostI (fun k => k = b) M w fun M' x v => ∃ (v23 : Value) (v25 : Value), v = v23 ∧ RS FS M' v23 r.1 ∧ RS (FI .u8) M' v25 r.2.rest_ ∧ x = .blk b (.cells ((backup_reader.C r.2 v25 ++ q)).toArray T (0, 0))) := by
 refine enterI 18 [(0, (ptr b 0)), (1, (.func (.func 53) #[] #[]))] Tryd.func52 rfl rfl rfl hs ?_
 clear hs
 intro Q hret
 unfold backup_whole_LLstring at H
 refine c_sr fun _ hK3 => ?_
 refine v_assign rfl rfl ?_
 refine w_nil (hK3 _ _ _ ?_)
 refine c_sr fun _ hK4 => ?_
 refine v_move rfl rfl ?_
 refine v_move rfl rfl ?_
 obtain ⟨t5, e6, H⟩ := bnd H
 refine w_callJ (b0 := b) 0 cf104 trivial rfl rfl rfl rfl (fun w hs => backup_read_LLstring.calls (b := b) (T := T) (q := (q)) (x_ := x_) hs h2 _ e6) ?_
 rintro v9 M7 _ l8 ⟨v10, v12, hv_, h11, h13, rfl⟩
 replace hv_ := hv_.symm
 subst hv_
 refine w_L [.blk b (.cells ((backup_reader.C t5.2 v12 ++ q)).toArray T (0, 0))] rfl ?_
 refine v_assign rfl rfl ?_
 refine w_nil (hK4 _ _ _ ?_)
 refine c_sr fun _ hK14 => ?_
 refine v_move rfl rfl ?_
 refine v_move rfl rfl ?_
 refine wv rfl (fun a w hf hs => r_nilCheck (hf.ev rfl)) ?_
 refine v_fa fa80_0 rfl rfl ?_
 refine wv rfl (fun a w hf hs => r_load1 ta66 (hf.ev rfl) (hs.blk (i := 0) rfl) rfl) ?_
 refine wv rfl (fun a w hf hs => r_lenR Tryd.underlying66 h13 (hf.ev rfl)) ?_
 refine wv rfl (fun a w hf hs => r_eql (hf.ev rfl) (hf.ev rfl)) ?_
 obtain ⟨t15, e16, H⟩ := bnd H
 refine w_callJ (b0 := b) 0 cf55 trivial rfl rfl rfl rfl (fun w hs => backup_reader_check.calls (b := b) (T := T) (q := (q)) (x_ := t5.2) hs h13 ((t5.2.rest_.length : Int) == (0 : Int)) (6 : Int) _ e16) ?_
 rintro v19 M17 _ l18 ⟨v20, hv_, h21, rfl⟩
 subst hv_
 replace h11 := h11.mono l18
 refine w_L [.blk b (.cells ((backup_reader.C t15.2 v20 ++ q)).toArray T (0, 0))] rfl ?_
 refine w_nil (hK14 _ _ _ ?_)
 refine c_sr fun _ hK22 => ?_
 refine v_move rfl rfl ?_
 refine v_assign rfl rfl ?_
 refine w_nil (hK22 _ _ _ ?_)
 obtain rfl := some_r H
 exact c_ret fun a w' hf hs => hret _ (.inl rfl) a w' hf.df ⟨_, _, _, Res.of1 rfl (RV.t hf rfl), hs.sel [0] (by decide) rfl, ⟨_, _, rfl, h11, h21, rfl⟩⟩
theorem backup_whole_LLint.calls {M : Heap} {w : World} {b : Nat} {T : TypeId} {q : List Value} {x_ : backup_reader} {v1 : Value} (hs : St (fun k => k = b) M w M (lt [.blk b (.cells ((backup_reader.C x_ v1 ++ q)).toArray T (0, 0))]) w) (h2 : RS (FI .u8) M v1 x_.rest_) (r : ((List Int) × backup_reader)) (H : backup_whole_LLint x_ = some r) :
  Calls Tryd.prog 106 [(ptr b 0), (.func (.func 102) #[] #[])].toArray w (PostI (fun k => k = b) M w fun M' x v => ∃ (v23 : Value) (v25 : Value), v = v23 ∧ RS (FI .i64) M' v23 r.1 ∧ RS (FI .u8) M' v25 r.2.rest_ ∧ x = .blk b (.cells ((backup_reader.C r.2 v25 ++ q)).toArray T (0, 0))) := by
 refine enterI 18 [(0, (ptr b 0)), (1, (.func (.func 102) #[] #[]))] Tryd.func106 rfl rfl rfl hs ?_
 clear hs
 intro Q hret
 unfold backup_whole_LLint at H
 refine c_sr fun _ hK3 => ?_
 refine v_assign rfl rfl ?_
 refine w_nil (hK3 _ _ _ ?_)
 refine c_sr fun _ hK4 => ?_
 refine v_move rfl rfl ?_
 refine v_move rfl rfl ?_
 obtain ⟨t5, e6, H⟩ := bnd H
 refine w_callJ (b0 := b) 0 cf101 trivial rfl rfl rfl rfl (fun w hs => backup_read_LLint.calls (b := b) (T := T) (q := (q)) (x_ := x_) hs h2 _ e6) ?_
 rintro v9 M7 _ l8 ⟨v10, v12, hv_, h11, h13, rfl⟩
 replace hv_ := hv_.symm
 subst hv_
 refine w_L [.blk b (.cells ((backup_reader.C t5.2 v12 ++ q)).toArray T (0, 0))] rfl ?_
 refine v_assign rfl rfl ?_
 refine w_nil (hK4 _ _ _ ?_)
 refine c_sr fun _ hK14 => ?_
 refine v_move rfl rfl ?_
 refine v_move rfl rfl ?_
 refine wv rfl (fun a w hf hs => r_nilCheck (hf.ev rfl)) ?_
 refine v_fa fa80_0 rfl rfl ?_
 refine wv rfl (fun a w hf hs => r_load1 ta66 (hf.ev rfl) (hs.blk (i := 0) rfl) rfl) ?_
 refine wv rfl (fun a w hf hs => r_lenR Tryd.underlying66 h13 (hf.ev rfl)) ?_
 refine wv rfl (fun a w hf hs => r_eql (hf.ev rfl) (hf.ev rfl)) ?_
 obtain ⟨t15, e16, H⟩ := bnd H
 refine w_callJ (b0 := b) 0 cf55 trivial rfl rfl rfl rfl (fun w hs => backup_reader_check.calls (b := b) (T := T) (q := (q)) (x_ := t5.2) hs h13 ((t5.2.rest_.length : Int) == (0 : Int)) (6 : Int) _ e16) ?_
 rintro v19 M17 _ l18 ⟨v20, hv_, h21, rfl⟩
 subst hv_
 replace h11 := h11.mono l18
 refine w_L [.blk b (.cells ((backup_reader.C t15.2 v20 ++ q)).toArray T (0, 0))] rfl ?_
 refine w_nil (hK14 _ _ _ ?_)
 refine c_sr fun _ hK22 => ?_
 refine v_move rfl rfl ?_
 refine v_assign rfl rfl ?_
 refine w_nil (hK22 _ _ _ ?_)
 obtain rfl := some_r H
 exact c_ret fun a w' hf hs => hret _ (.inl rfl) a w' hf.df ⟨_, _, _, Res.of1 rfl (RV.t hf rfl), hs.sel [0] (by decide) rfl, ⟨_, _, rfl, h11, h21, rfl⟩⟩
theorem backup_reader_key.calls {M : Heap} {w : World} {b : Nat} {T : TypeId} {q : List Value} {x_ : backup_reader} {v1 : Value} (hs : St (fun k => k = b) M w M (lt [.blk b (.cells ((backup_reader.C x_ v1 ++ q)).toArray T (0, 0))]) w) (h2 : RS (FI .u8) M v1 x_.rest_) (p1 : (List UInt8)) (r : (Key × backup_reader)) (H : backup_reader_key x_ p1 = some r) :
  Calls Tryd.prog 54 [(ptr b 0), (str p1)].toArray w (PostI (fun k => k = b) M w fun M' x v => ∃ (v189 : Value), v = (.agg (Key.C r.1).toArray) ∧ RS (FI .u8) M' v189 r.2.rest_ ∧ x = .blk b (.cells ((backup_reader.C r.2 v189 ++ q)).toArray T (0, 0))) := by
 refine enterI 90 [(0, (ptr b 0)), (1, (str p1))] Tryd.func54 rfl rfl rfl hs ?_
 clear hs
 intro Q hret
 unfold backup_reader_key at H
 refine c_sr fun _ hK3 => ?_
 refine w_allocL (A := Key.C (⟨(0 : Int), (0 : Int), ([] : List UInt8), (0 : Int), (0 : Int), (0 : Int), (0 : Int), (0 : Int), false⟩ : Key)) tz55 trivial rfl rfl ?_
 intro b4
 refine w_nil (hK3 _ _ _ ?_)
 refine c_sr fun _ hK5 => ?_
 refine v_move rfl rfl ?_
 refine w_s2b Tryd.underlying9 Tryd.underlying66 Tryd.underlying5 trivial rfl rfl ?_
 intro v6 M7 l8 h9
 replace h2 := h2.mono l8
 refine v_move rfl rfl ?_
 refine wv rfl (fun a w hf hs => r_nilCheck (hf.ev rfl)) ?_
 refine v_fa fa80_1 rfl rfl ?_
 refine wv rfl (fun a w hf hs => r_load1 ta24 (hf.ev rfl) (hs.blk (i := 0) rfl) rfl) ?_
 refine wv rfl (fun a w hf hs => r_build (is := [0, 1]) (xs := [.tmp 10, .tmp 14]) (vs := [v6, (.int .i64 x_.e)]) (A := backup_reader.C (⟨(bytesI p1), x_.e⟩ : backup_reader) v6) rfl (hf.evs rfl) (built_of (pl := [(0, 1), (1, 1)]) (A0 := backup_reader.C (⟨([] : (List Int)), (0 : Int)⟩ : backup_reader) (.slice none 0 0)) tz80 Tryd.underlying80 (by kernel_rfl) rfl (.cons (vs := [v6]) (B := backup_reader.C (⟨(bytesI p1), (0 : Int)⟩ : backup_reader) v6) rfl (h9.cells1) rfl (by rw [backup_reader.len]; decide) rfl (.cons (vs := [(.int .i64 x_.e)]) (B := backup_reader.C (⟨(bytesI p1), x_.e⟩ : backup_reader) v6) rfl rfl rfl (by rw [backup_reader.len]; decide) rfl .nil)))) ?_
 refine w_boxL trivial rfl rfl rfl ?_
 intro b10
 refine v_assign rfl rfl ?_
 refine w_nil (hK5 _ _ _ ?_)
 refine c_sr fun _ hK11 => ?_
 refine v_move rfl rfl ?_
 obtain ⟨t12, e13, H⟩ := bnd H
 refine w_callJ (b0 := b10) 2 cf52 trivial rfl rfl rfl rfl (fun w hs => backup_whole_LLstring.calls (b := b10) (T := 80) (q := []) (x_ := (⟨(bytesI p1), x_.e⟩ : backup_reader)) hs h9 _ e13) ?_
 rintro v16 M14 _ l15 ⟨v17, v19, hv_, h18, h20, rfl⟩
 replace hv_ := hv_.symm
 subst hv_
 replace h2 := h2.mono l15
 refine w_L [.blk b (.cells ((backup_reader.C x_ v1 ++ q)).toArray T (0, 0)), .blk b4 (.cells (Key.C (⟨(0 : Int), (0 : Int), ([] : List UInt8), (0 : Int), (0 : Int), (0 : Int), (0 : Int), (0 : Int), false⟩ : Key)).toArray 55 (0, 0)), .blk b10 (.cells (backup_reader.C t12.2 v19).toArray 80 (0, 0))] rfl ?_
 refine v_assign rfl rfl ?_
 refine w_nil (hK11 _ _ _ ?_)
 refine c_cut (fun a' w' => ∃ (x21 : Key) (x22 : backup_reader) (v23 : Value) (M25 : Heap), HLe M14 M25 ∧ RS (FI .u8) M25 v23 x22.rest_ ∧ Fr 90 [(0, (ptr b 0)), (4, (ptr b4 0)), (5, (ptr b10 0))] a' ∧ St (fun k => k = b) M w M25 (lt [.blk b (.cells ((backup_reader.C x_ v1 ++ q)).toArray T (0, 0)), .blk b4 (.cells (Key.C x21).toArray 55 (0, 0)), .blk b10 (.cells (backup_reader.C x22 v23).toArray 80 (0, 0))]) w' ∧ backup_reader_key.j1 x21 x_ x22 = some r) ?_ ?_
 ·refine c_seq ?_
  intro K29 hK29
  refine c_reg ?_
  refine v_move rfl rfl ?_
  refine v_move rfl rfl ?_
  refine wv rfl (fun a w hf hs => r_lenR Tryd.underlying63 h18 (hf.ev rfl)) ?_
  refine wv rfl (fun a w hf hs => r_eql (hf.ev rfl) (hf.ev rfl)) ?_
  obtain ⟨t30, e31, H⟩ := bnd H
  refine w_callJ (b0 := b10) 2 cf55 trivial rfl rfl rfl rfl (fun w hs => backup_reader_check.calls (b := b10) (T := 80) (q := []) (x_ := t12.2) hs h20 ((t12.1.length : Int) == (2 : Int)) (6 : Int) _ e31) ?_
  rintro v34 M32 _ l33 ⟨v35, hv_, h36, rfl⟩
  subst hv_
  replace h2 := h2.mono l33
  replace h18 := h18.mono l33
  refine w_L [.blk b (.cells ((backup_reader.C x_ v1 ++ q)).toArray T (0, 0)), .blk b4 (.cells (Key.C (⟨(0 : Int), (0 : Int), ([] : List UInt8), (0 : Int), (0 : Int), (0 : Int), (0 : Int), (0 : Int), false⟩ : Key)).toArray 55 (0, 0)), .blk b10 (.cells (backup_reader.C t30.2 v35).toArray 80 (0, 0))] rfl ?_
  refine w_nil (hK29 _ _ _ ?_)
  refine c_if rfl (fun b37 => ?_) (fun b37 => ?_)
  ·replace H := if_t b37 H
   refine c_sr fun _ hK38 => ?_
   refine v_move rfl rfl ?_
   obtain ⟨g39, H⟩ := grd_s H
   refine wv rfl (fun a w hf hs => r_iR Tryd.underlying63 ts9 h18 (hf.ev rfl) (hf.ev rfl) g39.1 g39.2) ?_
   refine wv rfl (fun a w hf hs => r_loadE1 ta9 h18 hs.sub g39.1 g39.2 (hf.ev rfl) rfl) ?_
   refine w_s2b Tryd.underlying9 Tryd.underlying66 Tryd.underlying5 trivial rfl rfl ?_
   intro v40 M41 l42 h43
   replace h2 := h2.mono l42
   replace h18 := h18.mono l42
   replace h36 := h36.mono l42
   refine wv rfl (fun a w hf hs => r_build (is := [0]) (xs := [.tmp 27]) (vs := [v40]) (A := backup_reader.C (⟨(bytesI (rd t12.1 0)), (0 : Int)⟩ : backup_reader) v40) rfl (hf.evs rfl) (built_of (pl := [(0, 1), (1, 1)]) (A0 := backup_reader.C (⟨([] : (List Int)), (0 : Int)⟩ : backup_reader) (.slice none 0 0)) tz80 Tryd.underlying80 (by kernel_rfl) rfl (.cons (vs := [v40]) (B := backup_reader.C (⟨(bytesI (rd t12.1 0)), (0 : Int)⟩ : backup_reader) v40) rfl (h43.cells1) rfl (by rw [backup_reader.len]; decide) rfl .nil))) ?_
   refine w_boxL trivial rfl rfl rfl ?_
   intro b44
   refine v_assign rfl rfl ?_
   refine w_nil (hK38 _ _ _ ?_)
   refine c_sr fun _ hK45 => ?_
   refine v_move rfl rfl ?_
   obtain ⟨t46, e47, H⟩ := bnd H
   refine w_callJ (b0 := b44) 3 cf106 trivial rfl rfl rfl rfl (fun w hs => backup_whole_LLint.calls (b := b44) (T := 80) (q := []) (x_ := (⟨(bytesI (rd t12.1 0)), (0 : Int)⟩ : backup_reader)) hs h43 _ e47) ?_
   rintro v50 M48 _ l49 ⟨v51, v53, hv_, h52, h54, rfl⟩
   replace hv_ := hv_.symm
   subst hv_
   replace h2 := h2.mono l49
   replace h18 := h18.mono l49
   replace h36 := h36.mono l49
   refine w_L [.blk b (.cells ((backup_reader.C x_ v1 ++ q)).toArray T (0, 0)), .blk b4 (.cells (Key.C (⟨(0 : Int), (0 : Int), ([] : List UInt8), (0 : Int), (0 : Int), (0 : Int), (0 : Int), (0 : Int), false⟩ : Key)).toArray 55 (0, 0)), .blk b10 (.cells (backup_reader.C t30.2 v35).toArray 80 (0, 0)), .blk b44 (.cells (backup_reader.C t46.2 v53).toArray 80 (0, 0))] rfl ?_
   refine v_assign rfl rfl ?_
   refine w_nil (hK45 _ _ _ ?_)
   refine c_cut (fun a' w' => ∃ (x55 : Key) (x56 : backup_reader) (v57 : Value) (M59 : Heap), HLe M48 M59 ∧ RS (FI .u8) M59 v57 x56.rest_ ∧ Fr 90 [(0, (ptr b 0)), (4, (ptr b4 0)), (5, (ptr b10 0)), (7, (ptr b44 0))] a' ∧ St (fun k => k = b) M w M59 (lt [.blk b (.cells ((backup_reader.C x_ v1 ++ q)).toArray T (0, 0)), .blk b4 (.cells (Key.C x55).toArray 55 (0, 0)), .blk b10 (.cells (backup_reader.C t30.2 v35).toArray 80 (0, 0)), .blk b44 (.cells (backup_reader.C x56 v57).toArray 80 (0, 0))]) w' ∧ backup_reader_key.j2 x55 x_ t30 x56 = some r) ?_ ?_
   ·refine c_seq ?_
    intro K61 hK61
    refine c_reg ?_
    refine v_move rfl rfl ?_
    refine v_move rfl rfl ?_
    refine wv rfl (fun a w hf hs => r_lenR Tryd.underlying51 h52 (hf.ev rfl)) ?_
    refine wv rfl (fun a w hf hs => r_eql (hf.ev rfl) (hf.ev rfl)) ?_
    obtain ⟨t62, e63, H⟩ := bnd H
    refine w_callJ (b0 := b44) 3 cf55 trivial rfl rfl rfl rfl (fun w hs => backup_reader_check.calls (b := b44) (T := 80) (q := []) (x_ := t46.2) hs h54 ((t46.1.length : Int) == (8 : Int)) (6 : Int) _ e63) ?_
    rintro v66 M64 _ l65 ⟨v67, hv_, h68, rfl⟩
    subst hv_
    replace h2 := h2.mono l65
    replace h18 := h18.mono l65
    replace h36 := h36.mono l65
    replace h52 := h52.mono l65
    refine w_L [.blk b (.cells ((backup_reader.C x_ v1 ++ q)).toArray T (0, 0)), .blk b4 (.cells (Key.C (⟨(0 : Int), (0 : Int), ([] : List UInt8), (0 : Int), (0 : Int), (0 : Int), (0 : Int), (0 : Int), false⟩ : Key)).toArray 55 (0, 0)), .blk b10 (.cells (backup_reader.C t30.2 v35).toArray 80 (0, 0)), .blk b44 (.cells (backup_reader.C t62.2 v67).toArray 80 (0, 0))] rfl ?_
    refine v_move rfl rfl ?_
    by_cases b69 : t62.1 = true
    ·replace H := if_t b69 H
     refine w_val (Wnt.of rfl rfl b69) rfl (fun a w hf hs => r_move (hf.ev rfl)) ?_
     refine w_val (Wnt.of rfl rfl b69) rfl (fun a w hf hs => r_move (hf.ev rfl)) ?_
     obtain ⟨g70, H⟩ := grd_s H
     refine w_val (Wnt.of rfl rfl b69) rfl (fun a w hf hs => r_iR Tryd.underlying51 ts3 h52 (hf.ev rfl) (hf.ev rfl) g70.1 g70.2) ?_
     refine w_val (Wnt.of rfl rfl b69) rfl (fun a w hf hs => r_loadE1 ta3 h52 hs.sub g70.1 g70.2 (hf.ev rfl) rfl) ?_
     refine w_bsl (F := (FI .i64)) (es := ([(rd t46.1 7)] : List Int)) (xs := [.tmp 41]) (vs := [(.int .i64 (rd t46.1 7))]) Tryd.underlying51 te3 (Wnt.of rfl rfl b69) rfl rfl rfl rfl rfl (by decide) ?_
     intro v71 M72 l73 h74 c75
     replace h2 := h2.mono l73
     replace h18 := h18.mono l73
     replace h36 := h36.mono l73
     replace h52 := h52.mono l73
     replace h68 := h68.mono l73
     obtain ⟨t76, e81, H⟩ := bnd H
     refine w_call cf92 (Wnt.of rfl rfl b69) rfl rfl (fun w hs => backup_within.calls hs (1 : Int) ([(rd t46.1 7)] : List Int) v71 h74 _ e81) ?_
     rintro _ M78 l79 rfl
     replace h2 := h2.mono l79
     replace h18 := h18.mono l79
     replace h36 := h36.mono l79
     replace h52 := h52.mono l79
     replace h68 := h68.mono l79
     obtain ⟨t82, e83, H⟩ := bnd H
     refine w_callJ (b0 := b44) 3 cf55 (Wnt.of rfl rfl b69) rfl rfl rfl rfl (fun w hs => backup_reader_check.calls (b := b44) (T := 80) (q := []) (x_ := t62.2) hs h68 t76 (6 : Int) _ e83) ?_
     rintro v86 M84 _ l85 ⟨v87, hv_, h88, rfl⟩
     subst hv_
     replace h2 := h2.mono l85
     replace h18 := h18.mono l85
     replace h36 := h36.mono l85
     replace h52 := h52.mono l85
     replace h68 := h68.mono l85
     refine w_L [.blk b (.cells ((backup_reader.C x_ v1 ++ q)).toArray T (0, 0)), .blk b4 (.cells (Key.C (⟨(0 : Int), (0 : Int), ([] : List UInt8), (0 : Int), (0 : Int), (0 : Int), (0 : Int), (0 : Int), false⟩ : Key)).toArray 55 (0, 0)), .blk b10 (.cells (backup_reader.C t30.2 v35).toArray 80 (0, 0)), .blk b44 (.cells (backup_reader.C t82.2 v87).toArray 80 (0, 0))] rfl ?_
     refine wv rfl (fun a w hf hs => r_pickT (hf.ev rfl) b69 (hf.ev rfl)) ?_
     refine w_nil (hK61 _ _ _ ?_)
     refine c_if rfl (fun b89 => ?_) (fun b89 => ?_)
     ·replace H := if_t b89 H
      refine c_split2 28 (by kernel_rfl) (by kernel_rfl) (by kernel_rfl) (by kernel_rfl) rfl ?_
      intro K90 hK90
      obtain ⟨g96, H⟩ := grd_s H
      obtain ⟨g105, H⟩ := grd_s H
      obtain ⟨g114, H⟩ := grd_s H
      obtain ⟨g123, H⟩ := grd_s H
      obtain ⟨g132, H⟩ := grd_s H
      obtain ⟨g141, H⟩ := grd_s H
      obtain ⟨g150, H⟩ := grd_s H
      obtain ⟨g159, H⟩ := grd_s H
      obtain ⟨g168, H⟩ := grd_s H
      refine d_drawP [([], [8]), ([(0, 46)], []), ([(1, 47)], []), ([], [8]), ([(3, 49)], []), ([(4, 50)], []), ([], [6]), ([(6, 52)], []), ([(7, 53)], []), ([], [8]), ([(9, 55)], []), ([(10, 56)], []), ([], [8]), ([(12, 58)], []), ([(13, 59)], []), ([], [8]), ([(15, 61)], []), ([(16, 62)], []), ([], [8]), ([(18, 64)], []), ([(19, 65)], []), ([], [8]), ([(21, 67)], []), ([(22, 68)], []), ([], [8]), ([(24, 70)], []), ([(25, 71)], []), ([(26, 72)], [])] [fun v M => v = v51, fun v M => v = (eP v51 (0 : Int) 1 0), fun v M => v = (.int .i64 (rd t46.1 0)), fun v M => v = v51, fun v M => v = (eP v51 (1 : Int) 1 0), fun v M => v = (.int .i64 (rd t46.1 1)), fun v M => v = v17, fun v M => v = (eP v17 (1 : Int) 1 0), fun v M => v = (str (rd t12.1 1)), fun v M => v = v51, fun v M => v = (eP v51 (2 : Int) 1 0), fun v M => v = (.int .i64 (rd t46.1 2)), fun v M => v = v51, fun v M => v = (eP v51 (3 : Int) 1 0), fun v M => v = (.int .i64 (rd t46.1 3)), fun v M => v = v51, fun v M => v = (eP v51 (4 : Int) 1 0), fun v M => v = (.int .i64 (rd t46.1 4)), fun v M => v = v51, fun v M => v = (eP v51 (5 : Int) 1 0), fun v M => v = (.int .i64 (rd t46.1 5)), fun v M => v = v51, fun v M => v = (eP v51 (6 : Int) 1 0), fun v M => v = (.int .i64 (rd t46.1 6)), fun v M => v = v51, fun v M => v = (eP v51 (7 : Int) 1 0), fun v M => v = (.int .i64 (rd t46.1 7)), fun v M => v = (.bool ((rd t46.1 7) == (1 : Int)))] (by kernel_rfl) (by kernel_rfl) ?_ (AllT.cons ?_ (AllT.cons ?_ (AllT.cons ?_ (AllT.cons ?_ (AllT.cons ?_ (AllT.cons ?_ (AllT.cons ?_ (AllT.cons ?_ (AllT.cons ?_ (AllT.cons ?_ (AllT.cons ?_ (AllT.cons ?_ (AllT.cons ?_ (AllT.cons ?_ (AllT.cons ?_ (AllT.cons ?_ (AllT.cons ?_ (AllT.cons ?_ (AllT.cons ?_ (AllT.cons ?_ (AllT.cons ?_ (AllT.cons ?_ (AllT.cons ?_ (AllT.cons ?_ (AllT.cons ?_ (AllT.cons ?_ (AllT.cons ?_ (AllT.cons ?_ AllT.nil)))))))))))))))))))))))))))) ?_
      ·exact (mC (mC (mC (mC (mC (mC (mC (mC (mC (mC (mC (mC (mC (mC (mC (mC (mC (mC (mC (mC (mC (mC (mC (mC (mC (mC (mC (mC MonoA.nil))))))))))))))))))))))))))))
      ·intro a w' M91 l92 hd hs
       replace h52 := h52.mono l92
       exact pv (hd.fr.add (hd.base 8 _ rfl rfl)) hs rfl (fun a w hf hs => r_move (hf.ev rfl)) rfl
      ·intro a w' M93 l94 hd hs
       have e95 := hd.val 0 46 _ rfl rfl
       replace h52 := h52.mono l94
       exact pv (hd.fr.add e95) hs rfl (fun a w hf hs => r_iR Tryd.underlying51 ts3 h52 (hf.ev rfl) (hf.ev rfl) g96.1 g96.2) rfl
      ·intro a w' M97 l98 hd hs
       have e99 := hd.val 1 47 _ rfl rfl
       replace h52 := h52.mono l98
       exact pv (hd.fr.add e99) hs rfl (fun a w hf hs => r_loadE1 ta3 h52 hs.sub g96.1 g96.2 (hf.ev rfl) rfl) rfl
      ·intro a w' M100 l101 hd hs
       replace h52 := h52.mono l101
       exact pv (hd.fr.add (hd.base 8 _ rfl rfl)) hs rfl (fun a w hf hs => r_move (hf.ev rfl)) rfl
      ·intro a w' M102 l103 hd hs
       have e104 := hd.val 3 49 _ rfl rfl
       replace h52 := h52.mono l103
       exact pv (hd.fr.add e104) hs rfl (fun a w hf hs => r_iR Tryd.underlying51 ts3 h52 (hf.ev rfl) (hf.ev rfl) g105.1 g105.2) rfl
      ·intro a w' M106 l107 hd hs
       have e108 := hd.val 4 50 _ rfl rfl
       replace h52 := h52.mono l107
       exact pv (hd.fr.add e108) hs rfl (fun a w hf hs => r_loadE1 ta3 h52 hs.sub g105.1 g105.2 (hf.ev rfl) rfl) rfl
      ·intro a w' M109 l110 hd hs
       replace h18 := h18.mono l110
       exact pv (hd.fr.add (hd.base 6 _ rfl rfl)) hs rfl (fun a w hf hs => r_move (hf.ev rfl)) rfl
      ·intro a w' M111 l112 hd hs
       have e113 := hd.val 6 52 _ rfl rfl
       replace h18 := h18.mono l112
       exact pv (hd.fr.add e113) hs rfl (fun a w hf hs => r_iR Tryd.underlying63 ts9 h18 (hf.ev rfl) (hf.ev rfl) g114.1 g114.2) rfl
      ·intro a w' M115 l116 hd hs
       have e117 := hd.val 7 53 _ rfl rfl
       replace h18 := h18.mono l116
       exact pv (hd.fr.add e117) hs rfl (fun a w hf hs => r_loadE1 ta9 h18 hs.sub g114.1 g114.2 (hf.ev rfl) rfl) rfl
      ·intro a w' M118 l119 hd hs
       replace h52 := h52.mono l119
       exact pv (hd.fr.add (hd.base 8 _ rfl rfl)) hs rfl (fun a w hf hs => r_move (hf.ev rfl)) rfl
      ·intro a w' M120 l121 hd hs
       have e122 := hd.val 9 55 _ rfl rfl
       replace h52 := h52.mono l121
       exact pv (hd.fr.add e122) hs rfl (fun a w hf hs => r_iR Tryd.underlying51 ts3 h52 (hf.ev rfl) (hf.ev rfl) g123.1 g123.2) rfl
      ·intro a w' M124 l125 hd hs
       have e126 := hd.val 10 56 _ rfl rfl
       replace h52 := h52.mono l125
       exact pv (hd.fr.add e126) hs rfl (fun a w hf hs => r_loadE1 ta3 h52 hs.sub g123.1 g123.2 (hf.ev rfl) rfl) rfl
      ·intro a w' M127 l128 hd hs
       replace h52 := h52.mono l128
       exact pv (hd.fr.add (hd.base 8 _ rfl rfl)) hs rfl (fun a w hf hs => r_move (hf.ev rfl)) rfl
      ·intro a w' M129 l130 hd hs
       have e131 := hd.val 12 58 _ rfl rfl
       replace h52 := h52.mono l130
       exact pv (hd.fr.add e131) hs rfl (fun a w hf hs => r_iR Tryd.underlying51 ts3 h52 (hf.ev rfl) (hf.ev rfl) g132.1 g132.2) rfl
      ·intro a w' M133 l134 hd hs
       have e135 := hd.val 13 59 _ rfl rfl
       replace h52 := h52.mono l134
       exact pv (hd.fr.add e135) hs rfl (fun a w hf hs => r_loadE1 ta3 h52 hs.sub g132.1 g132.2 (hf.ev rfl) rfl) rfl
      ·intro a w' M136 l137 hd hs
       replace h52 := h52.mono l137
       exact pv (hd.fr.add (hd.base 8 _ rfl rfl)) hs rfl (fun a w hf hs => r_move (hf.ev rfl)) rfl
      ·intro a w' M138 l139 hd hs
       have e140 := hd.val 15 61 _ rfl rfl
       replace h52 := h52.mono l139
       exact pv (hd.fr.add e140) hs rfl (fun a w hf hs => r_iR Tryd.underlying51 ts3 h52 (hf.ev rfl) (hf.ev rfl) g141.1 g141.2) rfl
      ·intro a w' M142 l143 hd hs
       have e144 := hd.val 16 62 _ rfl rfl
       replace h52 := h52.mono l143
       exact pv (hd.fr.add e144) hs rfl (fun a w hf hs => r_loadE1 ta3 h52 hs.sub g141.1 g141.2 (hf.ev rfl) rfl) rfl
      ·intro a w' M145 l146 hd hs
       replace h52 := h52.mono l146
       exact pv (hd.fr.add (hd.base 8 _ rfl rfl)) hs rfl (fun a w hf hs => r_move (hf.ev rfl)) rfl
      ·intro a w' M147 l148 hd hs
       have e149 := hd.val 18 64 _ rfl rfl
       replace h52 := h52.mono l148
       exact pv (hd.fr.add e149) hs rfl (fun a w hf hs => r_iR Tryd.underlying51 ts3 h52 (hf.ev rfl) (hf.ev rfl) g150.1 g150.2) rfl
      ·intro a w' M151 l152 hd hs
       have e153 := hd.val 19 65 _ rfl rfl
       replace h52 := h52.mono l152
       exact pv (hd.fr.add e153) hs rfl (fun a w hf hs => r_loadE1 ta3 h52 hs.sub g150.1 g150.2 (hf.ev rfl) rfl) rfl
      ·intro a w' M154 l155 hd hs
       replace h52 := h52.mono l155
       exact pv (hd.fr.add (hd.base 8 _ rfl rfl)) hs rfl (fun a w hf hs => r_move (hf.ev rfl)) rfl
      ·intro a w' M156 l157 hd hs
       have e158 := hd.val 21 67 _ rfl rfl
       replace h52 := h52.mono l157
       exact pv (hd.fr.add e158) hs rfl (fun a w hf hs => r_iR Tryd.underlying51 ts3 h52 (hf.ev rfl) (hf.ev rfl) g159.1 g159.2) rfl
      ·intro a w' M160 l161 hd hs
       have e162 := hd.val 22 68 _ rfl rfl
       replace h52 := h52.mono l161
       exact pv (hd.fr.add e162) hs rfl (fun a w hf hs => r_loadE1 ta3 h52 hs.sub g159.1 g159.2 (hf.ev rfl) rfl) rfl
      ·intro a w' M163 l164 hd hs
       replace h52 := h52.mono l164
       exact pv (hd.fr.add (hd.base 8 _ rfl rfl)) hs rfl (fun a w hf hs => r_move (hf.ev rfl)) rfl
      ·intro a w' M165 l166 hd hs
       have e167 := hd.val 24 70 _ rfl rfl
       replace h52 := h52.mono l166
       exact pv (hd.fr.add e167) hs rfl (fun a w hf hs => r_iR Tryd.underlying51 ts3 h52 (hf.ev rfl) (hf.ev rfl) g168.1 g168.2) rfl
      ·intro a w' M169 l170 hd hs
       have e171 := hd.val 25 71 _ rfl rfl
       replace h52 := h52.mono l170
       exact pv (hd.fr.add e171) hs rfl (fun a w hf hs => r_loadE1 ta3 h52 hs.sub g168.1 g168.2 (hf.ev rfl) rfl) rfl
      ·intro a w' M172 l173 hd hs
       have e174 := hd.val 26 72 _ rfl rfl
       exact pv (hd.fr.add e174) hs rfl (fun a w hf hs => r_eql (hf.ev rfl) (hf.ev rfl)) rfl
      intro a w' M175 l176 hdf hsz hb hv hs
      replace h2 := h2.mono l176
      replace h36 := h36.mono l176
      replace h68 := h68.mono l176
      replace h88 := h88.mono l176
      have e177 := hv 2 48 _ rfl rfl
      have e178 := hv 5 51 _ rfl rfl
      have e179 := hv 8 54 _ rfl rfl
      have e180 := hv 11 57 _ rfl rfl
      have e181 := hv 14 60 _ rfl rfl
      have e182 := hv 17 63 _ rfl rfl
      have e183 := hv 20 66 _ rfl rfl
      have e184 := hv 23 69 _ rfl rfl
      have e185 := hv 27 73 _ rfl rfl
      refine n_of (c := (Cx.mk Tryd.prog 90 (fun k => k = b) M w)) (l := [(0, (ptr b 0)), (4, (ptr b4 0)), (5, (ptr b10 0)), (7, (ptr b44 0)), (48, (.int .i64 (rd t46.1 0))), (51, (.int .i64 (rd t46.1 1))), (54, (str (rd t12.1 1))), (57, (.int .i64 (rd t46.1 2))), (60, (.int .i64 (rd t46.1 3))), (63, (.int .i64 (rd t46.1 4))), (66, (.int .i64 (rd t46.1 5))), (69, (.int .i64 (rd t46.1 6))), (73, (.bool ((rd t46.1 7) == (1 : Int))))]) ?_ ((((((((((((((Fr.start hdf hsz).add e185).add e184).add e183).add e182).add e181).add e180).add e179).add e178).add e177).add (hb 7 _ rfl rfl)).add (hb 5 _ rfl rfl)).add (hb 4 _ rfl rfl)).add (hb 0 _ rfl rfl)) hs
      clear hdf hsz hb hv hs e177 e178 e179 e180 e181 e182 e183 e184 e185
      refine n_id (hK90 _ _ _ ?_)
      refine wv rfl (fun a w hf hs => r_build (is := [0, 1, 2, 3, 4, 5, 6, 7, 8]) (xs := [.tmp 48, .tmp 51, .tmp 54, .tmp 57, .tmp 60, .tmp 63, .tmp 66, .tmp 69, .tmp 73]) (vs := [(.int .i64 (rd t46.1 0)), (.int .i64 (rd t46.1 1)), (str (rd t12.1 1)), (.int .i64 (rd t46.1 2)), (.int .i64 (rd t46.1 3)), (.int .i64 (rd t46.1 4)), (.int .i64 (rd t46.1 5)), (.int .i64 (rd t46.1 6)), (.bool ((rd t46.1 7) == (1 : Int)))]) (A := Key.C (⟨(rd t46.1 0), (rd t46.1 1), (rd t12.1 1), (rd t46.1 2), (rd t46.1 3), (rd t46.1 4), (rd t46.1 5), (rd t46.1 6), ((rd t46.1 7) == (1 : Int))⟩ : Key)) rfl (hf.evs rfl) (by kernel_rfl)) ?_
      obtain ⟨z186, e188, H⟩ := bnd H
      have e187 := some_r e188
      refine w_store (i := 1) (vs := Key.C (⟨(rd t46.1 0), (rd t46.1 1), (rd t12.1 1), (rd t46.1 2), (rd t46.1 3), (rd t46.1 4), (rd t46.1 5), (rd t46.1 6), ((rd t46.1 7) == (1 : Int))⟩ : Key)) (A' := Key.C z186) trivial rfl rfl rfl rfl ts55 rfl (Key.F_one _) (Nat.le_of_ble_eq_true rfl) (by rw [← e187]; exact rfl) ?_
      clear e188 e187
      refine w_L [.blk b (.cells ((backup_reader.C x_ v1 ++ q)).toArray T (0, 0)), .blk b4 (.cells (Key.C z186).toArray 55 (0, 0)), .blk b10 (.cells (backup_reader.C t30.2 v35).toArray 80 (0, 0)), .blk b44 (.cells (backup_reader.C t82.2 v87).toArray 80 (0, 0))] rfl ?_
      exact w_nil fun a w' hf hs => ⟨z186, t82.2, v87, _, (l65.trans (l73.trans (l79.trans (l85.trans l176)))), h88, ((((hf.nil.add (hf.get _ _ rfl)).add (hf.get _ _ rfl)).add (hf.get _ _ rfl)).add (hf.get _ _ rfl)), hs.selD [some 0, some 1, some 2, some 3] (by decide) rfl, H⟩
     ·replace H := if_f b89 H
      refine c_skip ?_
      intro a w' hf hs
      exact ⟨(⟨(0 : Int), (0 : Int), ([] : List UInt8), (0 : Int), (0 : Int), (0 : Int), (0 : Int), (0 : Int), false⟩ : Key), t82.2, v87, _, (l65.trans (l73.trans (l79.trans l85))), h88, ((((hf.nil.add (hf.get _ _ rfl)).add (hf.get _ _ rfl)).add (hf.get _ _ rfl)).add (hf.get _ _ rfl)), hs.selD [some 0, some 1, some 2, some 3] (by decide) rfl, H⟩
    ·replace b69 := Bool.eq_false_iff.2 b69
     replace H := if_f b69 H
     refine w_not (Nwt.of rfl rfl b69) rfl ?_
     refine w_not (Nwt.of rfl rfl b69) rfl ?_
     refine w_not (Nwt.of rfl rfl b69) rfl ?_
     refine w_not (Nwt.of rfl rfl b69) rfl ?_
     refine w_not (Nwt.of rfl rfl b69) rfl ?_
     refine w_not (Nwt.of rfl rfl b69) rfl ?_
     refine w_not (Nwt.of rfl rfl b69) rfl ?_
     refine wv rfl (fun a w hf hs => r_pickF (hf.ev rfl) b69 (hf.ev rfl)) ?_
     refine w_nil (hK61 _ _ _ ?_)
     refine c_if rfl (fun hb => absurd (hb.symm.trans rfl) (by decide)) (fun hb => ?_)
     refine c_skip ?_
     intro a w' hf hs
     exact ⟨(⟨(0 : Int), (0 : Int), ([] : List UInt8), (0 : Int), (0 : Int), (0 : Int), (0 : Int), (0 : Int), false⟩ : Key), t62.2, v67, _, l65, h68, ((((hf.nil.add (hf.get _ _ rfl)).add (hf.get _ _ rfl)).add (hf.get _ _ rfl)).add (hf.get _ _ rfl)), hs.selD [some 0, some 1, some 2, some 3] (by decide) rfl, H⟩
   ·rintro a w' ⟨x55, x56, v57, M59, l60, h58, hf, hs, H⟩
    refine c_of (c := (Cx.mk Tryd.prog 90 (fun k => k = b) M w)) ?_ hf hs
    unfold backup_reader_key.j2 at H
    clear hf hs
    replace h2 := h2.mono l60
    replace h36 := h36.mono l60
    refine c_reg ?_
    refine v_move rfl rfl ?_
    refine v_move rfl rfl ?_
    refine wv rfl (fun a w hf hs => r_nilCheck (hf.ev rfl)) ?_
    refine v_fa fa80_1 rfl rfl ?_
    refine wv rfl (fun a w hf hs => r_load1 ta24 (hf.ev rfl) (hs.blk (i := 3) rfl) rfl) ?_
    refine wv rfl (fun a w hf hs => r_nilCheck (hf.ev rfl)) ?_
    refine v_fa fa80_1 rfl rfl ?_
    refine w_store (i := 2) (vs := [(.int .i64 x56.e)]) (A' := backup_reader.C ({ t30.2 with e := x56.e } : backup_reader) v35) trivial rfl rfl rfl rfl ts24 rfl (one1 rfl) (Nat.le_of_ble_eq_true rfl) rfl ?_
    refine w_L [.blk b (.cells ((backup_reader.C x_ v1 ++ q)).toArray T (0, 0)), .blk b4 (.cells (Key.C x55).toArray 55 (0, 0)), .blk b10 (.cells (backup_reader.C ({ t30.2 with e := x56.e } : backup_reader) v35).toArray 80 (0, 0)), .blk b44 (.cells (backup_reader.C x56 v57).toArray 80 (0, 0))] rfl ?_
    exact w_nil fun a w' hf hs => ⟨x55, ({ t30.2 with e := x56.e } : backup_reader), v35, _, (l33.trans (l42.trans (l49.trans l60))), h36, (((hf.nil.add (hf.get _ _ rfl)).add (hf.get _ _ rfl)).add (hf.get _ _ rfl)), hs.selD [some 0, some 1, some 2] (by decide) rfl, H⟩
  ·replace H := if_f b37 H
   refine c_skip ?_
   intro a w' hf hs
   exact ⟨(⟨(0 : Int), (0 : Int), ([] : List UInt8), (0 : Int), (0 : Int), (0 : Int), (0 : Int), (0 : Int), false⟩ : Key), t30.2, v35, _, l33, h36, (((hf.nil.add (hf.get _ _ rfl)).add (hf.get _ _ rfl)).add (hf.get _ _ rfl)), hs.selD [some 0, some 1, some 2] (by decide) rfl, H⟩
 ·rintro a w' ⟨x21, x22, v23, M25, l26, h24, hf, hs, H⟩
  refine c_of (c := (Cx.mk Tryd.prog 90 (fun k => k = b) M w)) ?_ hf hs
  unfold backup_reader_key.j1 at H
  clear hf hs
  replace h2 := h2.mono l26
  refine c_sr fun _ hK27 => ?_
  refine v_move rfl rfl ?_
  refine v_move rfl rfl ?_
  refine wv rfl (fun a w hf hs => r_nilCheck (hf.ev rfl)) ?_
  refine v_fa fa80_1 rfl rfl ?_
  refine wv rfl (fun a w hf hs => r_load1 ta24 (hf.ev rfl) (hs.blk (i := 2) rfl) rfl) ?_
  refine wv rfl (fun a w hf hs => r_nilCheck (hf.ev rfl)) ?_
  refine v_fa fa80_1 rfl rfl ?_
  refine w_store (i := 0) (vs := [(.int .i64 x22.e)]) (A' := (backup_reader.C ({ x_ with e := x22.e } : backup_reader) v1 ++ q)) trivial rfl rfl rfl rfl ts24 rfl (one1 rfl) (Nat.le_of_ble_eq_true rfl) rfl ?_
  refine w_L [.blk b (.cells ((backup_reader.C ({ x_ with e := x22.e } : backup_reader) v1 ++ q)).toArray T (0, 0)), .blk b4 (.cells (Key.C x21).toArray 55 (0, 0)), .blk b10 (.cells (backup_reader.C x22 v23).toArray 80 (0, 0))] rfl ?_
  refine w_nil (hK27 _ _ _ ?_)
  refine c_sr fun _ hK28 => ?_
  refine wv rfl (fun a w hf hs => r_loadA ta55 ts55 (hf.ev rfl) (hs.blk (i := 1) rfl) rfl rfl) ?_
  refine w_store (i := 1) (vs := Key.C x21) (A' := Key.C x21) trivial rfl rfl rfl rfl ts55 rfl (Key.F_one _) (Nat.le_of_ble_eq_true rfl) rfl ?_
  refine w_L [.blk b (.cells ((backup_reader.C ({ x_ with e := x22.e } : backup_reader) v1 ++ q)).toArray T (0, 0)), .blk b4 (.cells (Key.C x21).toArray 55 (0, 0)), .blk b10 (.cells (backup_reader.C x22 v23).toArray 80 (0, 0))] rfl ?_
  refine w_nil (hK28 _ _ _ ?_)
  obtain rfl := some_r H
  exact c_ret fun a w' hf hs => hret _ (.inl rfl) a w' hf.df ⟨_, _, _, Res.of1 rfl ⟨_, hf.get _ _ rfl, run_loadA (hs.blk (i := 1) rfl) ta55 ts55 rfl rfl⟩, hs.sel [0] (by decide) rfl, ⟨_, rfl, h2, rfl⟩⟩
end Go.Cu
