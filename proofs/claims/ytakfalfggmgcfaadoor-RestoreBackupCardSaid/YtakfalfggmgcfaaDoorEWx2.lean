/- Each Go function comes to its pure function; condition: that one is defined there. -/
import Derived.Test.YtakfalfggmgcfaaDoorEWx1
import Derived.Test.YtakfalfggmgcfaaDoorK1
import Derived.Shelf.Strings.Repeat
import Derived.Shelf.Strings.OnBuilder
import Derived.Ground.NamesProg
import Derived.Lib.Agree
import Derived.Test.YtakfalfggmgcfaaDoorProg
import Derived.KernelRfl
set_option linter.unusedVariables false
set_option linter.unusedSimpArgs false
set_option maxHeartbeats 4000000
set_option maxRecDepth 20000
namespace Go.Cu
open Go.Proofs Go.Proofs.Tryd Go.Shelf
theorem ref27_ValidTable.calls {M : Heap} {w : World} (hM : Sub M w) (p0 : Table) (v1 : Value) (h2 : RS Key.F M v1 p0.Keys) (r : Bool) (H : ref27_ValidTable p0 = some r) :
  Calls Tryd.prog 24 [(.agg (Table.C p0 v1).toArray)].toArray w (Post M w fun M' v => v = (.bool r)) := by
 refine enter 55 [(0, (.agg (Table.C p0 v1).toArray))] Tryd.func24 rfl rfl rfl hM ?_
 intro Q hret
 unfold ref27_ValidTable at H
 refine c_sr fun _ hK3 => ?_
 refine w_boxM trivial rfl rfl rfl ?_
 intro b4 M5 l6 h7
 replace h2 := h2.mono l6
 refine va rfl rfl ?_
 refine w_nil (hK3 _ _ _ ?_)
 refine c_seq fun K8 hK8 => ?_
 obtain ⟨t9, H1, H⟩ := bnd H
 refine c_cut (fun a' w' => ∃ (M10 : Heap), HLe M5 M10 ∧ Fr 55 [(1, (ptr b4 0)), (16, (.bool t9))] a' ∧ St none' M w M10 (lt []) w') ?_ ?_
 ·replace H := H1
  clear H1
  refine c_reg ?_
  refine v_fa fa44_1 rfl rfl ?_
  refine wv rfl (fun hf hs => r_load1 ta34 (hf.ev rfl) (hs.sub _ _ h7) rfl) ?_
  refine wv rfl (fun hf hs => r_lenR Tryd.underlying34 h2 (hf.ev rfl)) ?_
  refine wv rfl (fun hf hs => r_gtr (hf.ev rfl) (hf.ev rfl)) ?_
  refine vm rfl rfl ?_
  by_cases b12 : (decide ((4096 : Int) < (p0.Keys.length : Int))) = true
  ·replace H := if_t b12 H
   refine wq b12 rfl rfl rfl ?_
   refine wq b12 rfl rfl rfl ?_
   refine wq b12 rfl rfl rfl ?_
   refine wq b12 rfl rfl rfl ?_
   refine wv rfl (fun hf hs => r_pickT (hf.ev rfl) b12 (hf.ev rfl)) ?_
   obtain rfl := some_r H
   exact w_nil fun a w' hf hs => ⟨_, (HLe.refl _), (hf.pick (pk (pk pk0 rfl) rfl)), hs.sel [] (by decide) rfl⟩
  replace b12 := Bool.eq_false_iff.2 b12
  replace H := if_f b12 H
  refine wg b12 rfl rfl rfl (fun hf hs => r_fa fa44_0 (hf.ev rfl)) ?_
  refine wg b12 rfl rfl rfl (fun hf hs => r_load1 ta3 (hf.ev rfl) (hs.sub _ _ h7) rfl) ?_
  obtain ⟨t13, e18, H⟩ := bnd H
  refine w_call cf56 (Wnt.of rfl rfl b12) rfl rfl (fun w hs => ref27_within.calls hs p0.Next (1 : Int) (2147483647 : Int) _ e18) ?_
  rintro _ M15 l16 rfl
  replace h2 := h2.mono l16
  replace h7 := l16 _ _ h7
  refine wg b12 rfl rfl rfl (fun hf hs => r_not (hf.ev rfl)) ?_
  refine wv rfl (fun hf hs => r_pickF (hf.ev rfl) b12 (hf.ev rfl)) ?_
  obtain rfl := some_r H
  exact w_nil fun a w' hf hs => ⟨_, l16, (hf.pick (pk (pk pk0 rfl) rfl)), hs.sel [] (by decide) rfl⟩
 clear H1
 rintro a w' ⟨M10, l11, hf, hs⟩
 refine c_of (c := (Cx.mk Tryd.prog 55 none' M w)) ?_ hf hs
 clear hf hs
 replace h2 := h2.mono l11
 replace h7 := l11 _ _ h7
 refine c_if rfl (fun b19 => ?_) (fun b19 => ?_)
 ·replace H := if_t b19 H
  refine c_sr fun _ hK20 => ?_
  refine va rfl rfl ?_
  refine w_nil (hK20 _ _ _ ?_)
  obtain rfl := some_r H
  exact c_ret fun a w' hf hs => hret _ (.inl rfl) a w' hf.df ⟨_, _, Res.of1 rfl (RV.t hf rfl), hs.ext, rfl⟩
 replace H := if_f b19 H
 refine c_skip (hK8 _ _ _ ?_)
 refine c_sr fun _ hK21 => ?_
 refine va rfl rfl ?_
 refine w_nil (hK21 _ _ _ ?_)
 refine c_cut (fun a' w' => ∃ (M22 : Heap), HLe M10 M22 ∧ Fr 55 [] a' ∧ St none' M w M22 (lt []) w' ∧ ref27_ValidTable.j1  = some r) ?_ ?_
 ·refine c_seq ?_
  intro K25 hK25
  refine c_reg ?_
  refine va rfl rfl ?_
  refine w_nil (hK25 _ _ _ ?_)
  refine c_block ?_
  refine c_loop (fun (s26 : (Int × Int)) a' w' => ∃ (M27 : Heap), HLe M10 M27 ∧ Fr 55 [(1, (ptr b4 0)), (3, (.int .i64 s26.1)), (4, (.int .i64 s26.2))] a' ∧ St none' M w M27 (lt []) w') ((0 : Int), (0 : Int)) H ?_ ?_
  ·intro a w' hf hs
   exact ⟨_, HLe.refl _, (hf.pick (pk (pk (pk pk0 rfl) rfl) rfl)), hs.selD [] (by decide) rfl⟩
  clear H
  intro s26 y30 H r29 a w' hJ
  obtain ⟨M27, l28, hf, hs⟩ := hJ
  refine c_of (c := (Cx.mk Tryd.prog 55 none' M w)) ?_ hf hs
  unfold ref27_ValidTable.l2 at H
  clear hf hs
  replace h2 := h2.mono l28
  replace h7 := l28 _ _ h7
  refine c_seq fun K31 hK31 => ?_
  refine c_sr fun _ hK32 => ?_
  refine vm rfl rfl ?_
  refine v_fa fa44_1 rfl rfl ?_
  refine wv rfl (fun hf hs => r_load1 ta34 (hf.ev rfl) (hs.sub _ _ h7) rfl) ?_
  refine wv rfl (fun hf hs => r_lenR Tryd.underlying34 h2 (hf.ev rfl)) ?_
  refine v_lss rfl rfl rfl ?_
  refine w_nil (hK32 _ _ _ ?_)
  refine c_if rfl (fun b33 => ?_) (fun b33 => ?_)
  ·replace H := if_t b33 H
   refine c_skip (hK31 _ _ _ ?_)
   refine c_seq fun K34 hK34 => ?_
   refine c_block ?_
   refine c_sr fun _ hK35 => ?_
   refine v_fa fa44_1 rfl rfl ?_
   refine wv rfl (fun hf hs => r_load1 ta34 (hf.ev rfl) (hs.sub _ _ h7) rfl) ?_
   refine vm rfl rfl ?_
   obtain ⟨g36, H⟩ := grd_s H
   refine wv rfl (fun hf hs => r_iR Tryd.underlying34 ts55 h2 (hf.ev rfl) (hf.ev rfl) g36.1 g36.2) ?_
   refine wv rfl (fun hf hs => r_loadEA ta55 ts55 h2 hs.sub g36.1 g36.2 (hf.ev rfl) rfl rfl) ?_
   refine w_allocL (A := Key.C (⟨0, 0, [], 0, 0, 0, 0, 0, false⟩ : Key)) tz55 trivial rfl rfl ?_
   intro b37
   refine w_store (i := 0) (vs := Key.C (rd p0.Keys s26.2)) (A' := Key.C (rd p0.Keys s26.2)) trivial rfl rfl rfl rfl ts55 rfl (Key.F_one _) (Nat.le_of_ble_eq_true rfl) rfl ?_
   refine w_nil (hK35 _ _ _ ?_)
   refine c_sr fun _ hK38 => ?_
   refine wv rfl (fun hf hs => r_loadA ta55 ts55 (hf.ev rfl) (hs.blk (i := 0) rfl) rfl rfl) ?_
   obtain ⟨t39, e44, H⟩ := bnd H
   refine w_call cf57 trivial rfl rfl (fun w hs => ref27_Valid.calls hs (rd p0.Keys s26.2) _ e44) ?_
   rintro _ M41 l42 rfl
   replace h7 := l42 _ _ h7
   refine va rfl rfl ?_
   refine w_nil (hK38 _ _ _ ?_)
   refine c_seq fun K45 hK45 => ?_
   obtain ⟨t46, H1, H⟩ := bnd H
   refine c_cut (fun a' w' => ∃ (M47 : Heap), HLe M41 M47 ∧ Fr 55 [(1, (ptr b4 0)), (4, (.int .i64 s26.2)), (5, (ptr b37 0)), (52, (.bool t46))] a' ∧ St none' M w M47 (lt [.blk b37 (.cells (Key.C (rd p0.Keys s26.2)).toArray 55 (0, 0))]) w') ?_ ?_
   ·replace H := H1
    clear H1
    refine c_reg ?_
    refine vm rfl rfl ?_
    refine wv rfl (fun hf hs => r_not (hf.ev rfl)) ?_
    refine vm rfl rfl ?_
    by_cases b49 : (!t39) = true
    ·replace H := if_t b49 H
     refine wq b49 rfl rfl rfl ?_
     refine wq b49 rfl rfl rfl ?_
     refine wq b49 rfl rfl rfl ?_
     refine wq b49 rfl rfl rfl ?_
     refine wv rfl (fun hf hs => r_pickT (hf.ev rfl) b49 (hf.ev rfl)) ?_
     refine vm rfl rfl ?_
     refine wq rfl rfl rfl rfl ?_
     refine wq rfl rfl rfl rfl ?_
     refine wq rfl rfl rfl rfl ?_
     refine wq rfl rfl rfl rfl ?_
     refine wq rfl rfl rfl rfl ?_
     refine wv rfl (fun hf hs => r_pickT (hf.ev rfl) rfl (hf.ev rfl)) ?_
     refine vm rfl rfl ?_
     refine wq rfl rfl rfl rfl ?_
     refine wq rfl rfl rfl rfl ?_
     refine wq rfl rfl rfl rfl ?_
     refine wq rfl rfl rfl rfl ?_
     refine wq rfl rfl rfl rfl ?_
     refine wv rfl (fun hf hs => r_pickT (hf.ev rfl) rfl (hf.ev rfl)) ?_
     obtain rfl := some_r H
     exact w_nil fun a w' hf hs => ⟨_, (HLe.refl _), (hf.pick (pk (pk (pk (pk pk0 rfl) rfl) rfl) rfl)), hs.sel [0] (by decide) rfl⟩
    replace b49 := Bool.eq_false_iff.2 b49
    replace H := if_f b49 H
    refine wg b49 rfl rfl rfl (fun hf hs => r_fa fa55_0 (hf.ev rfl)) ?_
    refine wg b49 rfl rfl rfl (fun hf hs => r_load1 ta3 (hf.ev rfl) (hs.blk (i := 0) rfl) rfl) ?_
    refine wg b49 rfl rfl rfl (fun hf hs => r_move (hf.ev rfl)) ?_
    refine wg b49 rfl rfl rfl (fun hf hs => r_leq (hf.ev rfl) (hf.ev rfl)) ?_
    refine wv rfl (fun hf hs => r_pickF (hf.ev rfl) b49 (hf.ev rfl)) ?_
    refine vm rfl rfl ?_
    by_cases b50 : (decide (((rd p0.Keys s26.2).Id) ≤ s26.1)) = true
    ·replace H := if_t b50 H
     refine wq b50 rfl rfl rfl ?_
     refine wq b50 rfl rfl rfl ?_
     refine wq b50 rfl rfl rfl ?_
     refine wq b50 rfl rfl rfl ?_
     refine wq b50 rfl rfl rfl ?_
     refine wv rfl (fun hf hs => r_pickT (hf.ev rfl) b50 (hf.ev rfl)) ?_
     refine vm rfl rfl ?_
     refine wq rfl rfl rfl rfl ?_
     refine wq rfl rfl rfl rfl ?_
     refine wq rfl rfl rfl rfl ?_
     refine wq rfl rfl rfl rfl ?_
     refine wq rfl rfl rfl rfl ?_
     refine wv rfl (fun hf hs => r_pickT (hf.ev rfl) rfl (hf.ev rfl)) ?_
     obtain rfl := some_r H
     exact w_nil fun a w' hf hs => ⟨_, (HLe.refl _), (hf.pick (pk (pk (pk (pk pk0 rfl) rfl) rfl) rfl)), hs.sel [0] (by decide) rfl⟩
    replace b50 := Bool.eq_false_iff.2 b50
    replace H := if_f b50 H
    refine wg b50 rfl rfl rfl (fun hf hs => r_fa fa55_0 (hf.ev rfl)) ?_
    refine wg b50 rfl rfl rfl (fun hf hs => r_load1 ta3 (hf.ev rfl) (hs.blk (i := 0) rfl) rfl) ?_
    refine wg b50 rfl rfl rfl (fun hf hs => r_fa fa44_0 (hf.ev rfl)) ?_
    refine wg b50 rfl rfl rfl (fun hf hs => r_load1 ta3 (hf.ev rfl) (hs.sub _ _ h7) rfl) ?_
    refine wg b50 rfl rfl rfl (fun hf hs => r_geq (hf.ev rfl) (hf.ev rfl)) ?_
    refine wv rfl (fun hf hs => r_pickF (hf.ev rfl) b50 (hf.ev rfl)) ?_
    refine vm rfl rfl ?_
    by_cases b51 : (decide (p0.Next ≤ ((rd p0.Keys s26.2).Id))) = true
    ·replace H := if_t b51 H
     refine wq b51 rfl rfl rfl ?_
     refine wq b51 rfl rfl rfl ?_
     refine wq b51 rfl rfl rfl ?_
     refine wq b51 rfl rfl rfl ?_
     refine wq b51 rfl rfl rfl ?_
     refine wv rfl (fun hf hs => r_pickT (hf.ev rfl) b51 (hf.ev rfl)) ?_
     obtain rfl := some_r H
     exact w_nil fun a w' hf hs => ⟨_, (HLe.refl _), (hf.pick (pk (pk (pk (pk pk0 rfl) rfl) rfl) rfl)), hs.sel [0] (by decide) rfl⟩
    replace b51 := Bool.eq_false_iff.2 b51
    replace H := if_f b51 H
    refine wg b51 rfl rfl rfl (fun hf hs => r_fa fa55_7 (hf.ev rfl)) ?_
    refine wg b51 rfl rfl rfl (fun hf hs => r_load1 ta3 (hf.ev rfl) (hs.blk (i := 0) rfl) rfl) ?_
    refine wg b51 rfl rfl rfl (fun hf hs => r_fa fa44_0 (hf.ev rfl)) ?_
    refine wg b51 rfl rfl rfl (fun hf hs => r_load1 ta3 (hf.ev rfl) (hs.sub _ _ h7) rfl) ?_
    refine wg b51 rfl rfl rfl (fun hf hs => r_geq (hf.ev rfl) (hf.ev rfl)) ?_
    refine wv rfl (fun hf hs => r_pickF (hf.ev rfl) b51 (hf.ev rfl)) ?_
    obtain rfl := some_r H
    exact w_nil fun a w' hf hs => ⟨_, (HLe.refl _), (hf.pick (pk (pk (pk (pk pk0 rfl) rfl) rfl) rfl)), hs.sel [0] (by decide) rfl⟩
   clear H1
   rintro a w' ⟨M47, l48, hf, hs⟩
   refine c_of (c := (Cx.mk Tryd.prog 55 none' M w)) ?_ hf hs
   clear hf hs
   refine c_if rfl (fun b52 => ?_) (fun b52 => ?_)
   ·replace H := if_t b52 H
    refine c_sr fun _ hK53 => ?_
    refine va rfl rfl ?_
    refine w_nil (hK53 _ _ _ ?_)
    obtain rfl := (r29 _ (Option.some.inj H).symm)
    exact c_ret fun a w' hf hs => hret _ (.inl rfl) a w' hf.df ⟨_, _, Res.of1 rfl (RV.t hf rfl), hs.ext, rfl⟩
   replace H := if_f b52 H
   refine c_skip (hK45 _ _ _ ?_)
   refine c_reg ?_
   refine v_fa fa55_0 rfl rfl ?_
   refine wv rfl (fun hf hs => r_load1 ta3 (hf.ev rfl) (hs.blk (i := 0) rfl) rfl) ?_
   refine va rfl rfl ?_
   refine w_nil (hK34 _ _ _ ?_)
   refine c_reg ?_
   refine vm rfl rfl ?_
   refine v_add rfl rfl rfl ?_
   refine va rfl rfl ?_
   exact w_nil fun a w' hf hs => ⟨_, (some_r H).symm, _, l28.trans (l42.trans l48), (hf.pick (pk (pk (pk pk0 rfl) rfl) rfl)), hs.selD [] (by decide) rfl⟩
  replace H := if_f b33 H
  replace H := map_inr H r29
  refine c_exit ?_
  intro a w' hf hs
  exact ⟨_, l28, hf.nil, hs.selD [] (by decide) rfl, H⟩
 rintro a w' ⟨M22, l23, hf, hs, H⟩
 refine c_of (c := (Cx.mk Tryd.prog 55 none' M w)) ?_ hf hs
 unfold ref27_ValidTable.j1 at H
 clear hf hs
 refine c_sr fun _ hK24 => ?_
 refine va rfl rfl ?_
 refine w_nil (hK24 _ _ _ ?_)
 obtain rfl := some_r H
 exact c_ret fun a w' hf hs => hret _ (.inl rfl) a w' hf.df ⟨_, _, Res.of1 rfl (RV.t hf rfl), hs.ext, rfl⟩
theorem law37_few.calls {M : Heap} {w : World} (hM : Sub M w) (p0 : Table) (v1 : Value) (h2 : RS Key.F M v1 p0.Keys) (p1 : Backup) (v3 : Value) (h4 : RS Key.F M v3 p1.Keys) (r : Bool) (H : law37_few p0 p1 = some r) :
  Calls Tryd.prog 28 [(.agg (Table.C p0 v1).toArray), (.agg (Backup.C p1 v3).toArray)].toArray w (Post M w fun M' v => v = (.bool r)) := by
 refine enter 21 [(0, (.agg (Table.C p0 v1).toArray)), (1, (.agg (Backup.C p1 v3).toArray))] Tryd.func28 rfl rfl rfl hM ?_
 intro Q hret
 unfold law37_few at H
 refine c_sr fun _ hK5 => ?_
 refine w_boxM trivial rfl rfl rfl ?_
 intro b6 M7 l8 h9
 replace h2 := h2.mono l8
 replace h4 := h4.mono l8
 refine w_boxM trivial rfl rfl rfl ?_
 intro b10 M11 l12 h13
 replace h2 := h2.mono l12
 replace h4 := h4.mono l12
 replace h9 := l12 _ _ h9
 refine va rfl rfl ?_
 refine w_nil (hK5 _ _ _ ?_)
 obtain ⟨t14, H1, H⟩ := bnd H
 refine c_cut (fun a' w' => ∃ (M15 : Heap), HLe M11 M15 ∧ Fr 21 [(4, (.bool t14))] a' ∧ St none' M w M15 (lt []) w') ?_ ?_
 ·replace H := H1
  clear H1
  refine c_reg ?_
  refine v_fa fa44_1 rfl rfl ?_
  refine wv rfl (fun hf hs => r_load1 ta34 (hf.ev rfl) (hs.sub _ _ h9) rfl) ?_
  refine wv rfl (fun hf hs => r_lenR Tryd.underlying34 h2 (hf.ev rfl)) ?_
  refine wv rfl (fun hf hs => r_leq (hf.ev rfl) (hf.ev rfl)) ?_
  refine vm rfl rfl ?_
  by_cases b17 : (decide ((p0.Keys.length : Int) ≤ (40 : Int))) = true
  ·replace H := if_t b17 H
   refine wg b17 rfl rfl rfl (fun hf hs => r_fa fa36_7 (hf.ev rfl)) ?_
   refine wg b17 rfl rfl rfl (fun hf hs => r_load1 ta34 (hf.ev rfl) (hs.sub _ _ h13) (Backup.g37 _ _)) ?_
   refine wg b17 rfl rfl rfl (fun hf hs => r_lenR Tryd.underlying34 h4 (hf.ev rfl)) ?_
   refine wg b17 rfl rfl rfl (fun hf hs => r_leq (hf.ev rfl) (hf.ev rfl)) ?_
   refine wv rfl (fun hf hs => r_pickT (hf.ev rfl) b17 (hf.ev rfl)) ?_
   refine vm rfl rfl ?_
   by_cases b18 : (decide ((p1.Keys.length : Int) ≤ (40 : Int))) = true
   ·replace H := if_t b18 H
    refine wg b18 rfl rfl rfl (fun hf hs => r_fa fa36_6 (hf.ev rfl)) ?_
    refine wg b18 rfl rfl rfl (fun hf hs => r_load1 ta9 (hf.ev rfl) (hs.sub _ _ h13) (Backup.g36 _ _)) ?_
    refine wg b18 rfl rfl rfl (fun hf hs => r_slen Tryd.underlying9 (hf.ev rfl)) ?_
    refine wg b18 rfl rfl rfl (fun hf hs => r_leq (hf.ev rfl) (hf.ev rfl)) ?_
    refine wv rfl (fun hf hs => r_pickT (hf.ev rfl) b18 (hf.ev rfl)) ?_
    refine va rfl rfl ?_
    obtain rfl := some_r H
    exact w_nil fun a w' hf hs => ⟨_, (HLe.refl _), (hf.pick (pk pk0 rfl)), hs.sel [] (by decide) rfl⟩
   replace b18 := Bool.eq_false_iff.2 b18
   replace H := if_f b18 H
   refine wq b18 rfl rfl rfl ?_
   refine wq b18 rfl rfl rfl ?_
   refine wq b18 rfl rfl rfl ?_
   refine wq b18 rfl rfl rfl ?_
   refine wv rfl (fun hf hs => r_pickF (hf.ev rfl) b18 (hf.ev rfl)) ?_
   refine va rfl rfl ?_
   obtain rfl := some_r H
   exact w_nil fun a w' hf hs => ⟨_, (HLe.refl _), (hf.pick (pk pk0 rfl)), hs.sel [] (by decide) rfl⟩
  replace b17 := Bool.eq_false_iff.2 b17
  replace H := if_f b17 H
  refine wq b17 rfl rfl rfl ?_
  refine wq b17 rfl rfl rfl ?_
  refine wq b17 rfl rfl rfl ?_
  refine wq b17 rfl rfl rfl ?_
  refine wv rfl (fun hf hs => r_pickF (hf.ev rfl) b17 (hf.ev rfl)) ?_
  refine vm rfl rfl ?_
  refine wq rfl rfl rfl rfl ?_
  refine wq rfl rfl rfl rfl ?_
  refine wq rfl rfl rfl rfl ?_
  refine wq rfl rfl rfl rfl ?_
  refine wv rfl (fun hf hs => r_pickF (hf.ev rfl) rfl (hf.ev rfl)) ?_
  refine va rfl rfl ?_
  obtain rfl := some_r H
  exact w_nil fun a w' hf hs => ⟨_, (HLe.refl _), (hf.pick (pk pk0 rfl)), hs.sel [] (by decide) rfl⟩
 clear H1
 rintro a w' ⟨M15, l16, hf, hs⟩
 refine c_of (c := (Cx.mk Tryd.prog 21 none' M w)) ?_ hf hs
 clear hf hs
 obtain rfl := some_r H
 exact c_ret fun a w' hf hs => hret _ (.inl rfl) a w' hf.df ⟨_, _, Res.of1 rfl (RV.t hf rfl), hs.ext, rfl⟩
theorem extraRepeat : Builder.Extra Tryd.prog Tryd.laysRepeat_ren := {
 sizeBuilder := by kernel_rfl
 liesBuilder := by kernel_rfl
 t5 := Tryd.laysRepeat.t5
 a5 := Tryd.laysRepeat.a5
 z5 := Tryd.laysRepeat.z5
 v5 := Tryd.laysRepeat.v5
 infoByte := by kernel_rfl
 cellsByte := by kernel_rfl
 sizeByte := by kernel_rfl
 neB5 := by decide }
theorem fRepeat : Tryd.laysRepeat_ren.f 105 = 35 := by kernel_rfl
theorem strings_Repeat.calls {M : Heap} {w : World} (hM : Sub M w) (p0 : List UInt8) (p1 : Int) (r : List UInt8) (H : strings_Repeat p0 p1 = some r) :
  Calls Tryd.prog 35 [(str p0), (.int .i64 p1)].toArray w (Post M w fun M' v => v = (str r)) := by
 unfold strings_Repeat at H
 obtain ⟨g, H⟩ := grd_s H
 obtain rfl := some_r H
 obtain ⟨c, rfl⟩ := Int.eq_ofNat_of_zero_le g.1
 have h := Go.Proofs.Any.strings_Repeat Tryd.laysRepeat extraRepeat ⟨p0.toArray⟩ c w (by have := g.2.1; omega) (by show p0.toArray.size * c ≤ _; simpa using g.2.2)
 rw [fRepeat] at h
 refine Calls.mono h ?_
 rintro e w' ⟨rfl, hb⟩
 exact ⟨_, M, rfl, ext_below hM hb, by rw [repL_eq]; rfl⟩
theorem slices_Clone_Key.calls {M : Heap} {w : World} (hM : Sub M w) (p0 : (List Key)) (v1 : Value) (h2 : RS Key.F M v1 p0) (r : (List Key)) (H : slices_Clone_Key p0 = some r) :
  Calls Tryd.prog 64 [v1].toArray w (Post M w fun M' v => ∃ v13, v = v13 ∧ RS Key.F M' v13 r) := by
 rcases h2 with ⟨rfl, rfl⟩ | h2
 ·have h2 : RS Key.F M (.slice none 0 0) [] := RS.none
  have H : some ([] : (List Key)) = some r := by
   unfold slices_Clone_Key at H
   obtain ⟨_, H⟩ := grd_s H
   exact H
  refine enter 8 [(0, (.slice none 0 0))] Tryd.func64 rfl rfl rfl hM ?_
  intro Q hret
  refine c_sr fun _ hK3 => ?_
  refine va rfl rfl ?_
  refine w_nil (hK3 _ _ _ ?_)
  refine c_seq fun K4 hK4 => ?_
  refine c_sr fun _ hK5 => ?_
  refine vm rfl rfl ?_
  refine wv rfl (fun hf hs => r_nilT Tryd.underlying34 (hf.ev rfl) (hf.ev rfl)) ?_
  refine w_nil (hK5 _ _ _ ?_)
  refine c_if rfl (fun hb => ?_) (fun hb => absurd (hb.symm.trans rfl) (by decide))
  refine c_sr fun _ hK6 => ?_
  refine va rfl rfl ?_
  refine w_nil (hK6 _ _ _ ?_)
  obtain rfl := some_r H
  exact c_ret fun a w' hf hs => hret _ (.inl rfl) a w' hf.df ⟨_, _, Res.of1 rfl (RV.t hf rfl), hs.ext, ⟨_, rfl, RS.none⟩⟩
 ·have hne : ∃ b n c, v1 = .slice (some b) n c := by obtain ⟨b, cp, _, _, _, _, e, _⟩ := h2; exact ⟨_, _, _, e⟩
  replace h2 : RS Key.F M v1 p0 := .inr h2
  refine enter 8 [(0, v1)] Tryd.func64 rfl rfl rfl hM ?_
  intro Q hret
  unfold slices_Clone_Key at H
  refine c_sr fun _ hK3 => ?_
  refine va rfl rfl ?_
  refine w_nil (hK3 _ _ _ ?_)
  refine c_seq fun K4 hK4 => ?_
  refine c_sr fun _ hK5 => ?_
  refine vm rfl rfl ?_
  refine wv rfl (fun hf hs => r_nilF Tryd.underlying34 (hf.ev rfl) (hf.ev rfl) hne) ?_
  refine w_nil (hK5 _ _ _ ?_)
  refine c_if rfl (fun hb => absurd (hb.symm.trans rfl) (by decide)) (fun hb => ?_)
  refine c_skip (hK4 _ _ _ ?_)
  refine c_sr fun _ hK6 => ?_
  refine w_bslW (F := Key.F) (es := ([] : List Key)) (xs := []) (vs := []) Tryd.underlying34 te55 trivial rfl rfl rfl rfl rfl (by decide) ?_
  intro v7
  refine vm rfl rfl ?_
  obtain ⟨g8, H⟩ := grd_s H
  refine w_app (F := Key.F) (m2 := p0) (i := 0) Tryd.underlying34 te55 Tryd.underlying34 (.inl ⟨_, rfl⟩) trivial rfl rfl rfl rfl (Src.rs Key.F_one h2) g8 ?_
  intro v9
  refine va rfl rfl ?_
  refine w_nil (hK6 _ _ _ ?_)
  obtain rfl := some_r H
  refine c_ret ?_
  refine n_give 0 rfl (fun _ h => h) ?_
  intro M10 l11 h12
  intro a w' hf hs
  exact hret _ (.inl rfl) a w' hf.df ⟨_, _, Res.of1 rfl (RV.t hf rfl), hs.ext, ⟨_, rfl, h12⟩⟩
theorem restore_Twin_1.calls {M : Heap} {w : World} (hM : Sub M w) (p0 : Key) (c0_ : Key) (cb0_ : Nat) (ch0_ : M cb0_ = some (.cells (Key.C c0_).toArray 55 (0, 0))) (r : Bool) (H : restore_Twin_1 p0 c0_ = some r) :
  Calls Tryd.prog 67 [(.agg (Key.C p0).toArray), (ptr cb0_ 0)].toArray w (Post M w fun M' v => v = (.bool r)) := by
 refine enter 13 [(0, (.agg (Key.C p0).toArray)), (1, (ptr cb0_ 0))] Tryd.func67 rfl rfl rfl hM ?_
 intro Q hret
 unfold restore_Twin_1 at H
 refine c_sr fun _ hK1 => ?_
 refine w_boxL trivial rfl rfl rfl ?_
 intro b2
 refine va rfl rfl ?_
 refine w_nil (hK1 _ _ _ ?_)
 refine c_seq fun K3 hK3 => ?_
 refine c_split2 6 (by kernel_rfl) (by kernel_rfl) (by kernel_rfl) (by kernel_rfl) rfl ?_
 intro K4 hK4
 refine d_drawW [[5]] [⟨[], [1], [], none⟩, ⟨[(0, 4)], [], [], none⟩, ⟨[], [1], [], none⟩, ⟨[(2, 6)], [], [], none⟩, ⟨[], [2], [], none⟩, ⟨[(4, 8), (1, 5)], [], [(0, 0)], some (0, 0)⟩] [vq (ptr cb0_ 0), vq (.int .i64 c0_.Id), vq (ptr cb0_ 7), vq (.int .i64 c0_.Parent), vq (ptr b2 0), fun _ _ => True] [[fun y M => y = .blk b2 (.cells (Key.C p0).toArray 55 (0, 0)), fun y M => y = .blk b2 (.cells (Key.C ({ p0 with Id := c0_.Id } : Key)).toArray 55 (0, 0))]] (by kernel_rfl) (by kernel_rfl) ?_ ?_ rfl ?_ (AllW.cons ?_ (AllW.cons ?_ (AllW.cons ?_ (AllW.cons ?_ (AllW.cons ?_ (AllW.cons ?_ AllW.nil)))))) ?_
 ·exact (mC (mC (mC (mC (mC (mC MonoA.nil))))))
 ·exact (MonoK.cons (mono_cons (fun _ _ _ _ h => h) (mono_cons (fun _ _ _ _ h => h) mono_nil)) MonoK.nil)
 ·exact (All0.cons rfl All0.nil)
 ·intro a w' _ _ l6 hL hd hs
  replace ch0_ := l6 _ _ ch0_
  obtain ⟨x0_, L0_, rfl, hL0⟩ := lenS hL
  obtain rfl := len0 hL0
  exact pw (hd.fr.add (hd.base 1 _ rfl rfl)) hs rfl (fun hf hs => r_fa fa55_0 (hf.ev rfl)) rfl rfl
 ·intro a w' _ _ l8 hL hd hs
  replace ch0_ := l8 _ _ ch0_
  obtain ⟨x0_, L0_, rfl, hL0⟩ := lenS hL
  obtain rfl := len0 hL0
  exact pw (hd.fr.add (hd.val 0 4 _ rfl rfl)) hs rfl (fun hf hs => r_load1 ta3 (hf.ev rfl) (hs.sub _ _ ch0_) rfl) rfl rfl
 ·intro a w' _ _ l11 hL hd hs
  replace ch0_ := l11 _ _ ch0_
  obtain ⟨x0_, L0_, rfl, hL0⟩ := lenS hL
  obtain rfl := len0 hL0
  exact pw (hd.fr.add (hd.base 1 _ rfl rfl)) hs rfl (fun hf hs => r_fa fa55_7 (hf.ev rfl)) rfl rfl
 ·intro a w' _ _ l13 hL hd hs
  replace ch0_ := l13 _ _ ch0_
  obtain ⟨x0_, L0_, rfl, hL0⟩ := lenS hL
  obtain rfl := len0 hL0
  exact pw (hd.fr.add (hd.val 2 6 _ rfl rfl)) hs rfl (fun hf hs => r_load1 ta3 (hf.ev rfl) (hs.sub _ _ ch0_) rfl) rfl rfl
 ·intro a w' _ _ _ hL hd hs
  obtain ⟨x0_, L0_, rfl, hL0⟩ := lenS hL
  obtain rfl := len0 hL0
  exact pw (hd.fr.add (hd.base 2 _ rfl rfl)) hs rfl (fun hf hs => r_fa fa55_0 (hf.ev rfl)) rfl rfl
 ·intro a w' _ _ _ hL hd hs
  have e19 := hd.val 4 8 _ rfl rfl
  have e20 := hd.val 1 5 _ rfl rfl
  obtain ⟨x0_, L0_, rfl, hL0⟩ := lenS hL
  obtain rfl := len0 hL0
  obtain ⟨_, ⟨⟩, rfl⟩ := hd.item 0 0 _ rfl rfl
  refine OP.ofW (l := [(8, (ptr b2 0)), (5, (.int .i64 c0_.Id))]) ((hd.fr.add e20).add e19) hs rfl ?_
  refine w_store (i := 0) (vs := [(.int .i64 c0_.Id)]) (A' := Key.C ({ p0 with Id := c0_.Id } : Key)) trivial rfl rfl rfl rfl ts3 rfl (one1 rfl) (Nat.le_of_ble_eq_true rfl) rfl ?_
  exact w_nil fun a w' hf hs => ⟨rfl, hf.df, _, _, (HLe.refl _), hs, trivial, ⟨.blk b2 (.cells (Key.C ({ p0 with Id := c0_.Id } : Key)).toArray 55 (0, 0)), rfl, of_some (q := fun y M => y = .blk b2 (.cells (Key.C ({ p0 with Id := c0_.Id } : Key)).toArray 55 (0, 0))) rfl⟩⟩
 intro a w' M21 L_ l22 hL hdf hsz hb hv hi hs
 replace ch0_ := l22 _ _ ch0_
 have e23 := hv 3 7 _ rfl rfl
 obtain ⟨x0_, L0_, rfl, hL0⟩ := lenS hL
 obtain rfl := len0 hL0
 obtain ⟨_, hy, rfl⟩ := hi 0 _ rfl
 obtain rfl := Option.some.inj hy
 clear hi hy
 refine n_of (c := (Cx.mk Tryd.prog 13 none' M w)) (l := [(1, (ptr cb0_ 0)), (2, (ptr b2 0)), (7, (.int .i64 c0_.Parent))]) ?_ ((((Fr.start hdf hsz).add e23).add (hb 2 _ rfl rfl)).add (hb 1 _ rfl rfl)) hs
 clear hdf hsz hb hv hs e23
 refine n_id (hK4 _ _ _ ?_)
 refine v_fa fa55_7 rfl rfl ?_
 refine w_store (i := 0) (vs := [(.int .i64 c0_.Parent)]) (A' := Key.C ({ ({ p0 with Id := c0_.Id } : Key) with Parent := c0_.Parent } : Key)) trivial rfl rfl rfl rfl ts3 rfl (one1 rfl) (Nat.le_of_ble_eq_true rfl) rfl ?_
 refine w_nil (hK3 _ _ _ ?_)
 refine c_sr fun _ hK24 => ?_
 refine wv rfl (fun hf hs => r_loadA ta55 ts55 (hf.ev rfl) (hs.blk (i := 0) rfl) rfl rfl) ?_
 refine wv rfl (fun hf hs => r_loadA ta55 ts55 (hf.ev rfl) (hs.sub _ _ ch0_) rfl rfl) ?_
 refine wv rfl (fun hf hs => r_eqS eq55 (hf.ev rfl) (hf.ev rfl)) ?_
 refine va rfl rfl ?_
 refine w_nil (hK24 _ _ _ ?_)
 obtain rfl := some_r H
 exact c_ret fun a w' hf hs => hret _ (.inl rfl) a w' hf.df ⟨_, _, Res.of1 rfl (RV.t hf rfl), hs.ext, rfl⟩
theorem restore_Twin.calls {M : Heap} {w : World} (hM : Sub M w) (p0 : Table) (v1 : Value) (h2 : RS Key.F M v1 p0.Keys) (p1 : Key) (r : (Int × Bool)) (H : restore_Twin p0 p1 = some r) :
  Calls Tryd.prog 32 [(.agg (Table.C p0 v1).toArray), (.agg (Key.C p1).toArray)].toArray w (Post M w fun M' v => v = .tuple #[(.int .i64 r.1), (.bool r.2)]) := by
 refine enter 19 [(0, (.agg (Table.C p0 v1).toArray)), (1, (.agg (Key.C p1).toArray))] Tryd.func32 rfl rfl rfl hM ?_
 intro Q hret
 unfold restore_Twin at H
 refine c_sr fun _ hK3 => ?_
 refine w_boxM trivial rfl rfl rfl ?_
 intro b4 M5 l6 h7
 replace h2 := h2.mono l6
 refine w_boxM trivial rfl rfl rfl ?_
 intro b8 M9 l10 h11
 replace h2 := h2.mono l10
 replace h7 := l10 _ _ h7
 refine va rfl rfl ?_
 refine va rfl rfl ?_
 refine w_nil (hK3 _ _ _ ?_)
 refine c_sr fun _ hK12 => ?_
 refine v_fa fa44_1 rfl rfl ?_
 refine wv rfl (fun hf hs => r_load1 ta34 (hf.ev rfl) (hs.sub _ _ h7) rfl) ?_
 refine wv rfl (fun hf hs => r_makeFunc (hf.evs rfl)) ?_
 obtain ⟨t13, e18, H⟩ := bnd H
 refine w_call cf66 trivial rfl rfl (fun w hs => slices_IndexFunc_Key.calls hs p0.Keys v1 h2 (fun x => restore_Twin_1 x p1) (.func (.func 67) #[] #[(ptr b8 0)]) (FnS.of cf67 fun M' w x r hM hs hp => Calls.mono (restore_Twin_1.calls hs x p1 b8 (hM _ _ h11) _ hp) fun e w' q => q) _ e18) ?_
 rintro _ M15 l16 rfl
 replace h2 := h2.mono l16
 replace h7 := l16 _ _ h7
 refine va rfl rfl ?_
 refine w_nil (hK12 _ _ _ ?_)
 refine c_seq fun K19 hK19 => ?_
 refine c_sr fun _ hK20 => ?_
 refine vm rfl rfl ?_
 refine v_lss rfl rfl rfl ?_
 refine w_nil (hK20 _ _ _ ?_)
 refine c_if rfl (fun b21 => ?_) (fun b21 => ?_)
 ·replace H := if_t b21 H
  refine c_sr fun _ hK22 => ?_
  refine va rfl rfl ?_
  refine va rfl rfl ?_
  refine w_nil (hK22 _ _ _ ?_)
  obtain rfl := some_r H
  exact c_ret fun a w' hf hs => hret _ (.inl rfl) a w' hf.df ⟨_, _, Res.of2 rfl (RV.t hf rfl) (RV.t hf rfl), hs.ext, rfl⟩
 replace H := if_f b21 H
 refine c_skip (hK19 _ _ _ ?_)
 refine c_sr fun _ hK23 => ?_
 refine v_fa fa44_1 rfl rfl ?_
 refine wv rfl (fun hf hs => r_load1 ta34 (hf.ev rfl) (hs.sub _ _ h7) rfl) ?_
 refine vm rfl rfl ?_
 obtain ⟨g24, H⟩ := grd_s H
 refine wv rfl (fun hf hs => r_iR Tryd.underlying34 ts55 h2 (hf.ev rfl) (hf.ev rfl) g24.1 g24.2) ?_
 refine wv rfl (fun hf hs => r_faE fa55_0 h2 g24.1 g24.2 (hf.ev rfl)) ?_
 refine wv rfl (fun hf hs => r_loadE1 ta3 h2 hs.sub g24.1 g24.2 (hf.ev rfl) rfl) ?_
 refine va rfl rfl ?_
 refine va rfl rfl ?_
 refine w_nil (hK23 _ _ _ ?_)
 obtain rfl := some_r H
 exact c_ret fun a w' hf hs => hret _ (.inl rfl) a w' hf.df ⟨_, _, Res.of2 rfl (RV.t hf rfl) (RV.t hf rfl), hs.ext, rfl⟩
theorem slices_Clip_Key.calls {M : Heap} {w : World} (hM : Sub M w) (p0 : (List Key)) (v1 : Value) (h2 : RS Key.F M v1 p0) (r : (List Key)) (H : slices_Clip_Key p0 = some r) :
  Calls Tryd.prog 108 [v1].toArray w (Post M w fun M' v => ∃ v8, v = v8 ∧ RS Key.F M' v8 r ∧ ∃ A, v8 = .slice A r.length r.length) := by
 refine enter 9 [(0, v1)] Tryd.func108 rfl rfl rfl hM ?_
 intro Q hret
 unfold slices_Clip_Key at H
 refine c_sr fun _ hK3 => ?_
 refine va rfl rfl ?_
 refine w_nil (hK3 _ _ _ ?_)
 refine c_sr fun _ hK4 => ?_
 refine vm rfl rfl ?_
 refine vm rfl rfl ?_
 refine wv rfl (fun hf hs => r_lenR Tryd.underlying34 h2 (hf.ev rfl)) ?_
 refine vm rfl rfl ?_
 refine wv rfl (fun hf hs => r_lenR Tryd.underlying34 h2 (hf.ev rfl)) ?_
 refine w_ex (Φ := fun v => RS Key.F M v p0 ∧ ∃ A, v = .slice A p0.length p0.length) trivial rfl (fun a w hf hs => r_clipR Tryd.underlying34 ts55 (hf.ev rfl) h2 (hf.ev rfl) (hf.ev rfl)) ?_
 rintro v5 ⟨h6, c7⟩
 refine va rfl rfl ?_
 refine w_nil (hK4 _ _ _ ?_)
 obtain rfl := some_r H
 exact c_ret fun a w' hf hs => hret _ (.inl rfl) a w' hf.df ⟨_, _, Res.of1 rfl (RV.t hf rfl), hs.ext, ⟨_, rfl, h6, c7⟩⟩
theorem keys_Add.calls {M : Heap} {w : World} (hM : Sub M w) (p0 : Table) (v1 : Value) (h2 : RS Key.F M v1 p0.Keys) (p1 : Key) (r : (Table × Int × Int)) (H : keys_Add p0 p1 = some r) :
  Calls Tryd.prog 65 [(.agg (Table.C p0 v1).toArray), (.agg (Key.C p1).toArray)].toArray w (Post M w fun M' v => ∃ v106, v = .tuple #[(.agg (Table.C r.1 v106).toArray), (.int .i64 r.2.1), (.int .i64 r.2.2)] ∧ RS Key.F M' v106 r.1.Keys) := by
 refine enter 45 [(0, (.agg (Table.C p0 v1).toArray)), (1, (.agg (Key.C p1).toArray))] Tryd.func65 rfl rfl rfl hM ?_
 intro Q hret
 unfold keys_Add at H
 refine c_sr fun _ hK3 => ?_
 refine w_boxM trivial rfl rfl rfl ?_
 intro b4 M5 l6 h7
 replace h2 := h2.mono l6
 refine w_boxL trivial rfl rfl rfl ?_
 intro b8
 refine w_allocL (A := Table.C (⟨0, []⟩ : Table) (.slice none 0 0)) tz44 trivial rfl rfl ?_
 intro b9
 refine va rfl rfl ?_
 refine va rfl rfl ?_
 refine w_nil (hK3 _ _ _ ?_)
 refine c_seq fun K10 hK10 => ?_
 refine c_block ?_
 obtain ⟨t11, H1, H⟩ := bnd H
 refine c_cut (fun a' w' => ∃ (M12 : Heap), HLe M5 M12 ∧ Fr 45 [(2, (ptr b4 0)), (3, (ptr b8 0)), (4, (ptr b9 0)), (7, (.bool t11))] a' ∧ St none' M w M12 (lt [.blk b8 (.cells (Key.C p1).toArray 55 (0, 0)), .blk b9 (.cells (Table.C (⟨0, []⟩ : Table) (.slice none 0 0)).toArray 44 (0, 0))]) w') ?_ ?_
 ·replace H := H1
  clear H1
  refine c_reg ?_
  refine wv rfl (fun hf hs => r_loadA ta55 ts55 (hf.ev rfl) (hs.blk (i := 0) rfl) rfl rfl) ?_
  obtain ⟨t14, e19, H⟩ := bnd H
  refine w_call cf91 trivial rfl rfl (fun w hs => keys_Valid.calls hs p1 _ e19) ?_
  rintro _ M16 l17 rfl
  replace h2 := h2.mono l17
  replace h7 := l17 _ _ h7
  refine wv rfl (fun hf hs => r_not (hf.ev rfl)) ?_
  refine vm rfl rfl ?_
  by_cases b20 : (!t14) = true
  ·replace H := if_t b20 H
   refine wq b20 rfl rfl rfl ?_
   refine wq b20 rfl rfl rfl ?_
   refine wq b20 rfl rfl rfl ?_
   refine wq b20 rfl rfl rfl ?_
   refine wq b20 rfl rfl rfl ?_
   refine wv rfl (fun hf hs => r_pickT (hf.ev rfl) b20 (hf.ev rfl)) ?_
   refine va rfl rfl ?_
   obtain rfl := some_r H
   exact w_nil fun a w' hf hs => ⟨_, l17, (hf.pick (pk (pk (pk (pk pk0 rfl) rfl) rfl) rfl)), hs.sel [0, 1] (by decide) rfl⟩
  replace b20 := Bool.eq_false_iff.2 b20
  replace H := if_f b20 H
  refine wg b20 rfl rfl rfl (fun hf hs => r_fa fa55_7 (hf.ev rfl)) ?_
  refine wg b20 rfl rfl rfl (fun hf hs => r_load1 ta3 (hf.ev rfl) (hs.blk (i := 0) rfl) rfl) ?_
  refine wg b20 rfl rfl rfl (fun hf hs => r_fa fa44_0 (hf.ev rfl)) ?_
  refine wg b20 rfl rfl rfl (fun hf hs => r_load1 ta3 (hf.ev rfl) (hs.sub _ _ h7) rfl) ?_
  refine wg b20 rfl rfl rfl (fun hf hs => r_geq (hf.ev rfl) (hf.ev rfl)) ?_
  refine wv rfl (fun hf hs => r_pickF (hf.ev rfl) b20 (hf.ev rfl)) ?_
  refine va rfl rfl ?_
  obtain rfl := some_r H
  exact w_nil fun a w' hf hs => ⟨_, l17, (hf.pick (pk (pk (pk (pk pk0 rfl) rfl) rfl) rfl)), hs.sel [0, 1] (by decide) rfl⟩
 clear H1
 rintro a w' ⟨M12, l13, hf, hs⟩
 refine c_of (c := (Cx.mk Tryd.prog 45 none' M w)) ?_ hf hs
 clear hf hs
 replace h2 := h2.mono l13
 replace h7 := l13 _ _ h7
 refine c_if rfl (fun b21 => ?_) (fun b21 => ?_)
 ·replace H := if_t b21 H
  refine c_sr fun _ hK22 => ?_
  refine wv rfl (fun hf hs => r_build (is := []) (xs := []) (vs := []) (A := Table.C (⟨0, []⟩ : Table) (.slice none 0 0)) rfl (hf.evs rfl) (built_of (pl := [(0, 1), (1, 1)]) (A0 := Table.C (⟨0, []⟩ : Table) (.slice none 0 0)) tz44 Tryd.underlying44 (by kernel_rfl) rfl .nil)) ?_
  refine w_store (i := 1) (vs := Table.C (⟨0, []⟩ : Table) (.slice none 0 0)) (A' := Table.C (⟨0, []⟩ : Table) (.slice none 0 0)) trivial rfl rfl rfl rfl ts44 rfl (Table.C_one _ rfl) (Nat.le_of_ble_eq_true rfl) rfl ?_
  refine va rfl rfl ?_
  refine va rfl rfl ?_
  refine w_nil (hK22 _ _ _ ?_)
  obtain rfl := some_r H
  exact c_ret fun a w' hf hs => hret _ (.inl rfl) a w' hf.df ⟨_, _, Res.of3 rfl ⟨_, hf.get _ _ rfl, run_loadA (hs.blk (i := 1) rfl) ta44 ts44 rfl rfl⟩ (RV.t hf rfl) (RV.t hf rfl), hs.ext, ⟨_, rfl, RS.none⟩⟩
 replace H := if_f b21 H
 obtain ⟨t23, H1, H⟩ := bnd H
 refine c_cut (fun a' w' => ∃ (M24 : Heap), HLe M12 M24 ∧ Fr 45 [(2, (ptr b4 0)), (3, (ptr b8 0)), (4, (ptr b9 0)), (19, (.bool t23))] a' ∧ St none' M w M24 (lt [.blk b8 (.cells (Key.C p1).toArray 55 (0, 0)), .blk b9 (.cells (Table.C (⟨0, []⟩ : Table) (.slice none 0 0)).toArray 44 (0, 0))]) w') ?_ ?_
 ·replace H := H1
  clear H1
  refine c_reg ?_
  refine v_fa fa44_1 rfl rfl ?_
  refine wv rfl (fun hf hs => r_load1 ta34 (hf.ev rfl) (hs.sub _ _ h7) rfl) ?_
  refine wv rfl (fun hf hs => r_lenR Tryd.underlying34 h2 (hf.ev rfl)) ?_
  refine wv rfl (fun hf hs => r_geq (hf.ev rfl) (hf.ev rfl)) ?_
  refine vm rfl rfl ?_
  by_cases b26 : (decide ((4096 : Int) ≤ (p0.Keys.length : Int))) = true
  ·replace H := if_t b26 H
   refine wq b26 rfl rfl rfl ?_
   refine wq b26 rfl rfl rfl ?_
   refine wq b26 rfl rfl rfl ?_
   refine wv rfl (fun hf hs => r_pickT (hf.ev rfl) b26 (hf.ev rfl)) ?_
   refine va rfl rfl ?_
   obtain rfl := some_r H
   exact w_nil fun a w' hf hs => ⟨_, (HLe.refl _), (hf.pick (pk (pk (pk (pk pk0 rfl) rfl) rfl) rfl)), hs.sel [0, 1] (by decide) rfl⟩
  replace b26 := Bool.eq_false_iff.2 b26
  replace H := if_f b26 H
  refine wg b26 rfl rfl rfl (fun hf hs => r_fa fa44_0 (hf.ev rfl)) ?_
  refine wg b26 rfl rfl rfl (fun hf hs => r_load1 ta3 (hf.ev rfl) (hs.sub _ _ h7) rfl) ?_
  refine wg b26 rfl rfl rfl (fun hf hs => r_geq (hf.ev rfl) (hf.ev rfl)) ?_
  refine wv rfl (fun hf hs => r_pickF (hf.ev rfl) b26 (hf.ev rfl)) ?_
  refine va rfl rfl ?_
  obtain rfl := some_r H
  exact w_nil fun a w' hf hs => ⟨_, (HLe.refl _), (hf.pick (pk (pk (pk (pk pk0 rfl) rfl) rfl) rfl)), hs.sel [0, 1] (by decide) rfl⟩
 clear H1
 rintro a w' ⟨M24, l25, hf, hs⟩
 refine c_of (c := (Cx.mk Tryd.prog 45 none' M w)) ?_ hf hs
 clear hf hs
 replace h2 := h2.mono l25
 replace h7 := l25 _ _ h7
 refine c_if rfl (fun b27 => ?_) (fun b27 => ?_)
 ·replace H := if_t b27 H
  refine c_sr fun _ hK28 => ?_
  refine wv rfl (fun hf hs => r_build (is := []) (xs := []) (vs := []) (A := Table.C (⟨0, []⟩ : Table) (.slice none 0 0)) rfl (hf.evs rfl) (built_of (pl := [(0, 1), (1, 1)]) (A0 := Table.C (⟨0, []⟩ : Table) (.slice none 0 0)) tz44 Tryd.underlying44 (by kernel_rfl) rfl .nil)) ?_
  refine w_store (i := 1) (vs := Table.C (⟨0, []⟩ : Table) (.slice none 0 0)) (A' := Table.C (⟨0, []⟩ : Table) (.slice none 0 0)) trivial rfl rfl rfl rfl ts44 rfl (Table.C_one _ rfl) (Nat.le_of_ble_eq_true rfl) rfl ?_
  refine va rfl rfl ?_
  refine va rfl rfl ?_
  refine w_nil (hK28 _ _ _ ?_)
  obtain rfl := some_r H
  exact c_ret fun a w' hf hs => hret _ (.inl rfl) a w' hf.df ⟨_, _, Res.of3 rfl ⟨_, hf.get _ _ rfl, run_loadA (hs.blk (i := 1) rfl) ta44 ts44 rfl rfl⟩ (RV.t hf rfl) (RV.t hf rfl), hs.ext, ⟨_, rfl, RS.none⟩⟩
 replace H := if_f b27 H
 refine c_skip (hK10 _ _ _ ?_)
 refine c_sr fun _ hK29 => ?_
 refine v_fa fa44_0 rfl rfl ?_
 refine wv rfl (fun hf hs => r_load1 ta3 (hf.ev rfl) (hs.sub _ _ h7) rfl) ?_
 refine v_fa fa55_0 rfl rfl ?_
 refine w_store (i := 0) (vs := [(.int .i64 p0.Next)]) (A' := Key.C ({ p1 with Id := p0.Next } : Key)) trivial rfl rfl rfl rfl ts3 rfl (one1 rfl) (Nat.le_of_ble_eq_true rfl) rfl ?_
 refine w_nil (hK29 _ _ _ ?_)
 refine c_seq fun K30 hK30 => ?_
 refine c_split2 13 (by kernel_rfl) (by kernel_rfl) (by kernel_rfl) (by kernel_rfl) rfl ?_
 intro K31 hK31
 obtain ⟨t48, e53, H⟩ := bnd H
 obtain ⟨g80, H⟩ := grd_s H
 refine d_drawW [[], [12]] [⟨[], [2], [], none⟩, ⟨[(0, 33)], [], [], none⟩, ⟨[(1, 34)], [], [], none⟩, ⟨[], [2], [], none⟩, ⟨[(3, 36)], [], [], none⟩, ⟨[(4, 37)], [], [], none⟩, ⟨[], [3], [(0, 0)], none⟩, ⟨[(6, 39)], [], [], none⟩, ⟨[(5, 38), (7, 40)], [], [], none⟩, ⟨[(2, 35), (8, 41)], [], [], none⟩, ⟨[], [3], [], none⟩, ⟨[(10, 43)], [], [(0, 0)], none⟩, ⟨[(9, 42)], [4], [(1, 0)], some (1, 0)⟩] [vq (ptr b4 0), vq (.int .i64 p0.Next), vq (.int .i64 (IntKind.i64.wrap (p0.Next + (1 : Int)))), vq (ptr b4 1), vq v1, fun v M => ∃ (v54 : Value), v = v54 ∧ RS Key.F M v54 t48 ∧ ∃ A, v54 = .slice A t48.length t48.length, vq (.agg (Key.C ({ p1 with Id := p0.Next } : Key)).toArray), fun v M => ∃ (v63 : Value), v = v63 ∧ RS Key.F M v63 ([({ p1 with Id := p0.Next } : Key)] : List Key) ∧ ∃ A, v63 = .slice A ([({ p1 with Id := p0.Next } : Key)] : List Key).length ([({ p1 with Id := p0.Next } : Key)] : List Key).length, fun v M => ∃ (v81 : Value), v = v81 ∧ RS Key.F M v81 (t48 ++ ([({ p1 with Id := p0.Next } : Key)] : List Key)), fun v M => ∃ (v88 : Value), v = (.agg (Table.C (⟨(IntKind.i64.wrap (p0.Next + (1 : Int))), (t48 ++ ([({ p1 with Id := p0.Next } : Key)] : List Key))⟩ : Table) v88).toArray) ∧ RS Key.F M v88 (t48 ++ ([({ p1 with Id := p0.Next } : Key)] : List Key)), vq (ptr b8 0), vq (.int .i64 p0.Next), fun _ _ => True] [[fun y M => y = .blk b8 (.cells (Key.C ({ p1 with Id := p0.Next } : Key)).toArray 55 (0, 0))], [fun y M => y = .blk b9 (.cells (Table.C (⟨0, []⟩ : Table) (.slice none 0 0)).toArray 44 (0, 0)), fun y M => ∃ (v98 : Value), y = .blk b9 (.cells (Table.C (⟨(IntKind.i64.wrap (p0.Next + (1 : Int))), (t48 ++ ([({ p1 with Id := p0.Next } : Key)] : List Key))⟩ : Table) v98).toArray 44 (0, 0)) ∧ RS Key.F M v98 (t48 ++ ([({ p1 with Id := p0.Next } : Key)] : List Key))]] (by kernel_rfl) (by kernel_rfl) ?_ ?_ rfl ?_ (AllW.cons ?_ (AllW.cons ?_ (AllW.cons ?_ (AllW.cons ?_ (AllW.cons ?_ (AllW.cons ?_ (AllW.cons ?_ (AllW.cons ?_ (AllW.cons ?_ (AllW.cons ?_ (AllW.cons ?_ (AllW.cons ?_ (AllW.cons ?_ AllW.nil))))))))))))) ?_
 ·exact (mC (mC (mC (mC (mC (MonoA.cons (fun _ _ _ hM h => by obtain ⟨v54, e_, q0, q1⟩ := h; exact ⟨v54, e_, q0.mono hM, q1⟩) (mC (MonoA.cons (fun _ _ _ hM h => by obtain ⟨v63, e_, q0, q1⟩ := h; exact ⟨v63, e_, q0.mono hM, q1⟩) (MonoA.cons (fun _ _ _ hM h => by obtain ⟨v81, e_, q0⟩ := h; exact ⟨v81, e_, q0.mono hM⟩) (MonoA.cons (fun _ _ _ hM h => by obtain ⟨v88, e_, q0⟩ := h; exact ⟨v88, e_, q0.mono hM⟩) (mC (mC (mC MonoA.nil)))))))))))))
 ·exact (MonoK.cons (mono_cons (fun _ _ _ _ h => h) mono_nil) (MonoK.cons (mono_cons (fun _ _ _ _ h => h) (mono_cons (fun _ _ _ hM h => by obtain ⟨v98, e_, q0⟩ := h; exact ⟨v98, e_, q0.mono hM⟩) mono_nil)) MonoK.nil))
 ·exact (All0.cons rfl (All0.cons rfl All0.nil))
 ·intro a w' _ _ l33 hL hd hs
  replace h7 := l33 _ _ h7
  replace h2 := h2.mono l33
  obtain ⟨x0_, L0_, rfl, hL0⟩ := lenS hL
  obtain ⟨x1_, L1_, rfl, hL1⟩ := lenS hL0
  obtain rfl := len0 hL1
  exact pw (hd.fr.add (hd.base 2 _ rfl rfl)) hs rfl (fun hf hs => r_fa fa44_0 (hf.ev rfl)) rfl rfl
 ·intro a w' _ _ l35 hL hd hs
  replace h2 := h2.mono l35
  obtain ⟨x0_, L0_, rfl, hL0⟩ := lenS hL
  obtain ⟨x1_, L1_, rfl, hL1⟩ := lenS hL0
  obtain rfl := len0 hL1
  exact pw (hd.fr.add (hd.val 0 33 _ rfl rfl)) hs rfl (fun hf hs => r_load1 ta3 (hf.ev rfl) (hs.sub _ _ (l35 _ _ h7)) rfl) rfl rfl
 ·intro a w' _ _ _ hL hd hs
  obtain ⟨x0_, L0_, rfl, hL0⟩ := lenS hL
  obtain ⟨x1_, L1_, rfl, hL1⟩ := lenS hL0
  obtain rfl := len0 hL1
  exact pw (hd.fr.add (hd.val 1 34 _ rfl rfl)) hs rfl (fun hf hs => r_add (hf.ev rfl) (hf.ev rfl)) rfl rfl
 ·intro a w' _ _ l41 hL hd hs
  replace h7 := l41 _ _ h7
  replace h2 := h2.mono l41
  obtain ⟨x0_, L0_, rfl, hL0⟩ := lenS hL
  obtain ⟨x1_, L1_, rfl, hL1⟩ := lenS hL0
  obtain rfl := len0 hL1
  exact pw (hd.fr.add (hd.base 2 _ rfl rfl)) hs rfl (fun hf hs => r_fa fa44_1 (hf.ev rfl)) rfl rfl
 ·intro a w' _ _ l43 hL hd hs
  replace h2 := h2.mono l43
  obtain ⟨x0_, L0_, rfl, hL0⟩ := lenS hL
  obtain ⟨x1_, L1_, rfl, hL1⟩ := lenS hL0
  obtain rfl := len0 hL1
  exact pw (hd.fr.add (hd.val 3 36 _ rfl rfl)) hs rfl (fun hf hs => r_load1 ta34 (hf.ev rfl) (hs.sub _ _ (l43 _ _ h7)) rfl) rfl rfl
 ·intro a w' _ _ l46 hL hd hs
  have e47 := hd.val 4 37 _ rfl rfl
  replace h2 := h2.mono l46
  obtain ⟨x0_, L0_, rfl, hL0⟩ := lenS hL
  obtain ⟨x1_, L1_, rfl, hL1⟩ := lenS hL0
  obtain rfl := len0 hL1
  refine OP.ofW (l := [(37, v1)]) (hd.fr.add e47) hs rfl ?_
  refine w_call cf108 trivial rfl rfl (fun w hs => slices_Clip_Key.calls hs p0.Keys v1 h2 _ e53) ?_
  rintro v57 M50 l51 ⟨v54, hv_, h55, c56⟩
  replace hv_ := hv_.symm
  subst hv_
  exact w_nil fun a w' hf hs => ⟨rfl, hf.df, _, _, l51, hs, ⟨v54, hf.get _ _ rfl, h55, c56⟩, rfl⟩
 ·intro a w' _ _ _ hL hd hs
  obtain ⟨x0_, L0_, rfl, hL0⟩ := lenS hL
  obtain ⟨x1_, L1_, rfl, hL1⟩ := lenS hL0
  obtain rfl := len0 hL1
  obtain ⟨_, ⟨⟩, rfl⟩ := hd.item 0 0 _ rfl rfl
  refine OP.ofW (l := [(3, (ptr b8 0))]) (hd.fr.add (hd.base 3 _ rfl rfl)) hs rfl ?_
  refine wv rfl (fun hf hs => r_loadA ta55 ts55 (hf.ev rfl) (hs.blk (i := 0) rfl) rfl rfl) ?_
  exact w_nil fun a w' hf hs => ⟨rfl, hf.df, _, _, (HLe.refl _), hs, hf.get _ _ rfl, rfl⟩
 ·intro a w' _ _ _ hL hd hs
  have e62 := hd.val 6 39 _ rfl rfl
  obtain ⟨x0_, L0_, rfl, hL0⟩ := lenS hL
  obtain ⟨x1_, L1_, rfl, hL1⟩ := lenS hL0
  obtain rfl := len0 hL1
  refine OP.ofW (l := [(39, (.agg (Key.C ({ p1 with Id := p0.Next } : Key)).toArray))]) (hd.fr.add e62) hs rfl ?_
  refine w_bsl (F := Key.F) (es := ([({ p1 with Id := p0.Next } : Key)] : List Key)) (xs := [.tmp 39]) (vs := [(.agg (Key.C ({ p1 with Id := p0.Next } : Key)).toArray)]) Tryd.underlying34 te55 trivial rfl rfl rfl rfl rfl (by decide) ?_
  intro v63 M64 l65 h66 c67
  exact w_nil fun a w' hf hs => ⟨rfl, hf.df, _, _, l65, hs, ⟨v63, hf.get _ _ rfl, h66, c67⟩, rfl⟩
 ·intro a w' _ _ _ hL hd hs
  obtain ⟨v70, e74, h71, h73⟩ := hd.val 5 38 _ rfl rfl
  obtain ⟨v75, e79, h76, h78⟩ := hd.val 7 40 _ rfl rfl
  obtain ⟨x0_, L0_, rfl, hL0⟩ := lenS hL
  obtain ⟨x1_, L1_, rfl, hL1⟩ := lenS hL0
  obtain rfl := len0 hL1
  refine OP.ofW (l := [(38, v70), (40, v75)]) ((hd.fr.add e79).add e74) hs rfl ?_
  refine w_appC (F := Key.F) (m := t48) (m2 := ([({ p1 with Id := p0.Next } : Key)] : List Key)) Tryd.underlying34 te55 Tryd.underlying34 (.inl ⟨_, rfl⟩) trivial rfl rfl rfl h71 h73 (Src.rs Key.F_one h76) g80.1 g80.2 ?_
  intro v81
  refine w_give 2 rfl (fun _ h => h) ?_
  intro M82 l83 h84
  exact w_nil fun a w' hf hs => ⟨rfl, hf.df, _, _, l83, (hs.sel [0, 1] (by decide) rfl), ⟨v81, hf.get _ _ rfl, h84⟩, rfl⟩
 ·intro a w' _ _ _ hL hd hs
  have e87 := hd.val 2 35 _ rfl rfl
  obtain ⟨v88, e90, h89⟩ := hd.val 8 41 _ rfl rfl
  obtain ⟨x0_, L0_, rfl, hL0⟩ := lenS hL
  obtain ⟨x1_, L1_, rfl, hL1⟩ := lenS hL0
  obtain rfl := len0 hL1
  refine OP.ofW (l := [(35, (.int .i64 (IntKind.i64.wrap (p0.Next + (1 : Int))))), (41, v88)]) ((hd.fr.add e90).add e87) hs rfl ?_
  refine wv rfl (fun hf hs => r_build (is := [0, 1]) (xs := [.tmp 35, .tmp 41]) (vs := [(.int .i64 (IntKind.i64.wrap (p0.Next + (1 : Int)))), v88]) (A := Table.C (⟨(IntKind.i64.wrap (p0.Next + (1 : Int))), (t48 ++ ([({ p1 with Id := p0.Next } : Key)] : List Key))⟩ : Table) v88) rfl (hf.evs rfl) (built_of (pl := [(0, 1), (1, 1)]) (A0 := Table.C (⟨0, []⟩ : Table) (.slice none 0 0)) tz44 Tryd.underlying44 (by kernel_rfl) rfl (.cons (vs := [(.int .i64 (IntKind.i64.wrap (p0.Next + (1 : Int))))]) (B := Table.C (⟨(IntKind.i64.wrap (p0.Next + (1 : Int))), []⟩ : Table) (.slice none 0 0)) rfl rfl rfl (by rw [Table.len]; decide) rfl (.cons (vs := [v88]) (B := Table.C (⟨(IntKind.i64.wrap (p0.Next + (1 : Int))), (t48 ++ ([({ p1 with Id := p0.Next } : Key)] : List Key))⟩ : Table) v88) rfl (h89.cells1) rfl (by rw [Table.len]; decide) rfl .nil)))) ?_
  exact w_nil fun a w' hf hs => ⟨rfl, hf.df, _, _, (HLe.refl _), hs, ⟨v88, hf.get _ _ rfl, h89⟩, rfl⟩
 ·intro a w' _ _ _ hL hd hs
  obtain ⟨x0_, L0_, rfl, hL0⟩ := lenS hL
  obtain ⟨x1_, L1_, rfl, hL1⟩ := lenS hL0
  obtain rfl := len0 hL1
  exact pw (hd.fr.add (hd.base 3 _ rfl rfl)) hs rfl (fun hf hs => r_fa fa55_0 (hf.ev rfl)) rfl rfl
 ·intro a w' _ _ _ hL hd hs
  obtain ⟨x0_, L0_, rfl, hL0⟩ := lenS hL
  obtain ⟨x1_, L1_, rfl, hL1⟩ := lenS hL0
  obtain rfl := len0 hL1
  obtain ⟨_, ⟨⟩, rfl⟩ := hd.item 0 0 _ rfl rfl
  exact pw (hd.fr.add (hd.val 10 43 _ rfl rfl)) hs rfl (fun hf hs => r_load1 ta3 (hf.ev rfl) (hs.blk (i := 0) rfl) rfl) rfl rfl
 ·intro a w' _ _ _ hL hd hs
  obtain ⟨v98, e100, h99⟩ := hd.val 9 42 _ rfl rfl
  obtain ⟨x0_, L0_, rfl, hL0⟩ := lenS hL
  obtain ⟨x1_, L1_, rfl, hL1⟩ := lenS hL0
  obtain rfl := len0 hL1
  obtain ⟨_, ⟨⟩, rfl⟩ := hd.item 1 0 _ rfl rfl
  refine OP.ofW (l := [(4, (ptr b9 0)), (42, (.agg (Table.C (⟨(IntKind.i64.wrap (p0.Next + (1 : Int))), (t48 ++ ([({ p1 with Id := p0.Next } : Key)] : List Key))⟩ : Table) v98).toArray))]) ((hd.fr.add e100).add (hd.base 4 _ rfl rfl)) hs rfl ?_
  refine w_store (i := 1) (vs := Table.C (⟨(IntKind.i64.wrap (p0.Next + (1 : Int))), (t48 ++ ([({ p1 with Id := p0.Next } : Key)] : List Key))⟩ : Table) v98) (A' := Table.C (⟨(IntKind.i64.wrap (p0.Next + (1 : Int))), (t48 ++ ([({ p1 with Id := p0.Next } : Key)] : List Key))⟩ : Table) v98) trivial rfl rfl rfl rfl ts44 rfl (Table.C_one _ h99.one) (Nat.le_of_ble_eq_true rfl) rfl ?_
  exact w_nil fun a w' hf hs => ⟨rfl, hf.df, _, _, (HLe.refl _), hs, trivial, ⟨.blk b9 (.cells (Table.C (⟨(IntKind.i64.wrap (p0.Next + (1 : Int))), (t48 ++ ([({ p1 with Id := p0.Next } : Key)] : List Key))⟩ : Table) v98).toArray 44 (0, 0)), rfl, of_some (q := fun y M => ∃ (v98 : Value), y = .blk b9 (.cells (Table.C (⟨(IntKind.i64.wrap (p0.Next + (1 : Int))), (t48 ++ ([({ p1 with Id := p0.Next } : Key)] : List Key))⟩ : Table) v98).toArray 44 (0, 0)) ∧ RS Key.F M v98 (t48 ++ ([({ p1 with Id := p0.Next } : Key)] : List Key))) ⟨v98, rfl, h99⟩⟩⟩
 intro a w' M101 L_ l102 hL hdf hsz hb hv hi hs
 have e103 := hv 11 44 _ rfl rfl
 obtain ⟨x0_, L0_, rfl, hL0⟩ := lenS hL
 obtain ⟨x1_, L1_, rfl, hL1⟩ := lenS hL0
 obtain rfl := len0 hL1
 obtain ⟨_, hy, rfl⟩ := hi 0 _ rfl
 obtain rfl := Option.some.inj hy
 obtain ⟨_, hy, v104, rfl, h105⟩ := hi 1 _ rfl
 obtain rfl := Option.some.inj hy
 clear hi hy
 refine n_of (c := (Cx.mk Tryd.prog 45 none' M w)) (l := [(4, (ptr b9 0)), (44, (.int .i64 p0.Next))]) ?_ (((Fr.start hdf hsz).add e103).add (hb 4 _ rfl rfl)) hs
 clear hdf hsz hb hv hs e103
 refine n_id (hK31 _ _ _ ?_)
 refine va rfl rfl ?_
 refine va rfl rfl ?_
 refine w_nil (hK30 _ _ _ ?_)
 obtain rfl := some_r H
 exact c_ret fun a w' hf hs => hret _ (.inl rfl) a w' hf.df ⟨_, _, Res.of3 rfl ⟨_, hf.get _ _ rfl, run_loadA (hs.blk (i := 1) rfl) ta44 ts44 rfl rfl⟩ (RV.t hf rfl) (RV.t hf rfl), hs.ext, ⟨_, rfl, h105⟩⟩
theorem restore_Plan.calls {M : Heap} {w : World} (hM : Sub M w) (p0 : Table) (v1 : Value) (h2 : RS Key.F M v1 p0.Keys) (p1 : Backup) (v3 : Value) (h4 : RS Key.F M v3 p1.Keys) (p2 : Int) (r : (Table × (List Int) × Int)) (H : restore_Plan p0 p1 p2 = some r) :
  Calls Tryd.prog 30 [(.agg (Table.C p0 v1).toArray), (.agg (Backup.C p1 v3).toArray), (.int .i64 p2)].toArray w (Post M w fun M' v => ∃ v112 v114, v = .tuple #[(.agg (Table.C r.1 v112).toArray), v114, (.int .i64 r.2.2)] ∧ RS Key.F M' v112 r.1.Keys ∧ RS (FI .i64) M' v114 r.2.1) := by
 refine enter 87 [(0, (.agg (Table.C p0 v1).toArray)), (1, (.agg (Backup.C p1 v3).toArray)), (2, (.int .i64 p2))] Tryd.func30 rfl rfl rfl hM ?_
 intro Q hret
 unfold restore_Plan at H
 refine c_sr fun _ hK5 => ?_
 refine w_boxL trivial rfl rfl rfl ?_
 intro b6
 refine w_boxM trivial rfl rfl rfl ?_
 intro b7 M8 l9 h10
 replace h2 := h2.mono l9
 replace h4 := h4.mono l9
 refine w_allocL (A := Table.C (⟨0, []⟩ : Table) (.slice none 0 0)) tz44 trivial rfl rfl ?_
 intro b11
 refine va rfl rfl ?_
 refine va rfl rfl ?_
 refine w_nil (hK5 _ _ _ ?_)
 refine c_seq fun K12 hK12 => ?_
 obtain ⟨t13, H1, H⟩ := bnd H
 refine c_cut (fun a' w' => ∃ (M14 : Heap), HLe M8 M14 ∧ Fr 87 [(2, (.int .i64 p2)), (3, (ptr b6 0)), (4, (ptr b7 0)), (6, (ptr b11 0)), (29, (.bool t13))] a' ∧ St none' M w M14 (lt [.blk b6 (.cells (Table.C p0 v1).toArray 44 (0, 0)), .blk b11 (.cells (Table.C (⟨0, []⟩ : Table) (.slice none 0 0)).toArray 44 (0, 0))]) w') ?_ ?_
 ·replace H := H1
  clear H1
  refine c_reg ?_
  refine wv rfl (fun hf hs => r_loadA ta36 ts36 (hf.ev rfl) (hs.sub _ _ h10) (Backup.d0_38 _ _) (Backup.len _ _)) ?_
  obtain ⟨t16, e21, H⟩ := bnd H
  refine w_call cf46 trivial rfl rfl (fun w hs => backup_Valid.calls hs p1 v3 h4 _ e21) ?_
  rintro _ M18 l19 rfl
  replace h2 := h2.mono l19
  replace h4 := h4.mono l19
  replace h10 := l19 _ _ h10
  refine wv rfl (fun hf hs => r_not (hf.ev rfl)) ?_
  refine vm rfl rfl ?_
  by_cases b22 : (!t16) = true
  ·replace H := if_t b22 H
   refine wq b22 rfl rfl rfl ?_
   refine wq b22 rfl rfl rfl ?_
   refine wv rfl (fun hf hs => r_pickT (hf.ev rfl) b22 (hf.ev rfl)) ?_
   refine vm rfl rfl ?_
   refine wq rfl rfl rfl rfl ?_
   refine wq rfl rfl rfl rfl ?_
   refine wv rfl (fun hf hs => r_pickT (hf.ev rfl) rfl (hf.ev rfl)) ?_
   obtain rfl := some_r H
   exact w_nil fun a w' hf hs => ⟨_, l19, (hf.pick (pk (pk (pk (pk (pk pk0 rfl) rfl) rfl) rfl) rfl)), hs.sel [0, 1] (by decide) rfl⟩
  replace b22 := Bool.eq_false_iff.2 b22
  replace H := if_f b22 H
  refine wg b22 rfl rfl rfl (fun hf hs => r_move (hf.ev rfl)) ?_
  refine wg b22 rfl rfl rfl (fun hf hs => r_lss (hf.ev rfl) (hf.ev rfl)) ?_
  refine wv rfl (fun hf hs => r_pickF (hf.ev rfl) b22 (hf.ev rfl)) ?_
  refine vm rfl rfl ?_
  by_cases b23 : (decide (p2 < (0 : Int))) = true
  ·replace H := if_t b23 H
   refine wq b23 rfl rfl rfl ?_
   refine wq b23 rfl rfl rfl ?_
   refine wv rfl (fun hf hs => r_pickT (hf.ev rfl) b23 (hf.ev rfl)) ?_
   obtain rfl := some_r H
   exact w_nil fun a w' hf hs => ⟨_, l19, (hf.pick (pk (pk (pk (pk (pk pk0 rfl) rfl) rfl) rfl) rfl)), hs.sel [0, 1] (by decide) rfl⟩
  replace b23 := Bool.eq_false_iff.2 b23
  replace H := if_f b23 H
  refine wg b23 rfl rfl rfl (fun hf hs => r_move (hf.ev rfl)) ?_
  refine wg b23 rfl rfl rfl (fun hf hs => r_gtr (hf.ev rfl) (hf.ev rfl)) ?_
  refine wv rfl (fun hf hs => r_pickF (hf.ev rfl) b23 (hf.ev rfl)) ?_
  obtain rfl := some_r H
  exact w_nil fun a w' hf hs => ⟨_, l19, (hf.pick (pk (pk (pk (pk (pk pk0 rfl) rfl) rfl) rfl) rfl)), hs.sel [0, 1] (by decide) rfl⟩
 clear H1
 rintro a w' ⟨M14, l15, hf, hs⟩
 refine c_of (c := (Cx.mk Tryd.prog 87 none' M w)) ?_ hf hs
 clear hf hs
 replace h2 := h2.mono l15
 replace h4 := h4.mono l15
 replace h10 := l15 _ _ h10
 refine c_if rfl (fun b24 => ?_) (fun b24 => ?_)
 ·replace H := if_t b24 H
  refine c_sr fun _ hK25 => ?_
  refine wv rfl (fun hf hs => r_build (is := []) (xs := []) (vs := []) (A := Table.C (⟨0, []⟩ : Table) (.slice none 0 0)) rfl (hf.evs rfl) (built_of (pl := [(0, 1), (1, 1)]) (A0 := Table.C (⟨0, []⟩ : Table) (.slice none 0 0)) tz44 Tryd.underlying44 (by kernel_rfl) rfl .nil)) ?_
  refine w_store (i := 1) (vs := Table.C (⟨0, []⟩ : Table) (.slice none 0 0)) (A' := Table.C (⟨0, []⟩ : Table) (.slice none 0 0)) trivial rfl rfl rfl rfl ts44 rfl (Table.C_one _ rfl) (Nat.le_of_ble_eq_true rfl) rfl ?_
  refine va rfl rfl ?_
  refine va rfl rfl ?_
  refine w_nil (hK25 _ _ _ ?_)
  obtain rfl := some_r H
  exact c_ret fun a w' hf hs => hret _ (.inl rfl) a w' hf.df ⟨_, _, Res.of3 rfl ⟨_, hf.get _ _ rfl, run_loadA (hs.blk (i := 1) rfl) ta44 ts44 rfl rfl⟩ (RV.t hf rfl) (RV.t hf rfl), hs.ext, ⟨_, _, rfl, RS.none, RS.none⟩⟩
 replace H := if_f b24 H
 refine c_skip (hK12 _ _ _ ?_)
 refine c_sr fun _ hK26 => ?_
 refine v_fa fa44_1 rfl rfl ?_
 refine wv rfl (fun hf hs => r_load1 ta34 (hf.ev rfl) (hs.blk (i := 0) rfl) rfl) ?_
 obtain ⟨t27, e32, H⟩ := bnd H
 refine w_call cf64 trivial rfl rfl (fun w hs => slices_Clone_Key.calls hs p0.Keys v1 h2 _ e32) ?_
 rintro v111 M29 l30 ⟨v33, hv_, h34⟩
 replace hv_ := hv_.symm
 subst hv_
 replace h4 := h4.mono l30
 replace h10 := l30 _ _ h10
 refine v_fa fa44_1 rfl rfl ?_
 refine w_store (i := 0) (vs := [v33]) (A' := Table.C ({ p0 with Keys := t27 } : Table) v33) trivial rfl rfl rfl h34.cells1 ts34 rfl (one1 h34.one) (Nat.le_of_ble_eq_true rfl) rfl ?_
 refine w_nil (hK26 _ _ _ ?_)
 refine c_sr fun _ hK35 => ?_
 refine w_makeMap trivial rfl ?_
 intro b36
 refine va rfl rfl ?_
 refine w_nil (hK35 _ _ _ ?_)
 refine c_sr fun _ hK37 => ?_
 refine va rfl rfl ?_
 refine w_nil (hK37 _ _ _ ?_)
 refine c_row0 3 1 ?_
 refine c_cut (fun a' w' => ∃ (x38 : Table) (v39 : Value) (x41 : (List Int)) (v42 : Value) (M43 : Heap), HLe M29 M43 ∧ RS Key.F M43 v39 x38.Keys ∧ Fr 87 [(3, (ptr b6 0)), (6, (ptr b11 0)), (10, v42)] a' ∧ St none' M w M43 (lt [.blk b6 (.cells (Table.C x38 v39).toArray 44 (0, 0)), .blk b11 (.cells (Table.C (⟨0, []⟩ : Table) (.slice none 0 0)).toArray 44 (0, 0)), dead, rowI (FI .i64) v42 3 x41]) w' ∧ restore_Plan.j1 x38 x41 = some r) ?_ ?_
 ·refine c_seq ?_
  intro K49 hK49
  refine c_reg ?_
  refine v_fa fa36_7 rfl rfl ?_
  refine wv rfl (fun hf hs => r_load1 ta34 (hf.ev rfl) (hs.sub _ _ h10) (Backup.g37 _ _)) ?_
  refine wv rfl (fun hf hs => r_lenR Tryd.underlying34 h4 (hf.ev rfl)) ?_
  refine vm rfl rfl ?_
  refine w_nil (hK49 _ _ _ ?_)
  refine c_block ?_
  refine c_loop (fun (s50 : (Table × (List (Int × Int)) × (List Int) × Int)) a' w' => ∃ (v51 : Value) (v53 : Value) (M54 : Heap), HLe M29 M54 ∧ RS Key.F M54 v51 s50.1.Keys ∧ Fr 87 [(2, (.int .i64 p2)), (3, (ptr b6 0)), (6, (ptr b11 0)), (9, (.map (some b36))), (10, v53), (37, v3), (38, (.int .i64 (p1.Keys.length : Int))), (39, (.int .i64 s50.2.2.2))] a' ∧ St none' M w M54 (lt [.blk b6 (.cells (Table.C s50.1 v51).toArray 44 (0, 0)), .blk b11 (.cells (Table.C (⟨0, []⟩ : Table) (.slice none 0 0)).toArray 44 (0, 0)), .blk b36 (mapO s50.2.1), rowI (FI .i64) v53 3 s50.2.2.1]) w') (({ p0 with Keys := t27 } : Table), ([] : List (Int × Int)), ([] : (List Int)), (0 : Int)) H ?_ ?_
  ·intro a w' hf hs
   exact ⟨v33, (.slice none 0 0), _, HLe.refl _, h34, (hf.pick (pk (pk (pk (pk (pk (pk (pk (pk pk0 rfl) rfl) rfl) rfl) rfl) rfl) rfl) rfl)), hs.selD [some 0, some 1, some 2, some 3] (by decide) rfl⟩
  clear H
  intro s50 y57 H r56 a w' hJ
  obtain ⟨v51, v53, M54, l55, h52, hf, hs⟩ := hJ
  refine c_of (c := (Cx.mk Tryd.prog 87 none' M w)) ?_ hf hs
  unfold restore_Plan.l3 at H
  clear hf hs
  replace h4 := h4.mono l55
  refine c_sr fun _ hK58 => ?_
  refine v_lss rfl rfl rfl ?_
  refine w_nil (hK58 _ _ _ ?_)
  refine c_seq fun K59 hK59 => ?_
  refine c_if rfl (fun b60 => ?_) (fun b60 => ?_)
  ·replace H := if_t b60 H
   refine c_skip (hK59 _ _ _ ?_)
   refine c_cut (fun a' w' => ∃ (x61 : Table) (v62 : Value) (x64 : (List (Int × Int))) (x65 : (List Int)) (v66 : Value) (M67 : Heap), HLe M54 M67 ∧ RS Key.F M67 v62 x61.Keys ∧ Fr 87 [(2, (.int .i64 p2)), (3, (ptr b6 0)), (6, (ptr b11 0)), (9, (.map (some b36))), (10, v66), (37, v3), (38, (.int .i64 (p1.Keys.length : Int))), (39, (.int .i64 s50.2.2.2))] a' ∧ St none' M w M67 (lt [.blk b6 (.cells (Table.C x61 v62).toArray 44 (0, 0)), .blk b11 (.cells (Table.C (⟨0, []⟩ : Table) (.slice none 0 0)).toArray 44 (0, 0)), .blk b36 (mapO x64), rowI (FI .i64) v66 3 x65]) w' ∧ restore_Plan.j2 x61 x64 x65 s50 = some y57) ?_ ?_
   ·refine c_block ?_
    refine c_sr fun _ hK69 => ?_
    obtain ⟨g70, H⟩ := grd_s H
    refine wv rfl (fun hf hs => r_iR Tryd.underlying34 ts55 h4 (hf.ev rfl) (hf.ev rfl) g70.1 g70.2) ?_
    refine wv rfl (fun hf hs => r_loadEA ta55 ts55 h4 hs.sub g70.1 g70.2 (hf.ev rfl) rfl rfl) ?_
    refine w_allocL (A := Key.C (⟨0, 0, [], 0, 0, 0, 0, 0, false⟩ : Key)) tz55 trivial rfl rfl ?_
    intro b71
    refine w_store (i := 4) (vs := Key.C (rd p1.Keys s50.2.2.2)) (A' := Key.C (rd p1.Keys s50.2.2.2)) trivial rfl rfl rfl rfl ts55 rfl (Key.F_one _) (Nat.le_of_ble_eq_true rfl) rfl ?_
    refine w_nil (hK69 _ _ _ ?_)
    refine c_seq fun K72 hK72 => ?_
    refine c_sr fun _ hK73 => ?_
    refine v_fa fa55_5 rfl rfl ?_
    refine wv rfl (fun hf hs => r_load1 ta3 (hf.ev rfl) (hs.blk (i := 4) rfl) rfl) ?_
    refine vm rfl rfl ?_
    refine wv rfl (fun hf hs => r_leq (hf.ev rfl) (hf.ev rfl)) ?_
    refine w_nil (hK73 _ _ _ ?_)
    refine c_if rfl (fun b74 => ?_) (fun b74 => ?_)
    ·replace H := if_t b74 H
     refine c_exit ?_
     intro a w' hf hs
     exact ⟨s50.1, v51, s50.2.1, s50.2.2.1, v53, _, (HLe.refl _), h52, (hf.pick (pk (pk (pk (pk (pk (pk (pk (pk pk0 rfl) rfl) rfl) rfl) rfl) rfl) rfl) rfl)), hs.selD [some 0, some 1, some 2, some 3] (by decide) rfl, H⟩
    replace H := if_f b74 H
    refine c_skip (hK72 _ _ _ ?_)
    refine c_seq fun K75 hK75 => ?_
    refine c_sr fun _ hK76 => ?_
    refine wv rfl (fun hf hs => r_loadA ta44 ts44 (hf.ev rfl) (hs.blk (i := 0) rfl) rfl rfl) ?_
    refine wv rfl (fun hf hs => r_loadA ta55 ts55 (hf.ev rfl) (hs.blk (i := 4) rfl) rfl rfl) ?_
    obtain ⟨t77, e82, H⟩ := bnd H
    refine w_call cf32 trivial rfl rfl (fun w hs => restore_Twin.calls hs s50.1 v51 h52 (rd p1.Keys s50.2.2.2) _ e82) ?_
    rintro _ M79 l80 rfl
    replace h52 := h52.mono l80
    refine vm rfl rfl ?_
    refine v_extract rfl rfl rfl ?_
    refine v_extract rfl rfl rfl ?_
    refine va rfl rfl ?_
    refine va rfl rfl ?_
    refine w_nil (hK76 _ _ _ ?_)
    refine c_sr fun _ hK83 => ?_
    refine vm rfl rfl ?_
    refine w_nil (hK83 _ _ _ ?_)
    refine c_if rfl (fun b84 => ?_) (fun b84 => ?_)
    ·replace H := if_t b84 H
     refine c_sr fun _ hK85 => ?_
     refine vm rfl rfl ?_
     refine v_fa fa55_0 rfl rfl ?_
     refine wv rfl (fun hf hs => r_load1 ta3 (hf.ev rfl) (hs.blk (i := 4) rfl) rfl) ?_
     refine vm rfl rfl ?_
     refine w_mapUpd (m := s50.2.1) (i := 2) Tryd.underlying98 Tryd.underlying3 trivial rfl rfl rfl rfl ?_
     refine w_nil (hK85 _ _ _ ?_)
     refine c_exit ?_
     intro a w' hf hs
     exact ⟨s50.1, v51, (mput s50.2.1 ((rd p1.Keys s50.2.2.2).Id) t77.1), s50.2.2.1, v53, _, l80, h52, (hf.pick (pk (pk (pk (pk (pk (pk (pk (pk pk0 rfl) rfl) rfl) rfl) rfl) rfl) rfl) rfl)), hs.selD [some 0, some 1, some 2, some 3] (by decide) rfl, H⟩
    replace H := if_f b84 H
    refine c_skip (hK75 _ _ _ ?_)
    refine c_sr fun _ hK86 => ?_
    refine v_fa fa55_0 rfl rfl ?_
    refine wv rfl (fun hf hs => r_load1 ta3 (hf.ev rfl) (hs.blk (i := 4) rfl) rfl) ?_
    refine va rfl rfl ?_
    refine w_nil (hK86 _ _ _ ?_)
    refine c_sr fun _ hK87 => ?_
    refine vm rfl rfl ?_
    refine v_fa fa55_7 rfl rfl ?_
    refine wv rfl (fun hf hs => r_load1 ta3 (hf.ev rfl) (hs.blk (i := 4) rfl) rfl) ?_
    refine wv rfl (fun hf hs => r_lookup 2 hs rfl Tryd.underlying98 Tryd.underlying3 tz3 (hf.ev rfl) (hf.ev rfl)) ?_
    refine v_fa fa55_7 rfl rfl ?_
    refine w_store (i := 4) (vs := [(.int .i64 (mget s50.2.1 ((rd p1.Keys s50.2.2.2).Parent)))]) (A' := Key.C ({ (rd p1.Keys s50.2.2.2) with Parent := (mget s50.2.1 ((rd p1.Keys s50.2.2.2).Parent)) } : Key)) trivial rfl rfl rfl rfl ts3 rfl (one1 rfl) (Nat.le_of_ble_eq_true rfl) rfl ?_
    refine w_nil (hK87 _ _ _ ?_)
    refine c_sr fun _ hK88 => ?_
    refine wv rfl (fun hf hs => r_loadA ta44 ts44 (hf.ev rfl) (hs.blk (i := 0) rfl) rfl rfl) ?_
    refine wv rfl (fun hf hs => r_loadA ta55 ts55 (hf.ev rfl) (hs.blk (i := 4) rfl) rfl rfl) ?_
    obtain ⟨t89, e94, H⟩ := bnd H
    refine w_call cf65 trivial rfl rfl (fun w hs => keys_Add.calls hs s50.1 v51 h52 ({ (rd p1.Keys s50.2.2.2) with Parent := (mget s50.2.1 ((rd p1.Keys s50.2.2.2).Parent)) } : Key) _ e94) ?_
    rintro v110 M91 l92 ⟨v95, hv_, h96⟩
    replace hv_ := hv_.symm
    subst hv_
    replace h52 := h52.mono l92
    refine vm rfl rfl ?_
    refine v_extract rfl rfl rfl ?_
    refine v_extract rfl rfl rfl ?_
    refine v_extract rfl rfl rfl ?_
    refine w_allocL (A := Table.C (⟨0, []⟩ : Table) (.slice none 0 0)) tz44 trivial rfl rfl ?_
    intro b97
    refine w_store (i := 5) (vs := Table.C t89.1 v95) (A' := Table.C t89.1 v95) trivial rfl rfl rfl rfl ts44 rfl (Table.C_one _ h96.one) (Nat.le_of_ble_eq_true rfl) rfl ?_
    refine va rfl rfl ?_
    refine va rfl rfl ?_
    refine w_nil (hK88 _ _ _ ?_)
    refine c_seq fun K98 hK98 => ?_
    refine c_sr fun _ hK99 => ?_
    refine vm rfl rfl ?_
    refine wv rfl (fun hf hs => r_neq (hf.ev rfl) (hf.ev rfl)) ?_
    refine w_nil (hK99 _ _ _ ?_)
    refine c_if rfl (fun b100 => ?_) (fun b100 => ?_)
    ·replace H := if_t b100 H
     refine c_sr fun _ hK101 => ?_
     refine wv rfl (fun hf hs => r_build (is := []) (xs := []) (vs := []) (A := Table.C (⟨0, []⟩ : Table) (.slice none 0 0)) rfl (hf.evs rfl) (built_of (pl := [(0, 1), (1, 1)]) (A0 := Table.C (⟨0, []⟩ : Table) (.slice none 0 0)) tz44 Tryd.underlying44 (by kernel_rfl) rfl .nil)) ?_
     refine vm rfl rfl ?_
     refine w_store (i := 1) (vs := Table.C (⟨0, []⟩ : Table) (.slice none 0 0)) (A' := Table.C (⟨0, []⟩ : Table) (.slice none 0 0)) trivial rfl rfl rfl rfl ts44 rfl (Table.C_one _ rfl) (Nat.le_of_ble_eq_true rfl) rfl ?_
     refine va rfl rfl ?_
     refine va rfl rfl ?_
     refine w_nil (hK101 _ _ _ ?_)
     obtain rfl := (r56 _ (Option.some.inj H).symm)
     exact c_ret fun a w' hf hs => hret _ (.inl rfl) a w' hf.df ⟨_, _, Res.of3 rfl ⟨_, hf.get _ _ rfl, run_loadA (hs.blk (i := 1) rfl) ta44 ts44 rfl rfl⟩ (RV.t hf rfl) (RV.t hf rfl), hs.ext, ⟨_, _, rfl, RS.none, RS.none⟩⟩
    replace H := if_f b100 H
    refine c_skip (hK98 _ _ _ ?_)
    refine c_sr fun _ hK102 => ?_
    refine vm rfl rfl ?_
    refine vm rfl rfl ?_
    refine wv rfl (fun hf hs => r_loadA ta44 ts44 (hf.ev rfl) (hs.blk (i := 5) rfl) rfl rfl) ?_
    refine vm rfl rfl ?_
    refine w_store (i := 0) (vs := Table.C t89.1 v95) (A' := Table.C t89.1 v95) trivial rfl rfl rfl rfl ts44 rfl (Table.C_one _ h96.one) (Nat.le_of_ble_eq_true rfl) rfl ?_
    refine w_mapUpd (m := s50.2.1) (i := 2) Tryd.underlying98 Tryd.underlying3 trivial rfl rfl rfl rfl ?_
    refine w_nil (hK102 _ _ _ ?_)
    refine c_reg ?_
    refine vm rfl rfl ?_
    refine vm rfl rfl ?_
    refine w_bsl (F := (FI .i64)) (es := ([t89.2.1] : List Int)) (xs := [.tmp 81]) (vs := [(.int .i64 t89.2.1)]) Tryd.underlying51 te3 trivial rfl rfl rfl rfl rfl (by decide) ?_
    intro v103 M104 l105 h106 c107
    replace h52 := h52.mono l105
    replace h96 := h96.mono l105
    obtain ⟨g108, H⟩ := grd_s H
    refine w_app (F := (FI .i64)) (m2 := ([t89.2.1] : List Int)) (i := 3) Tryd.underlying51 te3 Tryd.underlying51 (.inl ⟨_, rfl⟩) trivial rfl rfl rfl rfl (Src.rs (FI.one _) h106) g108 ?_
    intro v109
    refine va rfl rfl ?_
    exact w_nil fun a w' hf hs => ⟨t89.1, v95, (mput s50.2.1 ((rd p1.Keys s50.2.2.2).Id) t89.2.1), (s50.2.2.1 ++ ([t89.2.1] : List Int)), v109, _, (l80.trans (l92.trans l105)), h96, (hf.pick (pk (pk (pk (pk (pk (pk (pk (pk pk0 rfl) rfl) rfl) rfl) rfl) rfl) rfl) rfl)), hs.selD [some 0, some 1, some 2, some 3] (by decide) rfl, H⟩
   rintro a w' ⟨x61, v62, x64, x65, v66, M67, l68, h63, hf, hs, H⟩
   refine c_of (c := (Cx.mk Tryd.prog 87 none' M w)) ?_ hf hs
   unfold restore_Plan.j2 at H
   clear hf hs
   replace h52 := h52.mono l68
   refine c_reg ?_
   refine v_add rfl rfl rfl ?_
   refine vm rfl rfl ?_
   exact w_nil fun a w' hf hs => ⟨_, (some_r H).symm, v62, v66, _, l55.trans l68, h63, (hf.pick (pk (pk (pk (pk (pk (pk (pk (pk pk0 rfl) rfl) rfl) rfl) rfl) rfl) rfl) rfl)), hs.selD [some 0, some 1, some 2, some 3] (by decide) rfl⟩
  replace H := if_f b60 H
  replace H := map_inr H r56
  refine c_exit ?_
  intro a w' hf hs
  exact ⟨s50.1, v51, s50.2.2.1, v53, _, l55, h52, (hf.pick (pk (pk (pk pk0 rfl) rfl) rfl)), hs.selD [some 0, some 1, none, some 3] (by decide) rfl, H⟩
 rintro a w' ⟨x38, v39, x41, v42, M43, l44, h40, hf, hs, H⟩
 refine c_of (c := (Cx.mk Tryd.prog 87 none' M w)) ?_ hf hs
 unfold restore_Plan.j1 at H
 clear hf hs
 refine c_sr fun _ hK45 => ?_
 refine wv rfl (fun hf hs => r_loadA ta44 ts44 (hf.ev rfl) (hs.blk (i := 0) rfl) rfl rfl) ?_
 refine vm rfl rfl ?_
 refine w_store (i := 1) (vs := Table.C x38 v39) (A' := Table.C x38 v39) trivial rfl rfl rfl rfl ts44 rfl (Table.C_one _ h40.one) (Nat.le_of_ble_eq_true rfl) rfl ?_
 refine va rfl rfl ?_
 refine va rfl rfl ?_
 refine w_nil (hK45 _ _ _ ?_)
 obtain rfl := some_r H
 refine c_ret ?_
 refine n_give 3 rfl (fun _ h => h) ?_
 intro M46 l47 h48
 replace h40 := h40.mono l47
 intro a w' hf hs
 exact hret _ (.inl rfl) a w' hf.df ⟨_, _, Res.of3 rfl ⟨_, hf.get _ _ rfl, run_loadA (hs.blk (i := 1) rfl) ta44 ts44 rfl rfl⟩ (RV.t hf rfl) (RV.t hf rfl), hs.ext, ⟨_, _, rfl, h40, h48⟩⟩
theorem restore_Admit.calls {M : Heap} {w : World} (hM : Sub M w) (p0 : restore_Place) (p1 : Backup) (v1 : Value) (h2 : RS Key.F M v1 p1.Keys) (r : Int) (H : restore_Admit p0 p1 = some r) :
  Calls Tryd.prog 62 [(.agg (restore_Place.C p0).toArray), (.agg (Backup.C p1 v1).toArray)].toArray w (Post M w fun M' v => v = (.int .i64 r)) := by
 refine enter 34 [(0, (.agg (restore_Place.C p0).toArray)), (1, (.agg (Backup.C p1 v1).toArray))] Tryd.func62 rfl rfl rfl hM ?_
 intro Q hret
 unfold restore_Admit at H
 refine c_sr fun _ hK3 => ?_
 refine w_boxM trivial rfl rfl rfl ?_
 intro b4 M5 l6 h7
 replace h2 := h2.mono l6
 refine w_boxM trivial rfl rfl rfl ?_
 intro b8 M9 l10 h11
 replace h2 := h2.mono l10
 replace h7 := l10 _ _ h7
 refine va rfl rfl ?_
 refine w_nil (hK3 _ _ _ ?_)
 refine c_seq fun K12 hK12 => ?_
 refine c_block ?_
 refine c_sr fun _ hK13 => ?_
 refine wv rfl (fun hf hs => r_loadA ta36 ts36 (hf.ev rfl) (hs.sub _ _ h11) (Backup.d0_38 _ _) (Backup.len _ _)) ?_
 obtain ⟨t14, e19, H⟩ := bnd H
 refine w_call cf46 trivial rfl rfl (fun w hs => backup_Valid.calls hs p1 v1 h2 _ e19) ?_
 rintro _ M16 l17 rfl
 replace h7 := l17 _ _ h7
 replace h11 := l17 _ _ h11
 refine wv rfl (fun hf hs => r_not (hf.ev rfl)) ?_
 refine va rfl rfl ?_
 refine w_nil (hK13 _ _ _ ?_)
 refine c_if rfl (fun b20 => ?_) (fun b20 => ?_)
 ·replace H := if_t b20 H
  refine c_sr fun _ hK21 => ?_
  refine va rfl rfl ?_
  refine w_nil (hK21 _ _ _ ?_)
  obtain rfl := some_r H
  exact c_ret fun a w' hf hs => hret _ (.inl rfl) a w' hf.df ⟨_, _, Res.of1 rfl (RV.t hf rfl), hs.ext, rfl⟩
 replace H := if_f b20 H
 refine c_sr fun _ hK22 => ?_
 refine wv rfl (fun hf hs => r_loadA ta94 ts94 (hf.ev rfl) (hs.sub _ _ h7) (restore_Place.d0_34 _) (restore_Place.len _)) ?_
 refine v_fa fa36_0 rfl rfl ?_
 refine wv rfl (fun hf hs => r_loadA ta33 ts33 (hf.ev rfl) (hs.sub _ _ h11) (Backup.d0_16 _ _) (vI_len _)) ?_
 refine v_fa fa36_5 rfl rfl ?_
 refine wv rfl (fun hf hs => r_loadA ta33 ts33 (hf.ev rfl) (hs.sub _ _ h11) (Backup.d20_16 _ _) (vI_len _)) ?_
 refine v_fa fa94_2 rfl rfl ?_
 refine wv rfl (fun hf hs => r_load1 ta3 (hf.ev rfl) (hs.sub _ _ h7) (restore_Place.g32 _)) ?_
 refine v_fa fa94_3 rfl rfl ?_
 refine wv rfl (fun hf hs => r_load1 ta3 (hf.ev rfl) (hs.sub _ _ h7) (restore_Place.g33 _)) ?_
 refine wv rfl (fun hf hs => r_build (is := [0, 1, 2, 3]) (xs := [.tmp 12, .tmp 14, .tmp 16, .tmp 18]) (vs := [(.agg (vI .u8 p1.Domain).toArray), (.agg (vI .u8 p1.Policy).toArray), (.int .i64 p0.Firmware), (.int .i64 p0.Number)]) (A := restore_Place.C (⟨p1.Domain, p1.Policy, p0.Firmware, p0.Number⟩ : restore_Place)) rfl (hf.evs rfl) (built_of (pl := [(0, 16), (16, 16), (32, 1), (33, 1)]) (A0 := restore_Place.C (⟨(Vector.replicate 16 0), (Vector.replicate 16 0), 0, 0⟩ : restore_Place)) tz94 Tryd.underlying94 (by kernel_rfl) rfl (.cons (vs := vI .u8 p1.Domain) (B := restore_Place.C (⟨p1.Domain, (Vector.replicate 16 0), 0, 0⟩ : restore_Place)) rfl rfl (by simp) (by rw [restore_Place.len]; decide) (restore_Place.s0_16 _) (.cons (vs := vI .u8 p1.Policy) (B := restore_Place.C (⟨p1.Domain, p1.Policy, 0, 0⟩ : restore_Place)) rfl rfl (by simp) (by rw [restore_Place.len]; decide) (restore_Place.s16_16 _) (.cons (vs := [(.int .i64 p0.Firmware)]) (B := restore_Place.C (⟨p1.Domain, p1.Policy, p0.Firmware, 0⟩ : restore_Place)) rfl rfl rfl (by rw [restore_Place.len]; decide) (restore_Place.s32_1 _) (.cons (vs := [(.int .i64 p0.Number)]) (B := restore_Place.C (⟨p1.Domain, p1.Policy, p0.Firmware, p0.Number⟩ : restore_Place)) rfl rfl rfl (by rw [restore_Place.len]; decide) (restore_Place.s33_1 _) .nil)))))) ?_
 refine wv rfl (fun hf hs => r_neS eq94 (hf.ev rfl) (hf.ev rfl)) ?_
 refine va rfl rfl ?_
 refine w_nil (hK22 _ _ _ ?_)
 refine c_if rfl (fun b23 => ?_) (fun b23 => ?_)
 ·replace H := if_t b23 H
  refine c_sr fun _ hK24 => ?_
  refine va rfl rfl ?_
  refine w_nil (hK24 _ _ _ ?_)
  obtain rfl := some_r H
  exact c_ret fun a w' hf hs => hret _ (.inl rfl) a w' hf.df ⟨_, _, Res.of1 rfl (RV.t hf rfl), hs.ext, rfl⟩
 replace H := if_f b23 H
 obtain ⟨t25, H1, H⟩ := bnd H
 refine c_cut (fun a' w' => ∃ (M26 : Heap), HLe M16 M26 ∧ Fr 34 [(21, (.bool t25))] a' ∧ St none' M w M26 (lt []) w') ?_ ?_
 ·replace H := H1
  clear H1
  refine c_reg ?_
  refine v_fa fa36_3 rfl rfl ?_
  refine wv rfl (fun hf hs => r_load1 ta3 (hf.ev rfl) (hs.sub _ _ h11) (Backup.g18 _ _)) ?_
  refine v_fa fa94_2 rfl rfl ?_
  refine wv rfl (fun hf hs => r_load1 ta3 (hf.ev rfl) (hs.sub _ _ h7) (restore_Place.g32 _)) ?_
  refine wv rfl (fun hf hs => r_gtr (hf.ev rfl) (hf.ev rfl)) ?_
  refine vm rfl rfl ?_
  by_cases b28 : (decide (p0.Firmware < p1.Firmware)) = true
  ·replace H := if_t b28 H
   refine wq b28 rfl rfl rfl ?_
   refine wq b28 rfl rfl rfl ?_
   refine wq b28 rfl rfl rfl ?_
   refine wq b28 rfl rfl rfl ?_
   refine wq b28 rfl rfl rfl ?_
   refine wv rfl (fun hf hs => r_pickT (hf.ev rfl) b28 (hf.ev rfl)) ?_
   refine va rfl rfl ?_
   obtain rfl := some_r H
   exact w_nil fun a w' hf hs => ⟨_, (HLe.refl _), (hf.pick (pk pk0 rfl)), hs.sel [] (by decide) rfl⟩
  replace b28 := Bool.eq_false_iff.2 b28
  replace H := if_f b28 H
  refine wg b28 rfl rfl rfl (fun hf hs => r_fa fa36_2 (hf.ev rfl)) ?_
  refine wg b28 rfl rfl rfl (fun hf hs => r_load1 ta3 (hf.ev rfl) (hs.sub _ _ h11) (Backup.g17 _ _)) ?_
  refine wg b28 rfl rfl rfl (fun hf hs => r_fa fa94_3 (hf.ev rfl)) ?_
  refine wg b28 rfl rfl rfl (fun hf hs => r_load1 ta3 (hf.ev rfl) (hs.sub _ _ h7) (restore_Place.g33 _)) ?_
  refine wg b28 rfl rfl rfl (fun hf hs => r_lss (hf.ev rfl) (hf.ev rfl)) ?_
  refine wv rfl (fun hf hs => r_pickF (hf.ev rfl) b28 (hf.ev rfl)) ?_
  refine va rfl rfl ?_
  obtain rfl := some_r H
  exact w_nil fun a w' hf hs => ⟨_, (HLe.refl _), (hf.pick (pk pk0 rfl)), hs.sel [] (by decide) rfl⟩
 clear H1
 rintro a w' ⟨M26, l27, hf, hs⟩
 refine c_of (c := (Cx.mk Tryd.prog 34 none' M w)) ?_ hf hs
 clear hf hs
 refine c_if rfl (fun b29 => ?_) (fun b29 => ?_)
 ·replace H := if_t b29 H
  refine c_sr fun _ hK30 => ?_
  refine va rfl rfl ?_
  refine w_nil (hK30 _ _ _ ?_)
  obtain rfl := some_r H
  exact c_ret fun a w' hf hs => hret _ (.inl rfl) a w' hf.df ⟨_, _, Res.of1 rfl (RV.t hf rfl), hs.ext, rfl⟩
 replace H := if_f b29 H
 refine c_skip (hK12 _ _ _ ?_)
 refine c_sr fun _ hK31 => ?_
 refine va rfl rfl ?_
 refine w_nil (hK31 _ _ _ ?_)
 obtain rfl := some_r H
 exact c_ret fun a w' hf hs => hret _ (.inl rfl) a w' hf.df ⟨_, _, Res.of1 rfl (RV.t hf rfl), hs.ext, rfl⟩
theorem ref27_Same.calls {M : Heap} {w : World} (hM : Sub M w) (p0 : Table) (v1 : Value) (h2 : RS Key.F M v1 p0.Keys) (p1 : Table) (v3 : Value) (h4 : RS Key.F M v3 p1.Keys) (r : Bool) (H : ref27_Same p0 p1 = some r) :
  Calls Tryd.prog 63 [(.agg (Table.C p0 v1).toArray), (.agg (Table.C p1 v3).toArray)].toArray w (Post M w fun M' v => v = (.bool r)) := by
 refine enter 38 [(0, (.agg (Table.C p0 v1).toArray)), (1, (.agg (Table.C p1 v3).toArray))] Tryd.func63 rfl rfl rfl hM ?_
 intro Q hret
 unfold ref27_Same at H
 refine c_sr fun _ hK5 => ?_
 refine w_boxM trivial rfl rfl rfl ?_
 intro b6 M7 l8 h9
 replace h2 := h2.mono l8
 replace h4 := h4.mono l8
 refine w_boxM trivial rfl rfl rfl ?_
 intro b10 M11 l12 h13
 replace h2 := h2.mono l12
 replace h4 := h4.mono l12
 replace h9 := l12 _ _ h9
 refine va rfl rfl ?_
 refine w_nil (hK5 _ _ _ ?_)
 refine c_seq fun K14 hK14 => ?_
 obtain ⟨t15, H1, H⟩ := bnd H
 refine c_cut (fun a' w' => ∃ (M16 : Heap), HLe M11 M16 ∧ Fr 38 [(2, (ptr b6 0)), (3, (ptr b10 0)), (19, (.bool t15))] a' ∧ St none' M w M16 (lt []) w') ?_ ?_
 ·replace H := H1
  clear H1
  refine c_reg ?_
  refine v_fa fa44_0 rfl rfl ?_
  refine wv rfl (fun hf hs => r_load1 ta3 (hf.ev rfl) (hs.sub _ _ h9) rfl) ?_
  refine v_fa fa44_0 rfl rfl ?_
  refine wv rfl (fun hf hs => r_load1 ta3 (hf.ev rfl) (hs.sub _ _ h13) rfl) ?_
  refine wv rfl (fun hf hs => r_neq (hf.ev rfl) (hf.ev rfl)) ?_
  refine vm rfl rfl ?_
  by_cases b18 : (p0.Next != p1.Next) = true
  ·replace H := if_t b18 H
   refine wq b18 rfl rfl rfl ?_
   refine wq b18 rfl rfl rfl ?_
   refine wq b18 rfl rfl rfl ?_
   refine wq b18 rfl rfl rfl ?_
   refine wq b18 rfl rfl rfl ?_
   refine wq b18 rfl rfl rfl ?_
   refine wq b18 rfl rfl rfl ?_
   refine wv rfl (fun hf hs => r_pickT (hf.ev rfl) b18 (hf.ev rfl)) ?_
   obtain rfl := some_r H
   exact w_nil fun a w' hf hs => ⟨_, (HLe.refl _), (hf.pick (pk (pk (pk pk0 rfl) rfl) rfl)), hs.sel [] (by decide) rfl⟩
  replace b18 := Bool.eq_false_iff.2 b18
  replace H := if_f b18 H
  refine wg b18 rfl rfl rfl (fun hf hs => r_fa fa44_1 (hf.ev rfl)) ?_
  refine wg b18 rfl rfl rfl (fun hf hs => r_load1 ta34 (hf.ev rfl) (hs.sub _ _ h9) rfl) ?_
  refine wg b18 rfl rfl rfl (fun hf hs => r_lenR Tryd.underlying34 h2 (hf.ev rfl)) ?_
  refine wg b18 rfl rfl rfl (fun hf hs => r_fa fa44_1 (hf.ev rfl)) ?_
  refine wg b18 rfl rfl rfl (fun hf hs => r_load1 ta34 (hf.ev rfl) (hs.sub _ _ h13) rfl) ?_
  refine wg b18 rfl rfl rfl (fun hf hs => r_lenR Tryd.underlying34 h4 (hf.ev rfl)) ?_
  refine wg b18 rfl rfl rfl (fun hf hs => r_neq (hf.ev rfl) (hf.ev rfl)) ?_
  refine wv rfl (fun hf hs => r_pickF (hf.ev rfl) b18 (hf.ev rfl)) ?_
  obtain rfl := some_r H
  exact w_nil fun a w' hf hs => ⟨_, (HLe.refl _), (hf.pick (pk (pk (pk pk0 rfl) rfl) rfl)), hs.sel [] (by decide) rfl⟩
 clear H1
 rintro a w' ⟨M16, l17, hf, hs⟩
 refine c_of (c := (Cx.mk Tryd.prog 38 none' M w)) ?_ hf hs
 clear hf hs
 replace h2 := h2.mono l17
 replace h4 := h4.mono l17
 replace h9 := l17 _ _ h9
 replace h13 := l17 _ _ h13
 refine c_if rfl (fun b19 => ?_) (fun b19 => ?_)
 ·replace H := if_t b19 H
  refine c_sr fun _ hK20 => ?_
  refine va rfl rfl ?_
  refine w_nil (hK20 _ _ _ ?_)
  obtain rfl := some_r H
  exact c_ret fun a w' hf hs => hret _ (.inl rfl) a w' hf.df ⟨_, _, Res.of1 rfl (RV.t hf rfl), hs.ext, rfl⟩
 replace H := if_f b19 H
 refine c_skip (hK14 _ _ _ ?_)
 refine c_cut (fun a' w' => ∃ (M21 : Heap), HLe M16 M21 ∧ Fr 38 [] a' ∧ St none' M w M21 (lt []) w' ∧ ref27_Same.j1  = some r) ?_ ?_
 ·refine c_seq ?_
  intro K24 hK24
  refine c_reg ?_
  refine va rfl rfl ?_
  refine w_nil (hK24 _ _ _ ?_)
  refine c_block ?_
  refine c_loop (fun (s25 : Int) a' w' => ∃ (M26 : Heap), HLe M16 M26 ∧ Fr 38 [(2, (ptr b6 0)), (3, (ptr b10 0)), (5, (.int .i64 s25))] a' ∧ St none' M w M26 (lt []) w') (0 : Int) H ?_ ?_
  ·intro a w' hf hs
   exact ⟨_, HLe.refl _, (hf.pick (pk (pk (pk pk0 rfl) rfl) rfl)), hs.selD [] (by decide) rfl⟩
  clear H
  intro s25 y29 H r28 a w' hJ
  obtain ⟨M26, l27, hf, hs⟩ := hJ
  refine c_of (c := (Cx.mk Tryd.prog 38 none' M w)) ?_ hf hs
  unfold ref27_Same.l2 at H
  clear hf hs
  replace h2 := h2.mono l27
  replace h4 := h4.mono l27
  replace h9 := l27 _ _ h9
  replace h13 := l27 _ _ h13
  refine c_seq fun K30 hK30 => ?_
  refine c_sr fun _ hK31 => ?_
  refine vm rfl rfl ?_
  refine v_fa fa44_1 rfl rfl ?_
  refine wv rfl (fun hf hs => r_load1 ta34 (hf.ev rfl) (hs.sub _ _ h9) rfl) ?_
  refine wv rfl (fun hf hs => r_lenR Tryd.underlying34 h2 (hf.ev rfl)) ?_
  refine v_lss rfl rfl rfl ?_
  refine w_nil (hK31 _ _ _ ?_)
  refine c_if rfl (fun b32 => ?_) (fun b32 => ?_)
  ·replace H := if_t b32 H
   refine c_skip (hK30 _ _ _ ?_)
   refine c_seq fun K33 hK33 => ?_
   refine c_block ?_
   refine c_seq fun K34 hK34 => ?_
   obtain ⟨g46, H⟩ := grd_s H
   obtain ⟨g61, H⟩ := grd_s H
   refine c_drawP [([], [2]), ([(0, 27)], []), ([], [5]), ([(1, 28), (2, 29)], []), ([(3, 30)], []), ([], [3]), ([(5, 32)], []), ([], [5]), ([(6, 33), (7, 34)], []), ([(8, 35)], []), ([(4, 31), (9, 36)], [])] [vq (ptr b6 1), vq v1, vq (.int .i64 s25), vq (eP v1 s25 9 0), vq (.agg (Key.C (rd p0.Keys s25)).toArray), vq (ptr b10 1), vq v3, vq (.int .i64 s25), vq (eP v3 s25 9 0), vq (.agg (Key.C (rd p1.Keys s25)).toArray), vq (.bool (!(decide ((rd p0.Keys s25) = (rd p1.Keys s25)))))] (by kernel_rfl) (by kernel_rfl) ?_ (aT ?_ (aT ?_ (aT ?_ (aT ?_ (aT ?_ (aT ?_ (aT ?_ (aT ?_ (aT ?_ (aT ?_ (aT ?_ AllT.nil))))))))))) ?_
   ·exact (mC (mC (mC (mC (mC (mC (mC (mC (mC (mC (mC MonoA.nil)))))))))))
   ·intro a w' _ l36 hd hs
    replace h9 := l36 _ _ h9
    replace h2 := h2.mono l36
    exact pv (hd.fr.add (hd.base 2 _ rfl rfl)) hs rfl (fun hf hs => r_fa fa44_1 (hf.ev rfl)) rfl
   ·intro a w' _ l38 hd hs
    replace h2 := h2.mono l38
    exact pv (hd.fr.add (hd.val 0 27 _ rfl rfl)) hs rfl (fun hf hs => r_load1 ta34 (hf.ev rfl) (hs.sub _ _ (l38 _ _ h9)) rfl) rfl
   ·intro a w' _ _ hd hs
    exact pv (hd.fr.add (hd.base 5 _ rfl rfl)) hs rfl (fun hf hs => r_move (hf.ev rfl)) rfl
   ·intro a w' _ l43 hd hs
    exact pv ((hd.fr.add (hd.val 2 29 _ rfl rfl)).add (hd.val 1 28 _ rfl rfl)) hs rfl (fun hf hs => r_iR Tryd.underlying34 ts55 (h2.mono l43) (hf.ev rfl) (hf.ev rfl) g46.1 g46.2) rfl
   ·intro a w' _ l48 hd hs
    exact pu (hd.fr.add (hd.val 3 30 _ rfl rfl)) hs rfl rfl (fun hf hs => r_loadEA ta55 ts55 (h2.mono l48) hs.sub g46.1 g46.2 (hf.ev rfl) rfl rfl)
   ·intro a w' _ l51 hd hs
    replace h13 := l51 _ _ h13
    replace h4 := h4.mono l51
    exact pv (hd.fr.add (hd.base 3 _ rfl rfl)) hs rfl (fun hf hs => r_fa fa44_1 (hf.ev rfl)) rfl
   ·intro a w' _ l53 hd hs
    replace h4 := h4.mono l53
    exact pv (hd.fr.add (hd.val 5 32 _ rfl rfl)) hs rfl (fun hf hs => r_load1 ta34 (hf.ev rfl) (hs.sub _ _ (l53 _ _ h13)) rfl) rfl
   ·intro a w' _ _ hd hs
    exact pv (hd.fr.add (hd.base 5 _ rfl rfl)) hs rfl (fun hf hs => r_move (hf.ev rfl)) rfl
   ·intro a w' _ l58 hd hs
    exact pv ((hd.fr.add (hd.val 7 34 _ rfl rfl)).add (hd.val 6 33 _ rfl rfl)) hs rfl (fun hf hs => r_iR Tryd.underlying34 ts55 (h4.mono l58) (hf.ev rfl) (hf.ev rfl) g61.1 g61.2) rfl
   ·intro a w' _ l63 hd hs
    exact pu (hd.fr.add (hd.val 8 35 _ rfl rfl)) hs rfl rfl (fun hf hs => r_loadEA ta55 ts55 (h4.mono l63) hs.sub g61.1 g61.2 (hf.ev rfl) rfl rfl)
   ·intro a w' _ _ hd hs
    exact pv ((hd.fr.add (hd.val 9 36 _ rfl rfl)).add (hd.val 4 31 _ rfl rfl)) hs rfl (fun hf hs => r_neS eq55 (hf.ev rfl) (hf.ev rfl)) rfl
   intro a w' M69 l70 hdf hsz hb hv hs
   have e71 := hv 10 37 _ rfl rfl
   refine n_of (c := (Cx.mk Tryd.prog 38 none' M w)) (l := [(2, (ptr b6 0)), (3, (ptr b10 0)), (5, (.int .i64 s25)), (37, (.bool (!(decide ((rd p0.Keys s25) = (rd p1.Keys s25))))))]) ?_ (((((Fr.start hdf hsz).add e71).add (hb 5 _ rfl rfl)).add (hb 3 _ rfl rfl)).add (hb 2 _ rfl rfl)) hs
   clear hdf hsz hb hv hs e71
   refine n_id (hK34 _ _ _ ?_)
   refine c_if rfl (fun b72 => ?_) (fun b72 => ?_)
   ·replace H := if_t b72 H
    refine c_sr fun _ hK73 => ?_
    refine va rfl rfl ?_
    refine w_nil (hK73 _ _ _ ?_)
    obtain rfl := (r28 _ (Option.some.inj H).symm)
    exact c_ret fun a w' hf hs => hret _ (.inl rfl) a w' hf.df ⟨_, _, Res.of1 rfl (RV.t hf rfl), hs.ext, rfl⟩
   replace H := if_f b72 H
   refine c_skip (hK33 _ _ _ ?_)
   refine c_reg ?_
   refine vm rfl rfl ?_
   refine v_add rfl rfl rfl ?_
   refine va rfl rfl ?_
   exact w_nil fun a w' hf hs => ⟨_, (some_r H).symm, _, l27.trans l70, (hf.pick (pk (pk (pk pk0 rfl) rfl) rfl)), hs.selD [] (by decide) rfl⟩
  replace H := if_f b32 H
  replace H := map_inr H r28
  refine c_exit ?_
  intro a w' hf hs
  exact ⟨_, l27, hf.nil, hs.selD [] (by decide) rfl, H⟩
 rintro a w' ⟨M21, l22, hf, hs, H⟩
 refine c_of (c := (Cx.mk Tryd.prog 38 none' M w)) ?_ hf hs
 unfold ref27_Same.j1 at H
 clear hf hs
 refine c_sr fun _ hK23 => ?_
 refine va rfl rfl ?_
 refine w_nil (hK23 _ _ _ ?_)
 obtain rfl := some_r H
 exact c_ret fun a w' hf hs => hret _ (.inl rfl) a w' hf.df ⟨_, _, Res.of1 rfl (RV.t hf rfl), hs.ext, rfl⟩
theorem restore_Holds_1.calls {M : Heap} {w : World} (hM : Sub M w) (p0 : Key) (c0_ : Table) (cb0_ : Nat) (v1 : Value) (h2 : RS Key.F M v1 c0_.Keys) (ch0_ : M cb0_ = some (.cells (Table.C c0_ v1).toArray 44 (0, 0))) (c1_ : Int) (cb1_ : Nat) (ch1_ : M cb1_ = some (.cells ([(.int .i64 c1_)]).toArray 3 (0, 0))) (r : Bool) (H : restore_Holds_1 p0 c0_ c1_ = some r) :
  Calls Tryd.prog 69 [(.agg (Key.C p0).toArray), (ptr cb0_ 0), (ptr cb1_ 0)].toArray w (Post M w fun M' v => v = (.bool r)) := by
 refine enter 21 [(0, (.agg (Key.C p0).toArray)), (1, (ptr cb0_ 0)), (2, (ptr cb1_ 0))] Tryd.func69 rfl rfl rfl hM ?_
 intro Q hret
 unfold restore_Holds_1 at H
 refine c_sr fun _ hK3 => ?_
 refine w_boxM trivial rfl rfl rfl ?_
 intro b4 M5 l6 h7
 replace h2 := h2.mono l6
 replace ch0_ := l6 _ _ ch0_
 replace ch1_ := l6 _ _ ch1_
 refine va rfl rfl ?_
 refine w_nil (hK3 _ _ _ ?_)
 refine c_sr fun _ hK8 => ?_
 refine wv rfl (fun hf hs => r_loadA ta44 ts44 (hf.ev rfl) (hs.sub _ _ ch0_) rfl rfl) ?_
 refine wv rfl (fun hf hs => r_loadA ta55 ts55 (hf.ev rfl) (hs.sub _ _ h7) rfl rfl) ?_
 obtain ⟨t9, e14, H⟩ := bnd H
 refine w_call cf32 trivial rfl rfl (fun w hs => restore_Twin.calls hs c0_ v1 h2 p0 _ e14) ?_
 rintro _ M11 l12 rfl
 replace ch1_ := l12 _ _ ch1_
 replace h7 := l12 _ _ h7
 refine vm rfl rfl ?_
 refine v_extract rfl rfl rfl ?_
 refine v_extract rfl rfl rfl ?_
 refine va rfl rfl ?_
 refine va rfl rfl ?_
 refine w_nil (hK8 _ _ _ ?_)
 obtain ⟨t15, H1, H⟩ := bnd H
 refine c_cut (fun a' w' => ∃ (M16 : Heap), HLe M11 M16 ∧ Fr 21 [(4, (.bool t15))] a' ∧ St none' M w M16 (lt []) w') ?_ ?_
 ·replace H := H1
  clear H1
  refine c_reg ?_
  refine v_fa fa55_5 rfl rfl ?_
  refine wv rfl (fun hf hs => r_load1 ta3 (hf.ev rfl) (hs.sub _ _ h7) rfl) ?_
  refine wv rfl (fun hf hs => r_load1 ta3 (hf.ev rfl) (hs.sub _ _ ch1_) rfl) ?_
  refine wv rfl (fun hf hs => r_gtr (hf.ev rfl) (hf.ev rfl)) ?_
  refine vm rfl rfl ?_
  by_cases b18 : (decide (c1_ < p0.End)) = true
  ·replace H := if_t b18 H
   refine wg b18 rfl rfl rfl (fun hf hs => r_move (hf.ev rfl)) ?_
   refine wg b18 rfl rfl rfl (fun hf hs => r_not (hf.ev rfl)) ?_
   refine wv rfl (fun hf hs => r_pickT (hf.ev rfl) b18 (hf.ev rfl)) ?_
   refine va rfl rfl ?_
   obtain rfl := some_r H
   exact w_nil fun a w' hf hs => ⟨_, (HLe.refl _), (hf.pick (pk pk0 rfl)), hs.sel [] (by decide) rfl⟩
  replace b18 := Bool.eq_false_iff.2 b18
  replace H := if_f b18 H
  refine wq b18 rfl rfl rfl ?_
  refine wq b18 rfl rfl rfl ?_
  refine wv rfl (fun hf hs => r_pickF (hf.ev rfl) b18 (hf.ev rfl)) ?_
  refine va rfl rfl ?_
  obtain rfl := some_r H
  exact w_nil fun a w' hf hs => ⟨_, (HLe.refl _), (hf.pick (pk pk0 rfl)), hs.sel [] (by decide) rfl⟩
 clear H1
 rintro a w' ⟨M16, l17, hf, hs⟩
 refine c_of (c := (Cx.mk Tryd.prog 21 none' M w)) ?_ hf hs
 clear hf hs
 obtain rfl := some_r H
 exact c_ret fun a w' hf hs => hret _ (.inl rfl) a w' hf.df ⟨_, _, Res.of1 rfl (RV.t hf rfl), hs.ext, rfl⟩
theorem restore_Holds.calls {M : Heap} {w : World} (hM : Sub M w) (p0 : Table) (v1 : Value) (h2 : RS Key.F M v1 p0.Keys) (p1 : Backup) (v3 : Value) (h4 : RS Key.F M v3 p1.Keys) (p2 : Int) (r : Bool) (H : restore_Holds p0 p1 p2 = some r) :
  Calls Tryd.prog 34 [(.agg (Table.C p0 v1).toArray), (.agg (Backup.C p1 v3).toArray), (.int .i64 p2)].toArray w (Post M w fun M' v => v = (.bool r)) := by
 refine enter 12 [(0, (.agg (Table.C p0 v1).toArray)), (1, (.agg (Backup.C p1 v3).toArray)), (2, (.int .i64 p2))] Tryd.func34 rfl rfl rfl hM ?_
 intro Q hret
 unfold restore_Holds at H
 refine c_sr fun _ hK5 => ?_
 refine w_boxM trivial rfl rfl rfl ?_
 intro b6 M7 l8 h9
 replace h2 := h2.mono l8
 replace h4 := h4.mono l8
 refine w_boxM trivial rfl rfl rfl ?_
 intro b10 M11 l12 h13
 replace h2 := h2.mono l12
 replace h4 := h4.mono l12
 replace h9 := l12 _ _ h9
 refine w_boxM trivial rfl rfl rfl ?_
 intro b14 M15 l16 h17
 replace h2 := h2.mono l16
 replace h4 := h4.mono l16
 replace h9 := l16 _ _ h9
 replace h13 := l16 _ _ h13
 refine va rfl rfl ?_
 refine w_nil (hK5 _ _ _ ?_)
 refine c_sr fun _ hK18 => ?_
 refine v_fa fa36_7 rfl rfl ?_
 refine wv rfl (fun hf hs => r_load1 ta34 (hf.ev rfl) (hs.sub _ _ h13) (Backup.g37 _ _)) ?_
 refine wv rfl (fun hf hs => r_makeFunc (hf.evs rfl)) ?_
 obtain ⟨t19, e24, H⟩ := bnd H
 refine w_call cf59 trivial rfl rfl (fun w hs => slices_ContainsFunc_Key.calls hs p1.Keys v3 h4 (fun x => restore_Holds_1 x p0 p2) (.func (.func 69) #[] #[(ptr b6 0), (ptr b14 0)]) (FnS.of cf69 fun M' w x r hM hs hp => Calls.mono (restore_Holds_1.calls hs x p0 b6 v1 (h2.mono hM) (hM _ _ h9) p2 b14 (hM _ _ h17) _ hp) fun e w' q => q) _ e24) ?_
 rintro _ M21 l22 rfl
 refine wv rfl (fun hf hs => r_not (hf.ev rfl)) ?_
 refine va rfl rfl ?_
 refine w_nil (hK18 _ _ _ ?_)
 obtain rfl := some_r H
 exact c_ret fun a w' hf hs => hret _ (.inl rfl) a w' hf.df ⟨_, _, Res.of1 rfl (RV.t hf rfl), hs.ext, rfl⟩
theorem law37_sanity.calls {M : Heap} {w : World} (hM : Sub M w)  (r : Bool) (hr_ : r = true) (H : law37_sanity  = some r) :
  Calls Tryd.prog 29 [].toArray w (Post M w fun M' v => v = (.bool r)) := by
 refine enter 166 [] Tryd.func29 rfl rfl rfl hM ?_
 intro Q hret
 unfold law37_sanity at H
 refine c_sr fun _ hK1 => ?_
 refine va rfl rfl ?_
 refine w_nil (hK1 _ _ _ ?_)
 refine c_sr fun _ hK2 => ?_
 obtain ⟨t3, e8, H⟩ := bnd H
 refine w_call cf35 trivial rfl rfl (fun w hs => strings_Repeat.calls hs ([118] : List UInt8) (32 : Int) _ e8) ?_
 rintro _ M5 l6 rfl
 refine va rfl rfl ?_
 refine w_nil (hK2 _ _ _ ?_)
 refine c_sr fun _ hK9 => ?_
 refine vm rfl rfl ?_
 refine wv rfl (fun hf hs => r_build (is := [0, 2, 4, 5, 6]) (xs := [.const (.int .i64 1), .tmp 22, .const (.int .i64 1), .const (.int .i64 9), .const (.int .i64 1)]) (vs := [(.int .i64 1), (str t3), (.int .i64 1), (.int .i64 9), (.int .i64 1)]) (A := Key.C (⟨1, 0, t3, 0, 1, 9, 1, 0, false⟩ : Key)) rfl (hf.evs rfl) (by kernel_rfl)) ?_
 refine w_allocL (A := Key.C (⟨0, 0, [], 0, 0, 0, 0, 0, false⟩ : Key)) tz55 trivial rfl rfl ?_
 intro b10
 refine w_store (i := 0) (vs := Key.C (⟨1, 0, t3, 0, 1, 9, 1, 0, false⟩ : Key)) (A' := Key.C (⟨1, 0, t3, 0, 1, 9, 1, 0, false⟩ : Key)) trivial rfl rfl rfl rfl ts55 rfl (Key.F_one _) (Nat.le_of_ble_eq_true rfl) rfl ?_
 refine w_nil (hK9 _ _ _ ?_)
 refine c_sr fun _ hK11 => ?_
 refine wv rfl (fun hf hs => r_loadA ta55 ts55 (hf.ev rfl) (hs.blk (i := 0) rfl) rfl rfl) ?_
 refine w_bsl (F := Key.F) (es := ([(⟨1, 0, t3, 0, 1, 9, 1, 0, false⟩ : Key)] : List Key)) (xs := [.tmp 24]) (vs := [(.agg (Key.C (⟨1, 0, t3, 0, 1, 9, 1, 0, false⟩ : Key)).toArray)]) Tryd.underlying34 te55 trivial rfl rfl rfl rfl rfl (by decide) ?_
 intro v12 M13 l14 h15 c16
 refine wv rfl (fun hf hs => r_build (is := [0, 1]) (xs := [.const (.int .i64 2), .tmp 25]) (vs := [(.int .i64 2), v12]) (A := Table.C (⟨2, ([(⟨1, 0, t3, 0, 1, 9, 1, 0, false⟩ : Key)] : List Key)⟩ : Table) v12) rfl (hf.evs rfl) (built_of (pl := [(0, 1), (1, 1)]) (A0 := Table.C (⟨0, []⟩ : Table) (.slice none 0 0)) tz44 Tryd.underlying44 (by kernel_rfl) rfl (.cons (vs := [(.int .i64 2)]) (B := Table.C (⟨2, []⟩ : Table) (.slice none 0 0)) rfl rfl rfl (by rw [Table.len]; decide) rfl (.cons (vs := [v12]) (B := Table.C (⟨2, ([(⟨1, 0, t3, 0, 1, 9, 1, 0, false⟩ : Key)] : List Key)⟩ : Table) v12) rfl (h15.cells1) rfl (by rw [Table.len]; decide) rfl .nil)))) ?_
 refine w_allocL (A := Table.C (⟨0, []⟩ : Table) (.slice none 0 0)) tz44 trivial rfl rfl ?_
 intro b17
 refine w_store (i := 1) (vs := Table.C (⟨2, ([(⟨1, 0, t3, 0, 1, 9, 1, 0, false⟩ : Key)] : List Key)⟩ : Table) v12) (A' := Table.C (⟨2, ([(⟨1, 0, t3, 0, 1, 9, 1, 0, false⟩ : Key)] : List Key)⟩ : Table) v12) trivial rfl rfl rfl rfl ts44 rfl (Table.C_one _ h15.one) (Nat.le_of_ble_eq_true rfl) rfl ?_
 refine w_nil (hK11 _ _ _ ?_)
 refine c_sr fun _ hK18 => ?_
 refine wv rfl (fun hf hs => r_loadA ta55 ts55 (hf.ev rfl) (hs.blk (i := 0) rfl) rfl rfl) ?_
 refine w_allocL (A := Key.C (⟨0, 0, [], 0, 0, 0, 0, 0, false⟩ : Key)) tz55 trivial rfl rfl ?_
 intro b19
 refine w_L [.blk b10 (.cells (Key.C (⟨1, 0, t3, 0, 1, 9, 1, 0, false⟩ : Key)).toArray 55 (0, 0)), .blk b17 (.cells (Table.C (⟨2, ([(⟨1, 0, t3, 0, 1, 9, 1, 0, false⟩ : Key)] : List Key)⟩ : Table) v12).toArray 44 (0, 0)), .blk b19 (.cells (Key.C (⟨0, 0, [], 0, 0, 0, 0, 0, false⟩ : Key)).toArray 55 (0, 0))] rfl ?_
 refine w_store (i := 2) (vs := Key.C (⟨1, 0, t3, 0, 1, 9, 1, 0, false⟩ : Key)) (A' := Key.C (⟨1, 0, t3, 0, 1, 9, 1, 0, false⟩ : Key)) trivial rfl rfl rfl rfl ts55 rfl (Key.F_one _) (Nat.le_of_ble_eq_true rfl) rfl ?_
 refine w_L [.blk b10 (.cells (Key.C (⟨1, 0, t3, 0, 1, 9, 1, 0, false⟩ : Key)).toArray 55 (0, 0)), .blk b17 (.cells (Table.C (⟨2, ([(⟨1, 0, t3, 0, 1, 9, 1, 0, false⟩ : Key)] : List Key)⟩ : Table) v12).toArray 44 (0, 0)), .blk b19 (.cells (Key.C (⟨1, 0, t3, 0, 1, 9, 1, 0, false⟩ : Key)).toArray 55 (0, 0))] rfl ?_
 refine w_nil (hK18 _ _ _ ?_)
 refine c_sr fun _ hK20 => ?_
 refine v_fa fa55_0 rfl rfl ?_
 refine w_store (i := 2) (vs := [(.int .i64 4)]) (A' := Key.C (⟨4, 0, t3, 0, 1, 9, 1, 0, false⟩ : Key)) trivial rfl rfl rfl rfl ts3 rfl (one1 rfl) (Nat.le_of_ble_eq_true rfl) rfl ?_
 refine w_L [.blk b10 (.cells (Key.C (⟨1, 0, t3, 0, 1, 9, 1, 0, false⟩ : Key)).toArray 55 (0, 0)), .blk b17 (.cells (Table.C (⟨2, ([(⟨1, 0, t3, 0, 1, 9, 1, 0, false⟩ : Key)] : List Key)⟩ : Table) v12).toArray 44 (0, 0)), .blk b19 (.cells (Key.C (⟨4, 0, t3, 0, 1, 9, 1, 0, false⟩ : Key)).toArray 55 (0, 0))] rfl ?_
 refine v_fa fa55_7 rfl rfl ?_
 refine w_store (i := 2) (vs := [(.int .i64 1)]) (A' := Key.C (⟨4, 0, t3, 0, 1, 9, 1, 1, false⟩ : Key)) trivial rfl rfl rfl rfl ts3 rfl (one1 rfl) (Nat.le_of_ble_eq_true rfl) rfl ?_
 refine w_L [.blk b10 (.cells (Key.C (⟨1, 0, t3, 0, 1, 9, 1, 0, false⟩ : Key)).toArray 55 (0, 0)), .blk b17 (.cells (Table.C (⟨2, ([(⟨1, 0, t3, 0, 1, 9, 1, 0, false⟩ : Key)] : List Key)⟩ : Table) v12).toArray 44 (0, 0)), .blk b19 (.cells (Key.C (⟨4, 0, t3, 0, 1, 9, 1, 1, false⟩ : Key)).toArray 55 (0, 0))] rfl ?_
 refine v_fa fa55_6 rfl rfl ?_
 refine w_store (i := 2) (vs := [(.int .i64 2)]) (A' := Key.C (⟨4, 0, t3, 0, 1, 9, 2, 1, false⟩ : Key)) trivial rfl rfl rfl rfl ts3 rfl (one1 rfl) (Nat.le_of_ble_eq_true rfl) rfl ?_
 refine w_L [.blk b10 (.cells (Key.C (⟨1, 0, t3, 0, 1, 9, 1, 0, false⟩ : Key)).toArray 55 (0, 0)), .blk b17 (.cells (Table.C (⟨2, ([(⟨1, 0, t3, 0, 1, 9, 1, 0, false⟩ : Key)] : List Key)⟩ : Table) v12).toArray 44 (0, 0)), .blk b19 (.cells (Key.C (⟨4, 0, t3, 0, 1, 9, 2, 1, false⟩ : Key)).toArray 55 (0, 0))] rfl ?_
 refine w_nil (hK20 _ _ _ ?_)
 refine c_sr fun _ hK21 => ?_
 refine wv rfl (fun hf hs => r_loadA ta55 ts55 (hf.ev rfl) (hs.blk (i := 0) rfl) rfl rfl) ?_
 refine w_allocL (A := Key.C (⟨0, 0, [], 0, 0, 0, 0, 0, false⟩ : Key)) tz55 trivial rfl rfl ?_
 intro b22
 refine w_L [.blk b10 (.cells (Key.C (⟨1, 0, t3, 0, 1, 9, 1, 0, false⟩ : Key)).toArray 55 (0, 0)), .blk b17 (.cells (Table.C (⟨2, ([(⟨1, 0, t3, 0, 1, 9, 1, 0, false⟩ : Key)] : List Key)⟩ : Table) v12).toArray 44 (0, 0)), .blk b19 (.cells (Key.C (⟨4, 0, t3, 0, 1, 9, 2, 1, false⟩ : Key)).toArray 55 (0, 0)), .blk b22 (.cells (Key.C (⟨0, 0, [], 0, 0, 0, 0, 0, false⟩ : Key)).toArray 55 (0, 0))] rfl ?_
 refine w_store (i := 3) (vs := Key.C (⟨1, 0, t3, 0, 1, 9, 1, 0, false⟩ : Key)) (A' := Key.C (⟨1, 0, t3, 0, 1, 9, 1, 0, false⟩ : Key)) trivial rfl rfl rfl rfl ts55 rfl (Key.F_one _) (Nat.le_of_ble_eq_true rfl) rfl ?_
 refine w_L [.blk b10 (.cells (Key.C (⟨1, 0, t3, 0, 1, 9, 1, 0, false⟩ : Key)).toArray 55 (0, 0)), .blk b17 (.cells (Table.C (⟨2, ([(⟨1, 0, t3, 0, 1, 9, 1, 0, false⟩ : Key)] : List Key)⟩ : Table) v12).toArray 44 (0, 0)), .blk b19 (.cells (Key.C (⟨4, 0, t3, 0, 1, 9, 2, 1, false⟩ : Key)).toArray 55 (0, 0)), .blk b22 (.cells (Key.C (⟨1, 0, t3, 0, 1, 9, 1, 0, false⟩ : Key)).toArray 55 (0, 0))] rfl ?_
 refine w_nil (hK21 _ _ _ ?_)
 refine c_sr fun _ hK23 => ?_
 refine v_fa fa55_0 rfl rfl ?_
 refine w_store (i := 3) (vs := [(.int .i64 6)]) (A' := Key.C (⟨6, 0, t3, 0, 1, 9, 1, 0, false⟩ : Key)) trivial rfl rfl rfl rfl ts3 rfl (one1 rfl) (Nat.le_of_ble_eq_true rfl) rfl ?_
 refine w_L [.blk b10 (.cells (Key.C (⟨1, 0, t3, 0, 1, 9, 1, 0, false⟩ : Key)).toArray 55 (0, 0)), .blk b17 (.cells (Table.C (⟨2, ([(⟨1, 0, t3, 0, 1, 9, 1, 0, false⟩ : Key)] : List Key)⟩ : Table) v12).toArray 44 (0, 0)), .blk b19 (.cells (Key.C (⟨4, 0, t3, 0, 1, 9, 2, 1, false⟩ : Key)).toArray 55 (0, 0)), .blk b22 (.cells (Key.C (⟨6, 0, t3, 0, 1, 9, 1, 0, false⟩ : Key)).toArray 55 (0, 0))] rfl ?_
 refine v_fa fa55_5 rfl rfl ?_
 refine w_store (i := 3) (vs := [(.int .i64 5)]) (A' := Key.C (⟨6, 0, t3, 0, 1, 5, 1, 0, false⟩ : Key)) trivial rfl rfl rfl rfl ts3 rfl (one1 rfl) (Nat.le_of_ble_eq_true rfl) rfl ?_
 refine w_L [.blk b10 (.cells (Key.C (⟨1, 0, t3, 0, 1, 9, 1, 0, false⟩ : Key)).toArray 55 (0, 0)), .blk b17 (.cells (Table.C (⟨2, ([(⟨1, 0, t3, 0, 1, 9, 1, 0, false⟩ : Key)] : List Key)⟩ : Table) v12).toArray 44 (0, 0)), .blk b19 (.cells (Key.C (⟨4, 0, t3, 0, 1, 9, 2, 1, false⟩ : Key)).toArray 55 (0, 0)), .blk b22 (.cells (Key.C (⟨6, 0, t3, 0, 1, 5, 1, 0, false⟩ : Key)).toArray 55 (0, 0))] rfl ?_
 refine w_nil (hK23 _ _ _ ?_)
 refine c_sr fun _ hK24 => ?_
 refine wv rfl (fun hf hs => r_loadA ta55 ts55 (hf.ev rfl) (hs.blk (i := 0) rfl) rfl rfl) ?_
 refine wv rfl (fun hf hs => r_loadA ta55 ts55 (hf.ev rfl) (hs.blk (i := 2) rfl) rfl rfl) ?_
 refine wv rfl (fun hf hs => r_loadA ta55 ts55 (hf.ev rfl) (hs.blk (i := 3) rfl) rfl rfl) ?_
 refine w_bsl (F := Key.F) (es := ([(⟨1, 0, t3, 0, 1, 9, 1, 0, false⟩ : Key), (⟨4, 0, t3, 0, 1, 9, 2, 1, false⟩ : Key), (⟨6, 0, t3, 0, 1, 5, 1, 0, false⟩ : Key)] : List Key)) (xs := [.tmp 34, .tmp 35, .tmp 36]) (vs := [(.agg (Key.C (⟨1, 0, t3, 0, 1, 9, 1, 0, false⟩ : Key)).toArray), (.agg (Key.C (⟨4, 0, t3, 0, 1, 9, 2, 1, false⟩ : Key)).toArray), (.agg (Key.C (⟨6, 0, t3, 0, 1, 5, 1, 0, false⟩ : Key)).toArray)]) Tryd.underlying34 te55 trivial rfl rfl rfl rfl rfl (by decide) ?_
 intro v25 M26 l27 h28 c29
 replace h15 := h15.mono l27
 refine wv rfl (fun hf hs => r_build (is := [2, 6, 7]) (xs := [.const (.int .i64 2), .const (str ([109] : List UInt8)), .tmp 37]) (vs := [(.int .i64 2), (str ([109] : List UInt8)), v25]) (A := Backup.C (⟨(Vector.replicate 16 0), 0, 2, 0, 0, (Vector.replicate 16 0), ([109] : List UInt8), ([(⟨1, 0, t3, 0, 1, 9, 1, 0, false⟩ : Key), (⟨4, 0, t3, 0, 1, 9, 2, 1, false⟩ : Key), (⟨6, 0, t3, 0, 1, 5, 1, 0, false⟩ : Key)] : List Key)⟩ : Backup) v25) rfl (hf.evs rfl) (built_of (pl := [(0, 16), (16, 1), (17, 1), (18, 1), (19, 1), (20, 16), (36, 1), (37, 1)]) (A0 := Backup.C (⟨(Vector.replicate 16 0), 0, 0, 0, 0, (Vector.replicate 16 0), [], []⟩ : Backup) (.slice none 0 0)) tz36 Tryd.underlying36 (by kernel_rfl) rfl (.cons (vs := [(.int .i64 2)]) (B := Backup.C (⟨(Vector.replicate 16 0), 0, 2, 0, 0, (Vector.replicate 16 0), [], []⟩ : Backup) (.slice none 0 0)) rfl rfl rfl (by rw [Backup.len]; decide) (Backup.s17_1 _ _) (.cons (vs := [(str ([109] : List UInt8))]) (B := Backup.C (⟨(Vector.replicate 16 0), 0, 2, 0, 0, (Vector.replicate 16 0), ([109] : List UInt8), []⟩ : Backup) (.slice none 0 0)) rfl rfl rfl (by rw [Backup.len]; decide) (Backup.s36_1 _ _) (.cons (vs := [v25]) (B := Backup.C (⟨(Vector.replicate 16 0), 0, 2, 0, 0, (Vector.replicate 16 0), ([109] : List UInt8), ([(⟨1, 0, t3, 0, 1, 9, 1, 0, false⟩ : Key), (⟨4, 0, t3, 0, 1, 9, 2, 1, false⟩ : Key), (⟨6, 0, t3, 0, 1, 5, 1, 0, false⟩ : Key)] : List Key)⟩ : Backup) v25) rfl (h28.cells1) rfl (by rw [Backup.len]; decide) (Backup.s37_1 _ _) .nil))))) ?_
 refine w_allocL (A := Backup.C (⟨(Vector.replicate 16 0), 0, 0, 0, 0, (Vector.replicate 16 0), [], []⟩ : Backup) (.slice none 0 0)) tz36 trivial rfl rfl ?_
 intro b30
 refine w_L [.blk b10 (.cells (Key.C (⟨1, 0, t3, 0, 1, 9, 1, 0, false⟩ : Key)).toArray 55 (0, 0)), .blk b17 (.cells (Table.C (⟨2, ([(⟨1, 0, t3, 0, 1, 9, 1, 0, false⟩ : Key)] : List Key)⟩ : Table) v12).toArray 44 (0, 0)), .blk b19 (.cells (Key.C (⟨4, 0, t3, 0, 1, 9, 2, 1, false⟩ : Key)).toArray 55 (0, 0)), .blk b22 (.cells (Key.C (⟨6, 0, t3, 0, 1, 5, 1, 0, false⟩ : Key)).toArray 55 (0, 0)), .blk b30 (.cells (Backup.C (⟨(Vector.replicate 16 0), 0, 0, 0, 0, (Vector.replicate 16 0), [], []⟩ : Backup) (.slice none 0 0)).toArray 36 (0, 0))] rfl ?_
 obtain ⟨z31, e33, H⟩ := bnd H
 have e32 := some_r e33
 refine w_store (i := 4) (vs := Backup.C (⟨(Vector.replicate 16 0), 0, 2, 0, 0, (Vector.replicate 16 0), ([109] : List UInt8), ([(⟨1, 0, t3, 0, 1, 9, 1, 0, false⟩ : Key), (⟨4, 0, t3, 0, 1, 9, 2, 1, false⟩ : Key), (⟨6, 0, t3, 0, 1, 5, 1, 0, false⟩ : Key)] : List Key)⟩ : Backup) v25) (A' := Backup.C z31 v25) trivial rfl rfl rfl rfl ts36 (Backup.len _ _) (Backup.C_one _ h28.one) (by rw [Backup.len]; decide) (by rw [← e32]; exact (splice_all _ _ (by simp [Backup.C]))) ?_
 have h34 : RS Key.F M26 v25 z31.Keys := by rw [← e32]; exact h28
 clear e33 e32
 refine w_L [.blk b10 (.cells (Key.C (⟨1, 0, t3, 0, 1, 9, 1, 0, false⟩ : Key)).toArray 55 (0, 0)), .blk b17 (.cells (Table.C (⟨2, ([(⟨1, 0, t3, 0, 1, 9, 1, 0, false⟩ : Key)] : List Key)⟩ : Table) v12).toArray 44 (0, 0)), .blk b19 (.cells (Key.C (⟨4, 0, t3, 0, 1, 9, 2, 1, false⟩ : Key)).toArray 55 (0, 0)), .blk b22 (.cells (Key.C (⟨6, 0, t3, 0, 1, 5, 1, 0, false⟩ : Key)).toArray 55 (0, 0)), .blk b30 (.cells (Backup.C z31 v25).toArray 36 (0, 0))] rfl ?_
 refine w_nil (hK24 _ _ _ ?_)
 refine c_sr fun _ hK35 => ?_
 refine wv rfl (fun hf hs => r_loadA ta44 ts44 (hf.ev rfl) (hs.blk (i := 1) rfl) rfl rfl) ?_
 refine wv rfl (fun hf hs => r_loadA ta36 ts36 (hf.ev rfl) (hs.blk (i := 4) rfl) (Backup.d0_38 _ _) (Backup.len _ _)) ?_
 obtain ⟨t36, e41, H⟩ := bnd H
 refine w_call cf30 trivial rfl rfl (fun w hs => restore_Plan.calls hs (⟨2, ([(⟨1, 0, t3, 0, 1, 9, 1, 0, false⟩ : Key)] : List Key)⟩ : Table) v12 h15 z31 v25 h34 (5 : Int) _ e41) ?_
 rintro v5039 M38 l39 ⟨v42, v44, hv_, h43, h45⟩
 replace hv_ := hv_.symm
 subst hv_
 replace h15 := h15.mono l39
 replace h34 := h34.mono l39
 refine vm rfl rfl ?_
 refine v_extract rfl rfl rfl ?_
 refine v_extract rfl rfl rfl ?_
 refine v_extract rfl rfl rfl ?_
 refine w_allocL (A := Table.C (⟨0, []⟩ : Table) (.slice none 0 0)) tz44 trivial rfl rfl ?_
 intro b46
 refine w_L [.blk b10 (.cells (Key.C (⟨1, 0, t3, 0, 1, 9, 1, 0, false⟩ : Key)).toArray 55 (0, 0)), .blk b17 (.cells (Table.C (⟨2, ([(⟨1, 0, t3, 0, 1, 9, 1, 0, false⟩ : Key)] : List Key)⟩ : Table) v12).toArray 44 (0, 0)), .blk b19 (.cells (Key.C (⟨4, 0, t3, 0, 1, 9, 2, 1, false⟩ : Key)).toArray 55 (0, 0)), .blk b22 (.cells (Key.C (⟨6, 0, t3, 0, 1, 5, 1, 0, false⟩ : Key)).toArray 55 (0, 0)), .blk b30 (.cells (Backup.C z31 v25).toArray 36 (0, 0)), .blk b46 (.cells (Table.C (⟨0, []⟩ : Table) (.slice none 0 0)).toArray 44 (0, 0))] rfl ?_
 refine w_store (i := 5) (vs := Table.C t36.1 v42) (A' := Table.C t36.1 v42) trivial rfl rfl rfl rfl ts44 rfl (Table.C_one _ h43.one) (Nat.le_of_ble_eq_true rfl) rfl ?_
 refine w_L [.blk b10 (.cells (Key.C (⟨1, 0, t3, 0, 1, 9, 1, 0, false⟩ : Key)).toArray 55 (0, 0)), .blk b17 (.cells (Table.C (⟨2, ([(⟨1, 0, t3, 0, 1, 9, 1, 0, false⟩ : Key)] : List Key)⟩ : Table) v12).toArray 44 (0, 0)), .blk b19 (.cells (Key.C (⟨4, 0, t3, 0, 1, 9, 2, 1, false⟩ : Key)).toArray 55 (0, 0)), .blk b22 (.cells (Key.C (⟨6, 0, t3, 0, 1, 5, 1, 0, false⟩ : Key)).toArray 55 (0, 0)), .blk b30 (.cells (Backup.C z31 v25).toArray 36 (0, 0)), .blk b46 (.cells (Table.C t36.1 v42).toArray 44 (0, 0))] rfl ?_
 refine va rfl rfl ?_
 refine va rfl rfl ?_
 refine w_nil (hK35 _ _ _ ?_)
 refine c_seq fun K47 hK47 => ?_
 obtain ⟨t48, H1, H⟩ := bnd H
 have ht_ := ne_tr H hr_
 refine c_cut (fun a' w' => ∃ (M49 : Heap), HLe M38 M49 ∧ Fr 166 [(3, (ptr b17 0)), (4, (ptr b19 0)), (6, (ptr b30 0)), (7, (ptr b46 0)), (8, v44), (58, (.bool t48))] a' ∧ St none' M w M49 (lt [.blk b10 (.cells (Key.C (⟨1, 0, t3, 0, 1, 9, 1, 0, false⟩ : Key)).toArray 55 (0, 0)), .blk b17 (.cells (Table.C (⟨2, ([(⟨1, 0, t3, 0, 1, 9, 1, 0, false⟩ : Key)] : List Key)⟩ : Table) v12).toArray 44 (0, 0)), .blk b19 (.cells (Key.C (⟨4, 0, t3, 0, 1, 9, 2, 1, false⟩ : Key)).toArray 55 (0, 0)), .blk b22 (.cells (Key.C (⟨6, 0, t3, 0, 1, 5, 1, 0, false⟩ : Key)).toArray 55 (0, 0)), .blk b30 (.cells (Backup.C z31 v25).toArray 36 (0, 0)), .blk b46 (.cells (Table.C t36.1 v42).toArray 44 (0, 0))]) w') ?_ ?_
 ·replace H := H1
  clear H1
  refine c_reg ?_
  refine vm rfl rfl ?_
  refine wv rfl (fun hf hs => r_neq (hf.ev rfl) (hf.ev rfl)) ?_
  refine vm rfl rfl ?_
  by_cases b5037 : (t36.2.2 != (0 : Int)) = true
  ·replace H := if_t b5037 H
   exact absurd ((some_r H).trans ht_) (by decide)
  replace b5037 := Bool.eq_false_iff.2 b5037
  replace H := if_f b5037 H
  refine wg b5037 rfl rfl rfl (fun hf hs => r_move (hf.ev rfl)) ?_
  refine wg b5037 rfl rfl rfl (fun hf hs => r_lenR Tryd.underlying51 h45 (hf.ev rfl)) ?_
  refine wg b5037 rfl rfl rfl (fun hf hs => r_neq (hf.ev rfl) (hf.ev rfl)) ?_
  refine wv rfl (fun hf hs => r_pickF (hf.ev rfl) b5037 (hf.ev rfl)) ?_
  refine vm rfl rfl ?_
  by_cases b5038 : ((t36.2.1.length : Int) != (1 : Int)) = true
  ·replace H := if_t b5038 H
   exact absurd ((some_r H).trans ht_) (by decide)
  replace b5038 := Bool.eq_false_iff.2 b5038
  replace H := if_f b5038 H
  refine wg b5038 rfl rfl rfl (fun hf hs => r_fa fa44_1 (hf.ev rfl)) ?_
  refine wg b5038 rfl rfl rfl (fun hf hs => r_load1 ta34 (hf.ev rfl) (hs.blk (i := 5) rfl) rfl) ?_
  refine wg b5038 rfl rfl rfl (fun hf hs => r_lenR Tryd.underlying34 h43 (hf.ev rfl)) ?_
  refine wg b5038 rfl rfl rfl (fun hf hs => r_neq (hf.ev rfl) (hf.ev rfl)) ?_
  refine wv rfl (fun hf hs => r_pickF (hf.ev rfl) b5038 (hf.ev rfl)) ?_
  obtain rfl := some_r H
  exact w_nil fun a w' hf hs => ⟨_, (HLe.refl _), (hf.pick (pk (pk (pk (pk (pk (pk pk0 rfl) rfl) rfl) rfl) rfl) rfl)), hs.sel [0, 1, 2, 3, 4, 5] (by decide) rfl⟩
 clear H1 ht_
 rintro a w' ⟨M49, l50, hf, hs⟩
 refine c_of (c := (Cx.mk Tryd.prog 166 none' M w)) ?_ hf hs
 clear hf hs
 replace h15 := h15.mono l50
 replace h34 := h34.mono l50
 replace h43 := h43.mono l50
 replace h45 := h45.mono l50
 refine c_if rfl (fun b53 => ?_) (fun b53 => ?_)
 ·replace H := if_t b53 H
  refine c_sr fun _ hK54 => ?_
  refine va rfl rfl ?_
  refine w_nil (hK54 _ _ _ ?_)
  obtain rfl := some_r H
  exact c_ret fun a w' hf hs => hret _ (.inl rfl) a w' hf.df ⟨_, _, Res.of1 rfl (RV.t hf rfl), hs.ext, rfl⟩
 replace H := if_f b53 H
 refine c_skip (hK47 _ _ _ ?_)
 refine c_sr fun _ hK55 => ?_
 refine wv rfl (fun hf hs => r_loadA ta44 ts44 (hf.ev rfl) (hs.blk (i := 5) rfl) rfl rfl) ?_
 refine wv rfl (fun hf hs => r_loadA ta36 ts36 (hf.ev rfl) (hs.blk (i := 4) rfl) (Backup.d0_38 _ _) (Backup.len _ _)) ?_
 obtain ⟨t56, e61, H⟩ := bnd H
 refine w_call cf30 trivial rfl rfl (fun w hs => restore_Plan.calls hs t36.1 v42 h43 z31 v25 h34 (5 : Int) _ e61) ?_
 rintro v5036 M58 l59 ⟨v62, v64, hv_, h63, h65⟩
 replace hv_ := hv_.symm
 subst hv_
 replace h15 := h15.mono l59
 replace h34 := h34.mono l59
 replace h43 := h43.mono l59
 replace h45 := h45.mono l59
 refine vm rfl rfl ?_
 refine v_extract rfl rfl rfl ?_
 refine v_extract rfl rfl rfl ?_
 refine v_extract rfl rfl rfl ?_
 refine w_allocL (A := Table.C (⟨0, []⟩ : Table) (.slice none 0 0)) tz44 trivial rfl rfl ?_
 intro b66
 refine w_L [.blk b10 (.cells (Key.C (⟨1, 0, t3, 0, 1, 9, 1, 0, false⟩ : Key)).toArray 55 (0, 0)), .blk b17 (.cells (Table.C (⟨2, ([(⟨1, 0, t3, 0, 1, 9, 1, 0, false⟩ : Key)] : List Key)⟩ : Table) v12).toArray 44 (0, 0)), .blk b19 (.cells (Key.C (⟨4, 0, t3, 0, 1, 9, 2, 1, false⟩ : Key)).toArray 55 (0, 0)), .blk b22 (.cells (Key.C (⟨6, 0, t3, 0, 1, 5, 1, 0, false⟩ : Key)).toArray 55 (0, 0)), .blk b30 (.cells (Backup.C z31 v25).toArray 36 (0, 0)), .blk b46 (.cells (Table.C t36.1 v42).toArray 44 (0, 0)), .blk b66 (.cells (Table.C (⟨0, []⟩ : Table) (.slice none 0 0)).toArray 44 (0, 0))] rfl ?_
 refine w_store (i := 6) (vs := Table.C t56.1 v62) (A' := Table.C t56.1 v62) trivial rfl rfl rfl rfl ts44 rfl (Table.C_one _ h63.one) (Nat.le_of_ble_eq_true rfl) rfl ?_
 refine w_L [.blk b10 (.cells (Key.C (⟨1, 0, t3, 0, 1, 9, 1, 0, false⟩ : Key)).toArray 55 (0, 0)), .blk b17 (.cells (Table.C (⟨2, ([(⟨1, 0, t3, 0, 1, 9, 1, 0, false⟩ : Key)] : List Key)⟩ : Table) v12).toArray 44 (0, 0)), .blk b19 (.cells (Key.C (⟨4, 0, t3, 0, 1, 9, 2, 1, false⟩ : Key)).toArray 55 (0, 0)), .blk b22 (.cells (Key.C (⟨6, 0, t3, 0, 1, 5, 1, 0, false⟩ : Key)).toArray 55 (0, 0)), .blk b30 (.cells (Backup.C z31 v25).toArray 36 (0, 0)), .blk b46 (.cells (Table.C t36.1 v42).toArray 44 (0, 0)), .blk b66 (.cells (Table.C t56.1 v62).toArray 44 (0, 0))] rfl ?_
 refine va rfl rfl ?_
 refine va rfl rfl ?_
 refine w_nil (hK55 _ _ _ ?_)
 refine c_sr fun _ hK67 => ?_
 refine wv rfl (fun hf hs => r_loadA ta44 ts44 (hf.ev rfl) (hs.blk (i := 5) rfl) rfl rfl) ?_
 refine wv rfl (fun hf hs => r_loadA ta55 ts55 (hf.ev rfl) (hs.blk (i := 2) rfl) rfl rfl) ?_
 obtain ⟨t68, e73, H⟩ := bnd H
 refine w_call cf32 trivial rfl rfl (fun w hs => restore_Twin.calls hs t36.1 v42 h43 (⟨4, 0, t3, 0, 1, 9, 2, 1, false⟩ : Key) _ e73) ?_
 rintro _ M70 l71 rfl
 replace h15 := h15.mono l71
 replace h34 := h34.mono l71
 replace h43 := h43.mono l71
 replace h45 := h45.mono l71
 replace h63 := h63.mono l71
 replace h65 := h65.mono l71
 refine vm rfl rfl ?_
 refine v_extract rfl rfl rfl ?_
 refine v_extract rfl rfl rfl ?_
 refine va rfl rfl ?_
 refine va rfl rfl ?_
 refine w_nil (hK67 _ _ _ ?_)
 refine c_sr fun _ hK74 => ?_
 refine wv rfl (fun hf hs => r_loadA ta44 ts44 (hf.ev rfl) (hs.blk (i := 1) rfl) rfl rfl) ?_
 refine wv rfl (fun hf hs => r_loadA ta55 ts55 (hf.ev rfl) (hs.blk (i := 2) rfl) rfl rfl) ?_
 obtain ⟨t75, e80, H⟩ := bnd H
 refine w_call cf32 trivial rfl rfl (fun w hs => restore_Twin.calls hs (⟨2, ([(⟨1, 0, t3, 0, 1, 9, 1, 0, false⟩ : Key)] : List Key)⟩ : Table) v12 h15 (⟨4, 0, t3, 0, 1, 9, 2, 1, false⟩ : Key) _ e80) ?_
 rintro _ M77 l78 rfl
 replace h15 := h15.mono l78
 replace h34 := h34.mono l78
 replace h43 := h43.mono l78
 replace h45 := h45.mono l78
 replace h63 := h63.mono l78
 replace h65 := h65.mono l78
 refine vm rfl rfl ?_
 refine v_extract rfl rfl rfl ?_
 refine v_extract rfl rfl rfl ?_
 refine va rfl rfl ?_
 refine va rfl rfl ?_
 refine w_nil (hK74 _ _ _ ?_)
 refine c_sr fun _ hK81 => ?_
 refine wv rfl (fun hf hs => r_loadA ta55 ts55 (hf.ev rfl) (hs.blk (i := 2) rfl) rfl rfl) ?_
 refine w_allocL (A := Key.C (⟨0, 0, [], 0, 0, 0, 0, 0, false⟩ : Key)) tz55 trivial rfl rfl ?_
 intro b82
 refine w_L [.blk b10 (.cells (Key.C (⟨1, 0, t3, 0, 1, 9, 1, 0, false⟩ : Key)).toArray 55 (0, 0)), .blk b17 (.cells (Table.C (⟨2, ([(⟨1, 0, t3, 0, 1, 9, 1, 0, false⟩ : Key)] : List Key)⟩ : Table) v12).toArray 44 (0, 0)), .blk b19 (.cells (Key.C (⟨4, 0, t3, 0, 1, 9, 2, 1, false⟩ : Key)).toArray 55 (0, 0)), .blk b22 (.cells (Key.C (⟨6, 0, t3, 0, 1, 5, 1, 0, false⟩ : Key)).toArray 55 (0, 0)), .blk b30 (.cells (Backup.C z31 v25).toArray 36 (0, 0)), .blk b46 (.cells (Table.C t36.1 v42).toArray 44 (0, 0)), .blk b66 (.cells (Table.C t56.1 v62).toArray 44 (0, 0)), .blk b82 (.cells (Key.C (⟨0, 0, [], 0, 0, 0, 0, 0, false⟩ : Key)).toArray 55 (0, 0))] rfl ?_
 refine w_store (i := 7) (vs := Key.C (⟨4, 0, t3, 0, 1, 9, 2, 1, false⟩ : Key)) (A' := Key.C (⟨4, 0, t3, 0, 1, 9, 2, 1, false⟩ : Key)) trivial rfl rfl rfl rfl ts55 rfl (Key.F_one _) (Nat.le_of_ble_eq_true rfl) rfl ?_
 refine w_L [.blk b10 (.cells (Key.C (⟨1, 0, t3, 0, 1, 9, 1, 0, false⟩ : Key)).toArray 55 (0, 0)), .blk b17 (.cells (Table.C (⟨2, ([(⟨1, 0, t3, 0, 1, 9, 1, 0, false⟩ : Key)] : List Key)⟩ : Table) v12).toArray 44 (0, 0)), .blk b19 (.cells (Key.C (⟨4, 0, t3, 0, 1, 9, 2, 1, false⟩ : Key)).toArray 55 (0, 0)), .blk b22 (.cells (Key.C (⟨6, 0, t3, 0, 1, 5, 1, 0, false⟩ : Key)).toArray 55 (0, 0)), .blk b30 (.cells (Backup.C z31 v25).toArray 36 (0, 0)), .blk b46 (.cells (Table.C t36.1 v42).toArray 44 (0, 0)), .blk b66 (.cells (Table.C t56.1 v62).toArray 44 (0, 0)), .blk b82 (.cells (Key.C (⟨4, 0, t3, 0, 1, 9, 2, 1, false⟩ : Key)).toArray 55 (0, 0))] rfl ?_
 refine w_nil (hK81 _ _ _ ?_)
 refine c_sr fun _ hK83 => ?_
 refine v_fa fa55_0 rfl rfl ?_
 refine w_store (i := 7) (vs := [(.int .i64 2)]) (A' := Key.C (⟨2, 0, t3, 0, 1, 9, 2, 1, false⟩ : Key)) trivial rfl rfl rfl rfl ts3 rfl (one1 rfl) (Nat.le_of_ble_eq_true rfl) rfl ?_
 refine w_L [.blk b10 (.cells (Key.C (⟨1, 0, t3, 0, 1, 9, 1, 0, false⟩ : Key)).toArray 55 (0, 0)), .blk b17 (.cells (Table.C (⟨2, ([(⟨1, 0, t3, 0, 1, 9, 1, 0, false⟩ : Key)] : List Key)⟩ : Table) v12).toArray 44 (0, 0)), .blk b19 (.cells (Key.C (⟨4, 0, t3, 0, 1, 9, 2, 1, false⟩ : Key)).toArray 55 (0, 0)), .blk b22 (.cells (Key.C (⟨6, 0, t3, 0, 1, 5, 1, 0, false⟩ : Key)).toArray 55 (0, 0)), .blk b30 (.cells (Backup.C z31 v25).toArray 36 (0, 0)), .blk b46 (.cells (Table.C t36.1 v42).toArray 44 (0, 0)), .blk b66 (.cells (Table.C t56.1 v62).toArray 44 (0, 0)), .blk b82 (.cells (Key.C (⟨2, 0, t3, 0, 1, 9, 2, 1, false⟩ : Key)).toArray 55 (0, 0))] rfl ?_
 refine w_nil (hK83 _ _ _ ?_)
 refine c_sr fun _ hK84 => ?_
 refine wv rfl (fun hf hs => r_build (is := [3]) (xs := [.const (.int .i64 2)]) (vs := [(.int .i64 2)]) (A := restore_Place.C (⟨(Vector.replicate 16 0), (Vector.replicate 16 0), 0, 2⟩ : restore_Place)) rfl (hf.evs rfl) (built_of (pl := [(0, 16), (16, 16), (32, 1), (33, 1)]) (A0 := restore_Place.C (⟨(Vector.replicate 16 0), (Vector.replicate 16 0), 0, 0⟩ : restore_Place)) tz94 Tryd.underlying94 (by kernel_rfl) rfl (.cons (vs := [(.int .i64 2)]) (B := restore_Place.C (⟨(Vector.replicate 16 0), (Vector.replicate 16 0), 0, 2⟩ : restore_Place)) rfl rfl rfl (by rw [restore_Place.len]; decide) (restore_Place.s33_1 _) .nil))) ?_
 refine w_allocL (A := restore_Place.C (⟨(Vector.replicate 16 0), (Vector.replicate 16 0), 0, 0⟩ : restore_Place)) tz94 trivial rfl rfl ?_
 intro b85
 refine w_L [.blk b10 (.cells (Key.C (⟨1, 0, t3, 0, 1, 9, 1, 0, false⟩ : Key)).toArray 55 (0, 0)), .blk b17 (.cells (Table.C (⟨2, ([(⟨1, 0, t3, 0, 1, 9, 1, 0, false⟩ : Key)] : List Key)⟩ : Table) v12).toArray 44 (0, 0)), .blk b19 (.cells (Key.C (⟨4, 0, t3, 0, 1, 9, 2, 1, false⟩ : Key)).toArray 55 (0, 0)), .blk b22 (.cells (Key.C (⟨6, 0, t3, 0, 1, 5, 1, 0, false⟩ : Key)).toArray 55 (0, 0)), .blk b30 (.cells (Backup.C z31 v25).toArray 36 (0, 0)), .blk b46 (.cells (Table.C t36.1 v42).toArray 44 (0, 0)), .blk b66 (.cells (Table.C t56.1 v62).toArray 44 (0, 0)), .blk b82 (.cells (Key.C (⟨2, 0, t3, 0, 1, 9, 2, 1, false⟩ : Key)).toArray 55 (0, 0)), .blk b85 (.cells (restore_Place.C (⟨(Vector.replicate 16 0), (Vector.replicate 16 0), 0, 0⟩ : restore_Place)).toArray 94 (0, 0))] rfl ?_
 obtain ⟨z86, e88, H⟩ := bnd H
 have e87 := some_r e88
 refine w_store (i := 8) (vs := restore_Place.C (⟨(Vector.replicate 16 0), (Vector.replicate 16 0), 0, 2⟩ : restore_Place)) (A' := restore_Place.C z86) trivial rfl rfl rfl rfl ts94 (restore_Place.len _) (restore_Place.F_one _) (by rw [restore_Place.len]; decide) (by rw [← e87]; exact (splice_all _ _ (by simp [restore_Place.C]))) ?_
 clear e88 e87
 refine w_L [.blk b10 (.cells (Key.C (⟨1, 0, t3, 0, 1, 9, 1, 0, false⟩ : Key)).toArray 55 (0, 0)), .blk b17 (.cells (Table.C (⟨2, ([(⟨1, 0, t3, 0, 1, 9, 1, 0, false⟩ : Key)] : List Key)⟩ : Table) v12).toArray 44 (0, 0)), .blk b19 (.cells (Key.C (⟨4, 0, t3, 0, 1, 9, 2, 1, false⟩ : Key)).toArray 55 (0, 0)), .blk b22 (.cells (Key.C (⟨6, 0, t3, 0, 1, 5, 1, 0, false⟩ : Key)).toArray 55 (0, 0)), .blk b30 (.cells (Backup.C z31 v25).toArray 36 (0, 0)), .blk b46 (.cells (Table.C t36.1 v42).toArray 44 (0, 0)), .blk b66 (.cells (Table.C t56.1 v62).toArray 44 (0, 0)), .blk b82 (.cells (Key.C (⟨2, 0, t3, 0, 1, 9, 2, 1, false⟩ : Key)).toArray 55 (0, 0)), .blk b85 (.cells (restore_Place.C z86).toArray 94 (0, 0))] rfl ?_
 refine w_nil (hK84 _ _ _ ?_)
 refine c_sr fun _ hK89 => ?_
 refine wv rfl (fun hf hs => r_build (is := [3]) (xs := [.const (.int .i64 3)]) (vs := [(.int .i64 3)]) (A := restore_Place.C (⟨(Vector.replicate 16 0), (Vector.replicate 16 0), 0, 3⟩ : restore_Place)) rfl (hf.evs rfl) (built_of (pl := [(0, 16), (16, 16), (32, 1), (33, 1)]) (A0 := restore_Place.C (⟨(Vector.replicate 16 0), (Vector.replicate 16 0), 0, 0⟩ : restore_Place)) tz94 Tryd.underlying94 (by kernel_rfl) rfl (.cons (vs := [(.int .i64 3)]) (B := restore_Place.C (⟨(Vector.replicate 16 0), (Vector.replicate 16 0), 0, 3⟩ : restore_Place)) rfl rfl rfl (by rw [restore_Place.len]; decide) (restore_Place.s33_1 _) .nil))) ?_
 refine wv rfl (fun hf hs => r_loadA ta36 ts36 (hf.ev rfl) (hs.blk (i := 4) rfl) (Backup.d0_38 _ _) (Backup.len _ _)) ?_
 obtain ⟨t90, e95, H⟩ := bnd H
 refine w_call cf62 trivial rfl rfl (fun w hs => restore_Admit.calls hs (⟨(Vector.replicate 16 0), (Vector.replicate 16 0), 0, 3⟩ : restore_Place) z31 v25 h34 _ e95) ?_
 rintro _ M92 l93 rfl
 replace h15 := h15.mono l93
 replace h34 := h34.mono l93
 replace h43 := h43.mono l93
 replace h45 := h45.mono l93
 replace h63 := h63.mono l93
 replace h65 := h65.mono l93
 refine va rfl rfl ?_
 refine w_nil (hK89 _ _ _ ?_)
 refine c_sr fun _ hK96 => ?_
 refine wv rfl (fun hf hs => r_build (is := [0]) (xs := [.const (.int .u8 1)]) (vs := [(.int .u8 1)]) (A := vI .u8 (#v[(1 : Int), 0, 0, 0, 0, 0, 0, 0, 0, 0, 0, 0, 0, 0, 0, 0] : Vector Int 16)) rfl (hf.evs rfl) (by kernel_rfl)) ?_
 refine wv rfl (fun hf hs => r_build (is := [3, 1]) (xs := [.const (.int .i64 2), .tmp 84]) (vs := [(.int .i64 2), (.agg (vI .u8 (#v[(1 : Int), 0, 0, 0, 0, 0, 0, 0, 0, 0, 0, 0, 0, 0, 0, 0] : Vector Int 16)).toArray)]) (A := restore_Place.C (⟨(Vector.replicate 16 0), (#v[(1 : Int), 0, 0, 0, 0, 0, 0, 0, 0, 0, 0, 0, 0, 0, 0, 0] : Vector Int 16), 0, 2⟩ : restore_Place)) rfl (hf.evs rfl) (built_of (pl := [(0, 16), (16, 16), (32, 1), (33, 1)]) (A0 := restore_Place.C (⟨(Vector.replicate 16 0), (Vector.replicate 16 0), 0, 0⟩ : restore_Place)) tz94 Tryd.underlying94 (by kernel_rfl) rfl (.cons (vs := [(.int .i64 2)]) (B := restore_Place.C (⟨(Vector.replicate 16 0), (Vector.replicate 16 0), 0, 2⟩ : restore_Place)) rfl rfl rfl (by rw [restore_Place.len]; decide) (restore_Place.s33_1 _) (.cons (vs := vI .u8 (#v[(1 : Int), 0, 0, 0, 0, 0, 0, 0, 0, 0, 0, 0, 0, 0, 0, 0] : Vector Int 16)) (B := restore_Place.C (⟨(Vector.replicate 16 0), (#v[(1 : Int), 0, 0, 0, 0, 0, 0, 0, 0, 0, 0, 0, 0, 0, 0, 0] : Vector Int 16), 0, 2⟩ : restore_Place)) rfl rfl (by simp) (by rw [restore_Place.len]; decide) (restore_Place.s16_16 _) .nil)))) ?_
 refine wv rfl (fun hf hs => r_loadA ta36 ts36 (hf.ev rfl) (hs.blk (i := 4) rfl) (Backup.d0_38 _ _) (Backup.len _ _)) ?_
 obtain ⟨t97, e102, H⟩ := bnd H
 refine w_call cf62 trivial rfl rfl (fun w hs => restore_Admit.calls hs (⟨(Vector.replicate 16 0), (#v[(1 : Int), 0, 0, 0, 0, 0, 0, 0, 0, 0, 0, 0, 0, 0, 0, 0] : Vector Int 16), 0, 2⟩ : restore_Place) z31 v25 h34 _ e102) ?_
 rintro _ M99 l100 rfl
 replace h15 := h15.mono l100
 replace h34 := h34.mono l100
 replace h43 := h43.mono l100
 replace h45 := h45.mono l100
 replace h63 := h63.mono l100
 replace h65 := h65.mono l100
 refine va rfl rfl ?_
 refine w_nil (hK96 _ _ _ ?_)
 obtain ⟨t103, H1, H⟩ := bnd H
 have ht_ := (some_r H).trans hr_
 refine c_cut (fun a' w' => ∃ (M104 : Heap), HLe M99 M104 ∧ Fr 166 [(0, (.bool t103))] a' ∧ St none' M w M104 (lt [.blk b10 (.cells (Key.C (⟨1, 0, t3, 0, 1, 9, 1, 0, false⟩ : Key)).toArray 55 (0, 0)), .blk b17 (.cells (Table.C (⟨2, ([(⟨1, 0, t3, 0, 1, 9, 1, 0, false⟩ : Key)] : List Key)⟩ : Table) v12).toArray 44 (0, 0)), .blk b19 (.cells (Key.C (⟨4, 0, t3, 0, 1, 9, 2, 1, false⟩ : Key)).toArray 55 (0, 0)), .blk b22 (.cells (Key.C (⟨6, 0, t3, 0, 1, 5, 1, 0, false⟩ : Key)).toArray 55 (0, 0)), .blk b30 (.cells (Backup.C z31 v25).toArray 36 (0, 0)), .blk b46 (.cells (Table.C t36.1 v42).toArray 44 (0, 0)), .blk b66 (.cells (Table.C t56.1 v62).toArray 44 (0, 0)), .blk b82 (.cells (Key.C (⟨2, 0, t3, 0, 1, 9, 2, 1, false⟩ : Key)).toArray 55 (0, 0)), .blk b85 (.cells (restore_Place.C z86).toArray 94 (0, 0))]) w') ?_ ?_
 ·replace H := H1
  clear H1
  obtain ⟨g2576, H⟩ := grd_s H
  by_cases b2586 : ((rd t36.2.1 0) == (2 : Int)) = true
  ·replace H := if_t b2586 H
   obtain ⟨g2598, H⟩ := grd_s H
   by_cases b2618 : (decide ((rd t36.1.Keys 1) = (⟨2, 0, t3, 0, 1, 9, 2, 1, false⟩ : Key))) = true
   ·replace H := if_t b2618 H
    by_cases b2637 : (t36.1.Next == (3 : Int)) = true
    ·replace H := if_t b2637 H
     by_cases b2656 : ((t56.2.1.length : Int) == (0 : Int)) = true
     ·replace H := if_t b2656 H
      by_cases b2671 : (t56.2.2 == (0 : Int)) = true
      ·replace H := if_t b2671 H
       obtain ⟨t2683, e2688, H⟩ := bnd H
       by_cases b2696 : t2683 = true
       ·replace H := if_t b2696 H
        by_cases b2711 : (t68.1 == (2 : Int)) = true
        ·replace H := if_t b2711 H
         by_cases b2722 : t68.2 = true
         ·replace H := if_t b2722 H
          by_cases b2737 : (!t75.2) = true
          ·replace H := if_t b2737 H
           obtain ⟨t2749, e2754, H⟩ := bnd H
           by_cases b2762 : t2749 = true
           ·replace H := if_t b2762 H
            obtain ⟨t2774, e2779, H⟩ := bnd H
            by_cases b2791 : (!t2774) = true
            ·replace H := if_t b2791 H
             obtain ⟨t2803, e2808, H⟩ := bnd H
             by_cases b2816 : t2803 = true
             ·replace H := if_t b2816 H
              obtain ⟨t2828, e2833, H⟩ := bnd H
              by_cases b2845 : (t2828 == (0 : Int)) = true
              ·replace H := if_t b2845 H
               by_cases b2860 : (t90 == (20 : Int)) = true
               ·replace H := if_t b2860 H
                by_cases b2875 : (t97 == (10 : Int)) = true
                ·replace H := if_t b2875 H
                 obtain ⟨t2887, e2892, H⟩ := bnd H
                 refine c_drawP [([], [8]), ([(0, 88)], []), ([(1, 89)], []), ([(2, 90)], []), ([(3, 91)], []), ([(4, 92)], [7]), ([(5, 93), (4, 92)], []), ([(6, 94), (4, 92)], []), ([(7, 95), (4, 92)], []), ([(4, 92)], [17]), ([(8, 96), (9, 97), (4, 92)], []), ([(4, 92), (10, 98)], []), ([(11, 99)], []), ([(12, 100)], [7]), ([(13, 101), (12, 100)], []), ([(14, 102), (12, 100)], []), ([(12, 100), (15, 103)], []), ([(16, 104)], []), ([(17, 105)], [11]), ([(18, 106), (17, 105)], []), ([(19, 107), (17, 105)], []), ([(17, 105), (20, 108)], []), ([(21, 109)], []), ([(22, 110)], [12]), ([(23, 111), (22, 110)], []), ([(22, 110), (24, 112)], []), ([(25, 113)], []), ([(26, 114)], [7]), ([(26, 114)], [10]), ([(27, 115), (28, 116), (26, 114)], []), ([(26, 114), (29, 117)], []), ([(30, 118)], []), ([(31, 119)], [13]), ([(32, 120), (31, 119)], []), ([(31, 119), (33, 121)], []), ([(34, 122)], []), ([(35, 123)], [14]), ([(35, 123), (36, 124)], []), ([(37, 125)], []), ([(38, 126)], [16]), ([(39, 127), (38, 126)], []), ([(38, 126), (40, 128)], []), ([(41, 129)], []), ([(42, 130)], [7]), ([(42, 130)], [6]), ([(43, 131), (44, 132), (42, 130)], []), ([(42, 130), (45, 133)], []), ([(46, 134)], []), ([(47, 135)], [3]), ([(47, 135)], [6]), ([(48, 136), (49, 137), (47, 135)], []), ([(50, 138), (47, 135)], []), ([(47, 135), (51, 139)], []), ([(52, 140)], []), ([(53, 141)], [3]), ([(53, 141)], [6]), ([(54, 142), (55, 143), (53, 141)], []), ([(53, 141), (56, 144)], []), ([(57, 145)], []), ([(58, 146)], [18]), ([(58, 146)], [6]), ([(59, 147), (60, 148), (58, 146)], []), ([(61, 149), (58, 146)], []), ([(58, 146), (62, 150)], []), ([(63, 151)], []), ([(64, 152)], [19]), ([(65, 153), (64, 152)], []), ([(64, 152), (66, 154)], []), ([(67, 155)], []), ([(68, 156)], [20]), ([(69, 157), (68, 156)], []), ([(68, 156), (70, 158)], []), ([(71, 159)], []), ([(72, 160)], [18]), ([(72, 160)], []), ([(73, 161), (74, 162), (72, 160)], []), ([(75, 163), (72, 160)], []), ([(72, 160), (76, 164)], []), ([(77, 165)], [])] [vq v44, vq (eP v44 (0 : Int) 1 0), vq (.int .i64 (rd t36.2.1 0)), vq (.bool ((rd t36.2.1 0) == (2 : Int))), vq (.bool ((rd t36.2.1 0) == (2 : Int))), vq (ptr b46 1), vq v42, vq (eP v42 (1 : Int) 9 0), vq (.agg (Key.C (rd t36.1.Keys 1)).toArray), vq (.agg (Key.C (⟨2, 0, t3, 0, 1, 9, 2, 1, false⟩ : Key)).toArray), vq (.bool (decide ((rd t36.1.Keys 1) = (⟨2, 0, t3, 0, 1, 9, 2, 1, false⟩ : Key)))), vq (.bool (decide ((rd t36.1.Keys 1) = (⟨2, 0, t3, 0, 1, 9, 2, 1, false⟩ : Key)))), vq (.bool (decide ((rd t36.1.Keys 1) = (⟨2, 0, t3, 0, 1, 9, 2, 1, false⟩ : Key)))), vq (ptr b46 0), vq (.int .i64 t36.1.Next), vq (.bool (t36.1.Next == (3 : Int))), vq (.bool (t36.1.Next == (3 : Int))), vq (.bool (t36.1.Next == (3 : Int))), vq v64, vq (.int .i64 (t56.2.1.length : Int)), vq (.bool ((t56.2.1.length : Int) == (0 : Int))), vq (.bool ((t56.2.1.length : Int) == (0 : Int))), vq (.bool ((t56.2.1.length : Int) == (0 : Int))), vq (.int .i64 t56.2.2), vq (.bool (t56.2.2 == (0 : Int))), vq (.bool (t56.2.2 == (0 : Int))), vq (.bool (t56.2.2 == (0 : Int))), vq (.agg (Table.C t36.1 v42).toArray), vq (.agg (Table.C t56.1 v62).toArray), vq (.bool t2683), vq (.bool t2683), vq (.bool t2683), vq (.int .i64 t68.1), vq (.bool (t68.1 == (2 : Int))), vq (.bool (t68.1 == (2 : Int))), vq (.bool (t68.1 == (2 : Int))), vq (.bool t68.2), vq (.bool t68.2), vq (.bool t68.2), vq (.bool t75.2), vq (.bool (!t75.2)), vq (.bool (!t75.2)), vq (.bool (!t75.2)), vq (.agg (Table.C t36.1 v42).toArray), vq (.agg (Backup.C z31 v25).toArray), vq (.bool t2749), vq (.bool t2749), vq (.bool t2749), vq (.agg (Table.C (⟨2, ([(⟨1, 0, t3, 0, 1, 9, 1, 0, false⟩ : Key)] : List Key)⟩ : Table) v12).toArray), vq (.agg (Backup.C z31 v25).toArray), vq (.bool t2774), vq (.bool (!t2774)), vq (.bool (!t2774)), vq (.bool (!t2774)), vq (.agg (Table.C (⟨2, ([(⟨1, 0, t3, 0, 1, 9, 1, 0, false⟩ : Key)] : List Key)⟩ : Table) v12).toArray), vq (.agg (Backup.C z31 v25).toArray), vq (.bool t2803), vq (.bool t2803), vq (.bool t2803), vq (.agg (restore_Place.C z86).toArray), vq (.agg (Backup.C z31 v25).toArray), vq (.int .i64 t2828), vq (.bool (t2828 == (0 : Int))), vq (.bool (t2828 == (0 : Int))), vq (.bool (t2828 == (0 : Int))), vq (.int .i64 t90), vq (.bool (t90 == (20 : Int))), vq (.bool (t90 == (20 : Int))), vq (.bool (t90 == (20 : Int))), vq (.int .i64 t97), vq (.bool (t97 == (10 : Int))), vq (.bool (t97 == (10 : Int))), vq (.bool (t97 == (10 : Int))), vq (.agg (restore_Place.C z86).toArray), vq (.agg (Backup.C (⟨(Vector.replicate 16 0), 0, 0, 0, 0, (Vector.replicate 16 0), [], []⟩ : Backup) (.slice none 0 0)).toArray), vq (.int .i64 t2887), vq (.bool (t2887 == (1 : Int))), vq (.bool (t2887 == (1 : Int))), vq (.bool (t2887 == (1 : Int)))] (by kernel_rfl) (by kernel_rfl) ?_ (aT ?_ (aT ?_ (aT ?_ (aT ?_ (aT ?_ (aT ?_ (aT ?_ (aT ?_ (aT ?_ (aT ?_ (aT ?_ (aT ?_ (aT ?_ (aT ?_ (aT ?_ (aT ?_ (aT ?_ (aT ?_ (aT ?_ (aT ?_ (aT ?_ (aT ?_ (aT ?_ (aT ?_ (aT ?_ (aT ?_ (aT ?_ (aT ?_ (aT ?_ (aT ?_ (aT ?_ (aT ?_ (aT ?_ (aT ?_ (aT ?_ (aT ?_ (aT ?_ (aT ?_ (aT ?_ (aT ?_ (aT ?_ (aT ?_ (aT ?_ (aT ?_ (aT ?_ (aT ?_ (aT ?_ (aT ?_ (aT ?_ (aT ?_ (aT ?_ (aT ?_ (aT ?_ (aT ?_ (aT ?_ (aT ?_ (aT ?_ (aT ?_ (aT ?_ (aT ?_ (aT ?_ (aT ?_ (aT ?_ (aT ?_ (aT ?_ (aT ?_ (aT ?_ (aT ?_ (aT ?_ (aT ?_ (aT ?_ (aT ?_ (aT ?_ (aT ?_ (aT ?_ (aT ?_ (aT ?_ (aT ?_ (aT ?_ AllT.nil))))))))))))))))))))))))))))))))))))))))))))))))))))))))))))))))))))))))))))))) ?_
                 ·exact (mC (mC (mC (mC (mC (mC (mC (mC (mC (mC (mC (mC (mC (mC (mC (mC (mC (mC (mC (mC (mC (mC (mC (mC (mC (mC (mC (mC (mC (mC (mC (mC (mC (mC (mC (mC (mC (mC (mC (mC (mC (mC (mC (mC (mC (mC (mC (mC (mC (mC (mC (mC (mC (mC (mC (mC (mC (mC (mC (mC (mC (mC (mC (mC (mC (mC (mC (mC (mC (mC (mC (mC (mC (mC (mC (mC (mC (mC (mC MonoA.nil)))))))))))))))))))))))))))))))))))))))))))))))))))))))))))))))))))))))))))))))
                 ·intro a w' _ l2572 hd hs
                  replace h45 := h45.mono l2572
                  exact pv (hd.fr.add (hd.base 8 _ rfl rfl)) hs rfl (fun hf hs => r_move (hf.ev rfl)) rfl
                 ·intro a w' _ l2574 hd hs
                  exact pv (hd.fr.add (hd.val 0 88 _ rfl rfl)) hs rfl (fun hf hs => r_iR Tryd.underlying51 ts3 (h45.mono l2574) (hf.ev rfl) (hf.ev rfl) g2576.1 g2576.2) rfl
                 ·intro a w' _ l2578 hd hs
                  exact pv (hd.fr.add (hd.val 1 89 _ rfl rfl)) hs rfl (fun hf hs => r_loadE1 ta3 (h45.mono l2578) hs.sub g2576.1 g2576.2 (hf.ev rfl) rfl) rfl
                 ·intro a w' _ _ hd hs
                  exact pv (hd.fr.add (hd.val 2 90 _ rfl rfl)) hs rfl (fun hf hs => r_eql (hf.ev rfl) (hf.ev rfl)) rfl
                 ·intro a w' _ _ hd hs
                  exact pv (hd.fr.add (hd.val 3 91 _ rfl rfl)) hs rfl (fun hf hs => r_move (hf.ev rfl)) rfl
                 ·intro a w' _ _ hd hs
                  exact pg ((hd.fr.add (hd.val 4 92 _ rfl rfl)).add (hd.base 7 _ rfl rfl)) hs (Wnt.of rfl rfl b2586) rfl rfl (fun hf hs => r_fa fa44_1 (hf.ev rfl))
                 ·intro a w' _ _ hd hs
                  exact pg ((hd.fr.add (hd.val 4 92 _ rfl rfl)).add (hd.val 5 93 _ rfl rfl)) hs (Wnt.of rfl rfl b2586) rfl rfl (fun hf hs => r_load1 ta34 (hf.ev rfl) (hs.blk (i := 5) rfl) rfl)
                 ·intro a w' _ l2595 hd hs
                  exact pg ((hd.fr.add (hd.val 4 92 _ rfl rfl)).add (hd.val 6 94 _ rfl rfl)) hs (Wnt.of rfl rfl b2586) rfl rfl (fun hf hs => r_iR Tryd.underlying34 ts55 (h43.mono l2595) (hf.ev rfl) (hf.ev rfl) g2598.1 g2598.2)
                 ·intro a w' _ l2600 hd hs
                  exact pg ((hd.fr.add (hd.val 4 92 _ rfl rfl)).add (hd.val 7 95 _ rfl rfl)) hs (Wnt.of rfl rfl b2586) rfl rfl (fun hf hs => r_loadEA ta55 ts55 (h43.mono l2600) hs.sub g2598.1 g2598.2 (hf.ev rfl) rfl rfl)
                 ·intro a w' _ _ hd hs
                  exact pg ((hd.fr.add (hd.val 4 92 _ rfl rfl)).add (hd.base 17 _ rfl rfl)) hs (Wnt.of rfl rfl b2586) rfl rfl (fun hf hs => r_loadA ta55 ts55 (hf.ev rfl) (hs.blk (i := 7) rfl) rfl rfl)
                 ·intro a w' _ _ hd hs
                  exact pg (((hd.fr.add (hd.val 4 92 _ rfl rfl)).add (hd.val 9 97 _ rfl rfl)).add (hd.val 8 96 _ rfl rfl)) hs (Wnt.of rfl rfl b2586) rfl rfl (fun hf hs => r_eqS eq55 (hf.ev rfl) (hf.ev rfl))
                 ·intro a w' _ _ hd hs
                  exact pv ((hd.fr.add (hd.val 10 98 _ rfl rfl)).add (hd.val 4 92 _ rfl rfl)) hs rfl (fun hf hs => r_pickT (hf.ev rfl) b2586 (hf.ev rfl)) rfl
                 ·intro a w' _ _ hd hs
                  exact pv (hd.fr.add (hd.val 11 99 _ rfl rfl)) hs rfl (fun hf hs => r_move (hf.ev rfl)) rfl
                 ·intro a w' _ _ hd hs
                  exact pg ((hd.fr.add (hd.val 12 100 _ rfl rfl)).add (hd.base 7 _ rfl rfl)) hs (Wnt.of rfl rfl b2618) rfl rfl (fun hf hs => r_fa fa44_0 (hf.ev rfl))
                 ·intro a w' _ _ hd hs
                  exact pg ((hd.fr.add (hd.val 12 100 _ rfl rfl)).add (hd.val 13 101 _ rfl rfl)) hs (Wnt.of rfl rfl b2618) rfl rfl (fun hf hs => r_load1 ta3 (hf.ev rfl) (hs.blk (i := 5) rfl) rfl)
                 ·intro a w' _ _ hd hs
                  exact pg ((hd.fr.add (hd.val 12 100 _ rfl rfl)).add (hd.val 14 102 _ rfl rfl)) hs (Wnt.of rfl rfl b2618) rfl rfl (fun hf hs => r_eql (hf.ev rfl) (hf.ev rfl))
                 ·intro a w' _ _ hd hs
                  exact pv ((hd.fr.add (hd.val 15 103 _ rfl rfl)).add (hd.val 12 100 _ rfl rfl)) hs rfl (fun hf hs => r_pickT (hf.ev rfl) b2618 (hf.ev rfl)) rfl
                 ·intro a w' _ _ hd hs
                  exact pv (hd.fr.add (hd.val 16 104 _ rfl rfl)) hs rfl (fun hf hs => r_move (hf.ev rfl)) rfl
                 ·intro a w' _ l2639 hd hs
                  replace h65 := h65.mono l2639
                  exact pg ((hd.fr.add (hd.val 17 105 _ rfl rfl)).add (hd.base 11 _ rfl rfl)) hs (Wnt.of rfl rfl b2637) rfl rfl (fun hf hs => r_move (hf.ev rfl))
                 ·intro a w' _ l2642 hd hs
                  exact pg ((hd.fr.add (hd.val 17 105 _ rfl rfl)).add (hd.val 18 106 _ rfl rfl)) hs (Wnt.of rfl rfl b2637) rfl rfl (fun hf hs => r_lenR Tryd.underlying51 (h65.mono l2642) (hf.ev rfl))
                 ·intro a w' _ _ hd hs
                  exact pg ((hd.fr.add (hd.val 17 105 _ rfl rfl)).add (hd.val 19 107 _ rfl rfl)) hs (Wnt.of rfl rfl b2637) rfl rfl (fun hf hs => r_eql (hf.ev rfl) (hf.ev rfl))
                 ·intro a w' _ _ hd hs
                  exact pv ((hd.fr.add (hd.val 20 108 _ rfl rfl)).add (hd.val 17 105 _ rfl rfl)) hs rfl (fun hf hs => r_pickT (hf.ev rfl) b2637 (hf.ev rfl)) rfl
                 ·intro a w' _ _ hd hs
                  exact pv (hd.fr.add (hd.val 21 109 _ rfl rfl)) hs rfl (fun hf hs => r_move (hf.ev rfl)) rfl
                 ·intro a w' _ _ hd hs
                  exact pg ((hd.fr.add (hd.val 22 110 _ rfl rfl)).add (hd.base 12 _ rfl rfl)) hs (Wnt.of rfl rfl b2656) rfl rfl (fun hf hs => r_move (hf.ev rfl))
                 ·intro a w' _ _ hd hs
                  exact pg ((hd.fr.add (hd.val 22 110 _ rfl rfl)).add (hd.val 23 111 _ rfl rfl)) hs (Wnt.of rfl rfl b2656) rfl rfl (fun hf hs => r_eql (hf.ev rfl) (hf.ev rfl))
                 ·intro a w' _ _ hd hs
                  exact pv ((hd.fr.add (hd.val 24 112 _ rfl rfl)).add (hd.val 22 110 _ rfl rfl)) hs rfl (fun hf hs => r_pickT (hf.ev rfl) b2656 (hf.ev rfl)) rfl
                 ·intro a w' _ _ hd hs
                  exact pv (hd.fr.add (hd.val 25 113 _ rfl rfl)) hs rfl (fun hf hs => r_move (hf.ev rfl)) rfl
                 ·intro a w' _ _ hd hs
                  exact pg ((hd.fr.add (hd.val 26 114 _ rfl rfl)).add (hd.base 7 _ rfl rfl)) hs (Wnt.of rfl rfl b2671) rfl rfl (fun hf hs => r_loadA ta44 ts44 (hf.ev rfl) (hs.blk (i := 5) rfl) rfl rfl)
                 ·intro a w' _ _ hd hs
                  exact pg ((hd.fr.add (hd.val 26 114 _ rfl rfl)).add (hd.base 10 _ rfl rfl)) hs (Wnt.of rfl rfl b2671) rfl rfl (fun hf hs => r_loadA ta44 ts44 (hf.ev rfl) (hs.blk (i := 6) rfl) rfl rfl)
                 ·intro a w' _ l2679 hd hs
                  have e2680 := hd.val 27 115 _ rfl rfl
                  replace h43 := h43.mono l2679
                  have e2681 := hd.val 28 116 _ rfl rfl
                  replace h63 := h63.mono l2679
                  have e2682 := hd.val 26 114 _ rfl rfl
                  refine OP.ofW (l := [(115, (.agg (Table.C t36.1 v42).toArray)), (116, (.agg (Table.C t56.1 v62).toArray)), (114, (.bool (t56.2.2 == (0 : Int))))]) (((hd.fr.add e2682).add e2681).add e2680) hs rfl ?_
                  refine w_call cf63 (Wnt.of rfl rfl b2671) rfl rfl (fun w hs => ref27_Same.calls hs t36.1 v42 h43 t56.1 v62 h63 _ e2688) ?_
                  rintro _ M2685 l2686 rfl
                  replace h43 := h43.mono l2686
                  exact w_nil fun a w' hf hs => ⟨rfl, hf.df, _, l2686, hs, hf.get _ _ rfl⟩
                 ·intro a w' _ _ hd hs
                  exact pv ((hd.fr.add (hd.val 29 117 _ rfl rfl)).add (hd.val 26 114 _ rfl rfl)) hs rfl (fun hf hs => r_pickT (hf.ev rfl) b2671 (hf.ev rfl)) rfl
                 ·intro a w' _ _ hd hs
                  exact pv (hd.fr.add (hd.val 30 118 _ rfl rfl)) hs rfl (fun hf hs => r_move (hf.ev rfl)) rfl
                 ·intro a w' _ _ hd hs
                  exact pg ((hd.fr.add (hd.val 31 119 _ rfl rfl)).add (hd.base 13 _ rfl rfl)) hs (Wnt.of rfl rfl b2696) rfl rfl (fun hf hs => r_move (hf.ev rfl))
                 ·intro a w' _ _ hd hs
                  exact pg ((hd.fr.add (hd.val 31 119 _ rfl rfl)).add (hd.val 32 120 _ rfl rfl)) hs (Wnt.of rfl rfl b2696) rfl rfl (fun hf hs => r_eql (hf.ev rfl) (hf.ev rfl))
                 ·intro a w' _ _ hd hs
                  exact pv ((hd.fr.add (hd.val 33 121 _ rfl rfl)).add (hd.val 31 119 _ rfl rfl)) hs rfl (fun hf hs => r_pickT (hf.ev rfl) b2696 (hf.ev rfl)) rfl
                 ·intro a w' _ _ hd hs
                  exact pv (hd.fr.add (hd.val 34 122 _ rfl rfl)) hs rfl (fun hf hs => r_move (hf.ev rfl)) rfl
                 ·intro a w' _ _ hd hs
                  exact pg ((hd.fr.add (hd.val 35 123 _ rfl rfl)).add (hd.base 14 _ rfl rfl)) hs (Wnt.of rfl rfl b2711) rfl rfl (fun hf hs => r_move (hf.ev rfl))
                 ·intro a w' _ _ hd hs
                  exact pv ((hd.fr.add (hd.val 36 124 _ rfl rfl)).add (hd.val 35 123 _ rfl rfl)) hs rfl (fun hf hs => r_pickT (hf.ev rfl) b2711 (hf.ev rfl)) rfl
                 ·intro a w' _ _ hd hs
                  exact pv (hd.fr.add (hd.val 37 125 _ rfl rfl)) hs rfl (fun hf hs => r_move (hf.ev rfl)) rfl
                 ·intro a w' _ _ hd hs
                  exact pg ((hd.fr.add (hd.val 38 126 _ rfl rfl)).add (hd.base 16 _ rfl rfl)) hs (Wnt.of rfl rfl b2722) rfl rfl (fun hf hs => r_move (hf.ev rfl))
                 ·intro a w' _ _ hd hs
                  exact pg ((hd.fr.add (hd.val 38 126 _ rfl rfl)).add (hd.val 39 127 _ rfl rfl)) hs (Wnt.of rfl rfl b2722) rfl rfl (fun hf hs => r_not (hf.ev rfl))
                 ·intro a w' _ _ hd hs
                  exact pv ((hd.fr.add (hd.val 40 128 _ rfl rfl)).add (hd.val 38 126 _ rfl rfl)) hs rfl (fun hf hs => r_pickT (hf.ev rfl) b2722 (hf.ev rfl)) rfl
                 ·intro a w' _ _ hd hs
                  exact pv (hd.fr.add (hd.val 41 129 _ rfl rfl)) hs rfl (fun hf hs => r_move (hf.ev rfl)) rfl
                 ·intro a w' _ _ hd hs
                  exact pg ((hd.fr.add (hd.val 42 130 _ rfl rfl)).add (hd.base 7 _ rfl rfl)) hs (Wnt.of rfl rfl b2737) rfl rfl (fun hf hs => r_loadA ta44 ts44 (hf.ev rfl) (hs.blk (i := 5) rfl) rfl rfl)
                 ·intro a w' _ _ hd hs
                  exact pg ((hd.fr.add (hd.val 42 130 _ rfl rfl)).add (hd.base 6 _ rfl rfl)) hs (Wnt.of rfl rfl b2737) rfl rfl (fun hf hs => r_loadA ta36 ts36 (hf.ev rfl) (hs.blk (i := 4) rfl) (Backup.d0_38 _ _) (Backup.len _ _))
                 ·intro a w' _ l2745 hd hs
                  have e2746 := hd.val 43 131 _ rfl rfl
                  replace h43 := h43.mono l2745
                  have e2747 := hd.val 44 132 _ rfl rfl
                  replace h34 := h34.mono l2745
                  have e2748 := hd.val 42 130 _ rfl rfl
                  refine OP.ofW (l := [(131, (.agg (Table.C t36.1 v42).toArray)), (132, (.agg (Backup.C z31 v25).toArray)), (130, (.bool (!t75.2)))]) (((hd.fr.add e2748).add e2747).add e2746) hs rfl ?_
                  refine w_call cf34 (Wnt.of rfl rfl b2737) rfl rfl (fun w hs => restore_Holds.calls hs t36.1 v42 h43 z31 v25 h34 (5 : Int) _ e2754) ?_
                  rintro _ M2751 l2752 rfl
                  replace h34 := h34.mono l2752
                  exact w_nil fun a w' hf hs => ⟨rfl, hf.df, _, l2752, hs, hf.get _ _ rfl⟩
                 ·intro a w' _ _ hd hs
                  exact pv ((hd.fr.add (hd.val 45 133 _ rfl rfl)).add (hd.val 42 130 _ rfl rfl)) hs rfl (fun hf hs => r_pickT (hf.ev rfl) b2737 (hf.ev rfl)) rfl
                 ·intro a w' _ _ hd hs
                  exact pv (hd.fr.add (hd.val 46 134 _ rfl rfl)) hs rfl (fun hf hs => r_move (hf.ev rfl)) rfl
                 ·intro a w' _ _ hd hs
                  exact pg ((hd.fr.add (hd.val 47 135 _ rfl rfl)).add (hd.base 3 _ rfl rfl)) hs (Wnt.of rfl rfl b2762) rfl rfl (fun hf hs => r_loadA ta44 ts44 (hf.ev rfl) (hs.blk (i := 1) rfl) rfl rfl)
                 ·intro a w' _ _ hd hs
                  exact pg ((hd.fr.add (hd.val 47 135 _ rfl rfl)).add (hd.base 6 _ rfl rfl)) hs (Wnt.of rfl rfl b2762) rfl rfl (fun hf hs => r_loadA ta36 ts36 (hf.ev rfl) (hs.blk (i := 4) rfl) (Backup.d0_38 _ _) (Backup.len _ _))
                 ·intro a w' _ l2770 hd hs
                  have e2771 := hd.val 48 136 _ rfl rfl
                  replace h15 := h15.mono l2770
                  have e2772 := hd.val 49 137 _ rfl rfl
                  replace h34 := h34.mono l2770
                  have e2773 := hd.val 47 135 _ rfl rfl
                  refine OP.ofW (l := [(136, (.agg (Table.C (⟨2, ([(⟨1, 0, t3, 0, 1, 9, 1, 0, false⟩ : Key)] : List Key)⟩ : Table) v12).toArray)), (137, (.agg (Backup.C z31 v25).toArray)), (135, (.bool t2749))]) (((hd.fr.add e2773).add e2772).add e2771) hs rfl ?_
                  refine w_call cf34 (Wnt.of rfl rfl b2762) rfl rfl (fun w hs => restore_Holds.calls hs (⟨2, ([(⟨1, 0, t3, 0, 1, 9, 1, 0, false⟩ : Key)] : List Key)⟩ : Table) v12 h15 z31 v25 h34 (5 : Int) _ e2779) ?_
                  rintro _ M2776 l2777 rfl
                  replace h15 := h15.mono l2777
                  replace h34 := h34.mono l2777
                  exact w_nil fun a w' hf hs => ⟨rfl, hf.df, _, l2777, hs, hf.get _ _ rfl⟩
                 ·intro a w' _ _ hd hs
                  exact pg ((hd.fr.add (hd.val 47 135 _ rfl rfl)).add (hd.val 50 138 _ rfl rfl)) hs (Wnt.of rfl rfl b2762) rfl rfl (fun hf hs => r_not (hf.ev rfl))
                 ·intro a w' _ _ hd hs
                  exact pv ((hd.fr.add (hd.val 51 139 _ rfl rfl)).add (hd.val 47 135 _ rfl rfl)) hs rfl (fun hf hs => r_pickT (hf.ev rfl) b2762 (hf.ev rfl)) rfl
                 ·intro a w' _ _ hd hs
                  exact pv (hd.fr.add (hd.val 52 140 _ rfl rfl)) hs rfl (fun hf hs => r_move (hf.ev rfl)) rfl
                 ·intro a w' _ _ hd hs
                  exact pg ((hd.fr.add (hd.val 53 141 _ rfl rfl)).add (hd.base 3 _ rfl rfl)) hs (Wnt.of rfl rfl b2791) rfl rfl (fun hf hs => r_loadA ta44 ts44 (hf.ev rfl) (hs.blk (i := 1) rfl) rfl rfl)
                 ·intro a w' _ _ hd hs
                  exact pg ((hd.fr.add (hd.val 53 141 _ rfl rfl)).add (hd.base 6 _ rfl rfl)) hs (Wnt.of rfl rfl b2791) rfl rfl (fun hf hs => r_loadA ta36 ts36 (hf.ev rfl) (hs.blk (i := 4) rfl) (Backup.d0_38 _ _) (Backup.len _ _))
                 ·intro a w' _ l2799 hd hs
                  have e2800 := hd.val 54 142 _ rfl rfl
                  replace h15 := h15.mono l2799
                  have e2801 := hd.val 55 143 _ rfl rfl
                  replace h34 := h34.mono l2799
                  have e2802 := hd.val 53 141 _ rfl rfl
                  refine OP.ofW (l := [(142, (.agg (Table.C (⟨2, ([(⟨1, 0, t3, 0, 1, 9, 1, 0, false⟩ : Key)] : List Key)⟩ : Table) v12).toArray)), (143, (.agg (Backup.C z31 v25).toArray)), (141, (.bool (!t2774)))]) (((hd.fr.add e2802).add e2801).add e2800) hs rfl ?_
                  refine w_call cf34 (Wnt.of rfl rfl b2791) rfl rfl (fun w hs => restore_Holds.calls hs (⟨2, ([(⟨1, 0, t3, 0, 1, 9, 1, 0, false⟩ : Key)] : List Key)⟩ : Table) v12 h15 z31 v25 h34 (9 : Int) _ e2808) ?_
                  rintro _ M2805 l2806 rfl
                  replace h34 := h34.mono l2806
                  exact w_nil fun a w' hf hs => ⟨rfl, hf.df, _, l2806, hs, hf.get _ _ rfl⟩
                 ·intro a w' _ _ hd hs
                  exact pv ((hd.fr.add (hd.val 56 144 _ rfl rfl)).add (hd.val 53 141 _ rfl rfl)) hs rfl (fun hf hs => r_pickT (hf.ev rfl) b2791 (hf.ev rfl)) rfl
                 ·intro a w' _ _ hd hs
                  exact pv (hd.fr.add (hd.val 57 145 _ rfl rfl)) hs rfl (fun hf hs => r_move (hf.ev rfl)) rfl
                 ·intro a w' _ _ hd hs
                  exact pg ((hd.fr.add (hd.val 58 146 _ rfl rfl)).add (hd.base 18 _ rfl rfl)) hs (Wnt.of rfl rfl b2816) rfl rfl (fun hf hs => r_loadA ta94 ts94 (hf.ev rfl) (hs.blk (i := 8) rfl) (restore_Place.d0_34 _) (restore_Place.len _))
                 ·intro a w' _ _ hd hs
                  exact pg ((hd.fr.add (hd.val 58 146 _ rfl rfl)).add (hd.base 6 _ rfl rfl)) hs (Wnt.of rfl rfl b2816) rfl rfl (fun hf hs => r_loadA ta36 ts36 (hf.ev rfl) (hs.blk (i := 4) rfl) (Backup.d0_38 _ _) (Backup.len _ _))
                 ·intro a w' _ l2824 hd hs
                  have e2825 := hd.val 59 147 _ rfl rfl
                  have e2826 := hd.val 60 148 _ rfl rfl
                  replace h34 := h34.mono l2824
                  have e2827 := hd.val 58 146 _ rfl rfl
                  refine OP.ofW (l := [(147, (.agg (restore_Place.C z86).toArray)), (148, (.agg (Backup.C z31 v25).toArray)), (146, (.bool t2803))]) (((hd.fr.add e2827).add e2826).add e2825) hs rfl ?_
                  refine w_call cf62 (Wnt.of rfl rfl b2816) rfl rfl (fun w hs => restore_Admit.calls hs z86 z31 v25 h34 _ e2833) ?_
                  rintro _ M2830 l2831 rfl
                  exact w_nil fun a w' hf hs => ⟨rfl, hf.df, _, l2831, hs, hf.get _ _ rfl⟩
                 ·intro a w' _ _ hd hs
                  exact pg ((hd.fr.add (hd.val 58 146 _ rfl rfl)).add (hd.val 61 149 _ rfl rfl)) hs (Wnt.of rfl rfl b2816) rfl rfl (fun hf hs => r_eql (hf.ev rfl) (hf.ev rfl))
                 ·intro a w' _ _ hd hs
                  exact pv ((hd.fr.add (hd.val 62 150 _ rfl rfl)).add (hd.val 58 146 _ rfl rfl)) hs rfl (fun hf hs => r_pickT (hf.ev rfl) b2816 (hf.ev rfl)) rfl
                 ·intro a w' _ _ hd hs
                  exact pv (hd.fr.add (hd.val 63 151 _ rfl rfl)) hs rfl (fun hf hs => r_move (hf.ev rfl)) rfl
                 ·intro a w' _ _ hd hs
                  exact pg ((hd.fr.add (hd.val 64 152 _ rfl rfl)).add (hd.base 19 _ rfl rfl)) hs (Wnt.of rfl rfl b2845) rfl rfl (fun hf hs => r_move (hf.ev rfl))
                 ·intro a w' _ _ hd hs
                  exact pg ((hd.fr.add (hd.val 64 152 _ rfl rfl)).add (hd.val 65 153 _ rfl rfl)) hs (Wnt.of rfl rfl b2845) rfl rfl (fun hf hs => r_eql (hf.ev rfl) (hf.ev rfl))
                 ·intro a w' _ _ hd hs
                  exact pv ((hd.fr.add (hd.val 66 154 _ rfl rfl)).add (hd.val 64 152 _ rfl rfl)) hs rfl (fun hf hs => r_pickT (hf.ev rfl) b2845 (hf.ev rfl)) rfl
                 ·intro a w' _ _ hd hs
                  exact pv (hd.fr.add (hd.val 67 155 _ rfl rfl)) hs rfl (fun hf hs => r_move (hf.ev rfl)) rfl
                 ·intro a w' _ _ hd hs
                  exact pg ((hd.fr.add (hd.val 68 156 _ rfl rfl)).add (hd.base 20 _ rfl rfl)) hs (Wnt.of rfl rfl b2860) rfl rfl (fun hf hs => r_move (hf.ev rfl))
                 ·intro a w' _ _ hd hs
                  exact pg ((hd.fr.add (hd.val 68 156 _ rfl rfl)).add (hd.val 69 157 _ rfl rfl)) hs (Wnt.of rfl rfl b2860) rfl rfl (fun hf hs => r_eql (hf.ev rfl) (hf.ev rfl))
                 ·intro a w' _ _ hd hs
                  exact pv ((hd.fr.add (hd.val 70 158 _ rfl rfl)).add (hd.val 68 156 _ rfl rfl)) hs rfl (fun hf hs => r_pickT (hf.ev rfl) b2860 (hf.ev rfl)) rfl
                 ·intro a w' _ _ hd hs
                  exact pv (hd.fr.add (hd.val 71 159 _ rfl rfl)) hs rfl (fun hf hs => r_move (hf.ev rfl)) rfl
                 ·intro a w' _ _ hd hs
                  exact pg ((hd.fr.add (hd.val 72 160 _ rfl rfl)).add (hd.base 18 _ rfl rfl)) hs (Wnt.of rfl rfl b2875) rfl rfl (fun hf hs => r_loadA ta94 ts94 (hf.ev rfl) (hs.blk (i := 8) rfl) (restore_Place.d0_34 _) (restore_Place.len _))
                 ·intro a w' _ _ hd hs
                  exact pg (hd.fr.add (hd.val 72 160 _ rfl rfl)) hs (Wnt.of rfl rfl b2875) rfl rfl (fun hf hs => r_build (is := []) (xs := []) (vs := []) (A := Backup.C (⟨(Vector.replicate 16 0), 0, 0, 0, 0, (Vector.replicate 16 0), [], []⟩ : Backup) (.slice none 0 0)) rfl (hf.evs rfl) (built_of (pl := [(0, 16), (16, 1), (17, 1), (18, 1), (19, 1), (20, 16), (36, 1), (37, 1)]) (A0 := Backup.C (⟨(Vector.replicate 16 0), 0, 0, 0, 0, (Vector.replicate 16 0), [], []⟩ : Backup) (.slice none 0 0)) tz36 Tryd.underlying36 (by kernel_rfl) rfl .nil))
                 ·intro a w' _ _ hd hs
                  have e2884 := hd.val 73 161 _ rfl rfl
                  have e2885 := hd.val 74 162 _ rfl rfl
                  have e2886 := hd.val 72 160 _ rfl rfl
                  refine OP.ofW (l := [(161, (.agg (restore_Place.C z86).toArray)), (162, (.agg (Backup.C (⟨(Vector.replicate 16 0), 0, 0, 0, 0, (Vector.replicate 16 0), [], []⟩ : Backup) (.slice none 0 0)).toArray)), (160, (.bool (t97 == (10 : Int))))]) (((hd.fr.add e2886).add e2885).add e2884) hs rfl ?_
                  refine w_call cf62 (Wnt.of rfl rfl b2875) rfl rfl (fun w hs => restore_Admit.calls hs z86 (⟨(Vector.replicate 16 0), 0, 0, 0, 0, (Vector.replicate 16 0), [], []⟩ : Backup) (.slice none 0 0) RS.none _ e2892) ?_
                  rintro _ M2889 l2890 rfl
                  exact w_nil fun a w' hf hs => ⟨rfl, hf.df, _, l2890, hs, hf.get _ _ rfl⟩
                 ·intro a w' _ _ hd hs
                  exact pg ((hd.fr.add (hd.val 72 160 _ rfl rfl)).add (hd.val 75 163 _ rfl rfl)) hs (Wnt.of rfl rfl b2875) rfl rfl (fun hf hs => r_eql (hf.ev rfl) (hf.ev rfl))
                 ·intro a w' _ _ hd hs
                  exact pv ((hd.fr.add (hd.val 76 164 _ rfl rfl)).add (hd.val 72 160 _ rfl rfl)) hs rfl (fun hf hs => r_pickT (hf.ev rfl) b2875 (hf.ev rfl)) rfl
                 ·intro a w' _ _ hd hs
                  exact pv (hd.fr.add (hd.val 77 165 _ rfl rfl)) hs rfl (fun hf hs => r_assign (hf.ev rfl)) rfl
                 intro a w' M2904 l2905 hdf hsz hb hv hs
                 have e2906 := hv 78 0 _ rfl rfl
                 refine n_of (c := (Cx.mk Tryd.prog 166 none' M w)) (l := [(0, (.bool (t2887 == (1 : Int))))]) ?_ ((Fr.start hdf hsz).add e2906) hs
                 clear hdf hsz hb hv hs e2906
                 obtain rfl := some_r H
                 refine n_id ?_
                 intro a w' hf hs
                 exact ⟨_, l2905, (hf.pick (pk pk0 rfl)), hs.sel [0, 1, 2, 3, 4, 5, 6, 7, 8] (by decide) rfl⟩
                replace b2875 := Bool.eq_false_iff.2 b2875
                replace H := if_f b2875 H
                exact absurd ((some_r H).trans ht_) (by decide)
               replace b2860 := Bool.eq_false_iff.2 b2860
               replace H := if_f b2860 H
               exact absurd ((some_r H).trans ht_) (by decide)
              replace b2845 := Bool.eq_false_iff.2 b2845
              replace H := if_f b2845 H
              exact absurd ((some_r H).trans ht_) (by decide)
             replace b2816 := Bool.eq_false_iff.2 b2816
             replace H := if_f b2816 H
             exact absurd ((some_r H).trans ht_) (by decide)
            replace b2791 := Bool.eq_false_iff.2 b2791
            replace H := if_f b2791 H
            exact absurd ((some_r H).trans ht_) (by decide)
           replace b2762 := Bool.eq_false_iff.2 b2762
           replace H := if_f b2762 H
           exact absurd ((some_r H).trans ht_) (by decide)
          replace b2737 := Bool.eq_false_iff.2 b2737
          replace H := if_f b2737 H
          exact absurd ((some_r H).trans ht_) (by decide)
         replace b2722 := Bool.eq_false_iff.2 b2722
         replace H := if_f b2722 H
         exact absurd ((some_r H).trans ht_) (by decide)
        replace b2711 := Bool.eq_false_iff.2 b2711
        replace H := if_f b2711 H
        exact absurd ((some_r H).trans ht_) (by decide)
       replace b2696 := Bool.eq_false_iff.2 b2696
       replace H := if_f b2696 H
       exact absurd ((some_r H).trans ht_) (by decide)
      replace b2671 := Bool.eq_false_iff.2 b2671
      replace H := if_f b2671 H
      exact absurd ((some_r H).trans ht_) (by decide)
     replace b2656 := Bool.eq_false_iff.2 b2656
     replace H := if_f b2656 H
     exact absurd ((some_r H).trans ht_) (by decide)
    replace b2637 := Bool.eq_false_iff.2 b2637
    replace H := if_f b2637 H
    exact absurd ((some_r H).trans ht_) (by decide)
   replace b2618 := Bool.eq_false_iff.2 b2618
   replace H := if_f b2618 H
   exact absurd ((some_r H).trans ht_) (by decide)
  replace b2586 := Bool.eq_false_iff.2 b2586
  replace H := if_f b2586 H
  exact absurd ((some_r H).trans ht_) (by decide)
 clear H1 ht_
 rintro a w' ⟨M104, l105, hf, hs⟩
 refine c_of (c := (Cx.mk Tryd.prog 166 none' M w)) ?_ hf hs
 clear hf hs
 obtain rfl := some_r H
 exact c_ret fun a w' hf hs => hret _ (.inl rfl) a w' hf.df ⟨_, _, Res.of1 rfl (RV.t hf rfl), hs.ext, rfl⟩
theorem ref27_Live.calls {M : Heap} {w : World} (hM : Sub M w) (p0 : Key) (p1 : Int) (r : Bool) (H : ref27_Live p0 p1 = some r) :
  Calls Tryd.prog 31 [(.agg (Key.C p0).toArray), (.int .i64 p1)].toArray w (Post M w fun M' v => v = (.bool r)) := by
 refine enter 15 [(0, (.agg (Key.C p0).toArray)), (1, (.int .i64 p1))] Tryd.func31 rfl rfl rfl hM ?_
 intro Q hret
 unfold ref27_Live at H
 refine c_sr fun _ hK1 => ?_
 refine w_boxM trivial rfl rfl rfl ?_
 intro b2 M3 l4 h5
 refine va rfl rfl ?_
 refine w_nil (hK1 _ _ _ ?_)
 obtain ⟨t6, H1, H⟩ := bnd H
 refine c_cut (fun a' w' => ∃ (M7 : Heap), HLe M3 M7 ∧ Fr 15 [(4, (.bool t6))] a' ∧ St none' M w M7 (lt []) w') ?_ ?_
 ·replace H := H1
  clear H1
  refine c_reg ?_
  refine vm rfl rfl ?_
  refine v_fa fa55_4 rfl rfl ?_
  refine wv rfl (fun hf hs => r_load1 ta3 (hf.ev rfl) (hs.sub _ _ h5) rfl) ?_
  refine wv rfl (fun hf hs => r_geq (hf.ev rfl) (hf.ev rfl)) ?_
  refine vm rfl rfl ?_
  by_cases b9 : (decide (p0.Start ≤ p1)) = true
  ·replace H := if_t b9 H
   refine wg b9 rfl rfl rfl (fun hf hs => r_move (hf.ev rfl)) ?_
   refine wg b9 rfl rfl rfl (fun hf hs => r_fa fa55_5 (hf.ev rfl)) ?_
   refine wg b9 rfl rfl rfl (fun hf hs => r_load1 ta3 (hf.ev rfl) (hs.sub _ _ h5) rfl) ?_
   refine wg b9 rfl rfl rfl (fun hf hs => r_lss (hf.ev rfl) (hf.ev rfl)) ?_
   refine wv rfl (fun hf hs => r_pickT (hf.ev rfl) b9 (hf.ev rfl)) ?_
   refine va rfl rfl ?_
   obtain rfl := some_r H
   exact w_nil fun a w' hf hs => ⟨_, (HLe.refl _), (hf.pick (pk pk0 rfl)), hs.sel [] (by decide) rfl⟩
  replace b9 := Bool.eq_false_iff.2 b9
  replace H := if_f b9 H
  refine wq b9 rfl rfl rfl ?_
  refine wq b9 rfl rfl rfl ?_
  refine wq b9 rfl rfl rfl ?_
  refine wq b9 rfl rfl rfl ?_
  refine wv rfl (fun hf hs => r_pickF (hf.ev rfl) b9 (hf.ev rfl)) ?_
  refine va rfl rfl ?_
  obtain rfl := some_r H
  exact w_nil fun a w' hf hs => ⟨_, (HLe.refl _), (hf.pick (pk pk0 rfl)), hs.sel [] (by decide) rfl⟩
 clear H1
 rintro a w' ⟨M7, l8, hf, hs⟩
 refine c_of (c := (Cx.mk Tryd.prog 15 none' M w)) ?_ hf hs
 clear hf hs
 obtain rfl := some_r H
 exact c_ret fun a w' hf hs => hret _ (.inl rfl) a w' hf.df ⟨_, _, Res.of1 rfl (RV.t hf rfl), hs.ext, rfl⟩
theorem ref27_at.calls {M : Heap} {w : World} (hM : Sub M w) (p0 : Table) (v1 : Value) (h2 : RS Key.F M v1 p0.Keys) (p1 : Int) (r : Int) (H : ref27_at p0 p1 = some r) :
  Calls Tryd.prog 68 [(.agg (Table.C p0 v1).toArray), (.int .i64 p1)].toArray w (Post M w fun M' v => v = (.int .i64 r)) := by
 refine enter 22 [(0, (.agg (Table.C p0 v1).toArray)), (1, (.int .i64 p1))] Tryd.func68 rfl rfl rfl hM ?_
 intro Q hret
 unfold ref27_at at H
 refine c_sr fun _ hK3 => ?_
 refine w_boxM trivial rfl rfl rfl ?_
 intro b4 M5 l6 h7
 replace h2 := h2.mono l6
 refine va rfl rfl ?_
 refine w_nil (hK3 _ _ _ ?_)
 refine c_cut (fun a' w' => ∃ (M8 : Heap), HLe M5 M8 ∧ Fr 22 [] a' ∧ St none' M w M8 (lt []) w' ∧ ref27_at.j1  = some r) ?_ ?_
 ·refine c_seq ?_
  intro K11 hK11
  refine c_reg ?_
  refine va rfl rfl ?_
  refine w_nil (hK11 _ _ _ ?_)
  refine c_block ?_
  refine c_loop (fun (s12 : Int) a' w' => ∃ (M13 : Heap), HLe M5 M13 ∧ Fr 22 [(1, (.int .i64 p1)), (2, (ptr b4 0)), (5, (.int .i64 s12))] a' ∧ St none' M w M13 (lt []) w') (0 : Int) H ?_ ?_
  ·intro a w' hf hs
   exact ⟨_, HLe.refl _, (hf.pick (pk (pk (pk pk0 rfl) rfl) rfl)), hs.selD [] (by decide) rfl⟩
  clear H
  intro s12 y16 H r15 a w' hJ
  obtain ⟨M13, l14, hf, hs⟩ := hJ
  refine c_of (c := (Cx.mk Tryd.prog 22 none' M w)) ?_ hf hs
  unfold ref27_at.l2 at H
  clear hf hs
  replace h2 := h2.mono l14
  replace h7 := l14 _ _ h7
  refine c_seq fun K17 hK17 => ?_
  refine c_sr fun _ hK18 => ?_
  refine vm rfl rfl ?_
  refine v_fa fa44_1 rfl rfl ?_
  refine wv rfl (fun hf hs => r_load1 ta34 (hf.ev rfl) (hs.sub _ _ h7) rfl) ?_
  refine wv rfl (fun hf hs => r_lenR Tryd.underlying34 h2 (hf.ev rfl)) ?_
  refine v_lss rfl rfl rfl ?_
  refine w_nil (hK18 _ _ _ ?_)
  refine c_if rfl (fun b19 => ?_) (fun b19 => ?_)
  ·replace H := if_t b19 H
   refine c_skip (hK17 _ _ _ ?_)
   refine c_seq fun K20 hK20 => ?_
   refine c_block ?_
   refine c_sr fun _ hK21 => ?_
   refine v_fa fa44_1 rfl rfl ?_
   refine wv rfl (fun hf hs => r_load1 ta34 (hf.ev rfl) (hs.sub _ _ h7) rfl) ?_
   refine vm rfl rfl ?_
   obtain ⟨g22, H⟩ := grd_s H
   refine wv rfl (fun hf hs => r_iR Tryd.underlying34 ts55 h2 (hf.ev rfl) (hf.ev rfl) g22.1 g22.2) ?_
   refine wv rfl (fun hf hs => r_faE fa55_0 h2 g22.1 g22.2 (hf.ev rfl)) ?_
   refine wv rfl (fun hf hs => r_loadE1 ta3 h2 hs.sub g22.1 g22.2 (hf.ev rfl) rfl) ?_
   refine vm rfl rfl ?_
   refine wv rfl (fun hf hs => r_eql (hf.ev rfl) (hf.ev rfl)) ?_
   refine w_nil (hK21 _ _ _ ?_)
   refine c_if rfl (fun b23 => ?_) (fun b23 => ?_)
   ·replace H := if_t b23 H
    refine c_sr fun _ hK24 => ?_
    refine vm rfl rfl ?_
    refine va rfl rfl ?_
    refine w_nil (hK24 _ _ _ ?_)
    obtain rfl := (r15 _ (Option.some.inj H).symm)
    exact c_ret fun a w' hf hs => hret _ (.inl rfl) a w' hf.df ⟨_, _, Res.of1 rfl (RV.t hf rfl), hs.ext, rfl⟩
   replace H := if_f b23 H
   refine c_skip (hK20 _ _ _ ?_)
   refine c_reg ?_
   refine vm rfl rfl ?_
   refine v_add rfl rfl rfl ?_
   refine va rfl rfl ?_
   exact w_nil fun a w' hf hs => ⟨_, (some_r H).symm, _, l14.trans (HLe.refl _), (hf.pick (pk (pk (pk pk0 rfl) rfl) rfl)), hs.selD [] (by decide) rfl⟩
  replace H := if_f b19 H
  replace H := map_inr H r15
  refine c_exit ?_
  intro a w' hf hs
  exact ⟨_, l14, hf.nil, hs.selD [] (by decide) rfl, H⟩
 rintro a w' ⟨M8, l9, hf, hs, H⟩
 refine c_of (c := (Cx.mk Tryd.prog 22 none' M w)) ?_ hf hs
 unfold ref27_at.j1 at H
 clear hf hs
 refine c_sr fun _ hK10 => ?_
 refine va rfl rfl ?_
 refine w_nil (hK10 _ _ _ ?_)
 obtain rfl := some_r H
 exact c_ret fun a w' hf hs => hret _ (.inl rfl) a w' hf.df ⟨_, _, Res.of1 rfl (RV.t hf rfl), hs.ext, rfl⟩
theorem ref27_Get.calls {M : Heap} {w : World} (hM : Sub M w) (p0 : Table) (v1 : Value) (h2 : RS Key.F M v1 p0.Keys) (p1 : Int) (r : (Key × Int)) (H : ref27_Get p0 p1 = some r) :
  Calls Tryd.prog 33 [(.agg (Table.C p0 v1).toArray), (.int .i64 p1)].toArray w (Post M w fun M' v => v = .tuple #[(.agg (Key.C r.1).toArray), (.int .i64 r.2)]) := by
 refine enter 18 [(0, (.agg (Table.C p0 v1).toArray)), (1, (.int .i64 p1))] Tryd.func33 rfl rfl rfl hM ?_
 intro Q hret
 unfold ref27_Get at H
 refine c_sr fun _ hK3 => ?_
 refine w_boxM trivial rfl rfl rfl ?_
 intro b4 M5 l6 h7
 replace h2 := h2.mono l6
 refine w_allocL (A := Key.C (⟨0, 0, [], 0, 0, 0, 0, 0, false⟩ : Key)) tz55 trivial rfl rfl ?_
 intro b8
 refine va rfl rfl ?_
 refine w_nil (hK3 _ _ _ ?_)
 refine c_sr fun _ hK9 => ?_
 refine wv rfl (fun hf hs => r_loadA ta44 ts44 (hf.ev rfl) (hs.sub _ _ h7) rfl rfl) ?_
 refine vm rfl rfl ?_
 obtain ⟨t10, e15, H⟩ := bnd H
 refine w_call cf68 trivial rfl rfl (fun w hs => ref27_at.calls hs p0 v1 h2 p1 _ e15) ?_
 rintro _ M12 l13 rfl
 replace h2 := h2.mono l13
 replace h7 := l13 _ _ h7
 refine va rfl rfl ?_
 refine w_nil (hK9 _ _ _ ?_)
 refine c_seq fun K16 hK16 => ?_
 refine c_sr fun _ hK17 => ?_
 refine vm rfl rfl ?_
 refine v_lss rfl rfl rfl ?_
 refine w_nil (hK17 _ _ _ ?_)
 refine c_if rfl (fun b18 => ?_) (fun b18 => ?_)
 ·replace H := if_t b18 H
  refine c_sr fun _ hK19 => ?_
  refine wv rfl (fun hf hs => r_build (is := []) (xs := []) (vs := []) (A := Key.C (⟨0, 0, [], 0, 0, 0, 0, 0, false⟩ : Key)) rfl (hf.evs rfl) (by kernel_rfl)) ?_
  refine w_store (i := 0) (vs := Key.C (⟨0, 0, [], 0, 0, 0, 0, 0, false⟩ : Key)) (A' := Key.C (⟨0, 0, [], 0, 0, 0, 0, 0, false⟩ : Key)) trivial rfl rfl rfl rfl ts55 rfl (Key.F_one _) (Nat.le_of_ble_eq_true rfl) rfl ?_
  refine va rfl rfl ?_
  refine w_nil (hK19 _ _ _ ?_)
  obtain rfl := some_r H
  exact c_ret fun a w' hf hs => hret _ (.inl rfl) a w' hf.df ⟨_, _, Res.of2 rfl ⟨_, hf.get _ _ rfl, run_loadA (hs.blk (i := 0) rfl) ta55 ts55 rfl rfl⟩ (RV.t hf rfl), hs.ext, rfl⟩
 replace H := if_f b18 H
 refine c_skip (hK16 _ _ _ ?_)
 refine c_sr fun _ hK20 => ?_
 refine v_fa fa44_1 rfl rfl ?_
 refine wv rfl (fun hf hs => r_load1 ta34 (hf.ev rfl) (hs.sub _ _ h7) rfl) ?_
 refine vm rfl rfl ?_
 obtain ⟨g21, H⟩ := grd_s H
 refine wv rfl (fun hf hs => r_iR Tryd.underlying34 ts55 h2 (hf.ev rfl) (hf.ev rfl) g21.1 g21.2) ?_
 refine wv rfl (fun hf hs => r_loadEA ta55 ts55 h2 hs.sub g21.1 g21.2 (hf.ev rfl) rfl rfl) ?_
 refine w_store (i := 0) (vs := Key.C (rd p0.Keys t10)) (A' := Key.C (rd p0.Keys t10)) trivial rfl rfl rfl rfl ts55 rfl (Key.F_one _) (Nat.le_of_ble_eq_true rfl) rfl ?_
 refine va rfl rfl ?_
 refine w_nil (hK20 _ _ _ ?_)
 obtain rfl := some_r H
 exact c_ret fun a w' hf hs => hret _ (.inl rfl) a w' hf.df ⟨_, _, Res.of2 rfl ⟨_, hf.get _ _ rfl, run_loadA (hs.blk (i := 0) rfl) ta55 ts55 rfl rfl⟩ (RV.t hf rfl), hs.ext, rfl⟩
theorem law37_RestoreBackup.calls {M : Heap} {w : World} (hM : Sub M w) (hG : Gl M) (hs_law37_sanity : ∀ t, law37_sanity = some t → t = true) (p0 : Table) (v1 : Value) (h2 : RS Key.F M v1 p0.Keys) (p1 : Table) (v3 : Value) (h4 : RS Key.F M v3 p1.Keys) (p2 : (List UInt8)) (p3 : Int) (p4 : Int) (r : Bool) (hr_ : r = true) (H : law37_RestoreBackup p0 p1 p2 p3 p4 = some r) :
  Calls Tryd.prog 10 [(.agg (Table.C p0 v1).toArray), (.agg (Table.C p1 v3).toArray), (str p2), (.int .i64 p3), (.int .i64 p4)].toArray w (Post M w fun M' v => v = (.bool r)) := by
 refine enter 199 [(0, (.agg (Table.C p0 v1).toArray)), (1, (.agg (Table.C p1 v3).toArray)), (2, (str p2)), (3, (.int .i64 p3)), (4, (.int .i64 p4))] Tryd.func10 rfl rfl rfl hM ?_
 intro Q hret
 unfold law37_RestoreBackup at H
 refine c_sr fun _ hK5 => ?_
 refine w_boxM trivial rfl rfl rfl ?_
 intro b6 M7 l8 h9
 replace hG := hG.mono l8
 replace h2 := h2.mono l8
 replace h4 := h4.mono l8
 refine w_boxM trivial rfl rfl rfl ?_
 intro b10 M11 l12 h13
 replace hG := hG.mono l12
 replace h2 := h2.mono l12
 replace h4 := h4.mono l12
 replace h9 := l12 _ _ h9
 refine va rfl rfl ?_
 refine w_nil (hK5 _ _ _ ?_)
 refine c_seq fun K14 hK14 => ?_
 obtain ⟨t15, H1, H⟩ := bnd H
 refine c_cut (fun a' w' => ∃ (M16 : Heap), HLe M11 M16 ∧ Fr 199 [(2, (str p2)), (3, (.int .i64 p3)), (4, (.int .i64 p4)), (5, (ptr b6 0)), (6, (ptr b10 0)), (57, (.bool t15))] a' ∧ St none' M w M16 (lt []) w') ?_ ?_
 ·replace H := H1
  clear H1
  refine c_reg ?_
  refine wv rfl (fun hf hs => r_loadA ta44 ts44 (hf.ev rfl) (hs.sub _ _ h9) rfl rfl) ?_
  refine wv rfl (fun hf hs => r_build (is := []) (xs := []) (vs := []) (A := Backup.C (⟨(Vector.replicate 16 0), 0, 0, 0, 0, (Vector.replicate 16 0), [], []⟩ : Backup) (.slice none 0 0)) rfl (hf.evs rfl) (built_of (pl := [(0, 16), (16, 1), (17, 1), (18, 1), (19, 1), (20, 16), (36, 1), (37, 1)]) (A0 := Backup.C (⟨(Vector.replicate 16 0), 0, 0, 0, 0, (Vector.replicate 16 0), [], []⟩ : Backup) (.slice none 0 0)) tz36 Tryd.underlying36 (by kernel_rfl) rfl .nil)) ?_
  obtain ⟨t18, e23, H⟩ := bnd H
  refine w_call cf28 trivial rfl rfl (fun w hs => law37_few.calls hs p0 v1 h2 (⟨(Vector.replicate 16 0), 0, 0, 0, 0, (Vector.replicate 16 0), [], []⟩ : Backup) (.slice none 0 0) RS.none _ e23) ?_
  rintro _ M20 l21 rfl
  replace hG := hG.mono l21
  replace h2 := h2.mono l21
  replace h4 := h4.mono l21
  replace h9 := l21 _ _ h9
  replace h13 := l21 _ _ h13
  refine wv rfl (fun hf hs => r_not (hf.ev rfl)) ?_
  refine vm rfl rfl ?_
  by_cases b24 : (!t18) = true
  ·replace H := if_t b24 H
   refine wq b24 rfl rfl rfl ?_
   refine wq b24 rfl rfl rfl ?_
   refine wq b24 rfl rfl rfl ?_
   refine wq b24 rfl rfl rfl ?_
   refine wv rfl (fun hf hs => r_pickT (hf.ev rfl) b24 (hf.ev rfl)) ?_
   refine vm rfl rfl ?_
   refine wq rfl rfl rfl rfl ?_
   refine wq rfl rfl rfl rfl ?_
   refine wq rfl rfl rfl rfl ?_
   refine wv rfl (fun hf hs => r_pickT (hf.ev rfl) rfl (hf.ev rfl)) ?_
   refine vm rfl rfl ?_
   refine wq rfl rfl rfl rfl ?_
   refine wq rfl rfl rfl rfl ?_
   refine wq rfl rfl rfl rfl ?_
   refine wv rfl (fun hf hs => r_pickT (hf.ev rfl) rfl (hf.ev rfl)) ?_
   refine vm rfl rfl ?_
   refine wq rfl rfl rfl rfl ?_
   refine wq rfl rfl rfl rfl ?_
   refine wq rfl rfl rfl rfl ?_
   refine wv rfl (fun hf hs => r_pickT (hf.ev rfl) rfl (hf.ev rfl)) ?_
   refine vm rfl rfl ?_
   refine wq rfl rfl rfl rfl ?_
   refine wq rfl rfl rfl rfl ?_
   refine wv rfl (fun hf hs => r_pickT (hf.ev rfl) rfl (hf.ev rfl)) ?_
   refine vm rfl rfl ?_
   refine wq rfl rfl rfl rfl ?_
   refine wq rfl rfl rfl rfl ?_
   refine wv rfl (fun hf hs => r_pickT (hf.ev rfl) rfl (hf.ev rfl)) ?_
   obtain rfl := some_r H
   exact w_nil fun a w' hf hs => ⟨_, l21, (hf.pick (pk (pk (pk (pk (pk (pk pk0 rfl) rfl) rfl) rfl) rfl) rfl)), hs.sel [] (by decide) rfl⟩
  replace b24 := Bool.eq_false_iff.2 b24
  replace H := if_f b24 H
  refine wg b24 rfl rfl rfl (fun hf hs => r_loadA ta44 ts44 (hf.ev rfl) (hs.sub _ _ h13) rfl rfl) ?_
  refine wg b24 rfl rfl rfl (fun hf hs => r_build (is := []) (xs := []) (vs := []) (A := Backup.C (⟨(Vector.replicate 16 0), 0, 0, 0, 0, (Vector.replicate 16 0), [], []⟩ : Backup) (.slice none 0 0)) rfl (hf.evs rfl) (built_of (pl := [(0, 16), (16, 1), (17, 1), (18, 1), (19, 1), (20, 16), (36, 1), (37, 1)]) (A0 := Backup.C (⟨(Vector.replicate 16 0), 0, 0, 0, 0, (Vector.replicate 16 0), [], []⟩ : Backup) (.slice none 0 0)) tz36 Tryd.underlying36 (by kernel_rfl) rfl .nil)) ?_
  obtain ⟨t25, e30, H⟩ := bnd H
  refine w_call cf28 (Wnt.of rfl rfl b24) rfl rfl (fun w hs => law37_few.calls hs p1 v3 h4 (⟨(Vector.replicate 16 0), 0, 0, 0, 0, (Vector.replicate 16 0), [], []⟩ : Backup) (.slice none 0 0) RS.none _ e30) ?_
  rintro _ M27 l28 rfl
  replace hG := hG.mono l28
  replace h2 := h2.mono l28
  replace h4 := h4.mono l28
  replace h9 := l28 _ _ h9
  replace h13 := l28 _ _ h13
  refine wg b24 rfl rfl rfl (fun hf hs => r_not (hf.ev rfl)) ?_
  refine wv rfl (fun hf hs => r_pickF (hf.ev rfl) b24 (hf.ev rfl)) ?_
  refine vm rfl rfl ?_
  by_cases b31 : (!t25) = true
  ·replace H := if_t b31 H
   refine wq b31 rfl rfl rfl ?_
   refine wq b31 rfl rfl rfl ?_
   refine wq b31 rfl rfl rfl ?_
   refine wv rfl (fun hf hs => r_pickT (hf.ev rfl) b31 (hf.ev rfl)) ?_
   refine vm rfl rfl ?_
   refine wq rfl rfl rfl rfl ?_
   refine wq rfl rfl rfl rfl ?_
   refine wq rfl rfl rfl rfl ?_
   refine wv rfl (fun hf hs => r_pickT (hf.ev rfl) rfl (hf.ev rfl)) ?_
   refine vm rfl rfl ?_
   refine wq rfl rfl rfl rfl ?_
   refine wq rfl rfl rfl rfl ?_
   refine wq rfl rfl rfl rfl ?_
   refine wv rfl (fun hf hs => r_pickT (hf.ev rfl) rfl (hf.ev rfl)) ?_
   refine vm rfl rfl ?_
   refine wq rfl rfl rfl rfl ?_
   refine wq rfl rfl rfl rfl ?_
   refine wv rfl (fun hf hs => r_pickT (hf.ev rfl) rfl (hf.ev rfl)) ?_
   refine vm rfl rfl ?_
   refine wq rfl rfl rfl rfl ?_
   refine wq rfl rfl rfl rfl ?_
   refine wv rfl (fun hf hs => r_pickT (hf.ev rfl) rfl (hf.ev rfl)) ?_
   obtain rfl := some_r H
   exact w_nil fun a w' hf hs => ⟨_, (l21.trans l28), (hf.pick (pk (pk (pk (pk (pk (pk pk0 rfl) rfl) rfl) rfl) rfl) rfl)), hs.sel [] (by decide) rfl⟩
  replace b31 := Bool.eq_false_iff.2 b31
  replace H := if_f b31 H
  refine wg b31 rfl rfl rfl (fun hf hs => r_loadA ta44 ts44 (hf.ev rfl) (hs.sub _ _ h9) rfl rfl) ?_
  obtain ⟨t32, e37, H⟩ := bnd H
  refine w_call cf24 (Wnt.of rfl rfl b31) rfl rfl (fun w hs => ref27_ValidTable.calls hs p0 v1 h2 _ e37) ?_
  rintro _ M34 l35 rfl
  replace hG := hG.mono l35
  replace h2 := h2.mono l35
  replace h4 := h4.mono l35
  replace h9 := l35 _ _ h9
  replace h13 := l35 _ _ h13
  refine wg b31 rfl rfl rfl (fun hf hs => r_not (hf.ev rfl)) ?_
  refine wv rfl (fun hf hs => r_pickF (hf.ev rfl) b31 (hf.ev rfl)) ?_
  refine vm rfl rfl ?_
  by_cases b38 : (!t32) = true
  ·replace H := if_t b38 H
   refine wq b38 rfl rfl rfl ?_
   refine wq b38 rfl rfl rfl ?_
   refine wq b38 rfl rfl rfl ?_
   refine wv rfl (fun hf hs => r_pickT (hf.ev rfl) b38 (hf.ev rfl)) ?_
   refine vm rfl rfl ?_
   refine wq rfl rfl rfl rfl ?_
   refine wq rfl rfl rfl rfl ?_
   refine wq rfl rfl rfl rfl ?_
   refine wv rfl (fun hf hs => r_pickT (hf.ev rfl) rfl (hf.ev rfl)) ?_
   refine vm rfl rfl ?_
   refine wq rfl rfl rfl rfl ?_
   refine wq rfl rfl rfl rfl ?_
   refine wv rfl (fun hf hs => r_pickT (hf.ev rfl) rfl (hf.ev rfl)) ?_
   refine vm rfl rfl ?_
   refine wq rfl rfl rfl rfl ?_
   refine wq rfl rfl rfl rfl ?_
   refine wv rfl (fun hf hs => r_pickT (hf.ev rfl) rfl (hf.ev rfl)) ?_
   obtain rfl := some_r H
   exact w_nil fun a w' hf hs => ⟨_, (l21.trans (l28.trans l35)), (hf.pick (pk (pk (pk (pk (pk (pk pk0 rfl) rfl) rfl) rfl) rfl) rfl)), hs.sel [] (by decide) rfl⟩
  replace b38 := Bool.eq_false_iff.2 b38
  replace H := if_f b38 H
  refine wg b38 rfl rfl rfl (fun hf hs => r_loadA ta44 ts44 (hf.ev rfl) (hs.sub _ _ h13) rfl rfl) ?_
  obtain ⟨t39, e44, H⟩ := bnd H
  refine w_call cf24 (Wnt.of rfl rfl b38) rfl rfl (fun w hs => ref27_ValidTable.calls hs p1 v3 h4 _ e44) ?_
  rintro _ M41 l42 rfl
  replace hG := hG.mono l42
  replace h2 := h2.mono l42
  replace h4 := h4.mono l42
  replace h9 := l42 _ _ h9
  replace h13 := l42 _ _ h13
  refine wg b38 rfl rfl rfl (fun hf hs => r_not (hf.ev rfl)) ?_
  refine wv rfl (fun hf hs => r_pickF (hf.ev rfl) b38 (hf.ev rfl)) ?_
  refine vm rfl rfl ?_
  by_cases b45 : (!t39) = true
  ·replace H := if_t b45 H
   refine wq b45 rfl rfl rfl ?_
   refine wq b45 rfl rfl rfl ?_
   refine wq b45 rfl rfl rfl ?_
   refine wv rfl (fun hf hs => r_pickT (hf.ev rfl) b45 (hf.ev rfl)) ?_
   refine vm rfl rfl ?_
   refine wq rfl rfl rfl rfl ?_
   refine wq rfl rfl rfl rfl ?_
   refine wv rfl (fun hf hs => r_pickT (hf.ev rfl) rfl (hf.ev rfl)) ?_
   refine vm rfl rfl ?_
   refine wq rfl rfl rfl rfl ?_
   refine wq rfl rfl rfl rfl ?_
   refine wv rfl (fun hf hs => r_pickT (hf.ev rfl) rfl (hf.ev rfl)) ?_
   obtain rfl := some_r H
   exact w_nil fun a w' hf hs => ⟨_, (l21.trans (l28.trans (l35.trans l42))), (hf.pick (pk (pk (pk (pk (pk (pk pk0 rfl) rfl) rfl) rfl) rfl) rfl)), hs.sel [] (by decide) rfl⟩
  replace b45 := Bool.eq_false_iff.2 b45
  replace H := if_f b45 H
  refine wg b45 rfl rfl rfl (fun hf hs => r_move (hf.ev rfl)) ?_
  refine wg b45 rfl rfl rfl (fun hf hs => r_slen Tryd.underlying9 (hf.ev rfl)) ?_
  refine wg b45 rfl rfl rfl (fun hf hs => r_neq (hf.ev rfl) (hf.ev rfl)) ?_
  refine wv rfl (fun hf hs => r_pickF (hf.ev rfl) b45 (hf.ev rfl)) ?_
  refine vm rfl rfl ?_
  by_cases b46 : ((p2.length : Int) != (32 : Int)) = true
  ·replace H := if_t b46 H
   refine wq b46 rfl rfl rfl ?_
   refine wq b46 rfl rfl rfl ?_
   refine wv rfl (fun hf hs => r_pickT (hf.ev rfl) b46 (hf.ev rfl)) ?_
   refine vm rfl rfl ?_
   refine wq rfl rfl rfl rfl ?_
   refine wq rfl rfl rfl rfl ?_
   refine wv rfl (fun hf hs => r_pickT (hf.ev rfl) rfl (hf.ev rfl)) ?_
   obtain rfl := some_r H
   exact w_nil fun a w' hf hs => ⟨_, (l21.trans (l28.trans (l35.trans l42))), (hf.pick (pk (pk (pk (pk (pk (pk pk0 rfl) rfl) rfl) rfl) rfl) rfl)), hs.sel [] (by decide) rfl⟩
  replace b46 := Bool.eq_false_iff.2 b46
  replace H := if_f b46 H
  refine wg b46 rfl rfl rfl (fun hf hs => r_move (hf.ev rfl)) ?_
  refine wg b46 rfl rfl rfl (fun hf hs => r_lss (hf.ev rfl) (hf.ev rfl)) ?_
  refine wv rfl (fun hf hs => r_pickF (hf.ev rfl) b46 (hf.ev rfl)) ?_
  refine vm rfl rfl ?_
  by_cases b47 : (decide (p3 < (0 : Int))) = true
  ·replace H := if_t b47 H
   refine wq b47 rfl rfl rfl ?_
   refine wq b47 rfl rfl rfl ?_
   refine wv rfl (fun hf hs => r_pickT (hf.ev rfl) b47 (hf.ev rfl)) ?_
   obtain rfl := some_r H
   exact w_nil fun a w' hf hs => ⟨_, (l21.trans (l28.trans (l35.trans l42))), (hf.pick (pk (pk (pk (pk (pk (pk pk0 rfl) rfl) rfl) rfl) rfl) rfl)), hs.sel [] (by decide) rfl⟩
  replace b47 := Bool.eq_false_iff.2 b47
  replace H := if_f b47 H
  refine wg b47 rfl rfl rfl (fun hf hs => r_move (hf.ev rfl)) ?_
  refine wg b47 rfl rfl rfl (fun hf hs => r_gtr (hf.ev rfl) (hf.ev rfl)) ?_
  refine wv rfl (fun hf hs => r_pickF (hf.ev rfl) b47 (hf.ev rfl)) ?_
  obtain rfl := some_r H
  exact w_nil fun a w' hf hs => ⟨_, (l21.trans (l28.trans (l35.trans l42))), (hf.pick (pk (pk (pk (pk (pk (pk pk0 rfl) rfl) rfl) rfl) rfl) rfl)), hs.sel [] (by decide) rfl⟩
 clear H1
 rintro a w' ⟨M16, l17, hf, hs⟩
 refine c_of (c := (Cx.mk Tryd.prog 199 none' M w)) ?_ hf hs
 clear hf hs
 replace hG := hG.mono l17
 replace h2 := h2.mono l17
 replace h4 := h4.mono l17
 replace h9 := l17 _ _ h9
 replace h13 := l17 _ _ h13
 refine c_if rfl (fun b48 => ?_) (fun b48 => ?_)
 ·replace H := if_t b48 H
  refine c_sr fun _ hK49 => ?_
  obtain ⟨t50, e55, H⟩ := bnd H
  refine w_call cf29 trivial rfl rfl (fun w hs => law37_sanity.calls hs  _ (hs_law37_sanity _ e55) e55) ?_
  rintro _ M52 l53 rfl
  replace hG := hG.mono l53
  replace h2 := h2.mono l53
  replace h4 := h4.mono l53
  replace h9 := l53 _ _ h9
  replace h13 := l53 _ _ h13
  refine va rfl rfl ?_
  refine w_nil (hK49 _ _ _ ?_)
  obtain rfl := some_r H
  exact c_ret fun a w' hf hs => hret _ (.inl rfl) a w' hf.df ⟨_, _, Res.of1 rfl (RV.t hf rfl), hs.ext, rfl⟩
 replace H := if_f b48 H
 refine c_skip (hK14 _ _ _ ?_)
 refine c_seq fun K56 hK56 => ?_
 refine c_sr fun _ hK57 => ?_
 refine v_fa fa44_0 rfl rfl ?_
 refine wv rfl (fun hf hs => r_load1 ta3 (hf.ev rfl) (hs.sub _ _ h13) rfl) ?_
 refine wv rfl (fun hf hs => r_gtr (hf.ev rfl) (hf.ev rfl)) ?_
 refine w_nil (hK57 _ _ _ ?_)
 refine c_if rfl (fun b58 => ?_) (fun b58 => ?_)
 ·replace H := if_t b58 H
  refine c_sr fun _ hK59 => ?_
  obtain ⟨t60, e65, H⟩ := bnd H
  refine w_call cf29 trivial rfl rfl (fun w hs => law37_sanity.calls hs  _ (hs_law37_sanity _ e65) e65) ?_
  rintro _ M62 l63 rfl
  replace hG := hG.mono l63
  replace h2 := h2.mono l63
  replace h4 := h4.mono l63
  replace h9 := l63 _ _ h9
  replace h13 := l63 _ _ h13
  refine va rfl rfl ?_
  refine w_nil (hK59 _ _ _ ?_)
  obtain rfl := some_r H
  exact c_ret fun a w' hf hs => hret _ (.inl rfl) a w' hf.df ⟨_, _, Res.of1 rfl (RV.t hf rfl), hs.ext, rfl⟩
 replace H := if_f b58 H
 refine c_skip (hK56 _ _ _ ?_)
 refine c_sr fun _ hK66 => ?_
 refine vm rfl rfl ?_
 refine wv rfl (fun hf hs => r_loadA ta44 ts44 (hf.ev rfl) (hs.sub _ _ h9) rfl rfl) ?_
 refine vm rfl rfl ?_
 obtain ⟨t67, e72, H⟩ := bnd H
 refine w_call cf25 trivial rfl rfl (fun w hs => backup_Select.calls hs p0 v1 h2 p3 _ e72) ?_
 rintro v235 M69 l70 ⟨v73, hv_, h74⟩
 replace hv_ := hv_.symm
 subst hv_
 replace hG := hG.mono l70
 replace h2 := h2.mono l70
 replace h4 := h4.mono l70
 replace h9 := l70 _ _ h9
 replace h13 := l70 _ _ h13
 refine wv rfl (fun hf hs => r_build (is := [2, 4, 6, 7]) (xs := [.const (.int .i64 1), .tmp 63, .const (str ([109] : List UInt8)), .tmp 66]) (vs := [(.int .i64 1), (.int .i64 p3), (str ([109] : List UInt8)), v73]) (A := Backup.C (⟨(Vector.replicate 16 0), 0, 1, 0, p3, (Vector.replicate 16 0), ([109] : List UInt8), t67⟩ : Backup) v73) rfl (hf.evs rfl) (built_of (pl := [(0, 16), (16, 1), (17, 1), (18, 1), (19, 1), (20, 16), (36, 1), (37, 1)]) (A0 := Backup.C (⟨(Vector.replicate 16 0), 0, 0, 0, 0, (Vector.replicate 16 0), [], []⟩ : Backup) (.slice none 0 0)) tz36 Tryd.underlying36 (by kernel_rfl) rfl (.cons (vs := [(.int .i64 1)]) (B := Backup.C (⟨(Vector.replicate 16 0), 0, 1, 0, 0, (Vector.replicate 16 0), [], []⟩ : Backup) (.slice none 0 0)) rfl rfl rfl (by rw [Backup.len]; decide) (Backup.s17_1 _ _) (.cons (vs := [(.int .i64 p3)]) (B := Backup.C (⟨(Vector.replicate 16 0), 0, 1, 0, p3, (Vector.replicate 16 0), [], []⟩ : Backup) (.slice none 0 0)) rfl rfl rfl (by rw [Backup.len]; decide) (Backup.s19_1 _ _) (.cons (vs := [(str ([109] : List UInt8))]) (B := Backup.C (⟨(Vector.replicate 16 0), 0, 1, 0, p3, (Vector.replicate 16 0), ([109] : List UInt8), []⟩ : Backup) (.slice none 0 0)) rfl rfl rfl (by rw [Backup.len]; decide) (Backup.s36_1 _ _) (.cons (vs := [v73]) (B := Backup.C (⟨(Vector.replicate 16 0), 0, 1, 0, p3, (Vector.replicate 16 0), ([109] : List UInt8), t67⟩ : Backup) v73) rfl (h74.cells1) rfl (by rw [Backup.len]; decide) (Backup.s37_1 _ _) .nil)))))) ?_
 refine w_allocL (A := Backup.C (⟨(Vector.replicate 16 0), 0, 0, 0, 0, (Vector.replicate 16 0), [], []⟩ : Backup) (.slice none 0 0)) tz36 trivial rfl rfl ?_
 intro b75
 obtain ⟨z76, e78, H⟩ := bnd H
 have e77 := some_r e78
 refine w_store (i := 0) (vs := Backup.C (⟨(Vector.replicate 16 0), 0, 1, 0, p3, (Vector.replicate 16 0), ([109] : List UInt8), t67⟩ : Backup) v73) (A' := Backup.C z76 v73) trivial rfl rfl rfl rfl ts36 (Backup.len _ _) (Backup.C_one _ h74.one) (by rw [Backup.len]; decide) (by rw [← e77]; exact (splice_all _ _ (by simp [Backup.C]))) ?_
 have h79 : RS Key.F M69 v73 z76.Keys := by rw [← e77]; exact h74
 clear e78 e77
 refine w_nil (hK66 _ _ _ ?_)
 refine c_sr fun _ hK80 => ?_
 refine vm rfl rfl ?_
 refine wv rfl (fun hf hs => r_loadA ta36 ts36 (hf.ev rfl) (hs.blk (i := 0) rfl) (Backup.d0_38 _ _) (Backup.len _ _)) ?_
 obtain ⟨t81, e86, H⟩ := bnd H
 refine w_call cf21 trivial rfl rfl (fun w hs => backup_Make.calls hs hG p2 z76 v73 h79 _ e86) ?_
 rintro _ M83 l84 rfl
 replace hG := hG.mono l84
 replace h2 := h2.mono l84
 replace h4 := h4.mono l84
 replace h9 := l84 _ _ h9
 replace h13 := l84 _ _ h13
 replace h79 := h79.mono l84
 refine vm rfl rfl ?_
 refine v_extract rfl rfl rfl ?_
 refine v_extract rfl rfl rfl ?_
 refine va rfl rfl ?_
 refine va rfl rfl ?_
 refine w_nil (hK80 _ _ _ ?_)
 refine c_sr fun _ hK87 => ?_
 refine vm rfl rfl ?_
 refine vm rfl rfl ?_
 obtain ⟨t88, e93, H⟩ := bnd H
 refine w_call cf22 trivial rfl rfl (fun w hs => backup_Open.calls hs hG p2 t81.1 _ e93) ?_
 rintro v234 M90 l91 ⟨v94, hv_, h95⟩
 replace hv_ := hv_.symm
 subst hv_
 replace h2 := h2.mono l91
 replace h4 := h4.mono l91
 replace h9 := l91 _ _ h9
 replace h13 := l91 _ _ h13
 replace h79 := h79.mono l91
 refine vm rfl rfl ?_
 refine v_extract rfl rfl rfl ?_
 refine v_extract rfl rfl rfl ?_
 refine w_allocL (A := Backup.C (⟨(Vector.replicate 16 0), 0, 0, 0, 0, (Vector.replicate 16 0), [], []⟩ : Backup) (.slice none 0 0)) tz36 trivial rfl rfl ?_
 intro b96
 refine w_store (i := 1) (vs := Backup.C t88.1 v94) (A' := Backup.C t88.1 v94) trivial rfl rfl rfl rfl ts36 (Backup.len _ _) (Backup.C_one _ h95.one) (by rw [Backup.len]; decide) (splice_all _ _ (by simp [Backup.C])) ?_
 refine va rfl rfl ?_
 refine w_nil (hK87 _ _ _ ?_)
 refine c_seq fun K97 hK97 => ?_
 obtain ⟨t98, H1, H⟩ := bnd H
 have ht_ := ne_tr H hr_
 refine c_cut (fun a' w' => ∃ (M99 : Heap), HLe M90 M99 ∧ Fr 199 [(3, (.int .i64 p3)), (4, (.int .i64 p4)), (5, (ptr b6 0)), (6, (ptr b10 0)), (14, (ptr b96 0)), (91, (.bool t98))] a' ∧ St none' M w M99 (lt [.blk b75 (.cells (Backup.C z76 v73).toArray 36 (0, 0)), .blk b96 (.cells (Backup.C t88.1 v94).toArray 36 (0, 0))]) w') ?_ ?_
 ·replace H := H1
  clear H1
  refine c_reg ?_
  refine vm rfl rfl ?_
  refine wv rfl (fun hf hs => r_neq (hf.ev rfl) (hf.ev rfl)) ?_
  refine vm rfl rfl ?_
  by_cases b226 : (t81.2 != (0 : Int)) = true
  ·replace H := if_t b226 H
   exact absurd ((some_r H).trans ht_) (by decide)
  replace b226 := Bool.eq_false_iff.2 b226
  replace H := if_f b226 H
  refine wg b226 rfl rfl rfl (fun hf hs => r_move (hf.ev rfl)) ?_
  refine wg b226 rfl rfl rfl (fun hf hs => r_neq (hf.ev rfl) (hf.ev rfl)) ?_
  refine wv rfl (fun hf hs => r_pickF (hf.ev rfl) b226 (hf.ev rfl)) ?_
  refine vm rfl rfl ?_
  by_cases b227 : (t88.2 != (0 : Int)) = true
  ·replace H := if_t b227 H
   exact absurd ((some_r H).trans ht_) (by decide)
  replace b227 := Bool.eq_false_iff.2 b227
  replace H := if_f b227 H
  refine wg b227 rfl rfl rfl (fun hf hs => r_loadA ta36 ts36 (hf.ev rfl) (hs.blk (i := 0) rfl) (Backup.d0_38 _ _) (Backup.len _ _)) ?_
  refine wg b227 rfl rfl rfl (fun hf hs => r_loadA ta36 ts36 (hf.ev rfl) (hs.blk (i := 1) rfl) (Backup.d0_38 _ _) (Backup.len _ _)) ?_
  obtain ⟨t228, e233, H⟩ := bnd H
  refine w_call cf23 (Wnt.of rfl rfl b227) rfl rfl (fun w hs => ref36_Same.calls hs z76 v73 h79 t88.1 v94 h95 _ e233) ?_
  rintro _ M230 l231 rfl
  replace h2 := h2.mono l231
  replace h4 := h4.mono l231
  replace h9 := l231 _ _ h9
  replace h13 := l231 _ _ h13
  replace h95 := h95.mono l231
  refine wg b227 rfl rfl rfl (fun hf hs => r_not (hf.ev rfl)) ?_
  refine wv rfl (fun hf hs => r_pickF (hf.ev rfl) b227 (hf.ev rfl)) ?_
  obtain rfl := some_r H
  exact w_nil fun a w' hf hs => ⟨_, l231, (hf.pick (pk (pk (pk (pk (pk (pk pk0 rfl) rfl) rfl) rfl) rfl) rfl)), hs.sel [0, 1] (by decide) rfl⟩
 clear H1 ht_
 rintro a w' ⟨M99, l100, hf, hs⟩
 refine c_of (c := (Cx.mk Tryd.prog 199 none' M w)) ?_ hf hs
 clear hf hs
 replace h2 := h2.mono l100
 replace h4 := h4.mono l100
 replace h9 := l100 _ _ h9
 replace h13 := l100 _ _ h13
 replace h95 := h95.mono l100
 refine c_if rfl (fun b109 => ?_) (fun b109 => ?_)
 ·replace H := if_t b109 H
  refine c_sr fun _ hK110 => ?_
  refine va rfl rfl ?_
  refine w_nil (hK110 _ _ _ ?_)
  obtain rfl := some_r H
  exact c_ret fun a w' hf hs => hret _ (.inl rfl) a w' hf.df ⟨_, _, Res.of1 rfl (RV.t hf rfl), hs.ext, rfl⟩
 replace H := if_f b109 H
 refine c_skip (hK97 _ _ _ ?_)
 refine c_sr fun _ hK111 => ?_
 refine wv rfl (fun hf hs => r_loadA ta44 ts44 (hf.ev rfl) (hs.sub _ _ h13) rfl rfl) ?_
 refine wv rfl (fun hf hs => r_loadA ta36 ts36 (hf.ev rfl) (hs.blk (i := 1) rfl) (Backup.d0_38 _ _) (Backup.len _ _)) ?_
 refine vm rfl rfl ?_
 obtain ⟨t112, e117, H⟩ := bnd H
 refine w_call cf30 trivial rfl rfl (fun w hs => restore_Plan.calls hs p1 v3 h4 t88.1 v94 h95 p3 _ e117) ?_
 rintro v225 M114 l115 ⟨v118, v120, hv_, h119, h121⟩
 replace hv_ := hv_.symm
 subst hv_
 replace h2 := h2.mono l115
 replace h9 := l115 _ _ h9
 replace h95 := h95.mono l115
 refine vm rfl rfl ?_
 refine v_extract rfl rfl rfl ?_
 refine v_extract rfl rfl rfl ?_
 refine v_extract rfl rfl rfl ?_
 refine w_allocL (A := Table.C (⟨0, []⟩ : Table) (.slice none 0 0)) tz44 trivial rfl rfl ?_
 intro b122
 refine w_store (i := 2) (vs := Table.C t112.1 v118) (A' := Table.C t112.1 v118) trivial rfl rfl rfl rfl ts44 rfl (Table.C_one _ h119.one) (Nat.le_of_ble_eq_true rfl) rfl ?_
 refine va rfl rfl ?_
 refine va rfl rfl ?_
 refine w_nil (hK111 _ _ _ ?_)
 refine c_seq fun K123 hK123 => ?_
 refine c_sr fun _ hK124 => ?_
 refine vm rfl rfl ?_
 refine wv rfl (fun hf hs => r_neq (hf.ev rfl) (hf.ev rfl)) ?_
 refine w_nil (hK124 _ _ _ ?_)
 refine c_if rfl (fun b125 => ?_) (fun b125 => ?_)
 ·replace H := if_t b125 H
  refine c_sr fun _ hK126 => ?_
  refine va rfl rfl ?_
  refine w_nil (hK126 _ _ _ ?_)
  obtain rfl := some_r H
  exact c_ret fun a w' hf hs => hret _ (.inl rfl) a w' hf.df ⟨_, _, Res.of1 rfl (RV.t hf rfl), hs.ext, rfl⟩
 replace H := if_f b125 H
 refine c_skip (hK123 _ _ _ ?_)
 refine c_cut (fun a' w' => ∃ (M127 : Heap), HLe M114 M127 ∧ Fr 199 [(3, (.int .i64 p3)), (4, (.int .i64 p4)), (14, (ptr b96 0)), (16, (ptr b122 0))] a' ∧ St none' M w M127 (lt [dead, .blk b96 (.cells (Backup.C t88.1 v94).toArray 36 (0, 0)), .blk b122 (.cells (Table.C t112.1 v118).toArray 44 (0, 0))]) w' ∧ law37_RestoreBackup.j1 t112 t88 p3 p4 = some r) ?_ ?_
 ·refine c_seq ?_
  intro K174 hK174
  refine c_reg ?_
  refine v_fa fa44_1 rfl rfl ?_
  refine wv rfl (fun hf hs => r_load1 ta34 (hf.ev rfl) (hs.sub _ _ h9) rfl) ?_
  refine wv rfl (fun hf hs => r_lenR Tryd.underlying34 h2 (hf.ev rfl)) ?_
  refine vm rfl rfl ?_
  refine w_nil (hK174 _ _ _ ?_)
  refine c_block ?_
  refine c_loop (fun (s175 : Int) a' w' => ∃ (M176 : Heap), HLe M114 M176 ∧ Fr 199 [(3, (.int .i64 p3)), (4, (.int .i64 p4)), (14, (ptr b96 0)), (16, (ptr b122 0)), (103, v1), (104, (.int .i64 (p0.Keys.length : Int))), (105, (.int .i64 s175))] a' ∧ St none' M w M176 (lt [dead, .blk b96 (.cells (Backup.C t88.1 v94).toArray 36 (0, 0)), .blk b122 (.cells (Table.C t112.1 v118).toArray 44 (0, 0))]) w') (0 : Int) H ?_ ?_
  ·intro a w' hf hs
   exact ⟨_, HLe.refl _, (hf.pick (pk (pk (pk (pk (pk (pk (pk pk0 rfl) rfl) rfl) rfl) rfl) rfl) rfl)), hs.selD [none, some 1, some 2] (by decide) rfl⟩
  clear H
  intro s175 y179 H r178 a w' hJ
  obtain ⟨M176, l177, hf, hs⟩ := hJ
  refine c_of (c := (Cx.mk Tryd.prog 199 none' M w)) ?_ hf hs
  unfold law37_RestoreBackup.l3 at H
  clear hf hs
  replace h2 := h2.mono l177
  replace h95 := h95.mono l177
  replace h119 := h119.mono l177
  refine c_sr fun _ hK180 => ?_
  refine v_lss rfl rfl rfl ?_
  refine w_nil (hK180 _ _ _ ?_)
  refine c_seq fun K181 hK181 => ?_
  refine c_if rfl (fun b182 => ?_) (fun b182 => ?_)
  ·replace H := if_t b182 H
   refine c_skip (hK181 _ _ _ ?_)
   refine c_cut (fun a' w' => ∃ (M183 : Heap), HLe M176 M183 ∧ Fr 199 [(3, (.int .i64 p3)), (4, (.int .i64 p4)), (14, (ptr b96 0)), (16, (ptr b122 0)), (103, v1), (104, (.int .i64 (p0.Keys.length : Int))), (105, (.int .i64 s175))] a' ∧ St none' M w M183 (lt [dead, .blk b96 (.cells (Backup.C t88.1 v94).toArray 36 (0, 0)), .blk b122 (.cells (Table.C t112.1 v118).toArray 44 (0, 0))]) w' ∧ law37_RestoreBackup.j2 s175 = some y179) ?_ ?_
   ·refine c_block ?_
    refine c_sr fun _ hK185 => ?_
    obtain ⟨g186, H⟩ := grd_s H
    refine wv rfl (fun hf hs => r_iR Tryd.underlying34 ts55 h2 (hf.ev rfl) (hf.ev rfl) g186.1 g186.2) ?_
    refine wv rfl (fun hf hs => r_loadEA ta55 ts55 h2 hs.sub g186.1 g186.2 (hf.ev rfl) rfl rfl) ?_
    refine w_allocL (A := Key.C (⟨0, 0, [], 0, 0, 0, 0, 0, false⟩ : Key)) tz55 trivial rfl rfl ?_
    intro b187
    refine w_store (i := 3) (vs := Key.C (rd p0.Keys s175)) (A' := Key.C (rd p0.Keys s175)) trivial rfl rfl rfl rfl ts55 rfl (Key.F_one _) (Nat.le_of_ble_eq_true rfl) rfl ?_
    refine w_nil (hK185 _ _ _ ?_)
    refine c_seq fun K188 hK188 => ?_
    refine c_sr fun _ hK189 => ?_
    refine wv rfl (fun hf hs => r_loadA ta55 ts55 (hf.ev rfl) (hs.blk (i := 3) rfl) rfl rfl) ?_
    refine vm rfl rfl ?_
    obtain ⟨t190, e195, H⟩ := bnd H
    refine w_call cf31 trivial rfl rfl (fun w hs => ref27_Live.calls hs (rd p0.Keys s175) p3 _ e195) ?_
    rintro _ M192 l193 rfl
    replace h95 := h95.mono l193
    replace h119 := h119.mono l193
    refine wv rfl (fun hf hs => r_not (hf.ev rfl)) ?_
    refine w_nil (hK189 _ _ _ ?_)
    refine c_if rfl (fun b196 => ?_) (fun b196 => ?_)
    ·replace H := if_t b196 H
     refine c_exit ?_
     intro a w' hf hs
     exact ⟨_, l193, (hf.pick (pk (pk (pk (pk (pk (pk (pk pk0 rfl) rfl) rfl) rfl) rfl) rfl) rfl)), hs.selD [none, some 1, some 2] (by decide) rfl, H⟩
    replace H := if_f b196 H
    refine c_skip (hK188 _ _ _ ?_)
    refine c_sr fun _ hK197 => ?_
    refine wv rfl (fun hf hs => r_loadA ta44 ts44 (hf.ev rfl) (hs.blk (i := 2) rfl) rfl rfl) ?_
    refine wv rfl (fun hf hs => r_loadA ta55 ts55 (hf.ev rfl) (hs.blk (i := 3) rfl) rfl rfl) ?_
    obtain ⟨t198, e203, H⟩ := bnd H
    refine w_call cf32 trivial rfl rfl (fun w hs => restore_Twin.calls hs t112.1 v118 h119 (rd p0.Keys s175) _ e203) ?_
    rintro _ M200 l201 rfl
    replace h95 := h95.mono l201
    replace h119 := h119.mono l201
    refine vm rfl rfl ?_
    refine v_extract rfl rfl rfl ?_
    refine v_extract rfl rfl rfl ?_
    refine va rfl rfl ?_
    refine va rfl rfl ?_
    refine w_nil (hK197 _ _ _ ?_)
    refine c_sr fun _ hK204 => ?_
    refine wv rfl (fun hf hs => r_loadA ta44 ts44 (hf.ev rfl) (hs.blk (i := 2) rfl) rfl rfl) ?_
    refine vm rfl rfl ?_
    obtain ⟨t205, e210, H⟩ := bnd H
    refine w_call cf33 trivial rfl rfl (fun w hs => ref27_Get.calls hs t112.1 v118 h119 t198.1 _ e210) ?_
    rintro _ M207 l208 rfl
    replace h95 := h95.mono l208
    replace h119 := h119.mono l208
    refine vm rfl rfl ?_
    refine v_extract rfl rfl rfl ?_
    refine v_extract rfl rfl rfl ?_
    refine w_allocL (A := Key.C (⟨0, 0, [], 0, 0, 0, 0, 0, false⟩ : Key)) tz55 trivial rfl rfl ?_
    intro b211
    refine w_store (i := 4) (vs := Key.C t205.1) (A' := Key.C t205.1) trivial rfl rfl rfl rfl ts55 rfl (Key.F_one _) (Nat.le_of_ble_eq_true rfl) rfl ?_
    refine va rfl rfl ?_
    refine w_nil (hK204 _ _ _ ?_)
    obtain ⟨t212, H1, H⟩ := bnd H
    refine c_cut (fun a' w' => ∃ (M213 : Heap), HLe M207 M213 ∧ Fr 199 [(3, (.int .i64 p3)), (4, (.int .i64 p4)), (14, (ptr b96 0)), (16, (ptr b122 0)), (103, v1), (104, (.int .i64 (p0.Keys.length : Int))), (105, (.int .i64 s175)), (179, (.bool t212))] a' ∧ St none' M w M213 (lt [dead, .blk b96 (.cells (Backup.C t88.1 v94).toArray 36 (0, 0)), .blk b122 (.cells (Table.C t112.1 v118).toArray 44 (0, 0)), .blk b187 (.cells (Key.C (rd p0.Keys s175)).toArray 55 (0, 0)), .blk b211 (.cells (Key.C t205.1).toArray 55 (0, 0))]) w') ?_ ?_
    ·replace H := H1
     clear H1
     refine c_reg ?_
     refine vm rfl rfl ?_
     refine wv rfl (fun hf hs => r_not (hf.ev rfl)) ?_
     refine vm rfl rfl ?_
     by_cases b215 : (!t198.2) = true
     ·replace H := if_t b215 H
      refine wq b215 rfl rfl rfl ?_
      refine wq b215 rfl rfl rfl ?_
      refine wv rfl (fun hf hs => r_pickT (hf.ev rfl) b215 (hf.ev rfl)) ?_
      refine vm rfl rfl ?_
      refine wq rfl rfl rfl rfl ?_
      refine wq rfl rfl rfl rfl ?_
      refine wq rfl rfl rfl rfl ?_
      refine wq rfl rfl rfl rfl ?_
      refine wq rfl rfl rfl rfl ?_
      refine wv rfl (fun hf hs => r_pickT (hf.ev rfl) rfl (hf.ev rfl)) ?_
      refine vm rfl rfl ?_
      refine wq rfl rfl rfl rfl ?_
      refine wq rfl rfl rfl rfl ?_
      refine wq rfl rfl rfl rfl ?_
      refine wq rfl rfl rfl rfl ?_
      refine wq rfl rfl rfl rfl ?_
      refine wv rfl (fun hf hs => r_pickT (hf.ev rfl) rfl (hf.ev rfl)) ?_
      refine vm rfl rfl ?_
      refine wq rfl rfl rfl rfl ?_
      refine wq rfl rfl rfl rfl ?_
      refine wq rfl rfl rfl rfl ?_
      refine wq rfl rfl rfl rfl ?_
      refine wq rfl rfl rfl rfl ?_
      refine wv rfl (fun hf hs => r_pickT (hf.ev rfl) rfl (hf.ev rfl)) ?_
      refine vm rfl rfl ?_
      refine wq rfl rfl rfl rfl ?_
      refine wq rfl rfl rfl rfl ?_
      refine wq rfl rfl rfl rfl ?_
      refine wq rfl rfl rfl rfl ?_
      refine wq rfl rfl rfl rfl ?_
      refine wv rfl (fun hf hs => r_pickT (hf.ev rfl) rfl (hf.ev rfl)) ?_
      refine vm rfl rfl ?_
      refine wq rfl rfl rfl rfl ?_
      refine wq rfl rfl rfl rfl ?_
      refine wq rfl rfl rfl rfl ?_
      refine wq rfl rfl rfl rfl ?_
      refine wq rfl rfl rfl rfl ?_
      refine wv rfl (fun hf hs => r_pickT (hf.ev rfl) rfl (hf.ev rfl)) ?_
      refine vm rfl rfl ?_
      refine wq rfl rfl rfl rfl ?_
      refine wq rfl rfl rfl rfl ?_
      refine wq rfl rfl rfl rfl ?_
      refine wq rfl rfl rfl rfl ?_
      refine wq rfl rfl rfl rfl ?_
      refine wv rfl (fun hf hs => r_pickT (hf.ev rfl) rfl (hf.ev rfl)) ?_
      refine vm rfl rfl ?_
      refine wq rfl rfl rfl rfl ?_
      refine wq rfl rfl rfl rfl ?_
      refine wq rfl rfl rfl rfl ?_
      refine wq rfl rfl rfl rfl ?_
      refine wq rfl rfl rfl rfl ?_
      refine wv rfl (fun hf hs => r_pickT (hf.ev rfl) rfl (hf.ev rfl)) ?_
      obtain rfl := some_r H
      exact w_nil fun a w' hf hs => ⟨_, (HLe.refl _), (hf.pick (pk (pk (pk (pk (pk (pk (pk (pk pk0 rfl) rfl) rfl) rfl) rfl) rfl) rfl) rfl)), hs.sel [0, 1, 2, 3, 4] (by decide) rfl⟩
     replace b215 := Bool.eq_false_iff.2 b215
     replace H := if_f b215 H
     refine wg b215 rfl rfl rfl (fun hf hs => r_move (hf.ev rfl)) ?_
     refine wg b215 rfl rfl rfl (fun hf hs => r_neq (hf.ev rfl) (hf.ev rfl)) ?_
     refine wv rfl (fun hf hs => r_pickF (hf.ev rfl) b215 (hf.ev rfl)) ?_
     refine vm rfl rfl ?_
     by_cases b216 : (t205.2 != (0 : Int)) = true
     ·replace H := if_t b216 H
      refine wq b216 rfl rfl rfl ?_
      refine wq b216 rfl rfl rfl ?_
      refine wq b216 rfl rfl rfl ?_
      refine wq b216 rfl rfl rfl ?_
      refine wq b216 rfl rfl rfl ?_
      refine wv rfl (fun hf hs => r_pickT (hf.ev rfl) b216 (hf.ev rfl)) ?_
      refine vm rfl rfl ?_
      refine wq rfl rfl rfl rfl ?_
      refine wq rfl rfl rfl rfl ?_
      refine wq rfl rfl rfl rfl ?_
      refine wq rfl rfl rfl rfl ?_
      refine wq rfl rfl rfl rfl ?_
      refine wv rfl (fun hf hs => r_pickT (hf.ev rfl) rfl (hf.ev rfl)) ?_
      refine vm rfl rfl ?_
      refine wq rfl rfl rfl rfl ?_
      refine wq rfl rfl rfl rfl ?_
      refine wq rfl rfl rfl rfl ?_
      refine wq rfl rfl rfl rfl ?_
      refine wq rfl rfl rfl rfl ?_
      refine wv rfl (fun hf hs => r_pickT (hf.ev rfl) rfl (hf.ev rfl)) ?_
      refine vm rfl rfl ?_
      refine wq rfl rfl rfl rfl ?_
      refine wq rfl rfl rfl rfl ?_
      refine wq rfl rfl rfl rfl ?_
      refine wq rfl rfl rfl rfl ?_
      refine wq rfl rfl rfl rfl ?_
      refine wv rfl (fun hf hs => r_pickT (hf.ev rfl) rfl (hf.ev rfl)) ?_
      refine vm rfl rfl ?_
      refine wq rfl rfl rfl rfl ?_
      refine wq rfl rfl rfl rfl ?_
      refine wq rfl rfl rfl rfl ?_
      refine wq rfl rfl rfl rfl ?_
      refine wq rfl rfl rfl rfl ?_
      refine wv rfl (fun hf hs => r_pickT (hf.ev rfl) rfl (hf.ev rfl)) ?_
      refine vm rfl rfl ?_
      refine wq rfl rfl rfl rfl ?_
      refine wq rfl rfl rfl rfl ?_
      refine wq rfl rfl rfl rfl ?_
      refine wq rfl rfl rfl rfl ?_
      refine wq rfl rfl rfl rfl ?_
      refine wv rfl (fun hf hs => r_pickT (hf.ev rfl) rfl (hf.ev rfl)) ?_
      refine vm rfl rfl ?_
      refine wq rfl rfl rfl rfl ?_
      refine wq rfl rfl rfl rfl ?_
      refine wq rfl rfl rfl rfl ?_
      refine wq rfl rfl rfl rfl ?_
      refine wq rfl rfl rfl rfl ?_
      refine wv rfl (fun hf hs => r_pickT (hf.ev rfl) rfl (hf.ev rfl)) ?_
      obtain rfl := some_r H
      exact w_nil fun a w' hf hs => ⟨_, (HLe.refl _), (hf.pick (pk (pk (pk (pk (pk (pk (pk (pk pk0 rfl) rfl) rfl) rfl) rfl) rfl) rfl) rfl)), hs.sel [0, 1, 2, 3, 4] (by decide) rfl⟩
     replace b216 := Bool.eq_false_iff.2 b216
     replace H := if_f b216 H
     refine wg b216 rfl rfl rfl (fun hf hs => r_fa fa55_2 (hf.ev rfl)) ?_
     refine wg b216 rfl rfl rfl (fun hf hs => r_load1 ta9 (hf.ev rfl) (hs.blk (i := 4) rfl) rfl) ?_
     refine wg b216 rfl rfl rfl (fun hf hs => r_fa fa55_2 (hf.ev rfl)) ?_
     refine wg b216 rfl rfl rfl (fun hf hs => r_load1 ta9 (hf.ev rfl) (hs.blk (i := 3) rfl) rfl) ?_
     refine wg b216 rfl rfl rfl (fun hf hs => r_sneq (hf.ev rfl) (hf.ev rfl)) ?_
     refine wv rfl (fun hf hs => r_pickF (hf.ev rfl) b216 (hf.ev rfl)) ?_
     refine vm rfl rfl ?_
     by_cases b217 : (!(t205.1.Value == ((rd p0.Keys s175).Value))) = true
     ·replace H := if_t b217 H
      refine wq b217 rfl rfl rfl ?_
      refine wq b217 rfl rfl rfl ?_
      refine wq b217 rfl rfl rfl ?_
      refine wq b217 rfl rfl rfl ?_
      refine wq b217 rfl rfl rfl ?_
      refine wv rfl (fun hf hs => r_pickT (hf.ev rfl) b217 (hf.ev rfl)) ?_
      refine vm rfl rfl ?_
      refine wq rfl rfl rfl rfl ?_
      refine wq rfl rfl rfl rfl ?_
      refine wq rfl rfl rfl rfl ?_
      refine wq rfl rfl rfl rfl ?_
      refine wq rfl rfl rfl rfl ?_
      refine wv rfl (fun hf hs => r_pickT (hf.ev rfl) rfl (hf.ev rfl)) ?_
      refine vm rfl rfl ?_
      refine wq rfl rfl rfl rfl ?_
      refine wq rfl rfl rfl rfl ?_
      refine wq rfl rfl rfl rfl ?_
      refine wq rfl rfl rfl rfl ?_
      refine wq rfl rfl rfl rfl ?_
      refine wv rfl (fun hf hs => r_pickT (hf.ev rfl) rfl (hf.ev rfl)) ?_
      refine vm rfl rfl ?_
      refine wq rfl rfl rfl rfl ?_
      refine wq rfl rfl rfl rfl ?_
      refine wq rfl rfl rfl rfl ?_
      refine wq rfl rfl rfl rfl ?_
      refine wq rfl rfl rfl rfl ?_
      refine wv rfl (fun hf hs => r_pickT (hf.ev rfl) rfl (hf.ev rfl)) ?_
      refine vm rfl rfl ?_
      refine wq rfl rfl rfl rfl ?_
      refine wq rfl rfl rfl rfl ?_
      refine wq rfl rfl rfl rfl ?_
      refine wq rfl rfl rfl rfl ?_
      refine wq rfl rfl rfl rfl ?_
      refine wv rfl (fun hf hs => r_pickT (hf.ev rfl) rfl (hf.ev rfl)) ?_
      refine vm rfl rfl ?_
      refine wq rfl rfl rfl rfl ?_
      refine wq rfl rfl rfl rfl ?_
      refine wq rfl rfl rfl rfl ?_
      refine wq rfl rfl rfl rfl ?_
      refine wq rfl rfl rfl rfl ?_
      refine wv rfl (fun hf hs => r_pickT (hf.ev rfl) rfl (hf.ev rfl)) ?_
      obtain rfl := some_r H
      exact w_nil fun a w' hf hs => ⟨_, (HLe.refl _), (hf.pick (pk (pk (pk (pk (pk (pk (pk (pk pk0 rfl) rfl) rfl) rfl) rfl) rfl) rfl) rfl)), hs.sel [0, 1, 2, 3, 4] (by decide) rfl⟩
     replace b217 := Bool.eq_false_iff.2 b217
     replace H := if_f b217 H
     refine wg b217 rfl rfl rfl (fun hf hs => r_fa fa55_1 (hf.ev rfl)) ?_
     refine wg b217 rfl rfl rfl (fun hf hs => r_load1 ta3 (hf.ev rfl) (hs.blk (i := 4) rfl) rfl) ?_
     refine wg b217 rfl rfl rfl (fun hf hs => r_fa fa55_1 (hf.ev rfl)) ?_
     refine wg b217 rfl rfl rfl (fun hf hs => r_load1 ta3 (hf.ev rfl) (hs.blk (i := 3) rfl) rfl) ?_
     refine wg b217 rfl rfl rfl (fun hf hs => r_neq (hf.ev rfl) (hf.ev rfl)) ?_
     refine wv rfl (fun hf hs => r_pickF (hf.ev rfl) b217 (hf.ev rfl)) ?_
     refine vm rfl rfl ?_
     by_cases b218 : (t205.1.Type_ != ((rd p0.Keys s175).Type_)) = true
     ·replace H := if_t b218 H
      refine wq b218 rfl rfl rfl ?_
      refine wq b218 rfl rfl rfl ?_
      refine wq b218 rfl rfl rfl ?_
      refine wq b218 rfl rfl rfl ?_
      refine wq b218 rfl rfl rfl ?_
      refine wv rfl (fun hf hs => r_pickT (hf.ev rfl) b218 (hf.ev rfl)) ?_
      refine vm rfl rfl ?_
      refine wq rfl rfl rfl rfl ?_
      refine wq rfl rfl rfl rfl ?_
      refine wq rfl rfl rfl rfl ?_
      refine wq rfl rfl rfl rfl ?_
      refine wq rfl rfl rfl rfl ?_
      refine wv rfl (fun hf hs => r_pickT (hf.ev rfl) rfl (hf.ev rfl)) ?_
      refine vm rfl rfl ?_
      refine wq rfl rfl rfl rfl ?_
      refine wq rfl rfl rfl rfl ?_
      refine wq rfl rfl rfl rfl ?_
      refine wq rfl rfl rfl rfl ?_
      refine wq rfl rfl rfl rfl ?_
      refine wv rfl (fun hf hs => r_pickT (hf.ev rfl) rfl (hf.ev rfl)) ?_
      refine vm rfl rfl ?_
      refine wq rfl rfl rfl rfl ?_
      refine wq rfl rfl rfl rfl ?_
      refine wq rfl rfl rfl rfl ?_
      refine wq rfl rfl rfl rfl ?_
      refine wq rfl rfl rfl rfl ?_
      refine wv rfl (fun hf hs => r_pickT (hf.ev rfl) rfl (hf.ev rfl)) ?_
      refine vm rfl rfl ?_
      refine wq rfl rfl rfl rfl ?_
      refine wq rfl rfl rfl rfl ?_
      refine wq rfl rfl rfl rfl ?_
      refine wq rfl rfl rfl rfl ?_
      refine wq rfl rfl rfl rfl ?_
      refine wv rfl (fun hf hs => r_pickT (hf.ev rfl) rfl (hf.ev rfl)) ?_
      obtain rfl := some_r H
      exact w_nil fun a w' hf hs => ⟨_, (HLe.refl _), (hf.pick (pk (pk (pk (pk (pk (pk (pk (pk pk0 rfl) rfl) rfl) rfl) rfl) rfl) rfl) rfl)), hs.sel [0, 1, 2, 3, 4] (by decide) rfl⟩
     replace b218 := Bool.eq_false_iff.2 b218
     replace H := if_f b218 H
     refine wg b218 rfl rfl rfl (fun hf hs => r_fa fa55_3 (hf.ev rfl)) ?_
     refine wg b218 rfl rfl rfl (fun hf hs => r_load1 ta3 (hf.ev rfl) (hs.blk (i := 4) rfl) rfl) ?_
     refine wg b218 rfl rfl rfl (fun hf hs => r_fa fa55_3 (hf.ev rfl)) ?_
     refine wg b218 rfl rfl rfl (fun hf hs => r_load1 ta3 (hf.ev rfl) (hs.blk (i := 3) rfl) rfl) ?_
     refine wg b218 rfl rfl rfl (fun hf hs => r_neq (hf.ev rfl) (hf.ev rfl)) ?_
     refine wv rfl (fun hf hs => r_pickF (hf.ev rfl) b218 (hf.ev rfl)) ?_
     refine vm rfl rfl ?_
     by_cases b219 : (t205.1.Uses != ((rd p0.Keys s175).Uses)) = true
     ·replace H := if_t b219 H
      refine wq b219 rfl rfl rfl ?_
      refine wq b219 rfl rfl rfl ?_
      refine wq b219 rfl rfl rfl ?_
      refine wq b219 rfl rfl rfl ?_
      refine wq b219 rfl rfl rfl ?_
      refine wv rfl (fun hf hs => r_pickT (hf.ev rfl) b219 (hf.ev rfl)) ?_
      refine vm rfl rfl ?_
      refine wq rfl rfl rfl rfl ?_
      refine wq rfl rfl rfl rfl ?_
      refine wq rfl rfl rfl rfl ?_
      refine wq rfl rfl rfl rfl ?_
      refine wq rfl rfl rfl rfl ?_
      refine wv rfl (fun hf hs => r_pickT (hf.ev rfl) rfl (hf.ev rfl)) ?_
      refine vm rfl rfl ?_
      refine wq rfl rfl rfl rfl ?_
      refine wq rfl rfl rfl rfl ?_
      refine wq rfl rfl rfl rfl ?_
      refine wq rfl rfl rfl rfl ?_
      refine wq rfl rfl rfl rfl ?_
      refine wv rfl (fun hf hs => r_pickT (hf.ev rfl) rfl (hf.ev rfl)) ?_
      refine vm rfl rfl ?_
      refine wq rfl rfl rfl rfl ?_
      refine wq rfl rfl rfl rfl ?_
      refine wq rfl rfl rfl rfl ?_
      refine wq rfl rfl rfl rfl ?_
      refine wq rfl rfl rfl rfl ?_
      refine wv rfl (fun hf hs => r_pickT (hf.ev rfl) rfl (hf.ev rfl)) ?_
      obtain rfl := some_r H
      exact w_nil fun a w' hf hs => ⟨_, (HLe.refl _), (hf.pick (pk (pk (pk (pk (pk (pk (pk (pk pk0 rfl) rfl) rfl) rfl) rfl) rfl) rfl) rfl)), hs.sel [0, 1, 2, 3, 4] (by decide) rfl⟩
     replace b219 := Bool.eq_false_iff.2 b219
     replace H := if_f b219 H
     refine wg b219 rfl rfl rfl (fun hf hs => r_fa fa55_4 (hf.ev rfl)) ?_
     refine wg b219 rfl rfl rfl (fun hf hs => r_load1 ta3 (hf.ev rfl) (hs.blk (i := 4) rfl) rfl) ?_
     refine wg b219 rfl rfl rfl (fun hf hs => r_fa fa55_4 (hf.ev rfl)) ?_
     refine wg b219 rfl rfl rfl (fun hf hs => r_load1 ta3 (hf.ev rfl) (hs.blk (i := 3) rfl) rfl) ?_
     refine wg b219 rfl rfl rfl (fun hf hs => r_neq (hf.ev rfl) (hf.ev rfl)) ?_
     refine wv rfl (fun hf hs => r_pickF (hf.ev rfl) b219 (hf.ev rfl)) ?_
     refine vm rfl rfl ?_
     by_cases b220 : (t205.1.Start != ((rd p0.Keys s175).Start)) = true
     ·replace H := if_t b220 H
      refine wq b220 rfl rfl rfl ?_
      refine wq b220 rfl rfl rfl ?_
      refine wq b220 rfl rfl rfl ?_
      refine wq b220 rfl rfl rfl ?_
      refine wq b220 rfl rfl rfl ?_
      refine wv rfl (fun hf hs => r_pickT (hf.ev rfl) b220 (hf.ev rfl)) ?_
      refine vm rfl rfl ?_
      refine wq rfl rfl rfl rfl ?_
      refine wq rfl rfl rfl rfl ?_
      refine wq rfl rfl rfl rfl ?_
      refine wq rfl rfl rfl rfl ?_
      refine wq rfl rfl rfl rfl ?_
      refine wv rfl (fun hf hs => r_pickT (hf.ev rfl) rfl (hf.ev rfl)) ?_
      refine vm rfl rfl ?_
      refine wq rfl rfl rfl rfl ?_
      refine wq rfl rfl rfl rfl ?_
      refine wq rfl rfl rfl rfl ?_
      refine wq rfl rfl rfl rfl ?_
      refine wq rfl rfl rfl rfl ?_
      refine wv rfl (fun hf hs => r_pickT (hf.ev rfl) rfl (hf.ev rfl)) ?_
      obtain rfl := some_r H
      exact w_nil fun a w' hf hs => ⟨_, (HLe.refl _), (hf.pick (pk (pk (pk (pk (pk (pk (pk (pk pk0 rfl) rfl) rfl) rfl) rfl) rfl) rfl) rfl)), hs.sel [0, 1, 2, 3, 4] (by decide) rfl⟩
     replace b220 := Bool.eq_false_iff.2 b220
     replace H := if_f b220 H
     refine wg b220 rfl rfl rfl (fun hf hs => r_fa fa55_5 (hf.ev rfl)) ?_
     refine wg b220 rfl rfl rfl (fun hf hs => r_load1 ta3 (hf.ev rfl) (hs.blk (i := 4) rfl) rfl) ?_
     refine wg b220 rfl rfl rfl (fun hf hs => r_fa fa55_5 (hf.ev rfl)) ?_
     refine wg b220 rfl rfl rfl (fun hf hs => r_load1 ta3 (hf.ev rfl) (hs.blk (i := 3) rfl) rfl) ?_
     refine wg b220 rfl rfl rfl (fun hf hs => r_neq (hf.ev rfl) (hf.ev rfl)) ?_
     refine wv rfl (fun hf hs => r_pickF (hf.ev rfl) b220 (hf.ev rfl)) ?_
     refine vm rfl rfl ?_
     by_cases b221 : (t205.1.End != ((rd p0.Keys s175).End)) = true
     ·replace H := if_t b221 H
      refine wq b221 rfl rfl rfl ?_
      refine wq b221 rfl rfl rfl ?_
      refine wq b221 rfl rfl rfl ?_
      refine wq b221 rfl rfl rfl ?_
      refine wq b221 rfl rfl rfl ?_
      refine wv rfl (fun hf hs => r_pickT (hf.ev rfl) b221 (hf.ev rfl)) ?_
      refine vm rfl rfl ?_
      refine wq rfl rfl rfl rfl ?_
      refine wq rfl rfl rfl rfl ?_
      refine wq rfl rfl rfl rfl ?_
      refine wq rfl rfl rfl rfl ?_
      refine wq rfl rfl rfl rfl ?_
      refine wv rfl (fun hf hs => r_pickT (hf.ev rfl) rfl (hf.ev rfl)) ?_
      obtain rfl := some_r H
      exact w_nil fun a w' hf hs => ⟨_, (HLe.refl _), (hf.pick (pk (pk (pk (pk (pk (pk (pk (pk pk0 rfl) rfl) rfl) rfl) rfl) rfl) rfl) rfl)), hs.sel [0, 1, 2, 3, 4] (by decide) rfl⟩
     replace b221 := Bool.eq_false_iff.2 b221
     replace H := if_f b221 H
     refine wg b221 rfl rfl rfl (fun hf hs => r_fa fa55_6 (hf.ev rfl)) ?_
     refine wg b221 rfl rfl rfl (fun hf hs => r_load1 ta3 (hf.ev rfl) (hs.blk (i := 4) rfl) rfl) ?_
     refine wg b221 rfl rfl rfl (fun hf hs => r_fa fa55_6 (hf.ev rfl)) ?_
     refine wg b221 rfl rfl rfl (fun hf hs => r_load1 ta3 (hf.ev rfl) (hs.blk (i := 3) rfl) rfl) ?_
     refine wg b221 rfl rfl rfl (fun hf hs => r_neq (hf.ev rfl) (hf.ev rfl)) ?_
     refine wv rfl (fun hf hs => r_pickF (hf.ev rfl) b221 (hf.ev rfl)) ?_
     refine vm rfl rfl ?_
     by_cases b222 : (t205.1.Version != ((rd p0.Keys s175).Version)) = true
     ·replace H := if_t b222 H
      refine wq b222 rfl rfl rfl ?_
      refine wq b222 rfl rfl rfl ?_
      refine wq b222 rfl rfl rfl ?_
      refine wq b222 rfl rfl rfl ?_
      refine wq b222 rfl rfl rfl ?_
      refine wv rfl (fun hf hs => r_pickT (hf.ev rfl) b222 (hf.ev rfl)) ?_
      obtain rfl := some_r H
      exact w_nil fun a w' hf hs => ⟨_, (HLe.refl _), (hf.pick (pk (pk (pk (pk (pk (pk (pk (pk pk0 rfl) rfl) rfl) rfl) rfl) rfl) rfl) rfl)), hs.sel [0, 1, 2, 3, 4] (by decide) rfl⟩
     replace b222 := Bool.eq_false_iff.2 b222
     replace H := if_f b222 H
     refine wg b222 rfl rfl rfl (fun hf hs => r_fa fa55_8 (hf.ev rfl)) ?_
     refine wg b222 rfl rfl rfl (fun hf hs => r_load1 ta4 (hf.ev rfl) (hs.blk (i := 4) rfl) rfl) ?_
     refine wg b222 rfl rfl rfl (fun hf hs => r_fa fa55_8 (hf.ev rfl)) ?_
     refine wg b222 rfl rfl rfl (fun hf hs => r_load1 ta4 (hf.ev rfl) (hs.blk (i := 3) rfl) rfl) ?_
     refine wg b222 rfl rfl rfl (fun hf hs => r_neqb Tryd.underlying4 (hf.ev rfl) (hf.ev rfl)) ?_
     refine wv rfl (fun hf hs => r_pickF (hf.ev rfl) b222 (hf.ev rfl)) ?_
     obtain rfl := some_r H
     exact w_nil fun a w' hf hs => ⟨_, (HLe.refl _), (hf.pick (pk (pk (pk (pk (pk (pk (pk (pk pk0 rfl) rfl) rfl) rfl) rfl) rfl) rfl) rfl)), hs.sel [0, 1, 2, 3, 4] (by decide) rfl⟩
    clear H1
    rintro a w' ⟨M213, l214, hf, hs⟩
    refine c_of (c := (Cx.mk Tryd.prog 199 none' M w)) ?_ hf hs
    clear hf hs
    replace h95 := h95.mono l214
    replace h119 := h119.mono l214
    refine c_if rfl (fun b223 => ?_) (fun b223 => ?_)
    ·replace H := if_t b223 H
     refine c_sr fun _ hK224 => ?_
     refine va rfl rfl ?_
     refine w_nil (hK224 _ _ _ ?_)
     obtain rfl := (r178 _ (Option.some.inj H).symm)
     exact c_ret fun a w' hf hs => hret _ (.inl rfl) a w' hf.df ⟨_, _, Res.of1 rfl (RV.t hf rfl), hs.ext, rfl⟩
    replace H := if_f b223 H
    refine c_skip ?_
    intro a w' hf hs
    exact ⟨_, (l193.trans (l201.trans (l208.trans l214))), (hf.pick (pk (pk (pk (pk (pk (pk (pk pk0 rfl) rfl) rfl) rfl) rfl) rfl) rfl)), hs.selD [none, some 1, some 2] (by decide) rfl, H⟩
   rintro a w' ⟨M183, l184, hf, hs, H⟩
   refine c_of (c := (Cx.mk Tryd.prog 199 none' M w)) ?_ hf hs
   unfold law37_RestoreBackup.j2 at H
   clear hf hs
   replace h95 := h95.mono l184
   replace h119 := h119.mono l184
   refine c_reg ?_
   refine v_add rfl rfl rfl ?_
   refine vm rfl rfl ?_
   exact w_nil fun a w' hf hs => ⟨_, (some_r H).symm, _, l177.trans l184, (hf.pick (pk (pk (pk (pk (pk (pk (pk pk0 rfl) rfl) rfl) rfl) rfl) rfl) rfl)), hs.selD [none, some 1, some 2] (by decide) rfl⟩
  replace H := if_f b182 H
  replace H := map_inr H r178
  refine c_exit ?_
  intro a w' hf hs
  exact ⟨_, l177, (hf.pick (pk (pk (pk (pk pk0 rfl) rfl) rfl) rfl)), hs.selD [none, some 1, some 2] (by decide) rfl, H⟩
 rintro a w' ⟨M127, l128, hf, hs, H⟩
 refine c_of (c := (Cx.mk Tryd.prog 199 none' M w)) ?_ hf hs
 unfold law37_RestoreBackup.j1 at H
 clear hf hs
 replace h95 := h95.mono l128
 replace h119 := h119.mono l128
 obtain ⟨t129, H1, H⟩ := bnd H
 have ht_ := (some_r H).trans hr_
 refine c_cut (fun a' w' => ∃ (M130 : Heap), HLe M127 M130 ∧ Fr 199 [(10, (.bool t129))] a' ∧ St none' M w M130 (lt [dead, .blk b96 (.cells (Backup.C t88.1 v94).toArray 36 (0, 0)), .blk b122 (.cells (Table.C t112.1 v118).toArray 44 (0, 0))]) w') ?_ ?_
 ·replace H := H1
  clear H1
  refine c_reg ?_
  obtain ⟨t153, e158, H⟩ := bnd H
  refine w_call cf29 trivial rfl rfl (fun w hs => law37_sanity.calls hs  _ (hs_law37_sanity _ e158) e158) ?_
  rintro _ M155 l156 rfl
  replace h95 := h95.mono l156
  replace h119 := h119.mono l156
  refine vm rfl rfl ?_
  by_cases b159 : t153 = true
  ·replace H := if_t b159 H
   refine wg b159 rfl rfl rfl (fun hf hs => r_loadA ta44 ts44 (hf.ev rfl) (hs.blk (i := 2) rfl) rfl rfl) ?_
   refine wg b159 rfl rfl rfl (fun hf hs => r_loadA ta36 ts36 (hf.ev rfl) (hs.blk (i := 1) rfl) (Backup.d0_38 _ _) (Backup.len _ _)) ?_
   refine wg b159 rfl rfl rfl (fun hf hs => r_move (hf.ev rfl)) ?_
   obtain ⟨t160, e165, H⟩ := bnd H
   refine w_call cf34 (Wnt.of rfl rfl b159) rfl rfl (fun w hs => restore_Holds.calls hs t112.1 v118 h119 t88.1 v94 h95 p3 _ e165) ?_
   rintro _ M162 l163 rfl
   replace h95 := h95.mono l163
   replace h119 := h119.mono l163
   refine wv rfl (fun hf hs => r_pickT (hf.ev rfl) b159 (hf.ev rfl)) ?_
   refine vm rfl rfl ?_
   by_cases b166 : t160 = true
   ·replace H := if_t b166 H
    refine wg b166 rfl rfl rfl (fun hf hs => r_move (hf.ev rfl)) ?_
    refine wg b166 rfl rfl rfl (fun hf hs => r_move (hf.ev rfl)) ?_
    refine wg b166 rfl rfl rfl (fun hf hs => r_lss (hf.ev rfl) (hf.ev rfl)) ?_
    refine wg b166 rfl rfl rfl (fun hf hs => r_move (hf.ev rfl)) ?_
    by_cases b167 : (decide (p4 < p3)) = true
    ·replace H := if_t b167 H
     refine wq b167 rfl rfl rfl ?_
     refine wq b167 rfl rfl rfl ?_
     refine wq b167 rfl rfl rfl ?_
     refine wq b167 rfl rfl rfl ?_
     refine wg b166 rfl rfl rfl (fun hf hs => r_pickT (hf.ev rfl) b167 (hf.ev rfl)) ?_
     refine wv rfl (fun hf hs => r_pickT (hf.ev rfl) b166 (hf.ev rfl)) ?_
     refine va rfl rfl ?_
     obtain rfl := some_r H
     exact w_nil fun a w' hf hs => ⟨_, (l156.trans l163), (hf.pick (pk pk0 rfl)), hs.sel [0, 1, 2] (by decide) rfl⟩
    replace b167 := Bool.eq_false_iff.2 b167
    replace H := if_f b167 H
    refine wg b167 rfl rfl rfl (fun hf hs => r_loadA ta44 ts44 (hf.ev rfl) (hs.blk (i := 2) rfl) rfl rfl) ?_
    refine wg b167 rfl rfl rfl (fun hf hs => r_loadA ta36 ts36 (hf.ev rfl) (hs.blk (i := 1) rfl) (Backup.d0_38 _ _) (Backup.len _ _)) ?_
    refine wg b167 rfl rfl rfl (fun hf hs => r_move (hf.ev rfl)) ?_
    obtain ⟨t168, e173, H⟩ := bnd H
    refine w_call cf34 (Wnt.of rfl rfl b167) rfl rfl (fun w hs => restore_Holds.calls hs t112.1 v118 h119 t88.1 v94 h95 p4 _ e173) ?_
    rintro _ M170 l171 rfl
    refine wg b166 rfl rfl rfl (fun hf hs => r_pickF (hf.ev rfl) b167 (hf.ev rfl)) ?_
    refine wv rfl (fun hf hs => r_pickT (hf.ev rfl) b166 (hf.ev rfl)) ?_
    refine va rfl rfl ?_
    obtain rfl := some_r H
    exact w_nil fun a w' hf hs => ⟨_, (l156.trans (l163.trans l171)), (hf.pick (pk pk0 rfl)), hs.sel [0, 1, 2] (by decide) rfl⟩
   replace b166 := Bool.eq_false_iff.2 b166
   replace H := if_f b166 H
   exact absurd ((some_r H).trans ht_) (by decide)
  replace b159 := Bool.eq_false_iff.2 b159
  replace H := if_f b159 H
  exact absurd ((some_r H).trans ht_) (by decide)
 clear H1 ht_
 rintro a w' ⟨M130, l131, hf, hs⟩
 refine c_of (c := (Cx.mk Tryd.prog 199 none' M w)) ?_ hf hs
 clear hf hs
 obtain rfl := some_r H
 exact c_ret fun a w' hf hs => hret _ (.inl rfl) a w' hf.df ⟨_, _, Res.of1 rfl (RV.t hf rfl), hs.ext, rfl⟩
end Go.Cu
