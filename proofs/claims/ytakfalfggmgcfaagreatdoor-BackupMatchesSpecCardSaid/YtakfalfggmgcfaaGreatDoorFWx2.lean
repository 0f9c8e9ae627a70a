/- Each Go function comes to its pure function; condition: that one is defined there. -/
import Derived.Test.YtakfalfggmgcfaaGreatDoorFWx1
import Derived.Test.YtakfalfggmgcfaaGreatDoorK1
import Derived.Shelf.Strings.OnBuilder
import Derived.Ground.NamesProg
import Derived.Lib.Agree
import Derived.Test.YtakfalfggmgcfaaGreatDoorProg
import Derived.KernelRfl
set_option linter.unusedVariables false
set_option linter.unusedSimpArgs false
set_option maxHeartbeats 4000000
set_option maxRecDepth 20000
namespace Go.Cu
open IntKind
open Vector (replicate)
variable {M : Heap} {w : World}
open Go.Proofs Go.Proofs.Tryz Go.Shelf
theorem ref36_Content.calls (hM : Sub M w) (p0 : Backup) (v1 : Value) (h2 : RS Key.F M v1 p0.Keys) (r : (List UInt8)) (H : ref36_Content p0 = some r) :
  Calls prog 59 [.agg (Backup.C p0 v1).toArray].toArray w (Post M w fun M' v => v = (str r)) := by
 refine enter 50 [(0, .agg (Backup.C p0 v1).toArray)] func59 Y Y Y hM ?_
 intro Q hret
 unfold ref36_Content at H
 refine c_sr fun _ k3 => w_boxM trivial Y Y Y ?_
 intro b4 M5 l6 h7
 replace h2 := h2.mono l6
 refine va Y Y (wk k3 (c_sr fun _ k8 => va Y Y (wk k8 (c_row0 9 1 ?_))))
 refine c_cut (fun a' w' => ∃ (x9 : (List (List UInt8))) (v10 : Value) (M11 : Heap), HLe M5 M11 ∧ Fr 50 [(3, v10)] a' ∧ St none' M w M11 (lt [rowI FS v10 9 x9]) w' ∧ ref36_Content.j1 x9 = some r) ?_ ?_
 ·refine c_seq ?_
  intro K26 k26
  refine c_reg (va Y Y (wk k26 (c_block ?_)))
  refine c_loop (fun (s27 : ((List (List UInt8)) × Int)) a' w' => ∃ (v28 : Value) (M29 : Heap), HLe M5 M29 ∧ Fr 50 [(1, ptr b4 0), (3, v28), (4, .int .i64 s27.2)] a' ∧ St none' M w M29 (lt [rowI FS v28 9 s27.1]) w') (([] : (List (List UInt8))), 0) H ?_ ?_
  ·intro a w' f s
   exact ⟨.slice none 0 0, _, HLe.refl _, f.pk Y, s.selD [some 0] (by decide) Y⟩
  intro s27 y32 H r31 a w' hJ
  obtain ⟨v28, M29, l30, f, s⟩ := hJ
  refine cof f s ?_
  unfold ref36_Content.l3 at H
  replace h2 := h2.mono l30
  replace h7 := l30 _ _ h7
  refine c_seq fun K33 k33 => c_sr fun _ k34 => vm Y Y (v_fa fa26_7 Y Y (wv Y (fun f s => r_load1 ta24 (f.ev Y) (s.sub _ _ h7) (Backup.g37 _ _)) (wv Y (fun f s => r_lenR underlying24 h2 (f.ev Y)) (v_lss Y Y Y (wk k34 (c_if Y (fun b35 => ?_) (fun b35 => ?_)))))))
  ·replace H := if_t b35 H
   refine cs k33 (c_seq fun K36 k36 => c_block (c_sr fun _ k37 => v_fa fa26_7 Y Y (wv Y (fun f s => r_load1 ta24 (f.ev Y) (s.sub _ _ h7) (Backup.g37 _ _)) (vm Y Y ?_))))
   obtain ⟨g38, H⟩ := grd_s H
   refine wv Y (fun f s => r_iR underlying24 ts97 h2 (f.ev Y) (f.ev Y) g38.1 g38.2) (wv Y (fun f s => r_loadEA ta97 ts97 h2 s.sub g38.1 g38.2 (f.ev Y) Y Y) (w_allocL (A := Key.C (⟨0, 0, [], 0, 0, 0, 0, 0, false⟩ : Key)) tz97 trivial Y Y ?_))
   intro b39
   refine w_store (i := 1) (A' := Key.C (rd p0.Keys s27.2)) trivial Y Y Y Y ts97 Y (Key.F_one _) (Nat.le_of_ble_eq_true Y) Y (wk k37 (c_sr fun _ k40 => va Y Y (wk k40 ?_)))
   refine c_cut (fun a' w' => ∃ (x41 : Int) (M42 : Heap), HLe M29 M42 ∧ Fr 50 [(1, ptr b4 0), (3, v28), (4, .int .i64 s27.2), (5, ptr b39 0), (6, .int .i64 x41)] a' ∧ St none' M w M42 (lt [rowI FS v28 9 s27.1, bk b39 (Key.C (rd p0.Keys s27.2)) 97]) w' ∧ ref36_Content.j2 p0 s27 x41 = some y32) ?_ ?_
   ·refine c_seq ?_
    intro K173 k173
    refine c_reg (v_fa fa97_8 Y Y (wv Y (fun f s => r_load1 ta4 (f.ev Y) (s.blk (i := 1) Y) Y) (wk k173 (c_if Y (fun b174 => ?_) (fun b174 => ?_)))))
    ·replace H := if_t b174 H
     exact c_reg (va Y Y (w_nil fun a w' f s => ⟨1, _, HLe.refl _, f.pk Y, s.selD [some 0, some 1] (by decide) Y, H⟩))
    replace H := if_f b174 H
    refine c_skip ?_
    intro a w' f s
    exact ⟨0, _, HLe.refl _, f.pk Y, s.selD [some 0, some 1] (by decide) Y, H⟩
   rintro a w' ⟨x41, M42, l43, f, s, H⟩
   refine cof f s ?_
   unfold ref36_Content.j2 at H
   refine csp 25 (by kernel_rfl) ?_
   intro K44 k44
   obtain ⟨t106, e111, H⟩ := bnd H
   obtain ⟨t141, e146, H⟩ := bnd H
   refine d_drawP [([], [3]), ([], [5]), ([(1, 22)], []), ([], [5]), ([(3, 24)], []), ([], [5]), ([(5, 26)], []), ([], [5]), ([(7, 28)], []), ([], [5]), ([(9, 30)], []), ([], [5]), ([(11, 32)], []), ([], [5]), ([(13, 34)], []), ([], [6]), ([(2, 23), (4, 25), (6, 27), (8, 29), (10, 31), (12, 33), (14, 35), (15, 36)], []), ([(16, 37)], []), ([(17, 38)], []), ([], [5]), ([(19, 40)], []), ([(18, 39), (20, 41)], []), ([(21, 42)], []), ([(22, 43)], []), ([(23, 44)], [])] [vq v28, vq (ptr b39 0), vq (.int .i64 ((rd p0.Keys s27.2).Id)), vq (ptr b39 1), vq (.int .i64 ((rd p0.Keys s27.2).Type_)), vq (ptr b39 3), vq (.int .i64 ((rd p0.Keys s27.2).Uses)), vq (ptr b39 4), vq (.int .i64 ((rd p0.Keys s27.2).Start)), vq (ptr b39 5), vq (.int .i64 ((rd p0.Keys s27.2).End)), vq (ptr b39 6), vq (.int .i64 ((rd p0.Keys s27.2).Version)), vq (ptr b39 7), vq (.int .i64 ((rd p0.Keys s27.2).Parent)), vq (.int .i64 x41), fun v M => ∃ (v94 : Value), v = v94 ∧ RS (FI .i64) M v94 ([(rd p0.Keys s27.2).Id, (rd p0.Keys s27.2).Type_, (rd p0.Keys s27.2).Uses, (rd p0.Keys s27.2).Start, (rd p0.Keys s27.2).End, (rd p0.Keys s27.2).Version, (rd p0.Keys s27.2).Parent, x41] : List Int) ∧ ∃ A, v94 = .slice A ([(rd p0.Keys s27.2).Id, (rd p0.Keys s27.2).Type_, (rd p0.Keys s27.2).Uses, (rd p0.Keys s27.2).Start, (rd p0.Keys s27.2).End, (rd p0.Keys s27.2).Version, (rd p0.Keys s27.2).Parent, x41] : List Int).length ([(rd p0.Keys s27.2).Id, (rd p0.Keys s27.2).Type_, (rd p0.Keys s27.2).Uses, (rd p0.Keys s27.2).Start, (rd p0.Keys s27.2).End, (rd p0.Keys s27.2).Version, (rd p0.Keys s27.2).Parent, x41] : List Int).length, fun v M => ∃ (v112 : Value), v = v112 ∧ RS (FI .u8) M v112 t106, vq (str (intsB t106)), vq (ptr b39 2), vq (str ((rd p0.Keys s27.2).Value)), fun v M => ∃ (v129 : Value), v = v129 ∧ RS FS M v129 ([intsB t106, (rd p0.Keys s27.2).Value] : List (List UInt8)) ∧ ∃ A, v129 = .slice A ([intsB t106, (rd p0.Keys s27.2).Value] : List (List UInt8)).length ([intsB t106, (rd p0.Keys s27.2).Value] : List (List UInt8)).length, fun v M => ∃ (v147 : Value), v = v147 ∧ RS (FI .u8) M v147 t141, vq (str (intsB t141)), fun v M => ∃ (v158 : Value), v = v158 ∧ RS FS M v158 ([intsB t141] : List (List UInt8)) ∧ ∃ A, v158 = .slice A ([intsB t141] : List (List UInt8)).length ([intsB t141] : List (List UInt8)).length] (by kernel_rfl) (by kernel_rfl) ?_ (aT ?_ (aT ?_ (aT ?_ (aT ?_ (aT ?_ (aT ?_ (aT ?_ (aT ?_ (aT ?_ (aT ?_ (aT ?_ (aT ?_ (aT ?_ (aT ?_ (aT ?_ (aT ?_ (aT ?_ (aT ?_ (aT ?_ (aT ?_ (aT ?_ (aT ?_ (aT ?_ (aT ?_ (aT ?_ AllT.nil))))))))))))))))))))))))) ?_
   ·exact (mC (mC (mC (mC (mC (mC (mC (mC (mC (mC (mC (mC (mC (mC (mC (mC (MonoA.cons (fun _ _ _ hM h => by obtain ⟨v94, e_, q0, q1⟩ := h; exact ⟨v94, e_, q0.mono hM, q1⟩) (MonoA.cons (fun _ _ _ hM h => by obtain ⟨v112, e_, q0⟩ := h; exact ⟨v112, e_, q0.mono hM⟩) (mC (mC (mC (MonoA.cons (fun _ _ _ hM h => by obtain ⟨v129, e_, q0, q1⟩ := h; exact ⟨v129, e_, q0.mono hM, q1⟩) (MonoA.cons (fun _ _ _ hM h => by obtain ⟨v147, e_, q0⟩ := h; exact ⟨v147, e_, q0.mono hM⟩) (mC (MonoA.cons (fun _ _ _ hM h => by obtain ⟨v158, e_, q0, q1⟩ := h; exact ⟨v158, e_, q0.mono hM, q1⟩) MonoA.nil)))))))))))))))))))))))))
   ·intro a w' _ _ hd s
    exact pv (hd.fr.add (hd.base 3 _ Y Y)) s Y (fun f s => r_move (f.ev Y)) Y
   ·intro a w' _ _ hd s
    exact pv (hd.fr.add (hd.base 5 _ Y Y)) s Y (fun f s => r_fa fa97_0 (f.ev Y)) Y
   ·intro a w' _ _ hd s
    exact pv (hd.fr.add (hd.val 1 22 _ Y Y)) s Y (fun f s => r_load1 ta3 (f.ev Y) (s.blk (i := 1) Y) Y) Y
   ·intro a w' _ _ hd s
    exact pv (hd.fr.add (hd.base 5 _ Y Y)) s Y (fun f s => r_fa fa97_1 (f.ev Y)) Y
   ·intro a w' _ _ hd s
    exact pv (hd.fr.add (hd.val 3 24 _ Y Y)) s Y (fun f s => r_load1 ta3 (f.ev Y) (s.blk (i := 1) Y) Y) Y
   ·intro a w' _ _ hd s
    exact pv (hd.fr.add (hd.base 5 _ Y Y)) s Y (fun f s => r_fa fa97_3 (f.ev Y)) Y
   ·intro a w' _ _ hd s
    exact pv (hd.fr.add (hd.val 5 26 _ Y Y)) s Y (fun f s => r_load1 ta3 (f.ev Y) (s.blk (i := 1) Y) Y) Y
   ·intro a w' _ _ hd s
    exact pv (hd.fr.add (hd.base 5 _ Y Y)) s Y (fun f s => r_fa fa97_4 (f.ev Y)) Y
   ·intro a w' _ _ hd s
    exact pv (hd.fr.add (hd.val 7 28 _ Y Y)) s Y (fun f s => r_load1 ta3 (f.ev Y) (s.blk (i := 1) Y) Y) Y
   ·intro a w' _ _ hd s
    exact pv (hd.fr.add (hd.base 5 _ Y Y)) s Y (fun f s => r_fa fa97_5 (f.ev Y)) Y
   ·intro a w' _ _ hd s
    exact pv (hd.fr.add (hd.val 9 30 _ Y Y)) s Y (fun f s => r_load1 ta3 (f.ev Y) (s.blk (i := 1) Y) Y) Y
   ·intro a w' _ _ hd s
    exact pv (hd.fr.add (hd.base 5 _ Y Y)) s Y (fun f s => r_fa fa97_6 (f.ev Y)) Y
   ·intro a w' _ _ hd s
    exact pv (hd.fr.add (hd.val 11 32 _ Y Y)) s Y (fun f s => r_load1 ta3 (f.ev Y) (s.blk (i := 1) Y) Y) Y
   ·intro a w' _ _ hd s
    exact pv (hd.fr.add (hd.base 5 _ Y Y)) s Y (fun f s => r_fa fa97_7 (f.ev Y)) Y
   ·intro a w' _ _ hd s
    exact pv (hd.fr.add (hd.val 13 34 _ Y Y)) s Y (fun f s => r_load1 ta3 (f.ev Y) (s.blk (i := 1) Y) Y) Y
   ·intro a w' _ _ hd s
    exact pv (hd.fr.add (hd.base 6 _ Y Y)) s Y (fun f s => r_move (f.ev Y)) Y
   ·intro a w' _ _ hd s
    have e86 := hd.val 2 23 _ Y Y
    have e87 := hd.val 4 25 _ Y Y
    have e88 := hd.val 6 27 _ Y Y
    have e89 := hd.val 8 29 _ Y Y
    have e90 := hd.val 10 31 _ Y Y
    have e91 := hd.val 12 33 _ Y Y
    have e92 := hd.val 14 35 _ Y Y
    have e93 := hd.val 15 36 _ Y Y
    refine OP.ofW ((((((((hd.fr.add e93).add e92).add e91).add e90).add e89).add e88).add e87).add e86) s Y (w_bsl (F := (FI .i64)) (es := ([(rd p0.Keys s27.2).Id, (rd p0.Keys s27.2).Type_, (rd p0.Keys s27.2).Uses, (rd p0.Keys s27.2).Start, (rd p0.Keys s27.2).End, (rd p0.Keys s27.2).Version, (rd p0.Keys s27.2).Parent, x41] : List Int)) (xs := [.tmp 23, .tmp 25, .tmp 27, .tmp 29, .tmp 31, .tmp 33, .tmp 35, .tmp 36]) underlying70 te3 trivial Y Y Y Y Y (by decide) ?_)
    intro v94 M95 l96 h97 c98
    exact w_nil fun a w' f s => ⟨Y, f.df, _, l96, s, ⟨v94, f.get _ _ Y, h97, c98⟩⟩
   ·intro a w' _ _ hd s
    obtain ⟨v101, e105, h102, h104⟩ := hd.val 16 37 _ Y Y
    refine OP.ofW (hd.fr.add e105) s Y (w_call cf70 trivial Y Y (fun w s => ref01_Ints.calls s ([(rd p0.Keys s27.2).Id, (rd p0.Keys s27.2).Type_, (rd p0.Keys s27.2).Uses, (rd p0.Keys s27.2).Start, (rd p0.Keys s27.2).End, (rd p0.Keys s27.2).Version, (rd p0.Keys s27.2).Parent, x41] : List Int) v101 h102 _ e111) ?_)
    rintro v114 M108 l109 ⟨v112, hv_, h113⟩
    replace hv_ := hv_.symm
    subst hv_
    exact w_nil fun a w' f s => ⟨Y, f.df, _, l109, s, ⟨v112, f.get _ _ Y, h113⟩⟩
   ·intro a w' _ _ hd s
    obtain ⟨v117, e119, h118⟩ := hd.val 17 38 _ Y Y
    exact pv (hd.fr.add e119) s Y (fun f s => r_b2s underlying91 underlying5 underlying9 h118 s.sub (f.ev Y)) Y
   ·intro a w' _ _ hd s
    exact pv (hd.fr.add (hd.base 5 _ Y Y)) s Y (fun f s => r_fa fa97_2 (f.ev Y)) Y
   ·intro a w' _ _ hd s
    exact pv (hd.fr.add (hd.val 19 40 _ Y Y)) s Y (fun f s => r_load1 ta9 (f.ev Y) (s.blk (i := 1) Y) Y) Y
   ·intro a w' _ _ hd s
    have e127 := hd.val 18 39 _ Y Y
    have e128 := hd.val 20 41 _ Y Y
    refine OP.ofW ((hd.fr.add e128).add e127) s Y (w_bsl (F := FS) (es := ([intsB t106, (rd p0.Keys s27.2).Value] : List (List UInt8))) (xs := [.tmp 39, .tmp 41]) underlying127 te9 trivial Y Y Y Y Y (by decide) ?_)
    intro v129 M130 l131 h132 c133
    exact w_nil fun a w' f s => ⟨Y, f.df, _, l131, s, ⟨v129, f.get _ _ Y, h132, c133⟩⟩
   ·intro a w' _ _ hd s
    obtain ⟨v136, e140, h137, h139⟩ := hd.val 21 42 _ Y Y
    refine OP.ofW (hd.fr.add e140) s Y (w_call cf122 trivial Y Y (fun w s => ref01_Strings.calls s ([intsB t106, (rd p0.Keys s27.2).Value] : List (List UInt8)) v136 h137 _ e146) ?_)
    rintro v149 M143 l144 ⟨v147, hv_, h148⟩
    replace hv_ := hv_.symm
    subst hv_
    exact w_nil fun a w' f s => ⟨Y, f.df, _, l144, s, ⟨v147, f.get _ _ Y, h148⟩⟩
   ·intro a w' _ _ hd s
    obtain ⟨v152, e154, h153⟩ := hd.val 22 43 _ Y Y
    exact pv (hd.fr.add e154) s Y (fun f s => r_b2s underlying91 underlying5 underlying9 h153 s.sub (f.ev Y)) Y
   ·intro a w' _ _ hd s
    have e157 := hd.val 23 44 _ Y Y
    refine OP.ofW (hd.fr.add e157) s Y (w_bsl (F := FS) (es := ([intsB t141] : List (List UInt8))) (xs := [.tmp 44]) underlying127 te9 trivial Y Y Y Y Y (by decide) ?_)
    intro v158 M159 l160 h161 c162
    exact w_nil fun a w' f s => ⟨Y, f.df, _, l160, s, ⟨v158, f.get _ _ Y, h161, c162⟩⟩
   intro a w' M163 l164 hdf hsz hb hv s
   have e165 := hv 0 21 _ Y Y
   obtain ⟨v166, e170, h167, h169⟩ := hv 24 45 _ Y Y
   refine n_of (c := (Cx.mk prog 50 none' M w)) ?_ (((((Fr.start hdf hsz).add e170).add e165).add (hb 4 _ Y Y)).add (hb 1 _ Y Y)) s
   refine ni k44 ?_
   obtain ⟨g171, H⟩ := grd_s H
   refine w_app (F := FS) (m2 := ([intsB t141] : List (List UInt8))) (i := 0) underlying127 te9 underlying127 (.inl ⟨_, Y⟩) trivial Y Y Y Y (Src.rs FS.one h167) g171 ?_
   intro v172
   exact va Y Y (wk k36 (c_reg (vm Y Y (v_add Y Y Y (va Y Y (w_nil fun a w' f s => ⟨_, (some_r H).symm, v172, _, l30.trans (l43.trans l164), f.pk Y, s.selD [some 0] (by decide) Y⟩))))))
  replace H := if_f b35 H
  replace H := map_inr H r31
  refine c_exit ?_
  intro a w' f s
  exact ⟨s27.1, v28, _, l30, f.pk Y, s.selD [some 0] (by decide) Y, H⟩
 rintro a w' ⟨x9, v10, M11, l12, f, s, H⟩
 refine cof f s ?_
 unfold ref36_Content.j1 at H
 refine c_sr fun _ k13 => vm Y Y ?_
 obtain ⟨t17, e22, H⟩ := bnd H
 refine w_give 0 Y (fun _ h => h) ?_
 intro M14 l15 h16
 refine w_call cf122 trivial Y Y (fun w s => ref01_Strings.calls s x9 v10 h16 _ e22) ?_
 rintro v25 M19 l20 ⟨v23, hv_, h24⟩
 replace hv_ := hv_.symm
 subst hv_
 refine wv Y (fun f s => r_b2s underlying91 underlying5 underlying9 h24 s.sub (f.ev Y)) (va Y Y (wk k13 ?_))
 obtain rfl := some_r H
 exact cx1 hret Y Y Y Y
theorem ref04_Keys.calls (hM : Sub M w) (hG : Gl M) (p0 : (List UInt8)) (r : ((List UInt8) × (List UInt8) × Int)) (H : ref04_Keys p0 = some r) :
  Calls prog 116 [str p0].toArray w (Post M w fun M' v => v = .tuple #[str r.1, str r.2.1, .int .i64 r.2.2]) := by
 refine enter 12 [(0, str p0)] func116 Y Y Y hM ?_
 intro Q hret
 unfold ref04_Keys at H
 refine c_sr fun _ k1 => va Y Y (va Y Y (va Y Y (wk k1 (c_seq fun K2 k2 => c_sr fun _ k3 => vm Y Y (wv Y (fun f s => r_slen underlying9 (f.ev Y)) (wv Y (fun f s => r_neq (f.ev Y) (f.ev Y)) (wk k3 (c_if Y (fun b4 => ?_) (fun b4 => ?_)))))))))
 ·replace H := if_t b4 H
  refine c_sr fun _ k5 => va Y Y (va Y Y (va Y Y (wk k5 ?_)))
  obtain rfl := some_r H
  exact cx3 hret Y Y Y Y Y Y
 replace H := if_f b4 H
 refine cs k2 (c_sr fun _ k6 => vm Y Y ?_)
 obtain ⟨t7, e12, H⟩ := bnd H
 refine w_call cf120 trivial Y Y (fun w s => ref02_Mac.calls s hG p0 ([101, 110, 99] : List UInt8) _ e12) ?_
 rintro _ M9 l10 rfl
 replace hG := hG.mono l10
 refine vm Y Y ?_
 obtain ⟨t13, e18, H⟩ := bnd H
 refine w_call cf120 trivial Y Y (fun w s => ref02_Mac.calls s hG p0 ([109, 97, 99] : List UInt8) _ e18) ?_
 rintro _ M15 l16 rfl
 refine va Y Y (va Y Y (va Y Y (wk k6 ?_)))
 obtain rfl := some_r H
 exact cx3 hret Y Y Y Y Y Y
theorem ref04_nonce.calls (hM : Sub M w) (hG : Gl M) (p0 : (List UInt8)) (p1 : (List UInt8)) (p2 : (List UInt8)) (r : (List UInt8)) (H : ref04_nonce p0 p1 p2 = some r) :
  Calls prog 117 [str p0, str p1, str p2].toArray w (Post M w fun M' v => v = (str r)) := by
 refine enter 16 [(0, str p0), (1, str p1), (2, str p2)] func117 Y Y Y hM ?_
 intro Q hret
 unfold ref04_nonce at H
 refine c_sr fun _ k1 => va Y Y (wk k1 (c_sr fun _ k2 => vm Y Y (vm Y Y ?_)))
 obtain ⟨t3, e8, H⟩ := bnd H
 refine w_call cf60 trivial Y Y (fun w s => ref01_Bytes.calls s p1 _ e8) ?_
 rintro v20 M5 l6 ⟨v9, hv_, h10⟩
 replace hv_ := hv_.symm
 subst hv_
 replace hG := hG.mono l6
 refine wv Y (fun f s => r_b2s underlying91 underlying5 underlying9 h10 s.sub (f.ev Y)) ?_
 obtain ⟨g11, H⟩ := grd_s H
 refine wv Y (fun f s => r_sadd (f.ev Y) (f.ev Y) g11) (vm Y Y ?_)
 obtain ⟨g12, H⟩ := grd_s H
 refine wv Y (fun f s => r_sadd (f.ev Y) (f.ev Y) g12) ?_
 obtain ⟨t13, e18, H⟩ := bnd H
 refine w_call cf120 trivial Y Y (fun w s => ref02_Mac.calls s hG p0 ((([110, 111, 110, 99, 101] : List UInt8) ++ (intsB t3)) ++ p2) _ e18) ?_
 rintro _ M15 l16 rfl
 obtain ⟨g19, H⟩ := grd_s H
 refine wv Y (fun f s => r_sslice underlying9 (f.ev Y) Y ⟨_, f.ev Y⟩ g19.1 g19.2.1 g19.2.2) (va Y Y (wk k2 ?_))
 obtain rfl := some_r H
 exact cx1 hret Y Y Y Y
theorem ref03_word.calls (hM : Sub M w) (p0 : (List UInt8)) (r : Int) (H : ref03_word p0 = some r) :
  Calls prog 187 [str p0].toArray w (Post M w fun M' v => v = (.int .u32 r)) := by
 refine enter 21 [(0, str p0)] func187 Y Y Y hM ?_
 intro Q hret
 unfold ref03_word at H
 refine c_sr fun _ k1 => va Y Y (wk k1 (c_seq fun K2 k2 => ?_))
 obtain ⟨g8, H⟩ := grd_s H
 obtain ⟨g17, H⟩ := grd_s H
 obtain ⟨g33, H⟩ := grd_s H
 obtain ⟨g49, H⟩ := grd_s H
 refine cV [([], [0]), ([(0, 3)], []), ([(1, 4)], []), ([], [0]), ([(3, 6)], []), ([(4, 7)], []), ([(5, 8)], []), ([(2, 5), (6, 9)], []), ([], [0]), ([(8, 11)], []), ([(9, 12)], []), ([(10, 13)], []), ([(7, 10), (11, 14)], []), ([], [0]), ([(13, 16)], []), ([(14, 17)], []), ([(15, 18)], []), ([(12, 15), (16, 19)], []), ([(17, 20)], [])] (by kernel_rfl) (aV (pz Y fun _ f s => r_move (f.ev Y)) (aV (pz Y fun _ f s => r_sidx underlying9 (f.ev Y) (f.ev Y) g8.1 g8.2) (aV (pz Y fun _ f s => r_conv underlying5 underlying169 (f.ev Y)) (aV (pz Y fun _ f s => r_move (f.ev Y)) (aV (pz Y fun _ f s => r_sidx underlying9 (f.ev Y) (f.ev Y) g17.1 g17.2) (aV (pz Y fun _ f s => r_conv underlying5 underlying169 (f.ev Y)) (aV (pz Y fun _ f s => r_shl (f.ev Y) (f.ev Y) (by decide)) (aV (pz Y fun _ f s => r_add (f.ev Y) (f.ev Y)) (aV (pz Y fun _ f s => r_move (f.ev Y)) (aV (pz Y fun _ f s => r_sidx underlying9 (f.ev Y) (f.ev Y) g33.1 g33.2) (aV (pz Y fun _ f s => r_conv underlying5 underlying169 (f.ev Y)) (aV (pz Y fun _ f s => r_shl (f.ev Y) (f.ev Y) (by decide)) (aV (pz Y fun _ f s => r_add (f.ev Y) (f.ev Y)) (aV (pz Y fun _ f s => r_move (f.ev Y)) (aV (pz Y fun _ f s => r_sidx underlying9 (f.ev Y) (f.ev Y) g49.1 g49.2) (aV (pz Y fun _ f s => r_conv underlying5 underlying169 (f.ev Y)) (aV (pz Y fun _ f s => r_shl (f.ev Y) (f.ev Y) (by decide)) (aV (pz Y fun _ f s => r_add (f.ev Y) (f.ev Y)) (aV (pz Y fun _ f s => r_assign (f.ev Y)) aV0))))))))))))))))))) Y fun M63 l64 => ?_
 refine ni k2 ?_
 obtain rfl := some_r H
 exact cx1 hret Y Y Y Y
theorem ref03_State.calls (hM : Sub M w) (p0 : (List UInt8)) (p1 : Int) (p2 : (List UInt8)) (r : ((Vector Int 16) × Int)) (H : ref03_State p0 p1 p2 = some r) :
  Calls prog 162 [str p0, .int .u32 p1, str p2].toArray w (Post M w fun M' v => v = .tuple #[.agg (vI .u32 r.1).toArray, .int .i64 r.2]) := by
 refine enter 51 [(0, str p0), (1, .int .u32 p1), (2, str p2)] func162 Y Y Y hM ?_
 intro Q hret
 unfold ref03_State at H
 refine c_sr fun _ k1 => w_allocL (A := vI .u32 (replicate 16 0)) tz209 trivial Y Y ?_
 intro b2
 refine va Y Y (wk k1 (c_sr fun _ k3 => w_allocL (A := vI .u32 (replicate 16 0)) tz209 trivial Y Y ?_))
 intro b4
 refine wk k3 (c_seq fun K5 k5 => ?_)
 obtain ⟨t6, H1, H⟩ := bnd H
 refine c_cut (fun a' w' => ∃ (M7 : Heap), HLe M M7 ∧ Fr 51 [(0, str p0), (1, .int .u32 p1), (2, str p2), (6, ptr b2 0), (8, ptr b4 0), (18, .bool t6)] a' ∧ St none' M w M7 (lt [bk b2 (vI .u32 (replicate 16 0)) 209, bk b4 (vI .u32 (replicate 16 0)) 209]) w') ?_ ?_
 ·replace H := H1
  refine c_reg (vm Y Y (wv Y (fun f s => r_slen underlying9 (f.ev Y)) (wv Y (fun f s => r_neq (f.ev Y) (f.ev Y)) (vm Y Y ?_))))
  by_cases b9 : ((p0.length : Int) != 32) = true
  ·replace H := if_t b9 H
   refine wq b9 Y Y Y (wq b9 Y Y Y (wq b9 Y Y Y (wv Y (fun f s => r_pickT (f.ev Y) b9 (f.ev Y)) ?_)))
   obtain rfl := some_r H
   exact w_nil fun a w' f s => ⟨_, HLe.refl _, f.pk Y, s.sel [0, 1] (by decide) Y⟩
  replace b9 := Bool.eq_false_iff.2 b9
  replace H := if_f b9 H
  refine wg b9 Y Y Y (fun f s => r_move (f.ev Y)) (wg b9 Y Y Y (fun f s => r_slen underlying9 (f.ev Y)) (wg b9 Y Y Y (fun f s => r_neq (f.ev Y) (f.ev Y)) (wv Y (fun f s => r_pickF (f.ev Y) b9 (f.ev Y)) ?_)))
  obtain rfl := some_r H
  exact w_nil fun a w' f s => ⟨_, HLe.refl _, f.pk Y, s.sel [0, 1] (by decide) Y⟩
 rintro a w' ⟨M7, l8, f, s⟩
 refine cof f s ?_
 refine c_if Y (fun b10 => ?_) (fun b10 => ?_)
 ·replace H := if_t b10 H
  refine c_sr fun _ k11 => wv Y (fun f s => r_loadA ta209 ts209 (f.ev Y) (s.blk (i := 1) Y) (vI_all _) (vI_len _)) (w_store (i := 0) (A' := vI .u32 (replicate 16 0)) trivial Y Y Y Y ts209 (vI_len _) (vI_one _) (by rw [vI_len]; decide) (vI_whole _ _) (va Y Y (wk k11 ?_)))
  obtain rfl := some_r H
  exact cx hret Y fun f s => ⟨_, _, Res.of2 Y ⟨_, f.get _ _ Y, run_loadA (s.blk (i := 0) Y) ta209 ts209 (vI_all _) (vI_len _)⟩ (RV.t f Y), s.ext, Y⟩
 replace H := if_f b10 H
 refine cs k5 (c_sr fun _ k12 => wv Y (fun f s => r_iaI underlying209 ts169 (f.ev Y) (f.ev Y) (by decide : (0 : Int) ≤ 0) (by decide : (0 : Int) < ((16 : Nat) : Int))) (w_store (i := 1) (A' := vI .u32 (vs (replicate 16 0) 0 1634760805)) trivial Y Y Y Y ts169 Y (one1 Y) (idx_le (by decide : (0 : Int) ≤ 0) (by decide : (0 : Int) < ((16 : Nat) : Int)) (vI_len _) (by decide)) (vI_set0 (by decide : (0 : Int) ≤ 0) (by decide : (0 : Int) < ((16 : Nat) : Int))) (wk k12 (c_sr fun _ k13 => wv Y (fun f s => r_iaI underlying209 ts169 (f.ev Y) (f.ev Y) (by decide : (0 : Int) ≤ 1) (by decide : (1 : Int) < ((16 : Nat) : Int))) (w_store (i := 1) (A' := vI .u32 (vs (vs (replicate 16 0) 0 1634760805) 1 857760878)) trivial Y Y Y Y ts169 Y (one1 Y) (idx_le (by decide : (0 : Int) ≤ 1) (by decide : (1 : Int) < ((16 : Nat) : Int)) (vI_len _) (by decide)) (vI_set0 (by decide : (0 : Int) ≤ 1) (by decide : (1 : Int) < ((16 : Nat) : Int))) (wk k13 (c_sr fun _ k14 => wv Y (fun f s => r_iaI underlying209 ts169 (f.ev Y) (f.ev Y) (by decide : (0 : Int) ≤ 2) (by decide : (2 : Int) < ((16 : Nat) : Int))) ?_)))))))
 refine w_store (i := 1) (A' := vI .u32 (vs (vs (vs (replicate 16 0) 0 1634760805) 1 857760878) 2 2036477234)) trivial Y Y Y Y ts169 Y (one1 Y) (idx_le (by decide : (0 : Int) ≤ 2) (by decide : (2 : Int) < ((16 : Nat) : Int)) (vI_len _) (by decide)) (vI_set0 (by decide : (0 : Int) ≤ 2) (by decide : (2 : Int) < ((16 : Nat) : Int))) (wk k14 (c_sr fun _ k15 => wv Y (fun f s => r_iaI underlying209 ts169 (f.ev Y) (f.ev Y) (by decide : (0 : Int) ≤ 3) (by decide : (3 : Int) < ((16 : Nat) : Int))) ?_))
 obtain ⟨z16, e17, H⟩ := bnd H
 have e18 := some_r e17
 refine w_store (i := 1) (A' := vI .u32 z16) trivial Y Y Y Y ts169 Y (one1 Y) (idx_le (by decide : (0 : Int) ≤ 3) (by decide : (3 : Int) < ((16 : Nat) : Int)) (vI_len _) (by decide)) (by rw [← e18]; exact (vI_set0 (by decide : (0 : Int) ≤ 3) (by decide : (3 : Int) < ((16 : Nat) : Int)))) ?_
 refine wk k15 ?_
 refine c_cut (fun a' w' => ∃ (x19 : (Vector Int 16)) (M20 : Heap), HLe M7 M20 ∧ Fr 51 [(1, .int .u32 p1), (2, str p2), (6, ptr b2 0), (8, ptr b4 0)] a' ∧ St none' M w M20 (lt [bk b2 (vI .u32 (replicate 16 0)) 209, bk b4 (vI .u32 x19) 209]) w' ∧ ref03_State.j3 p2 x19 p1 = some r) ?_ ?_
 ·refine c_seq ?_
  intro K45 k45
  refine c_reg (va Y Y (wk k45 (c_block ?_)))
  refine c_loop (fun (s46 : ((Vector Int 16) × Int)) a' w' => ∃ (M47 : Heap), HLe M7 M47 ∧ Fr 51 [(0, str p0), (1, .int .u32 p1), (2, str p2), (6, ptr b2 0), (8, ptr b4 0), (9, .int .i64 s46.2)] a' ∧ St none' M w M47 (lt [bk b2 (vI .u32 (replicate 16 0)) 209, bk b4 (vI .u32 s46.1) 209]) w') (z16, 0) H ?_ ?_
  ·intro a w' f s
   exact ⟨_, HLe.refl _, f.pk Y, s.selD [some 0, some 1] (by decide) Y⟩
  intro s46 y50 H r49 a w' hJ
  obtain ⟨M47, l48, f, s⟩ := hJ
  refine cof f s ?_
  unfold ref03_State.l4 at H
  refine c_seq fun K51 k51 => c_sr fun _ k52 => vm Y Y (v_lss Y Y Y (wk k52 (c_if Y (fun b53 => ?_) (fun b53 => ?_))))
  ·replace H := if_t b53 H
   refine cs k51 (c_seq fun K54 k54 => c_block (c_reg (vm Y Y (v_add Y Y Y (vm Y Y (vm Y Y (wv Y (fun f s => r_mul (f.ev Y) (f.ev Y)) ?_)))))))
   obtain ⟨g55, H⟩ := grd_s H
   refine wv Y (fun f s => r_sslice underlying9 (f.ev Y) ⟨_, f.ev Y⟩ rfl g55.1 g55.2.1 g55.2.2) ?_
   obtain ⟨t56, e61, H⟩ := bnd H
   refine w_call cf187 trivial Y Y (fun w s => ref03_word.calls s ((p0.take ((p0.length : Int)).toNat).drop (i64.wrap (4 * s46.2)).toNat) _ e61) ?_
   rintro _ M58 l59 rfl
   obtain ⟨g62, H⟩ := grd_s H
   exact wv Y (fun f s => r_iaI underlying209 ts169 (f.ev Y) (f.ev Y) g62.1 g62.2) (w_store (i := 1) (A' := vI .u32 (vs s46.1 (i64.wrap (4 + s46.2)) t56)) trivial Y Y Y Y ts169 Y (one1 Y) (idx_le g62.1 g62.2 (vI_len _) (by decide)) (vI_set0 g62.1 g62.2) (wk k54 (c_reg (vm Y Y (v_add Y Y Y (va Y Y (w_nil fun a w' f s => ⟨_, (some_r H).symm, _, l48.trans l59, f.pk Y, s.selD [some 0, some 1] (by decide) Y⟩)))))))
  replace H := if_f b53 H
  replace H := map_inr H r49
  refine c_exit ?_
  intro a w' f s
  exact ⟨s46.1, _, l48, f.pk Y, s.selD [some 0, some 1] (by decide) Y, H⟩
 rintro a w' ⟨x19, M20, l21, f, s, H⟩
 refine cof f s ?_
 unfold ref03_State.j3 at H
 refine c_sr fun _ k22 => vm Y Y (wv Y (fun f s => r_iaI underlying209 ts169 (f.ev Y) (f.ev Y) (by decide : (0 : Int) ≤ 12) (by decide : (12 : Int) < ((16 : Nat) : Int))) (w_store (i := 1) (A' := vI .u32 (vs x19 12 p1)) trivial Y Y Y Y ts169 Y (one1 Y) (idx_le (by decide : (0 : Int) ≤ 12) (by decide : (12 : Int) < ((16 : Nat) : Int)) (vI_len _) (by decide)) (vI_set0 (by decide : (0 : Int) ≤ 12) (by decide : (12 : Int) < ((16 : Nat) : Int))) (wk k22 ?_)))
 refine c_cut (fun a' w' => ∃ (x23 : (Vector Int 16)) (M24 : Heap), HLe M20 M24 ∧ Fr 51 [(6, ptr b2 0), (8, ptr b4 0)] a' ∧ St none' M w M24 (lt [bk b2 (vI .u32 (replicate 16 0)) 209, bk b4 (vI .u32 x23) 209]) w' ∧ ref03_State.j1 x23 = some r) ?_ ?_
 ·refine c_seq ?_
  intro K27 k27
  refine c_reg (va Y Y (wk k27 (c_block ?_)))
  refine c_loop (fun (s28 : ((Vector Int 16) × Int)) a' w' => ∃ (M29 : Heap), HLe M20 M29 ∧ Fr 51 [(2, str p2), (6, ptr b2 0), (8, ptr b4 0), (10, .int .i64 s28.2)] a' ∧ St none' M w M29 (lt [bk b2 (vI .u32 (replicate 16 0)) 209, bk b4 (vI .u32 s28.1) 209]) w') (vs x19 12 p1, 0) H ?_ ?_
  ·intro a w' f s
   exact ⟨_, HLe.refl _, f.pk Y, s.selD [some 0, some 1] (by decide) Y⟩
  intro s28 y32 H r31 a w' hJ
  obtain ⟨M29, l30, f, s⟩ := hJ
  refine cof f s ?_
  unfold ref03_State.l2 at H
  refine c_seq fun K33 k33 => c_sr fun _ k34 => vm Y Y (v_lss Y Y Y (wk k34 (c_if Y (fun b35 => ?_) (fun b35 => ?_))))
  ·replace H := if_t b35 H
   refine cs k33 (c_seq fun K36 k36 => c_block (c_reg (vm Y Y (v_add Y Y Y (vm Y Y (vm Y Y (wv Y (fun f s => r_mul (f.ev Y) (f.ev Y)) ?_)))))))
   obtain ⟨g37, H⟩ := grd_s H
   refine wv Y (fun f s => r_sslice underlying9 (f.ev Y) ⟨_, f.ev Y⟩ rfl g37.1 g37.2.1 g37.2.2) ?_
   obtain ⟨t38, e43, H⟩ := bnd H
   refine w_call cf187 trivial Y Y (fun w s => ref03_word.calls s ((p2.take ((p2.length : Int)).toNat).drop (i64.wrap (4 * s28.2)).toNat) _ e43) ?_
   rintro _ M40 l41 rfl
   obtain ⟨g44, H⟩ := grd_s H
   exact wv Y (fun f s => r_iaI underlying209 ts169 (f.ev Y) (f.ev Y) g44.1 g44.2) (w_store (i := 1) (A' := vI .u32 (vs s28.1 (i64.wrap (13 + s28.2)) t38)) trivial Y Y Y Y ts169 Y (one1 Y) (idx_le g44.1 g44.2 (vI_len _) (by decide)) (vI_set0 g44.1 g44.2) (wk k36 (c_reg (vm Y Y (v_add Y Y Y (va Y Y (w_nil fun a w' f s => ⟨_, (some_r H).symm, _, l30.trans l41, f.pk Y, s.selD [some 0, some 1] (by decide) Y⟩)))))))
  replace H := if_f b35 H
  replace H := map_inr H r31
  refine c_exit ?_
  intro a w' f s
  exact ⟨s28.1, _, l30, f.pk Y, s.selD [some 0, some 1] (by decide) Y, H⟩
 rintro a w' ⟨x23, M24, l25, f, s, H⟩
 refine cof f s ?_
 unfold ref03_State.j1 at H
 refine c_sr fun _ k26 => wv Y (fun f s => r_loadA ta209 ts209 (f.ev Y) (s.blk (i := 1) Y) (vI_all _) (vI_len _)) (w_store (i := 0) (A' := vI .u32 x23) trivial Y Y Y Y ts209 (vI_len _) (vI_one _) (by rw [vI_len]; decide) (vI_whole _ _) (va Y Y (wk k26 ?_)))
 obtain rfl := some_r H
 exact cx hret Y fun f s => ⟨_, _, Res.of2 Y ⟨_, f.get _ _ Y, run_loadA (s.blk (i := 0) Y) ta209 ts209 (vI_all _) (vI_len _)⟩ (RV.t f Y), s.ext, Y⟩
theorem ref03_Order.calls (hM : Sub M w)  (r : (List (List Int))) (H : ref03_Order  = some r) :
  Calls prog 203 [].toArray w (Post M w fun M' v => ∃ v49, v = v49 ∧ RSS (FI .i64) M' v49 r) := by
 refine enter 10 [] func203 Y Y Y hM ?_
 intro Q hret
 unfold ref03_Order at H
 refine c_sr fun _ k1 => va Y Y (wk k1 (c_sr fun _ k2 => w_bsl (F := (FI .i64)) (es := ([0, 4, 8, 12] : List Int)) (xs := [.const (.int .i64 0), .const (.int .i64 4), .const (.int .i64 8), .const (.int .i64 12)]) underlying70 te3 trivial Y Y Y Y Y (by decide) ?_))
 intro v3 M4 l5 h6 c7
 refine w_bsl (F := (FI .i64)) (es := ([1, 5, 9, 13] : List Int)) (xs := [.const (.int .i64 1), .const (.int .i64 5), .const (.int .i64 9), .const (.int .i64 13)]) underlying70 te3 trivial Y Y Y Y Y (by decide) ?_
 intro v8 M9 l10 h11 c12
 replace h6 := h6.mono l10
 refine w_bsl (F := (FI .i64)) (es := ([2, 6, 10, 14] : List Int)) (xs := [.const (.int .i64 2), .const (.int .i64 6), .const (.int .i64 10), .const (.int .i64 14)]) underlying70 te3 trivial Y Y Y Y Y (by decide) ?_
 intro v13 M14 l15 h16 c17
 replace h6 := h6.mono l15
 replace h11 := h11.mono l15
 refine w_bsl (F := (FI .i64)) (es := ([3, 7, 11, 15] : List Int)) (xs := [.const (.int .i64 3), .const (.int .i64 7), .const (.int .i64 11), .const (.int .i64 15)]) underlying70 te3 trivial Y Y Y Y Y (by decide) ?_
 intro v18 M19 l20 h21 c22
 replace h6 := h6.mono l20
 replace h11 := h11.mono l20
 replace h16 := h16.mono l20
 refine w_bsl (F := (FI .i64)) (es := ([0, 5, 10, 15] : List Int)) (xs := [.const (.int .i64 0), .const (.int .i64 5), .const (.int .i64 10), .const (.int .i64 15)]) underlying70 te3 trivial Y Y Y Y Y (by decide) ?_
 intro v23 M24 l25 h26 c27
 replace h6 := h6.mono l25
 replace h11 := h11.mono l25
 replace h16 := h16.mono l25
 replace h21 := h21.mono l25
 refine w_bsl (F := (FI .i64)) (es := ([1, 6, 11, 12] : List Int)) (xs := [.const (.int .i64 1), .const (.int .i64 6), .const (.int .i64 11), .const (.int .i64 12)]) underlying70 te3 trivial Y Y Y Y Y (by decide) ?_
 intro v28 M29 l30 h31 c32
 replace h6 := h6.mono l30
 replace h11 := h11.mono l30
 replace h16 := h16.mono l30
 replace h21 := h21.mono l30
 replace h26 := h26.mono l30
 refine w_bsl (F := (FI .i64)) (es := ([2, 7, 8, 13] : List Int)) (xs := [.const (.int .i64 2), .const (.int .i64 7), .const (.int .i64 8), .const (.int .i64 13)]) underlying70 te3 trivial Y Y Y Y Y (by decide) ?_
 intro v33 M34 l35 h36 c37
 replace h6 := h6.mono l35
 replace h11 := h11.mono l35
 replace h16 := h16.mono l35
 replace h21 := h21.mono l35
 replace h26 := h26.mono l35
 replace h31 := h31.mono l35
 refine w_bsl (F := (FI .i64)) (es := ([3, 4, 9, 14] : List Int)) (xs := [.const (.int .i64 3), .const (.int .i64 4), .const (.int .i64 9), .const (.int .i64 14)]) underlying70 te3 trivial Y Y Y Y Y (by decide) ?_
 intro v38 M39 l40 h41 c42
 replace h6 := h6.mono l40
 replace h11 := h11.mono l40
 replace h16 := h16.mono l40
 replace h21 := h21.mono l40
 replace h26 := h26.mono l40
 replace h31 := h31.mono l40
 replace h36 := h36.mono l40
 refine w_bsl (F := FVl) (es := [v3, v8, v13, v18, v23, v28, v33, v38]) (xs := [.tmp 1, .tmp 2, .tmp 3, .tmp 4, .tmp 5, .tmp 6, .tmp 7, .tmp 8]) underlying254 te70 trivial Y Y Y Y (RSL.cells (F := (FI .i64)) (M := M39) (L := ([([0, 4, 8, 12] : List Int), ([1, 5, 9, 13] : List Int), ([2, 6, 10, 14] : List Int), ([3, 7, 11, 15] : List Int), ([0, 5, 10, 15] : List Int), ([1, 6, 11, 12] : List Int), ([2, 7, 8, 13] : List Int), ([3, 4, 9, 14] : List Int)] : (List (List Int)))) (.cons h6 (.cons h11 (.cons h16 (.cons h21 (.cons h26 (.cons h31 (.cons h36 (.cons h41 .nil))))))))) (by decide) ?_
 intro v43 M44 l45 h46 c47
 replace h6 := h6.mono l45
 replace h11 := h11.mono l45
 replace h16 := h16.mono l45
 replace h21 := h21.mono l45
 replace h26 := h26.mono l45
 replace h31 := h31.mono l45
 replace h36 := h36.mono l45
 replace h41 := h41.mono l45
 have h48 : RSS (FI .i64) M44 v43 ([([0, 4, 8, 12] : List Int), ([1, 5, 9, 13] : List Int), ([2, 6, 10, 14] : List Int), ([3, 7, 11, 15] : List Int), ([0, 5, 10, 15] : List Int), ([1, 6, 11, 12] : List Int), ([2, 7, 8, 13] : List Int), ([3, 4, 9, 14] : List Int)] : (List (List Int))) := RSS.of h46 (.cons h6 (.cons h11 (.cons h16 (.cons h21 (.cons h26 (.cons h31 (.cons h36 (.cons h41 .nil))))))))
 refine va Y Y (wk k2 ?_)
 obtain rfl := some_r H
 exact cx1 hret Y Y Y ⟨_, Y, h48⟩
theorem ref03_rotl.calls (hM : Sub M w) (p0 : Int) (p1 : Int) (r : Int) (H : ref03_rotl p0 p1 = some r) :
  Calls prog 213 [.int .u32 p0, .int .i64 p1].toArray w (Post M w fun M' v => v = (.int .u32 r)) := by
 refine enter 13 [(0, .int .u32 p0), (1, .int .i64 p1)] func213 Y Y Y hM ?_
 intro Q hret
 unfold ref03_rotl at H
 refine c_sr fun _ k1 => va Y Y (wk k1 (c_seq fun K2 k2 => ?_))
 obtain ⟨g11, H⟩ := grd_s H
 obtain ⟨g23, H⟩ := grd_s H
 refine cV [([], [0]), ([], [1]), ([(0, 5), (1, 6)], []), ([], [0]), ([], [1]), ([(4, 9)], []), ([(3, 8), (5, 10)], []), ([(2, 7), (6, 11)], []), ([(7, 12)], [])] (by kernel_rfl) (aV (pz Y fun _ f s => r_move (f.ev Y)) (aV (pz Y fun _ f s => r_move (f.ev Y)) (aV (pz Y fun _ f s => r_shl (f.ev Y) (f.ev Y) g11) (aV (pz Y fun _ f s => r_move (f.ev Y)) (aV (pz Y fun _ f s => r_move (f.ev Y)) (aV (pz Y fun _ f s => r_sub (f.ev Y) (f.ev Y)) (aV (pz Y fun _ f s => r_shr (f.ev Y) (f.ev Y) g23) (aV (pz Y fun _ f s => r_or (f.ev Y) (f.ev Y)) (aV (pz Y fun _ f s => r_assign (f.ev Y)) aV0))))))))) Y fun M31 l32 => ni k2 ?_
 obtain rfl := some_r H
 exact cx1 hret Y Y Y Y
theorem ref03_quarter.calls (hM : Sub M w) (p0 : (Vector Int 16)) (p1 : Int) (p2 : Int) (p3 : Int) (p4 : Int) (r : (Vector Int 16)) (H : ref03_quarter p0 p1 p2 p3 p4 = some r) :
  Calls prog 204 [.agg (vI .u32 p0).toArray, .int .i64 p1, .int .i64 p2, .int .i64 p3, .int .i64 p4].toArray w (Post M w fun M' v => v = (.agg (vI .u32 r).toArray)) := by
 refine enter 88 [(0, .agg (vI .u32 p0).toArray), (1, .int .i64 p1), (2, .int .i64 p2), (3, .int .i64 p3), (4, .int .i64 p4)] func204 Y Y Y hM ?_
 intro Q hret
 unfold ref03_quarter at H
 refine c_sr fun _ k1 => w_boxL trivial Y Y Y ?_
 intro b2
 refine w_allocL (A := vI .u32 (replicate 16 0)) tz209 trivial Y Y ?_
 intro b3
 refine wk k1 (c_seq fun K4 k4 => csp 8 (by kernel_rfl) ?_)
 intro K5 k5
 obtain ⟨g13, H⟩ := grd_s H
 obtain ⟨g22, H⟩ := grd_s H
 refine dV [([], [1]), ([], [1]), ([(1, 12)], [5]), ([(2, 13)], []), ([], [2]), ([(4, 15)], [5]), ([(5, 16)], []), ([(3, 14), (6, 17)], [])] (by kernel_rfl) (aV (pz Y fun _ f s => r_move (f.ev Y)) (aV (pz Y fun _ f s => r_move (f.ev Y)) (aV (pz Y fun _ f s => r_iaI underlying209 ts169 (f.ev Y) (f.ev Y) g13.1 g13.2) (aV (pz Y fun _ f s => r_load1 ta169 (f.ev Y) (s.blk (i := 0) Y) (vI_get0 g13.1 g13.2)) (aV (pz Y fun _ f s => r_move (f.ev Y)) (aV (pz Y fun _ f s => r_iaI underlying209 ts169 (f.ev Y) (f.ev Y) g22.1 g22.2) (aV (pz Y fun _ f s => r_load1 ta169 (f.ev Y) (s.blk (i := 0) Y) (vI_get0 g22.1 g22.2)) (aV (pz Y fun _ f s => r_add (f.ev Y) (f.ev Y)) aV0)))))))) Y fun M30 l31 => ni k5 ?_
 obtain ⟨g34, H⟩ := grd_s H
 refine wv Y (fun f s => r_iaI underlying209 ts169 (f.ev Y) (f.ev Y) g34.1 g34.2) (w_store (i := 0) (A' := vI .u32 (vs p0 p1 (u32.wrap ((rd p0.toList p1) + (rd p0.toList p2))))) trivial Y Y Y Y ts169 Y (one1 Y) (idx_le g34.1 g34.2 (vI_len _) (by decide)) (vI_set0 g34.1 g34.2) (wk k4 (c_seq fun K35 k35 => csp 9 (by kernel_rfl) ?_)))
 intro K36 k36
 obtain ⟨g44, H⟩ := grd_s H
 obtain ⟨g53, H⟩ := grd_s H
 obtain ⟨t64, e69, H⟩ := bnd H
 refine dV [([], [4]), ([], [4]), ([(1, 21)], [5]), ([(2, 22)], []), ([], [1]), ([(4, 24)], [5]), ([(5, 25)], []), ([(3, 23), (6, 26)], []), ([(7, 27)], [])] (by kernel_rfl) (aV (pz Y fun _ f s => r_move (f.ev Y)) (aV (pz Y fun _ f s => r_move (f.ev Y)) (aV (pz Y fun _ f s => r_iaI underlying209 ts169 (f.ev Y) (f.ev Y) g44.1 g44.2) (aV (pz Y fun _ f s => r_load1 ta169 (f.ev Y) (s.blk (i := 0) Y) (vI_get0 g44.1 g44.2)) (aV (pz Y fun _ f s => r_move (f.ev Y)) (aV (pz Y fun _ f s => r_iaI underlying209 ts169 (f.ev Y) (f.ev Y) g53.1 g53.2) (aV (pz Y fun _ f s => r_load1 ta169 (f.ev Y) (s.blk (i := 0) Y) (vI_get0 g53.1 g53.2)) (aV (pz Y fun _ f s => r_xor (f.ev Y) (f.ev Y)) (aV (pzc cf213 Y Y fun _ _ w s => ref03_rotl.calls s (bits .xor .u32 (rd (vs p0 p1 (u32.wrap ((rd p0.toList p1) + (rd p0.toList p2)))).toList p4) (rd (vs p0 p1 (u32.wrap ((rd p0.toList p1) + (rd p0.toList p2)))).toList p1)) 16 _ e69) aV0))))))))) Y fun M70 l71 => ni k36 ?_
 obtain ⟨g74, H⟩ := grd_s H
 refine wv Y (fun f s => r_iaI underlying209 ts169 (f.ev Y) (f.ev Y) g74.1 g74.2) (w_store (i := 0) (A' := vI .u32 (vs (vs p0 p1 (u32.wrap ((rd p0.toList p1) + (rd p0.toList p2)))) p4 t64)) trivial Y Y Y Y ts169 Y (one1 Y) (idx_le g74.1 g74.2 (vI_len _) (by decide)) (vI_set0 g74.1 g74.2) (wk k35 (c_seq fun K75 k75 => csp 8 (by kernel_rfl) ?_)))
 intro K76 k76
 obtain ⟨g84, H⟩ := grd_s H
 obtain ⟨g93, H⟩ := grd_s H
 refine dV [([], [3]), ([], [3]), ([(1, 31)], [5]), ([(2, 32)], []), ([], [4]), ([(4, 34)], [5]), ([(5, 35)], []), ([(3, 33), (6, 36)], [])] (by kernel_rfl) (aV (pz Y fun _ f s => r_move (f.ev Y)) (aV (pz Y fun _ f s => r_move (f.ev Y)) (aV (pz Y fun _ f s => r_iaI underlying209 ts169 (f.ev Y) (f.ev Y) g84.1 g84.2) (aV (pz Y fun _ f s => r_load1 ta169 (f.ev Y) (s.blk (i := 0) Y) (vI_get0 g84.1 g84.2)) (aV (pz Y fun _ f s => r_move (f.ev Y)) (aV (pz Y fun _ f s => r_iaI underlying209 ts169 (f.ev Y) (f.ev Y) g93.1 g93.2) (aV (pz Y fun _ f s => r_load1 ta169 (f.ev Y) (s.blk (i := 0) Y) (vI_get0 g93.1 g93.2)) (aV (pz Y fun _ f s => r_add (f.ev Y) (f.ev Y)) aV0)))))))) Y fun M101 l102 => ni k76 ?_
 obtain ⟨g105, H⟩ := grd_s H
 refine wv Y (fun f s => r_iaI underlying209 ts169 (f.ev Y) (f.ev Y) g105.1 g105.2) ?_
 obtain ⟨z106, e107, H⟩ := bnd H
 have e108 := some_r e107
 refine w_store (i := 0) (A' := vI .u32 z106) trivial Y Y Y Y ts169 Y (one1 Y) (idx_le g105.1 g105.2 (vI_len _) (by decide)) (by rw [← e108]; exact (vI_set0 g105.1 g105.2)) ?_
 refine wk k75 (c_seq fun K109 k109 => csp 9 (by kernel_rfl) ?_)
 intro K110 k110
 obtain ⟨g118, H⟩ := grd_s H
 obtain ⟨g127, H⟩ := grd_s H
 obtain ⟨t138, e143, H⟩ := bnd H
 refine dV [([], [2]), ([], [2]), ([(1, 40)], [5]), ([(2, 41)], []), ([], [3]), ([(4, 43)], [5]), ([(5, 44)], []), ([(3, 42), (6, 45)], []), ([(7, 46)], [])] (by kernel_rfl) (aV (pz Y fun _ f s => r_move (f.ev Y)) (aV (pz Y fun _ f s => r_move (f.ev Y)) (aV (pz Y fun _ f s => r_iaI underlying209 ts169 (f.ev Y) (f.ev Y) g118.1 g118.2) (aV (pz Y fun _ f s => r_load1 ta169 (f.ev Y) (s.blk (i := 0) Y) (vI_get0 g118.1 g118.2)) (aV (pz Y fun _ f s => r_move (f.ev Y)) (aV (pz Y fun _ f s => r_iaI underlying209 ts169 (f.ev Y) (f.ev Y) g127.1 g127.2) (aV (pz Y fun _ f s => r_load1 ta169 (f.ev Y) (s.blk (i := 0) Y) (vI_get0 g127.1 g127.2)) (aV (pz Y fun _ f s => r_xor (f.ev Y) (f.ev Y)) (aV (pzc cf213 Y Y fun _ _ w s => ref03_rotl.calls s (bits .xor .u32 (rd z106.toList p2) (rd z106.toList p3)) 12 _ e143) aV0))))))))) Y fun M144 l145 => ni k110 ?_
 obtain ⟨g148, H⟩ := grd_s H
 refine wv Y (fun f s => r_iaI underlying209 ts169 (f.ev Y) (f.ev Y) g148.1 g148.2) (w_store (i := 0) (A' := vI .u32 (vs z106 p2 t138)) trivial Y Y Y Y ts169 Y (one1 Y) (idx_le g148.1 g148.2 (vI_len _) (by decide)) (vI_set0 g148.1 g148.2) (wk k109 (c_seq fun K149 k149 => csp 8 (by kernel_rfl) ?_)))
 intro K150 k150
 obtain ⟨g158, H⟩ := grd_s H
 obtain ⟨g167, H⟩ := grd_s H
 refine dV [([], [1]), ([], [1]), ([(1, 50)], [5]), ([(2, 51)], []), ([], [2]), ([(4, 53)], [5]), ([(5, 54)], []), ([(3, 52), (6, 55)], [])] (by kernel_rfl) (aV (pz Y fun _ f s => r_move (f.ev Y)) (aV (pz Y fun _ f s => r_move (f.ev Y)) (aV (pz Y fun _ f s => r_iaI underlying209 ts169 (f.ev Y) (f.ev Y) g158.1 g158.2) (aV (pz Y fun _ f s => r_load1 ta169 (f.ev Y) (s.blk (i := 0) Y) (vI_get0 g158.1 g158.2)) (aV (pz Y fun _ f s => r_move (f.ev Y)) (aV (pz Y fun _ f s => r_iaI underlying209 ts169 (f.ev Y) (f.ev Y) g167.1 g167.2) (aV (pz Y fun _ f s => r_load1 ta169 (f.ev Y) (s.blk (i := 0) Y) (vI_get0 g167.1 g167.2)) (aV (pz Y fun _ f s => r_add (f.ev Y) (f.ev Y)) aV0)))))))) Y fun M175 l176 => ni k150 ?_
 obtain ⟨g179, H⟩ := grd_s H
 refine wv Y (fun f s => r_iaI underlying209 ts169 (f.ev Y) (f.ev Y) g179.1 g179.2) (w_store (i := 0) (A' := vI .u32 (vs (vs z106 p2 t138) p1 (u32.wrap ((rd (vs z106 p2 t138).toList p1) + (rd (vs z106 p2 t138).toList p2))))) trivial Y Y Y Y ts169 Y (one1 Y) (idx_le g179.1 g179.2 (vI_len _) (by decide)) (vI_set0 g179.1 g179.2) (wk k149 (c_seq fun K180 k180 => csp 9 (by kernel_rfl) ?_)))
 intro K181 k181
 obtain ⟨g189, H⟩ := grd_s H
 obtain ⟨g198, H⟩ := grd_s H
 obtain ⟨t209, e214, H⟩ := bnd H
 refine dV [([], [4]), ([], [4]), ([(1, 59)], [5]), ([(2, 60)], []), ([], [1]), ([(4, 62)], [5]), ([(5, 63)], []), ([(3, 61), (6, 64)], []), ([(7, 65)], [])] (by kernel_rfl) (aV (pz Y fun _ f s => r_move (f.ev Y)) (aV (pz Y fun _ f s => r_move (f.ev Y)) (aV (pz Y fun _ f s => r_iaI underlying209 ts169 (f.ev Y) (f.ev Y) g189.1 g189.2) (aV (pz Y fun _ f s => r_load1 ta169 (f.ev Y) (s.blk (i := 0) Y) (vI_get0 g189.1 g189.2)) (aV (pz Y fun _ f s => r_move (f.ev Y)) (aV (pz Y fun _ f s => r_iaI underlying209 ts169 (f.ev Y) (f.ev Y) g198.1 g198.2) (aV (pz Y fun _ f s => r_load1 ta169 (f.ev Y) (s.blk (i := 0) Y) (vI_get0 g198.1 g198.2)) (aV (pz Y fun _ f s => r_xor (f.ev Y) (f.ev Y)) (aV (pzc cf213 Y Y fun _ _ w s => ref03_rotl.calls s (bits .xor .u32 (rd (vs (vs z106 p2 t138) p1 (u32.wrap ((rd (vs z106 p2 t138).toList p1) + (rd (vs z106 p2 t138).toList p2)))).toList p4) (rd (vs (vs z106 p2 t138) p1 (u32.wrap ((rd (vs z106 p2 t138).toList p1) + (rd (vs z106 p2 t138).toList p2)))).toList p1)) 8 _ e214) aV0))))))))) Y fun M215 l216 => ?_
 refine ni k181 ?_
 obtain ⟨g219, H⟩ := grd_s H
 refine wv Y (fun f s => r_iaI underlying209 ts169 (f.ev Y) (f.ev Y) g219.1 g219.2) (w_store (i := 0) (A' := vI .u32 (vs (vs (vs z106 p2 t138) p1 (u32.wrap ((rd (vs z106 p2 t138).toList p1) + (rd (vs z106 p2 t138).toList p2)))) p4 t209)) trivial Y Y Y Y ts169 Y (one1 Y) (idx_le g219.1 g219.2 (vI_len _) (by decide)) (vI_set0 g219.1 g219.2) (wk k180 (c_seq fun K220 k220 => csp 8 (by kernel_rfl) ?_)))
 intro K221 k221
 obtain ⟨g229, H⟩ := grd_s H
 obtain ⟨g238, H⟩ := grd_s H
 refine dV [([], [3]), ([], [3]), ([(1, 69)], [5]), ([(2, 70)], []), ([], [4]), ([(4, 72)], [5]), ([(5, 73)], []), ([(3, 71), (6, 74)], [])] (by kernel_rfl) (aV (pz Y fun _ f s => r_move (f.ev Y)) (aV (pz Y fun _ f s => r_move (f.ev Y)) (aV (pz Y fun _ f s => r_iaI underlying209 ts169 (f.ev Y) (f.ev Y) g229.1 g229.2) (aV (pz Y fun _ f s => r_load1 ta169 (f.ev Y) (s.blk (i := 0) Y) (vI_get0 g229.1 g229.2)) (aV (pz Y fun _ f s => r_move (f.ev Y)) (aV (pz Y fun _ f s => r_iaI underlying209 ts169 (f.ev Y) (f.ev Y) g238.1 g238.2) (aV (pz Y fun _ f s => r_load1 ta169 (f.ev Y) (s.blk (i := 0) Y) (vI_get0 g238.1 g238.2)) (aV (pz Y fun _ f s => r_add (f.ev Y) (f.ev Y)) aV0)))))))) Y fun M246 l247 => ni k221 ?_
 obtain ⟨g250, H⟩ := grd_s H
 refine wv Y (fun f s => r_iaI underlying209 ts169 (f.ev Y) (f.ev Y) g250.1 g250.2) ?_
 obtain ⟨z251, e252, H⟩ := bnd H
 have e253 := some_r e252
 refine w_store (i := 0) (A' := vI .u32 z251) trivial Y Y Y Y ts169 Y (one1 Y) (idx_le g250.1 g250.2 (vI_len _) (by decide)) (by rw [← e253]; exact (vI_set0 g250.1 g250.2)) ?_
 refine wk k220 (c_seq fun K254 k254 => csp 9 (by kernel_rfl) ?_)
 intro K255 k255
 obtain ⟨g263, H⟩ := grd_s H
 obtain ⟨g272, H⟩ := grd_s H
 obtain ⟨t283, e288, H⟩ := bnd H
 refine dV [([], [2]), ([], [2]), ([(1, 78)], [5]), ([(2, 79)], []), ([], [3]), ([(4, 81)], [5]), ([(5, 82)], []), ([(3, 80), (6, 83)], []), ([(7, 84)], [])] (by kernel_rfl) (aV (pz Y fun _ f s => r_move (f.ev Y)) (aV (pz Y fun _ f s => r_move (f.ev Y)) (aV (pz Y fun _ f s => r_iaI underlying209 ts169 (f.ev Y) (f.ev Y) g263.1 g263.2) (aV (pz Y fun _ f s => r_load1 ta169 (f.ev Y) (s.blk (i := 0) Y) (vI_get0 g263.1 g263.2)) (aV (pz Y fun _ f s => r_move (f.ev Y)) (aV (pz Y fun _ f s => r_iaI underlying209 ts169 (f.ev Y) (f.ev Y) g272.1 g272.2) (aV (pz Y fun _ f s => r_load1 ta169 (f.ev Y) (s.blk (i := 0) Y) (vI_get0 g272.1 g272.2)) (aV (pz Y fun _ f s => r_xor (f.ev Y) (f.ev Y)) (aV (pzc cf213 Y Y fun _ _ w s => ref03_rotl.calls s (bits .xor .u32 (rd z251.toList p2) (rd z251.toList p3)) 7 _ e288) aV0))))))))) Y fun M289 l290 => ni k255 ?_
 obtain ⟨g293, H⟩ := grd_s H
 refine wv Y (fun f s => r_iaI underlying209 ts169 (f.ev Y) (f.ev Y) g293.1 g293.2) (w_store (i := 0) (A' := vI .u32 (vs z251 p2 t283)) trivial Y Y Y Y ts169 Y (one1 Y) (idx_le g293.1 g293.2 (vI_len _) (by decide)) (vI_set0 g293.1 g293.2) (wk k254 (c_sr fun _ k294 => wv Y (fun f s => r_loadA ta209 ts209 (f.ev Y) (s.blk (i := 0) Y) (vI_all _) (vI_len _)) (w_store (i := 1) (A' := vI .u32 (vs z251 p2 t283)) trivial Y Y Y Y ts209 (vI_len _) (vI_one _) (by rw [vI_len]; decide) (vI_whole _ _) (wk k294 ?_)))))
 obtain rfl := some_r H
 exact cx hret Y fun f s => ⟨_, _, Res.of1 Y ⟨_, f.get _ _ Y, run_loadA (s.blk (i := 1) Y) ta209 ts209 (vI_all _) (vI_len _)⟩, s.ext, Y⟩
theorem ref03_Rounds.calls (hM : Sub M w) (p0 : (Vector Int 16)) (r : (Vector Int 16)) (H : ref03_Rounds p0 = some r) :
  Calls prog 188 [.agg (vI .u32 p0).toArray].toArray w (Post M w fun M' v => v = (.agg (vI .u32 r).toArray)) := by
 refine enter 44 [(0, .agg (vI .u32 p0).toArray)] func188 Y Y Y hM ?_
 intro Q hret
 unfold ref03_Rounds at H
 refine c_sr fun _ k1 => w_boxL trivial Y Y Y ?_
 intro b2
 refine w_allocL (A := vI .u32 (replicate 16 0)) tz209 trivial Y Y ?_
 intro b3
 refine wk k1 (c_sr fun _ k4 => ?_)
 obtain ⟨t5, e10, H⟩ := bnd H
 refine w_call cf203 trivial Y Y (fun w s => ref03_Order.calls s  _ e10) ?_
 rintro v155 M7 l8 ⟨v11, hv_, h12⟩
 replace hv_ := hv_.symm
 subst hv_
 refine va Y Y (wk k4 ?_)
 refine c_cut (fun a' w' => ∃ (x13 : (Vector Int 16)) (M14 : Heap), HLe M7 M14 ∧ Fr 44 [(1, ptr b2 0), (2, ptr b3 0)] a' ∧ St none' M w M14 (lt [bk b2 (vI .u32 x13) 209, bk b3 (vI .u32 (replicate 16 0)) 209]) w' ∧ ref03_Rounds.j1 x13 = some r) ?_ ?_
 ·refine c_seq ?_
  intro K17 k17
  refine c_reg (va Y Y (wk k17 (c_block ?_)))
  refine c_loop (fun (s18 : ((Vector Int 16) × Int)) a' w' => ∃ (M19 : Heap), HLe M7 M19 ∧ Fr 44 [(1, ptr b2 0), (2, ptr b3 0), (3, v11), (4, .int .i64 s18.2)] a' ∧ St none' M w M19 (lt [bk b2 (vI .u32 s18.1) 209, bk b3 (vI .u32 (replicate 16 0)) 209]) w') (p0, 0) H ?_ ?_
  ·intro a w' f s
   exact ⟨_, HLe.refl _, f.pk Y, s.selD [some 0, some 1] (by decide) Y⟩
  intro s18 y22 H r21 a w' hJ
  obtain ⟨M19, l20, f, s⟩ := hJ
  refine cof f s ?_
  unfold ref03_Rounds.l4 at H
  replace h12 := h12.mono l20
  refine c_seq fun K23 k23 => c_sr fun _ k24 => vm Y Y (v_lss Y Y Y (wk k24 (c_if Y (fun b25 => ?_) (fun b25 => ?_))))
  ·replace H := if_t b25 H
   refine cs k23 ?_
   refine c_cut (fun a' w' => ∃ (x26 : (Vector Int 16)) (M27 : Heap), HLe M19 M27 ∧ Fr 44 [(1, ptr b2 0), (2, ptr b3 0), (3, v11), (4, .int .i64 s18.2)] a' ∧ St none' M w M27 (lt [bk b2 (vI .u32 x26) 209, bk b3 (vI .u32 (replicate 16 0)) 209]) w' ∧ ref03_Rounds.j2 x26 s18 = some y22) ?_ ?_
   ·refine c_block (c_sr fun _ k29 => va Y Y (wk k29 (c_block ?_)))
    refine c_loop (fun (s30 : ((Vector Int 16) × Int)) a' w' => ∃ (M31 : Heap), HLe M19 M31 ∧ Fr 44 [(1, ptr b2 0), (2, ptr b3 0), (3, v11), (4, .int .i64 s18.2), (5, .int .i64 s30.2)] a' ∧ St none' M w M31 (lt [bk b2 (vI .u32 s30.1) 209, bk b3 (vI .u32 (replicate 16 0)) 209]) w') (s18.1, 0) H ?_ ?_
    ·intro a w' f s
     exact ⟨_, HLe.refl _, f.pk Y, s.selD [some 0, some 1] (by decide) Y⟩
    intro s30 y34 H r33 a w' hJ
    obtain ⟨M31, l32, f, s⟩ := hJ
    refine cof f s ?_
    unfold ref03_Rounds.l3 at H
    replace h12 := h12.mono l32
    refine c_seq fun K35 k35 => c_sr fun _ k36 => vm Y Y (vm Y Y (wv Y (fun f s => r_lenSS underlying254 h12 (f.ev Y)) (v_lss Y Y Y (wk k36 (c_if Y (fun b37 => ?_) (fun b37 => ?_))))))
    ·replace H := if_t b37 H
     refine cs k35 (c_seq fun K38 k38 => c_block (csp 25 (by kernel_rfl) ?_))
     intro K39 k39
     obtain ⟨g50, H⟩ := grd_s H
     obtain ⟨g61, H⟩ := grd_s H
     obtain ⟨g75, H⟩ := grd_s H
     obtain ⟨g86, H⟩ := grd_s H
     obtain ⟨g100, H⟩ := grd_s H
     obtain ⟨g111, H⟩ := grd_s H
     obtain ⟨g125, H⟩ := grd_s H
     obtain ⟨g136, H⟩ := grd_s H
     refine d_drawP [([], [1]), ([], [3]), ([], [5]), ([(1, 18), (2, 19)], []), ([(3, 20)], []), ([(4, 21)], []), ([(5, 22)], []), ([], [3]), ([], [5]), ([(7, 24), (8, 25)], []), ([(9, 26)], []), ([(10, 27)], []), ([(11, 28)], []), ([], [3]), ([], [5]), ([(13, 30), (14, 31)], []), ([(15, 32)], []), ([(16, 33)], []), ([(17, 34)], []), ([], [3]), ([], [5]), ([(19, 36), (20, 37)], []), ([(21, 38)], []), ([(22, 39)], []), ([(23, 40)], [])] [vq (.agg (vI .u32 s30.1).toArray), vq v11, vq (.int .i64 s30.2), vq (eP v11 s30.2 1 0), fun v M => ∃ (v54 : Value), v = v54 ∧ RS (FI .i64) M v54 (rd t5 s30.2), fun v M => ∃ (v58 : Value), v = (eP v58 0 1 0) ∧ RS (FI .i64) M v58 (rd t5 s30.2), vq (.int .i64 (rd (rd t5 s30.2) 0)), vq v11, vq (.int .i64 s30.2), vq (eP v11 s30.2 1 0), fun v M => ∃ (v79 : Value), v = v79 ∧ RS (FI .i64) M v79 (rd t5 s30.2), fun v M => ∃ (v83 : Value), v = (eP v83 1 1 0) ∧ RS (FI .i64) M v83 (rd t5 s30.2), vq (.int .i64 (rd (rd t5 s30.2) 1)), vq v11, vq (.int .i64 s30.2), vq (eP v11 s30.2 1 0), fun v M => ∃ (v104 : Value), v = v104 ∧ RS (FI .i64) M v104 (rd t5 s30.2), fun v M => ∃ (v108 : Value), v = (eP v108 2 1 0) ∧ RS (FI .i64) M v108 (rd t5 s30.2), vq (.int .i64 (rd (rd t5 s30.2) 2)), vq v11, vq (.int .i64 s30.2), vq (eP v11 s30.2 1 0), fun v M => ∃ (v129 : Value), v = v129 ∧ RS (FI .i64) M v129 (rd t5 s30.2), fun v M => ∃ (v133 : Value), v = (eP v133 3 1 0) ∧ RS (FI .i64) M v133 (rd t5 s30.2), vq (.int .i64 (rd (rd t5 s30.2) 3))] (by kernel_rfl) (by kernel_rfl) ?_ (aT ?_ (aT ?_ (aT ?_ (aT ?_ (aT ?_ (aT ?_ (aT ?_ (aT ?_ (aT ?_ (aT ?_ (aT ?_ (aT ?_ (aT ?_ (aT ?_ (aT ?_ (aT ?_ (aT ?_ (aT ?_ (aT ?_ (aT ?_ (aT ?_ (aT ?_ (aT ?_ (aT ?_ (aT ?_ AllT.nil))))))))))))))))))))))))) ?_
     ·exact (mC (mC (mC (mC (MonoA.cons (fun _ _ _ hM h => by obtain ⟨v54, e_, q0⟩ := h; exact ⟨v54, e_, q0.mono hM⟩) (MonoA.cons (fun _ _ _ hM h => by obtain ⟨v58, e_, q0⟩ := h; exact ⟨v58, e_, q0.mono hM⟩) (mC (mC (mC (mC (MonoA.cons (fun _ _ _ hM h => by obtain ⟨v79, e_, q0⟩ := h; exact ⟨v79, e_, q0.mono hM⟩) (MonoA.cons (fun _ _ _ hM h => by obtain ⟨v83, e_, q0⟩ := h; exact ⟨v83, e_, q0.mono hM⟩) (mC (mC (mC (mC (MonoA.cons (fun _ _ _ hM h => by obtain ⟨v104, e_, q0⟩ := h; exact ⟨v104, e_, q0.mono hM⟩) (MonoA.cons (fun _ _ _ hM h => by obtain ⟨v108, e_, q0⟩ := h; exact ⟨v108, e_, q0.mono hM⟩) (mC (mC (mC (mC (MonoA.cons (fun _ _ _ hM h => by obtain ⟨v129, e_, q0⟩ := h; exact ⟨v129, e_, q0.mono hM⟩) (MonoA.cons (fun _ _ _ hM h => by obtain ⟨v133, e_, q0⟩ := h; exact ⟨v133, e_, q0.mono hM⟩) (mC MonoA.nil)))))))))))))))))))))))))
     ·intro a w' _ _ hd s
      exact pv (hd.fr.add (hd.base 1 _ Y Y)) s Y (fun f s => r_loadA ta209 ts209 (f.ev Y) (s.blk (i := 0) Y) (vI_all _) (vI_len _)) Y
     ·intro a w' _ l43 hd s
      replace h12 := h12.mono l43
      exact pv (hd.fr.add (hd.base 3 _ Y Y)) s Y (fun f s => r_move (f.ev Y)) Y
     ·intro a w' _ _ hd s
      exact pv (hd.fr.add (hd.base 5 _ Y Y)) s Y (fun f s => r_move (f.ev Y)) Y
     ·intro a w' _ l47 hd s
      exact pv ((hd.fr.add (hd.val 2 19 _ Y Y)).add (hd.val 1 18 _ Y Y)) s Y (fun f s => r_iSS underlying254 ts70 (h12.mono l47) (f.ev Y) (f.ev Y) g50.1 g50.2) Y
     ·intro a w' M51 l52 hd s
      have e53 := hd.val 3 20 _ Y Y
      replace h12 := h12.mono l52
      refine OP.ofW (hd.fr.add e53) s Y (w_ex (Φ := fun v => RS (FI .i64) M51 v (rd t5 s30.2)) trivial Y (fun a w f s => r_loadSS ta70 h12 (St.sub s) g50.1 g50.2 (f.ev Y)) ?_)
      intro v54 h55
      exact w_nil fun a w' f s => ⟨Y, f.df, _, HLe.refl _, s, ⟨v54, f.get _ _ Y, h55⟩⟩
     ·intro a w' _ _ hd s
      obtain ⟨v58, e60, h59⟩ := hd.val 4 21 _ Y Y
      exact OP.ofW (hd.fr.add e60) s Y (wv Y (fun f s => r_iR underlying70 ts3 h59 (f.ev Y) (f.ev Y) g61.1 g61.2) (w_nil fun a w' f s => ⟨Y, f.df, _, HLe.refl _, s, ⟨v58, f.get _ _ Y, h59⟩⟩))
     ·intro a w' _ _ hd s
      obtain ⟨v64, e66, h65⟩ := hd.val 5 22 _ Y Y
      exact pv (hd.fr.add e66) s Y (fun f s => r_loadE1 ta3 h65 s.sub g61.1 g61.2 (f.ev Y) Y) Y
     ·intro a w' _ l68 hd s
      replace h12 := h12.mono l68
      exact pv (hd.fr.add (hd.base 3 _ Y Y)) s Y (fun f s => r_move (f.ev Y)) Y
     ·intro a w' _ _ hd s
      exact pv (hd.fr.add (hd.base 5 _ Y Y)) s Y (fun f s => r_move (f.ev Y)) Y
     ·intro a w' _ l72 hd s
      exact pv ((hd.fr.add (hd.val 8 25 _ Y Y)).add (hd.val 7 24 _ Y Y)) s Y (fun f s => r_iSS underlying254 ts70 (h12.mono l72) (f.ev Y) (f.ev Y) g75.1 g75.2) Y
     ·intro a w' M76 l77 hd s
      have e78 := hd.val 9 26 _ Y Y
      replace h12 := h12.mono l77
      refine OP.ofW (hd.fr.add e78) s Y (w_ex (Φ := fun v => RS (FI .i64) M76 v (rd t5 s30.2)) trivial Y (fun a w f s => r_loadSS ta70 h12 (St.sub s) g75.1 g75.2 (f.ev Y)) ?_)
      intro v79 h80
      exact w_nil fun a w' f s => ⟨Y, f.df, _, HLe.refl _, s, ⟨v79, f.get _ _ Y, h80⟩⟩
     ·intro a w' _ _ hd s
      obtain ⟨v83, e85, h84⟩ := hd.val 10 27 _ Y Y
      exact OP.ofW (hd.fr.add e85) s Y (wv Y (fun f s => r_iR underlying70 ts3 h84 (f.ev Y) (f.ev Y) g86.1 g86.2) (w_nil fun a w' f s => ⟨Y, f.df, _, HLe.refl _, s, ⟨v83, f.get _ _ Y, h84⟩⟩))
     ·intro a w' _ _ hd s
      obtain ⟨v89, e91, h90⟩ := hd.val 11 28 _ Y Y
      exact pv (hd.fr.add e91) s Y (fun f s => r_loadE1 ta3 h90 s.sub g86.1 g86.2 (f.ev Y) Y) Y
     ·intro a w' _ l93 hd s
      replace h12 := h12.mono l93
      exact pv (hd.fr.add (hd.base 3 _ Y Y)) s Y (fun f s => r_move (f.ev Y)) Y
     ·intro a w' _ _ hd s
      exact pv (hd.fr.add (hd.base 5 _ Y Y)) s Y (fun f s => r_move (f.ev Y)) Y
     ·intro a w' _ l97 hd s
      exact pv ((hd.fr.add (hd.val 14 31 _ Y Y)).add (hd.val 13 30 _ Y Y)) s Y (fun f s => r_iSS underlying254 ts70 (h12.mono l97) (f.ev Y) (f.ev Y) g100.1 g100.2) Y
     ·intro a w' M101 l102 hd s
      have e103 := hd.val 15 32 _ Y Y
      replace h12 := h12.mono l102
      refine OP.ofW (hd.fr.add e103) s Y (w_ex (Φ := fun v => RS (FI .i64) M101 v (rd t5 s30.2)) trivial Y (fun a w f s => r_loadSS ta70 h12 (St.sub s) g100.1 g100.2 (f.ev Y)) ?_)
      intro v104 h105
      exact w_nil fun a w' f s => ⟨Y, f.df, _, HLe.refl _, s, ⟨v104, f.get _ _ Y, h105⟩⟩
     ·intro a w' _ _ hd s
      obtain ⟨v108, e110, h109⟩ := hd.val 16 33 _ Y Y
      exact OP.ofW (hd.fr.add e110) s Y (wv Y (fun f s => r_iR underlying70 ts3 h109 (f.ev Y) (f.ev Y) g111.1 g111.2) (w_nil fun a w' f s => ⟨Y, f.df, _, HLe.refl _, s, ⟨v108, f.get _ _ Y, h109⟩⟩))
     ·intro a w' _ _ hd s
      obtain ⟨v114, e116, h115⟩ := hd.val 17 34 _ Y Y
      exact pv (hd.fr.add e116) s Y (fun f s => r_loadE1 ta3 h115 s.sub g111.1 g111.2 (f.ev Y) Y) Y
     ·intro a w' _ l118 hd s
      replace h12 := h12.mono l118
      exact pv (hd.fr.add (hd.base 3 _ Y Y)) s Y (fun f s => r_move (f.ev Y)) Y
     ·intro a w' _ _ hd s
      exact pv (hd.fr.add (hd.base 5 _ Y Y)) s Y (fun f s => r_move (f.ev Y)) Y
     ·intro a w' _ l122 hd s
      exact pv ((hd.fr.add (hd.val 20 37 _ Y Y)).add (hd.val 19 36 _ Y Y)) s Y (fun f s => r_iSS underlying254 ts70 (h12.mono l122) (f.ev Y) (f.ev Y) g125.1 g125.2) Y
     ·intro a w' M126 l127 hd s
      have e128 := hd.val 21 38 _ Y Y
      replace h12 := h12.mono l127
      refine OP.ofW (hd.fr.add e128) s Y (w_ex (Φ := fun v => RS (FI .i64) M126 v (rd t5 s30.2)) trivial Y (fun a w f s => r_loadSS ta70 h12 (St.sub s) g125.1 g125.2 (f.ev Y)) ?_)
      intro v129 h130
      exact w_nil fun a w' f s => ⟨Y, f.df, _, HLe.refl _, s, ⟨v129, f.get _ _ Y, h130⟩⟩
     ·intro a w' _ _ hd s
      obtain ⟨v133, e135, h134⟩ := hd.val 22 39 _ Y Y
      exact OP.ofW (hd.fr.add e135) s Y (wv Y (fun f s => r_iR underlying70 ts3 h134 (f.ev Y) (f.ev Y) g136.1 g136.2) (w_nil fun a w' f s => ⟨Y, f.df, _, HLe.refl _, s, ⟨v133, f.get _ _ Y, h134⟩⟩))
     ·intro a w' _ _ hd s
      obtain ⟨v139, e141, h140⟩ := hd.val 23 40 _ Y Y
      exact pv (hd.fr.add e141) s Y (fun f s => r_loadE1 ta3 h140 s.sub g136.1 g136.2 (f.ev Y) Y) Y
     intro a w' M142 l143 hdf hsz hb hv s
     have e144 := hv 0 17 _ Y Y
     have e145 := hv 6 23 _ Y Y
     have e146 := hv 12 29 _ Y Y
     have e147 := hv 18 35 _ Y Y
     have e148 := hv 24 41 _ Y Y
     refine n_of (c := (Cx.mk prog 44 none' M w)) ?_ (((((((((((Fr.start hdf hsz).add e148).add e147).add e146).add e145).add e144).add (hb 5 _ Y Y)).add (hb 4 _ Y Y)).add (hb 3 _ Y Y)).add (hb 2 _ Y Y)).add (hb 1 _ Y Y)) s
     refine ni k39 ?_
     obtain ⟨t149, e154, H⟩ := bnd H
     refine w_call cf204 trivial Y Y (fun w s => ref03_quarter.calls s s30.1 (rd (rd t5 s30.2) 0) (rd (rd t5 s30.2) 1) (rd (rd t5 s30.2) 2) (rd (rd t5 s30.2) 3) _ e154) ?_
     rintro _ M151 l152 rfl
     exact w_store (i := 0) (A' := vI .u32 t149) trivial Y Y Y Y ts209 (vI_len _) (vI_one _) (by rw [vI_len]; decide) (vI_whole _ _) (wk k38 (c_reg (vm Y Y (v_add Y Y Y (va Y Y (w_nil fun a w' f s => ⟨_, (some_r H).symm, _, l32.trans (l143.trans l152), f.pk Y, s.selD [some 0, some 1] (by decide) Y⟩))))))
    replace H := if_f b37 H
    replace H := map_inr H r33
    refine c_exit ?_
    intro a w' f s
    exact ⟨s30.1, _, l32, f.pk Y, s.selD [some 0, some 1] (by decide) Y, H⟩
   rintro a w' ⟨x26, M27, l28, f, s, H⟩
   refine cof f s ?_
   unfold ref03_Rounds.j2 at H
   exact c_reg (vm Y Y (v_add Y Y Y (va Y Y (w_nil fun a w' f s => ⟨_, (some_r H).symm, _, l20.trans l28, f.pk Y, s.selD [some 0, some 1] (by decide) Y⟩))))
  replace H := if_f b25 H
  replace H := map_inr H r21
  refine c_exit ?_
  intro a w' f s
  exact ⟨s18.1, _, l20, f.pk Y, s.selD [some 0, some 1] (by decide) Y, H⟩
 rintro a w' ⟨x13, M14, l15, f, s, H⟩
 refine cof f s ?_
 unfold ref03_Rounds.j1 at H
 refine c_sr fun _ k16 => wv Y (fun f s => r_loadA ta209 ts209 (f.ev Y) (s.blk (i := 0) Y) (vI_all _) (vI_len _)) (w_store (i := 1) (A' := vI .u32 x13) trivial Y Y Y Y ts209 (vI_len _) (vI_one _) (by rw [vI_len]; decide) (vI_whole _ _) (wk k16 ?_))
 obtain rfl := some_r H
 exact cx hret Y fun f s => ⟨_, _, Res.of1 Y ⟨_, f.get _ _ Y, run_loadA (s.blk (i := 1) Y) ta209 ts209 (vI_all _) (vI_len _)⟩, s.ext, Y⟩
theorem ref03_Block.calls (hM : Sub M w) (p0 : (List UInt8)) (p1 : Int) (p2 : (List UInt8)) (r : ((List UInt8) × Int)) (H : ref03_Block p0 p1 p2 = some r) :
  Calls prog 163 [str p0, .int .u32 p1, str p2].toArray w (Post M w fun M' v => v = .tuple #[str r.1, .int .i64 r.2]) := by
 refine enter 53 [(0, str p0), (1, .int .u32 p1), (2, str p2)] func163 Y Y Y hM ?_
 intro Q hret
 unfold ref03_Block at H
 refine c_sr fun _ k1 => va Y Y (va Y Y (wk k1 (c_sr fun _ k2 => vm Y Y (vm Y Y (vm Y Y ?_)))))
 obtain ⟨t3, e8, H⟩ := bnd H
 refine w_call cf162 trivial Y Y (fun w s => ref03_State.calls s p0 p1 p2 _ e8) ?_
 rintro _ M5 l6 rfl
 refine vm Y Y (v_extract Y Y Y (v_extract Y Y Y (w_allocL (A := vI .u32 (replicate 16 0)) tz209 trivial Y Y ?_)))
 intro b9
 refine w_store (i := 0) (A' := vI .u32 t3.1) trivial Y Y Y Y ts209 (vI_len _) (vI_one _) (by rw [vI_len]; decide) (vI_whole _ _) (va Y Y (wk k2 (c_seq fun K10 k10 => c_sr fun _ k11 => vm Y Y (wv Y (fun f s => r_neq (f.ev Y) (f.ev Y)) (wk k11 (c_if Y (fun b12 => ?_) (fun b12 => ?_)))))))
 ·replace H := if_t b12 H
  refine c_sr fun _ k13 => vm Y Y (va Y Y (va Y Y (wk k13 ?_)))
  obtain rfl := some_r H
  exact cx2 hret Y Y Y Y Y
 replace H := if_f b12 H
 refine cs k10 (c_sr fun _ k14 => wv Y (fun f s => r_loadA ta209 ts209 (f.ev Y) (s.blk (i := 0) Y) (vI_all _) (vI_len _)) ?_)
 obtain ⟨t15, e20, H⟩ := bnd H
 refine w_call cf188 trivial Y Y (fun w s => ref03_Rounds.calls s t3.1 _ e20) ?_
 rintro _ M17 l18 rfl
 refine w_allocL (A := vI .u32 (replicate 16 0)) tz209 trivial Y Y ?_
 intro b21
 refine w_store (i := 1) (A' := vI .u32 t15) trivial Y Y Y Y ts209 (vI_len _) (vI_one _) (by rw [vI_len]; decide) (vI_whole _ _) (wk k14 (c_sr fun _ k22 => va Y Y (wk k22 (c_row0 5 1 ?_))))
 refine c_cut (fun a' w' => ∃ (x23 : (List Int)) (v24 : Value) (M25 : Heap), HLe M17 M25 ∧ Fr 53 [(11, v24)] a' ∧ St none' M w M25 (lt [dead, dead, rowI (FI .u8) v24 5 x23]) w' ∧ ref03_Block.j1 x23 = some r) ?_ ?_
 ·refine c_seq ?_
  intro K31 k31
  refine c_reg (va Y Y (wk k31 (c_block ?_)))
  refine c_loop (fun (s32 : ((List Int) × Int)) a' w' => ∃ (v33 : Value) (M34 : Heap), HLe M17 M34 ∧ Fr 53 [(8, ptr b9 0), (10, ptr b21 0), (11, v33), (12, .int .i64 s32.2)] a' ∧ St none' M w M34 (lt [bk b9 (vI .u32 t3.1) 209, bk b21 (vI .u32 t15) 209, rowI (FI .u8) v33 5 s32.1]) w') (([] : (List Int)), 0) H ?_ ?_
  ·intro a w' f s
   exact ⟨.slice none 0 0, _, HLe.refl _, f.pk Y, s.selD [some 0, some 1, some 2] (by decide) Y⟩
  intro s32 y37 H r36 a w' hJ
  obtain ⟨v33, M34, l35, f, s⟩ := hJ
  refine cof f s ?_
  unfold ref03_Block.l2 at H
  refine c_seq fun K38 k38 => c_sr fun _ k39 => vm Y Y (v_lss Y Y Y (wk k39 (c_if Y (fun b40 => ?_) (fun b40 => ?_))))
  ·replace H := if_t b40 H
   refine cs k38 (c_seq fun K41 k41 => c_block (c_seq fun K42 k42 => ?_))
   obtain ⟨g48, H⟩ := grd_s H
   obtain ⟨g57, H⟩ := grd_s H
   refine cV [([], [12]), ([(0, 30)], [8]), ([(1, 31)], []), ([], [12]), ([(3, 33)], [10]), ([(4, 34)], []), ([(2, 32), (5, 35)], []), ([(6, 36)], [])] (by kernel_rfl) (aV (pz Y fun _ f s => r_move (f.ev Y)) (aV (pz Y fun _ f s => r_iaI underlying209 ts169 (f.ev Y) (f.ev Y) g48.1 g48.2) (aV (pz Y fun _ f s => r_load1 ta169 (f.ev Y) (s.blk (i := 0) Y) (vI_get0 g48.1 g48.2)) (aV (pz Y fun _ f s => r_move (f.ev Y)) (aV (pz Y fun _ f s => r_iaI underlying209 ts169 (f.ev Y) (f.ev Y) g57.1 g57.2) (aV (pz Y fun _ f s => r_load1 ta169 (f.ev Y) (s.blk (i := 1) Y) (vI_get0 g57.1 g57.2)) (aV (pz Y fun _ f s => r_add (f.ev Y) (f.ev Y)) (aV (pz Y fun _ f s => r_assign (f.ev Y)) aV0)))))))) Y fun M68 l69 => ni k42 (c_reg (vm Y Y (vm Y Y (wv Y (fun f s => r_conv underlying169 underlying5 (f.ev Y)) (vm Y Y (wv Y (fun f s => r_shr (f.ev Y) (f.ev Y) (by decide)) (wv Y (fun f s => r_conv underlying169 underlying5 (f.ev Y)) (vm Y Y (wv Y (fun f s => r_shr (f.ev Y) (f.ev Y) (by decide)) (wv Y (fun f s => r_conv underlying169 underlying5 (f.ev Y)) ?_))))))))))
   refine vm Y Y (wv Y (fun f s => r_shr (f.ev Y) (f.ev Y) (by decide)) (wv Y (fun f s => r_conv underlying169 underlying5 (f.ev Y)) (w_bsl (F := (FI .u8)) (es := ([u8.wrap (u32.wrap ((rd t3.1.toList s32.2) + (rd t15.toList s32.2))), u8.wrap (shrI .u32 (u32.wrap ((rd t3.1.toList s32.2) + (rd t15.toList s32.2))) 8), u8.wrap (shrI .u32 (u32.wrap ((rd t3.1.toList s32.2) + (rd t15.toList s32.2))) 16), u8.wrap (shrI .u32 (u32.wrap ((rd t3.1.toList s32.2) + (rd t15.toList s32.2))) 24)] : List Int)) (xs := [.tmp 39, .tmp 42, .tmp 45, .tmp 48]) underlying91 te5 trivial Y Y Y Y Y (by decide) ?_)))
   intro v71 M72 l73 h74 c75
   obtain ⟨g76, H⟩ := grd_s H
   refine w_app (F := (FI .u8)) (m2 := ([u8.wrap (u32.wrap ((rd t3.1.toList s32.2) + (rd t15.toList s32.2))), u8.wrap (shrI .u32 (u32.wrap ((rd t3.1.toList s32.2) + (rd t15.toList s32.2))) 8), u8.wrap (shrI .u32 (u32.wrap ((rd t3.1.toList s32.2) + (rd t15.toList s32.2))) 16), u8.wrap (shrI .u32 (u32.wrap ((rd t3.1.toList s32.2) + (rd t15.toList s32.2))) 24)] : List Int)) (i := 2) underlying91 te5 underlying91 (.inl ⟨_, Y⟩) trivial Y Y Y Y (Src.rs (FI.one _) h74) g76 ?_
   intro v77
   exact va Y Y (wk k41 (c_reg (vm Y Y (v_add Y Y Y (va Y Y (w_nil fun a w' f s => ⟨_, (some_r H).symm, v77, _, l35.trans (l69.trans l73), f.pk Y, s.selD [some 0, some 1, some 2] (by decide) Y⟩))))))
  replace H := if_f b40 H
  replace H := map_inr H r36
  refine c_exit ?_
  intro a w' f s
  exact ⟨s32.1, v33, _, l35, f.pk Y, s.selD [none, none, some 2] (by decide) Y, H⟩
 rintro a w' ⟨x23, v24, M25, l26, f, s, H⟩
 refine cof f s ?_
 unfold ref03_Block.j1 at H
 refine c_sr fun _ k27 => vm Y Y (w_give 2 Y (fun _ h => h) ?_)
 intro M28 l29 h30
 refine wv Y (fun f s => r_b2s underlying91 underlying5 underlying9 h30 s.sub (f.ev Y)) (va Y Y (va Y Y (wk k27 ?_)))
 obtain rfl := some_r H
 exact cx2 hret Y Y Y Y Y
theorem ref03_Xor.calls (hM : Sub M w) (p0 : (List UInt8)) (p1 : Int) (p2 : (List UInt8)) (p3 : (List UInt8)) (r : ((List UInt8) × Int)) (H : ref03_Xor p0 p1 p2 p3 = some r) :
  Calls prog 118 [str p0, .int .u32 p1, str p2, str p3].toArray w (Post M w fun M' v => v = .tuple #[str r.1, .int .i64 r.2]) := by
 refine enter 62 [(0, str p0), (1, .int .u32 p1), (2, str p2), (3, str p3)] func118 Y Y Y hM ?_
 intro Q hret
 unfold ref03_Xor at H
 refine c_sr fun _ k1 => va Y Y (va Y Y (wk k1 (c_sr fun _ k2 => vm Y Y (vm Y Y (vm Y Y ?_)))))
 obtain ⟨t3, e8, H⟩ := bnd H
 refine w_call cf162 trivial Y Y (fun w s => ref03_State.calls s p0 p1 p2 _ e8) ?_
 rintro _ M5 l6 rfl
 refine vm Y Y (v_extract Y Y Y (v_extract Y Y Y (w_allocL (A := vI .u32 (replicate 16 0)) tz209 trivial Y Y ?_)))
 intro b9
 refine w_store (i := 0) (A' := vI .u32 t3.1) trivial Y Y Y Y ts209 (vI_len _) (vI_one _) (by rw [vI_len]; decide) (vI_whole _ _) (va Y Y (wk k2 (c_seq fun K10 k10 => c_sr fun _ k11 => vm Y Y (wv Y (fun f s => r_neq (f.ev Y) (f.ev Y)) (wk k11 (c_if Y (fun b12 => ?_) (fun b12 => ?_)))))))
 ·replace H := if_t b12 H
  refine c_sr fun _ k13 => vm Y Y (va Y Y (va Y Y (wk k13 ?_)))
  obtain rfl := some_r H
  exact cx2 hret Y Y Y Y Y
 replace H := if_f b12 H
 refine cs k10 (c_sr fun _ k14 => va Y Y (wk k14 (c_row0 5 1 ?_)))
 refine c_cut (fun a' w' => ∃ (x15 : (List Int)) (v16 : Value) (M17 : Heap), HLe M5 M17 ∧ Fr 62 [(12, v16)] a' ∧ St none' M w M17 (lt [dead, rowI (FI .u8) v16 5 x15]) w' ∧ ref03_Xor.j1 x15 = some r) ?_ ?_
 ·refine c_block ?_
  refine c_loop (fun (s23 : ((List Int) × Int × (List UInt8))) a' w' => ∃ (v24 : Value) (M25 : Heap), HLe M5 M25 ∧ Fr 62 [(0, str p0), (1, .int .u32 s23.2.1), (2, str p2), (3, str s23.2.2), (12, v24)] a' ∧ St none' M w M25 (lt [dead, rowI (FI .u8) v24 5 s23.1]) w') (([] : (List Int)), p1, p3) H ?_ ?_
  ·intro a w' f s
   exact ⟨.slice none 0 0, _, HLe.refl _, f.pk Y, s.selD [none, some 1] (by decide) Y⟩
  intro s23 y28 H r27 a w' hJ
  obtain ⟨v24, M25, l26, f, s⟩ := hJ
  refine cof f s ?_
  unfold ref03_Xor.l4 at H
  refine c_seq fun K29 k29 => c_sr fun _ k30 => vm Y Y (wv Y (fun f s => r_slen underlying9 (f.ev Y)) (wv Y (fun f s => r_gtr (f.ev Y) (f.ev Y)) (wk k30 (c_if Y (fun b31 => ?_) (fun b31 => ?_)))))
  ·replace H := if_t b31 H
   refine cs k29 (c_block (c_sr fun _ k32 => vm Y Y (vm Y Y (vm Y Y ?_))))
   obtain ⟨t33, e38, H⟩ := bnd H
   refine w_call cf163 trivial Y Y (fun w s => ref03_Block.calls s p0 s23.2.1 p2 _ e38) ?_
   rintro _ M35 l36 rfl
   refine vm Y Y (v_extract Y Y Y (v_extract Y Y Y (va Y Y (va Y Y (wk k32 (c_sr fun _ k39 => vm Y Y (wv Y (fun f s => r_slen underlying9 (f.ev Y)) (wv Y (fun f s => r_min (f.ev Y) (f.ev Y)) (va Y Y (wk k39 ?_))))))))))
   refine c_cut (fun a' w' => ∃ (x40 : (List Int)) (v41 : Value) (M42 : Heap), HLe M35 M42 ∧ Fr 62 [(0, str p0), (1, .int .u32 s23.2.1), (2, str p2), (3, str s23.2.2), (12, v41), (15, .int .i64 (if (s23.2.2.length : Int) < 64 then (s23.2.2.length : Int) else 64))] a' ∧ St none' M w M42 (lt [dead, rowI (FI .u8) v41 5 x40]) w' ∧ ref03_Xor.j2 s23 x40 = some y28) ?_ ?_
   ·refine c_seq ?_
    intro K46 k46
    refine c_reg (va Y Y (wk k46 (c_block ?_)))
    refine c_loop (fun (s47 : ((List Int) × Int)) a' w' => ∃ (v48 : Value) (M49 : Heap), HLe M35 M49 ∧ Fr 62 [(0, str p0), (1, .int .u32 s23.2.1), (2, str p2), (3, str s23.2.2), (12, v48), (13, str t33.1), (15, .int .i64 (if (s23.2.2.length : Int) < 64 then (s23.2.2.length : Int) else 64)), (16, .int .i64 s47.2)] a' ∧ St none' M w M49 (lt [dead, rowI (FI .u8) v48 5 s47.1]) w') (s23.1, 0) H ?_ ?_
    ·intro a w' f s
     exact ⟨v24, _, HLe.refl _, f.pk Y, s.selD [none, some 1] (by decide) Y⟩
    intro s47 y52 H r51 a w' hJ
    obtain ⟨v48, M49, l50, f, s⟩ := hJ
    refine cof f s ?_
    unfold ref03_Xor.l3 at H
    refine c_seq fun K53 k53 => c_sr fun _ k54 => vm Y Y (vm Y Y (v_lss Y Y Y (wk k54 (c_if Y (fun b55 => ?_) (fun b55 => ?_)))))
    ·replace H := if_t b55 H
     refine cs k53 (c_seq fun K56 k56 => c_block (csp 9 (by kernel_rfl) ?_))
     intro K57 k57
     obtain ⟨g68, H⟩ := grd_s H
     obtain ⟨g77, H⟩ := grd_s H
     refine d_drawP [([], [12]), ([], [3]), ([], [16]), ([(1, 46), (2, 47)], []), ([], [13]), ([], [16]), ([(4, 49), (5, 50)], []), ([(3, 48), (6, 51)], []), ([(7, 52)], [])] [vq v48, vq (str s23.2.2), vq (.int .i64 s47.2), vq (.int .u8 (sbyte s23.2.2 s47.2)), vq (str t33.1), vq (.int .i64 s47.2), vq (.int .u8 (sbyte t33.1 s47.2)), vq (.int .u8 (bits .xor .u8 (sbyte s23.2.2 s47.2) (sbyte t33.1 s47.2))), fun v M => ∃ (v85 : Value), v = v85 ∧ RS (FI .u8) M v85 ([bits .xor .u8 (sbyte s23.2.2 s47.2) (sbyte t33.1 s47.2)] : List Int) ∧ ∃ A, v85 = .slice A ([bits .xor .u8 (sbyte s23.2.2 s47.2) (sbyte t33.1 s47.2)] : List Int).length ([bits .xor .u8 (sbyte s23.2.2 s47.2) (sbyte t33.1 s47.2)] : List Int).length] (by kernel_rfl) (by kernel_rfl) ?_ (aT ?_ (aT ?_ (aT ?_ (aT ?_ (aT ?_ (aT ?_ (aT ?_ (aT ?_ (aT ?_ AllT.nil))))))))) ?_
     ·exact (mC (mC (mC (mC (mC (mC (mC (mC (MonoA.cons (fun _ _ _ hM h => by obtain ⟨v85, e_, q0, q1⟩ := h; exact ⟨v85, e_, q0.mono hM, q1⟩) MonoA.nil)))))))))
     ·intro a w' _ _ hd s
      exact pv (hd.fr.add (hd.base 12 _ Y Y)) s Y (fun f s => r_move (f.ev Y)) Y
     ·intro a w' _ _ hd s
      exact pv (hd.fr.add (hd.base 3 _ Y Y)) s Y (fun f s => r_move (f.ev Y)) Y
     ·intro a w' _ _ hd s
      exact pv (hd.fr.add (hd.base 16 _ Y Y)) s Y (fun f s => r_move (f.ev Y)) Y
     ·intro a w' _ _ hd s
      exact pv ((hd.fr.add (hd.val 2 47 _ Y Y)).add (hd.val 1 46 _ Y Y)) s Y (fun f s => r_sidx underlying9 (f.ev Y) (f.ev Y) g68.1 g68.2) Y
     ·intro a w' _ _ hd s
      exact pv (hd.fr.add (hd.base 13 _ Y Y)) s Y (fun f s => r_move (f.ev Y)) Y
     ·intro a w' _ _ hd s
      exact pv (hd.fr.add (hd.base 16 _ Y Y)) s Y (fun f s => r_move (f.ev Y)) Y
     ·intro a w' _ _ hd s
      exact pv ((hd.fr.add (hd.val 5 50 _ Y Y)).add (hd.val 4 49 _ Y Y)) s Y (fun f s => r_sidx underlying9 (f.ev Y) (f.ev Y) g77.1 g77.2) Y
     ·intro a w' _ _ hd s
      exact pv ((hd.fr.add (hd.val 6 51 _ Y Y)).add (hd.val 3 48 _ Y Y)) s Y (fun f s => r_xor (f.ev Y) (f.ev Y)) Y
     ·intro a w' _ _ hd s
      have e84 := hd.val 7 52 _ Y Y
      refine OP.ofW (hd.fr.add e84) s Y (w_bsl (F := (FI .u8)) (es := ([bits .xor .u8 (sbyte s23.2.2 s47.2) (sbyte t33.1 s47.2)] : List Int)) (xs := [.tmp 52]) underlying91 te5 trivial Y Y Y Y Y (by decide) ?_)
      intro v85 M86 l87 h88 c89
      exact w_nil fun a w' f s => ⟨Y, f.df, _, l87, s, ⟨v85, f.get _ _ Y, h88, c89⟩⟩
     intro a w' M90 l91 hdf hsz hb hv s
     have e92 := hv 0 45 _ Y Y
     obtain ⟨v93, e97, h94, h96⟩ := hv 8 53 _ Y Y
     refine n_of (c := (Cx.mk prog 62 none' M w)) ?_ ((((((((((Fr.start hdf hsz).add e97).add e92).add (hb 16 _ Y Y)).add (hb 15 _ Y Y)).add (hb 13 _ Y Y)).add (hb 3 _ Y Y)).add (hb 2 _ Y Y)).add (hb 1 _ Y Y)).add (hb 0 _ Y Y)) s
     refine ni k57 ?_
     obtain ⟨g98, H⟩ := grd_s H
     refine w_app (F := (FI .u8)) (m2 := ([bits .xor .u8 (sbyte s23.2.2 s47.2) (sbyte t33.1 s47.2)] : List Int)) (i := 1) underlying91 te5 underlying91 (.inl ⟨_, Y⟩) trivial Y Y Y Y (Src.rs (FI.one _) h94) g98 ?_
     intro v99
     exact va Y Y (wk k56 (c_reg (vm Y Y (v_add Y Y Y (va Y Y (w_nil fun a w' f s => ⟨_, (some_r H).symm, v99, _, l50.trans l91, f.pk Y, s.selD [none, some 1] (by decide) Y⟩))))))
    replace H := if_f b55 H
    replace H := map_inr H r51
    refine c_exit ?_
    intro a w' f s
    exact ⟨s47.1, v48, _, l50, f.pk Y, s.selD [none, some 1] (by decide) Y, H⟩
   rintro a w' ⟨x40, v41, M42, l43, f, s, H⟩
   refine cof f s ?_
   unfold ref03_Xor.j2 at H
   refine c_sr fun _ k44 => vm Y Y (vm Y Y ?_)
   obtain ⟨g45, H⟩ := grd_s H
   exact wv Y (fun f s => r_sslice underlying9 (f.ev Y) ⟨_, f.ev Y⟩ rfl g45.1 g45.2.1 g45.2.2) (va Y Y (wk k44 (c_reg (vm Y Y (v_add Y Y Y (va Y Y (w_nil fun a w' f s => ⟨_, (some_r H).symm, v41, _, l26.trans (l36.trans l43), f.pk Y, s.selD [none, some 1] (by decide) Y⟩)))))))
  replace H := if_f b31 H
  replace H := map_inr H r27
  refine c_exit ?_
  intro a w' f s
  exact ⟨s23.1, v24, _, l26, f.pk Y, s.selD [none, some 1] (by decide) Y, H⟩
 rintro a w' ⟨x15, v16, M17, l18, f, s, H⟩
 refine cof f s ?_
 unfold ref03_Xor.j1 at H
 refine c_sr fun _ k19 => vm Y Y (w_give 1 Y (fun _ h => h) ?_)
 intro M20 l21 h22
 refine wv Y (fun f s => r_b2s underlying91 underlying5 underlying9 h22 s.sub (f.ev Y)) (va Y Y (va Y Y (wk k19 ?_)))
 obtain rfl := some_r H
 exact cx2 hret Y Y Y Y Y
theorem ref04_tag.calls (hM : Sub M w) (hG : Gl M) (p0 : (List UInt8)) (p1 : (List UInt8)) (p2 : (List UInt8)) (p3 : (List UInt8)) (r : (List UInt8)) (H : ref04_tag p0 p1 p2 p3 = some r) :
  Calls prog 119 [str p0, str p1, str p2, str p3].toArray w (Post M w fun M' v => v = (str r)) := by
 refine enter 20 [(0, str p0), (1, str p1), (2, str p2), (3, str p3)] func119 Y Y Y hM ?_
 intro Q hret
 unfold ref04_tag at H
 refine c_sr fun _ k1 => va Y Y (wk k1 (c_sr fun _ k2 => vm Y Y (vm Y Y ?_)))
 obtain ⟨g3, H⟩ := grd_s H
 refine wv Y (fun f s => r_sadd (f.ev Y) (f.ev Y) g3) (vm Y Y ?_)
 obtain ⟨t4, e9, H⟩ := bnd H
 refine w_call cf60 trivial Y Y (fun w s => ref01_Bytes.calls s p2 _ e9) ?_
 rintro v21 M6 l7 ⟨v10, hv_, h11⟩
 replace hv_ := hv_.symm
 subst hv_
 replace hG := hG.mono l7
 refine wv Y (fun f s => r_b2s underlying91 underlying5 underlying9 h11 s.sub (f.ev Y)) ?_
 obtain ⟨g12, H⟩ := grd_s H
 refine wv Y (fun f s => r_sadd (f.ev Y) (f.ev Y) g12) (vm Y Y ?_)
 obtain ⟨g13, H⟩ := grd_s H
 refine wv Y (fun f s => r_sadd (f.ev Y) (f.ev Y) g13) ?_
 obtain ⟨t14, e19, H⟩ := bnd H
 refine w_call cf120 trivial Y Y (fun w s => ref02_Mac.calls s hG p0 (((([116, 97, 103] : List UInt8) ++ p1) ++ (intsB t4)) ++ p3) _ e19) ?_
 rintro _ M16 l17 rfl
 obtain ⟨g20, H⟩ := grd_s H
 refine wv Y (fun f s => r_sslice underlying9 (f.ev Y) Y ⟨_, f.ev Y⟩ g20.1 g20.2.1 g20.2.2) (va Y Y (wk k2 ?_))
 obtain rfl := some_r H
 exact cx1 hret Y Y Y Y
theorem ref04_Seal.calls (hM : Sub M w) (hG : Gl M) (p0 : (List UInt8)) (p1 : (List UInt8)) (p2 : (List UInt8)) (r : ((List UInt8) × Int)) (H : ref04_Seal p0 p1 p2 = some r) :
  Calls prog 57 [str p0, str p1, str p2].toArray w (Post M w fun M' v => v = .tuple #[str r.1, .int .i64 r.2]) := by
 refine enter 51 [(0, str p0), (1, str p1), (2, str p2)] func57 Y Y Y hM ?_
 intro Q hret
 unfold ref04_Seal at H
 refine c_sr fun _ k1 => va Y Y (va Y Y (wk k1 (c_sr fun _ k2 => vm Y Y ?_)))
 obtain ⟨t3, e8, H⟩ := bnd H
 refine w_call cf116 trivial Y Y (fun w s => ref04_Keys.calls s hG p0 _ e8) ?_
 rintro _ M5 l6 rfl
 replace hG := hG.mono l6
 refine vm Y Y (v_extract Y Y Y (v_extract Y Y Y (v_extract Y Y Y (va Y Y (va Y Y (va Y Y (wk k2 (c_seq fun K9 k9 => c_sr fun _ k10 => vm Y Y (wv Y (fun f s => r_neq (f.ev Y) (f.ev Y)) (wk k10 (c_if Y (fun b11 => ?_) (fun b11 => ?_))))))))))))
 ·replace H := if_t b11 H
  refine c_sr fun _ k12 => vm Y Y (va Y Y (va Y Y (wk k12 ?_)))
  obtain rfl := some_r H
  exact cx2 hret Y Y Y Y Y
 replace H := if_f b11 H
 refine cs k9 (c_seq fun K13 k13 => ?_)
 obtain ⟨t14, H1, H⟩ := bnd H
 refine c_cut (fun a' w' => ∃ (M15 : Heap), HLe M5 M15 ∧ Fr 51 [(1, str p1), (2, str p2), (8, str t3.1), (9, str t3.2.1), (30, .bool t14)] a' ∧ St none' M w M15 (lt []) w') ?_ ?_
 ·replace H := H1
  refine c_reg (vm Y Y (wv Y (fun f s => r_slen underlying9 (f.ev Y)) (wv Y (fun f s => r_gtr (f.ev Y) (f.ev Y)) (vm Y Y ?_))))
  by_cases b17 : (decide ((1048576 : Int) < (p1.length : Int))) = true
  ·replace H := if_t b17 H
   refine wq b17 Y Y Y (wq b17 Y Y Y (wq b17 Y Y Y (wv Y (fun f s => r_pickT (f.ev Y) b17 (f.ev Y)) ?_)))
   obtain rfl := some_r H
   exact w_nil fun a w' f s => ⟨_, HLe.refl _, f.pk Y, s.sel [] (by decide) Y⟩
  replace b17 := Bool.eq_false_iff.2 b17
  replace H := if_f b17 H
  refine wg b17 Y Y Y (fun f s => r_move (f.ev Y)) (wg b17 Y Y Y (fun f s => r_slen underlying9 (f.ev Y)) (wg b17 Y Y Y (fun f s => r_gtr (f.ev Y) (f.ev Y)) (wv Y (fun f s => r_pickF (f.ev Y) b17 (f.ev Y)) ?_)))
  obtain rfl := some_r H
  exact w_nil fun a w' f s => ⟨_, HLe.refl _, f.pk Y, s.sel [] (by decide) Y⟩
 rintro a w' ⟨M15, l16, f, s⟩
 refine cof f s ?_
 replace hG := hG.mono l16
 refine c_if Y (fun b18 => ?_) (fun b18 => ?_)
 ·replace H := if_t b18 H
  refine c_sr fun _ k19 => va Y Y (va Y Y (wk k19 ?_))
  obtain rfl := some_r H
  exact cx2 hret Y Y Y Y Y
 replace H := if_f b18 H
 refine cs k13 (c_sr fun _ k20 => vm Y Y (vm Y Y (vm Y Y ?_)))
 obtain ⟨t21, e26, H⟩ := bnd H
 refine w_call cf117 trivial Y Y (fun w s => ref04_nonce.calls s hG t3.2.1 p1 p2 _ e26) ?_
 rintro _ M23 l24 rfl
 replace hG := hG.mono l24
 refine va Y Y (wk k20 (c_sr fun _ k27 => vm Y Y (vm Y Y (vm Y Y ?_))))
 obtain ⟨t28, e33, H⟩ := bnd H
 refine w_call cf118 trivial Y Y (fun w s => ref03_Xor.calls s t3.1 1 t21 p2 _ e33) ?_
 rintro _ M30 l31 rfl
 replace hG := hG.mono l31
 refine vm Y Y (v_extract Y Y Y (v_extract Y Y Y (va Y Y (va Y Y (wk k27 (c_sr fun _ k34 => vm Y Y (vm Y Y ?_)))))))
 obtain ⟨g35, H⟩ := grd_s H
 refine wv Y (fun f s => r_sadd (f.ev Y) (f.ev Y) g35) (vm Y Y (vm Y Y (vm Y Y (vm Y Y ?_))))
 obtain ⟨t36, e41, H⟩ := bnd H
 refine w_call cf119 trivial Y Y (fun w s => ref04_tag.calls s hG t3.2.1 t21 p1 t28.1 _ e41) ?_
 rintro _ M38 l39 rfl
 obtain ⟨g42, H⟩ := grd_s H
 refine wv Y (fun f s => r_sadd (f.ev Y) (f.ev Y) g42) (va Y Y (va Y Y (wk k34 ?_)))
 obtain rfl := some_r H
 exact cx2 hret Y Y Y Y Y
theorem ref36_Make.calls (hM : Sub M w) (hG : Gl M) (p0 : (List UInt8)) (p1 : Backup) (v1 : Value) (h2 : RS Key.F M v1 p1.Keys) (r : ((List UInt8) × Int)) (H : ref36_Make p0 p1 = some r) :
  Calls prog 15 [str p0, .agg (Backup.C p1 v1).toArray].toArray w (Post M w fun M' v => v = .tuple #[str r.1, .int .i64 r.2]) := by
 refine enter 37 [(0, str p0), (1, .agg (Backup.C p1 v1).toArray)] func15 Y Y Y hM ?_
 intro Q hret
 unfold ref36_Make at H
 refine c_sr fun _ k3 => w_boxM trivial Y Y Y ?_
 intro b4 M5 l6 h7
 replace hG := hG.mono l6
 replace h2 := h2.mono l6
 refine va Y Y (va Y Y (wk k3 (c_sr fun _ k8 => wv Y (fun f s => r_loadA ta26 ts26 (f.ev Y) (s.sub _ _ h7) (Backup.d0_38 _ _) (Backup.len _ _)) ?_)))
 obtain ⟨t9, e14, H⟩ := bnd H
 refine w_call cf20 trivial Y Y (fun w s => ref36_Valid.calls s p1 v1 h2 _ e14) ?_
 rintro _ M11 l12 rfl
 replace hG := hG.mono l12
 replace h2 := h2.mono l12
 replace h7 := l12 _ _ h7
 refine va Y Y (wk k8 (c_seq fun K15 k15 => ?_))
 obtain ⟨t16, H1, H⟩ := bnd H
 refine c_cut (fun a' w' => ∃ (M17 : Heap), HLe M11 M17 ∧ Fr 37 [(0, str p0), (3, ptr b4 0), (17, .bool t16)] a' ∧ St none' M w M17 (lt []) w') ?_ ?_
 ·replace H := H1
  refine c_reg (vm Y Y (wv Y (fun f s => r_slen underlying9 (f.ev Y)) (wv Y (fun f s => r_neq (f.ev Y) (f.ev Y)) (vm Y Y ?_))))
  by_cases b19 : ((p0.length : Int) != 32) = true
  ·replace H := if_t b19 H
   refine wq b19 Y Y Y (wq b19 Y Y Y (wv Y (fun f s => r_pickT (f.ev Y) b19 (f.ev Y)) ?_))
   obtain rfl := some_r H
   exact w_nil fun a w' f s => ⟨_, HLe.refl _, f.pk Y, s.sel [] (by decide) Y⟩
  replace b19 := Bool.eq_false_iff.2 b19
  replace H := if_f b19 H
  refine wg b19 Y Y Y (fun f s => r_move (f.ev Y)) (wg b19 Y Y Y (fun f s => r_not (f.ev Y)) (wv Y (fun f s => r_pickF (f.ev Y) b19 (f.ev Y)) ?_))
  obtain rfl := some_r H
  exact w_nil fun a w' f s => ⟨_, HLe.refl _, f.pk Y, s.sel [] (by decide) Y⟩
 rintro a w' ⟨M17, l18, f, s⟩
 refine cof f s ?_
 replace hG := hG.mono l18
 replace h2 := h2.mono l18
 replace h7 := l18 _ _ h7
 refine c_if Y (fun b20 => ?_) (fun b20 => ?_)
 ·replace H := if_t b20 H
  refine c_sr fun _ k21 => va Y Y (va Y Y (wk k21 ?_))
  obtain rfl := some_r H
  exact cx2 hret Y Y Y Y Y
 replace H := if_f b20 H
 refine cs k15 (c_seq fun K22 k22 => ?_)
 obtain ⟨t28, e33, H⟩ := bnd H
 obtain ⟨t39, e44, H⟩ := bnd H
 obtain ⟨t50, e55, H⟩ := bnd H
 obtain ⟨t61, e66, H⟩ := bnd H
 refine c_drawV [([], [0]), ([(0, 19)], []), ([], [3]), ([(2, 21)], []), ([], [3]), ([(4, 23)], []), ([(1, 20), (3, 22), (5, 24)], []), ([(6, 25)], []), ([(7, 18)], []), ([(7, 18)], []), ([(8, 26)], []), ([(9, 27)], [])] [_, _, .agg (Backup.C p1 v1).toArray, _, .agg (Backup.C p1 v1).toArray, _, _, _, _, _, _, _] (by kernel_rfl) (by kernel_rfl) Y (aV (pz Y fun _ f s => r_move (f.ev Y)) (aV (pzc cf58 Y Y fun _ l26 w s => ref05_Derive.calls s (hG.mono l26) p0 ([98, 97, 99, 107, 117, 112] : List UInt8) ([] : (List (List UInt8))) (.slice none 0 0) RS.none _ e33) (aV (pz Y fun l35 f s => r_loadA ta26 ts26 (f.ev Y) (s.sub _ _ (l35 _ _ h7)) (Backup.d0_38 _ _) (Backup.len _ _)) (aV (pzc cf23 Y Y fun _ l37 w s => ref36_Header.calls s p1 v1 (h2.mono l37) _ e44) (aV (pz Y fun l46 f s => r_loadA ta26 ts26 (f.ev Y) (s.sub _ _ (l46 _ _ h7)) (Backup.d0_38 _ _) (Backup.len _ _)) (aV (pzc cf59 Y Y fun _ l48 w s => ref36_Content.calls s p1 v1 (h2.mono l48) _ e55) (aV (pzc cf57 Y Y fun _ l57 w s => ref04_Seal.calls s (hG.mono l57) t28 t39 t50 _ e66) (aV (pz Y fun _ f s => r_move (f.ev Y)) (aV (pz Y fun _ f s => r_extract (f.ev Y) Y) (aV (pz Y fun _ f s => r_extract (f.ev Y) Y) (aV (pz Y fun _ f s => r_assign (f.ev Y)) (aV (pz Y fun _ f s => r_assign (f.ev Y)) aV0)))))))))))) fun M82 l83 => ?_
 replace h2 := h2.mono l83
 replace h7 := l83 _ _ h7
 refine ni k22 (c_seq fun K86 k86 => c_sr fun _ k87 => vm Y Y (wv Y (fun f s => r_neq (f.ev Y) (f.ev Y)) (wk k87 (c_if Y (fun b88 => ?_) (fun b88 => ?_)))))
 ·replace H := if_t b88 H
  refine c_sr fun _ k89 => vm Y Y (va Y Y (va Y Y (wk k89 ?_)))
  obtain rfl := some_r H
  exact cx2 hret Y Y Y Y Y
 replace H := if_f b88 H
 refine cs k86 (c_sr fun _ k90 => wv Y (fun f s => r_loadA ta26 ts26 (f.ev Y) (s.sub _ _ h7) (Backup.d0_38 _ _) (Backup.len _ _)) ?_)
 obtain ⟨t91, e96, H⟩ := bnd H
 refine w_call cf23 trivial Y Y (fun w s => ref36_Header.calls s p1 v1 h2 _ e96) ?_
 rintro _ M93 l94 rfl
 obtain ⟨t97, e102, H⟩ := bnd H
 refine w_call cf60 trivial Y Y (fun w s => ref01_Bytes.calls s t91 _ e102) ?_
 rintro v106 M99 l100 ⟨v103, hv_, h104⟩
 replace hv_ := hv_.symm
 subst hv_
 refine wv Y (fun f s => r_b2s underlying91 underlying5 underlying9 h104 s.sub (f.ev Y)) (vm Y Y ?_)
 obtain ⟨g105, H⟩ := grd_s H
 refine wv Y (fun f s => r_sadd (f.ev Y) (f.ev Y) g105) (va Y Y (va Y Y (wk k90 ?_)))
 obtain rfl := some_r H
 exact cx2 hret Y Y Y Y Y
theorem ref27_Live.calls (hM : Sub M w) (p0 : Key) (p1 : Int) (r : Bool) (H : ref27_Live p0 p1 = some r) :
  Calls prog 51 [.agg (Key.C p0).toArray, .int .i64 p1].toArray w (Post M w fun M' v => v = (.bool r)) := by
 refine enter 15 [(0, .agg (Key.C p0).toArray), (1, .int .i64 p1)] func51 Y Y Y hM ?_
 intro Q hret
 unfold ref27_Live at H
 refine c_sr fun _ k1 => w_boxM trivial Y Y Y ?_
 intro b2 M3 l4 h5
 refine va Y Y (wk k1 ?_)
 obtain ⟨t6, H1, H⟩ := bnd H
 refine c_cut (fun a' w' => ∃ (M7 : Heap), HLe M3 M7 ∧ Fr 15 [(4, .bool t6)] a' ∧ St none' M w M7 (lt []) w') ?_ ?_
 ·replace H := H1
  refine c_reg (vm Y Y (v_fa fa97_4 Y Y (wv Y (fun f s => r_load1 ta3 (f.ev Y) (s.sub _ _ h5) Y) (wv Y (fun f s => r_geq (f.ev Y) (f.ev Y)) (vm Y Y ?_)))))
  by_cases b9 : (decide (p0.Start ≤ p1)) = true
  ·replace H := if_t b9 H
   refine wg b9 Y Y Y (fun f s => r_move (f.ev Y)) (wg b9 Y Y Y (fun f s => r_fa fa97_5 (f.ev Y)) (wg b9 Y Y Y (fun f s => r_load1 ta3 (f.ev Y) (s.sub _ _ h5) Y) (wg b9 Y Y Y (fun f s => r_lss (f.ev Y) (f.ev Y)) (wv Y (fun f s => r_pickT (f.ev Y) b9 (f.ev Y)) (va Y Y ?_)))))
   obtain rfl := some_r H
   exact w_nil fun a w' f s => ⟨_, HLe.refl _, f.pk Y, s.sel [] (by decide) Y⟩
  replace b9 := Bool.eq_false_iff.2 b9
  replace H := if_f b9 H
  refine wq b9 Y Y Y (wq b9 Y Y Y (wq b9 Y Y Y (wq b9 Y Y Y (wv Y (fun f s => r_pickF (f.ev Y) b9 (f.ev Y)) (va Y Y ?_)))))
  obtain rfl := some_r H
  exact w_nil fun a w' f s => ⟨_, HLe.refl _, f.pk Y, s.sel [] (by decide) Y⟩
 rintro a w' ⟨M7, l8, f, s⟩
 refine cof f s ?_
 obtain rfl := some_r H
 exact cx1 hret Y Y Y Y
theorem ref36_Select.calls (hM : Sub M w) (p0 : Table) (v1 : Value) (h2 : RS Key.F M v1 p0.Keys) (p1 : Int) (r : (List Key)) (H : ref36_Select p0 p1 = some r) :
  Calls prog 17 [.agg (Table.C p0 v1).toArray, .int .i64 p1].toArray w (Post M w fun M' v => ∃ v49, v = v49 ∧ RS Key.F M' v49 r) := by
 refine enter 32 [(0, .agg (Table.C p0 v1).toArray), (1, .int .i64 p1)] func17 Y Y Y hM ?_
 intro Q hret
 unfold ref36_Select at H
 refine c_sr fun _ k3 => w_boxM trivial Y Y Y ?_
 intro b4 M5 l6 h7
 replace h2 := h2.mono l6
 refine va Y Y (wk k3 (c_sr fun _ k8 => va Y Y (wk k8 (c_row0 97 9 ?_))))
 refine c_cut (fun a' w' => ∃ (x9 : (List Key)) (v10 : Value) (M11 : Heap), HLe M5 M11 ∧ Fr 32 [(5, v10)] a' ∧ St none' M w M11 (lt [rowI Key.F v10 97 x9]) w' ∧ ref36_Select.j1 x9 = some r) ?_ ?_
 ·refine c_seq ?_
  intro K17 k17
  refine c_reg (va Y Y (wk k17 (c_block ?_)))
  refine c_loop (fun (s18 : ((List Key) × Int)) a' w' => ∃ (v19 : Value) (M20 : Heap), HLe M5 M20 ∧ Fr 32 [(1, .int .i64 p1), (2, ptr b4 0), (5, v19), (6, .int .i64 s18.2)] a' ∧ St none' M w M20 (lt [rowI Key.F v19 97 s18.1]) w') (([] : (List Key)), 0) H ?_ ?_
  ·intro a w' f s
   exact ⟨.slice none 0 0, _, HLe.refl _, f.pk Y, s.selD [some 0] (by decide) Y⟩
  intro s18 y23 H r22 a w' hJ
  obtain ⟨v19, M20, l21, f, s⟩ := hJ
  refine cof f s ?_
  unfold ref36_Select.l3 at H
  replace h2 := h2.mono l21
  replace h7 := l21 _ _ h7
  refine c_seq fun K24 k24 => c_sr fun _ k25 => vm Y Y (v_fa fa28_1 Y Y (wv Y (fun f s => r_load1 ta24 (f.ev Y) (s.sub _ _ h7) Y) (wv Y (fun f s => r_lenR underlying24 h2 (f.ev Y)) (v_lss Y Y Y (wk k25 (c_if Y (fun b26 => ?_) (fun b26 => ?_)))))))
  ·replace H := if_t b26 H
   refine cs k24 ?_
   refine c_cut (fun a' w' => ∃ (x27 : (List Key)) (v28 : Value) (M29 : Heap), HLe M20 M29 ∧ Fr 32 [(1, .int .i64 p1), (2, ptr b4 0), (5, v28), (6, .int .i64 s18.2)] a' ∧ St none' M w M29 (lt [rowI Key.F v28 97 x27]) w' ∧ ref36_Select.j2 x27 s18 = some y23) ?_ ?_
   ·refine c_block (c_sr fun _ k31 => v_fa fa28_1 Y Y (wv Y (fun f s => r_load1 ta24 (f.ev Y) (s.sub _ _ h7) Y) (vm Y Y ?_)))
    obtain ⟨g32, H⟩ := grd_s H
    refine wv Y (fun f s => r_iR underlying24 ts97 h2 (f.ev Y) (f.ev Y) g32.1 g32.2) (wv Y (fun f s => r_loadEA ta97 ts97 h2 s.sub g32.1 g32.2 (f.ev Y) Y Y) (vm Y Y ?_))
    obtain ⟨t33, e38, H⟩ := bnd H
    refine w_call cf51 trivial Y Y (fun w s => ref27_Live.calls s (rd p0.Keys s18.2) p1 _ e38) ?_
    rintro _ M35 l36 rfl
    replace h2 := h2.mono l36
    replace h7 := l36 _ _ h7
    refine va Y Y (wk k31 (c_sr fun _ k39 => vm Y Y (wk k39 (c_if Y (fun b40 => ?_) (fun b40 => ?_)))))
    ·replace H := if_t b40 H
     refine c_reg (vm Y Y (v_fa fa28_1 Y Y (wv Y (fun f s => r_load1 ta24 (f.ev Y) (s.sub _ _ h7) Y) (vm Y Y ?_))))
     obtain ⟨g41, H⟩ := grd_s H
     refine wv Y (fun f s => r_iR underlying24 ts97 h2 (f.ev Y) (f.ev Y) g41.1 g41.2) (wv Y (fun f s => r_loadEA ta97 ts97 h2 s.sub g41.1 g41.2 (f.ev Y) Y Y) (w_bsl (F := Key.F) (es := ([rd p0.Keys s18.2] : List Key)) (xs := [.tmp 28]) underlying24 te97 trivial Y Y Y Y Y (by decide) ?_))
     intro v42 M43 l44 h45 c46
     obtain ⟨g47, H⟩ := grd_s H
     refine w_app (F := Key.F) (m2 := ([rd p0.Keys s18.2] : List Key)) (i := 0) underlying24 te97 underlying24 (.inl ⟨_, Y⟩) trivial Y Y Y Y (Src.rs Key.F_one h45) g47 ?_
     intro v48
     exact va Y Y (w_nil fun a w' f s => ⟨s18.1 ++ ([rd p0.Keys s18.2] : List Key), v48, _, l36.trans l44, f.pk Y, s.selD [some 0] (by decide) Y, H⟩)
    replace H := if_f b40 H
    refine c_skip ?_
    intro a w' f s
    exact ⟨s18.1, v19, _, l36, f.pk Y, s.selD [some 0] (by decide) Y, H⟩
   rintro a w' ⟨x27, v28, M29, l30, f, s, H⟩
   refine cof f s ?_
   unfold ref36_Select.j2 at H
   exact c_reg (vm Y Y (v_add Y Y Y (va Y Y (w_nil fun a w' f s => ⟨_, (some_r H).symm, v28, _, l21.trans l30, f.pk Y, s.selD [some 0] (by decide) Y⟩))))
  replace H := if_f b26 H
  replace H := map_inr H r22
  refine c_exit ?_
  intro a w' f s
  exact ⟨s18.1, v19, _, l21, f.pk Y, s.selD [some 0] (by decide) Y, H⟩
 rintro a w' ⟨x9, v10, M11, l12, f, s, H⟩
 refine cof f s ?_
 unfold ref36_Select.j1 at H
 refine c_sr fun _ k13 => vm Y Y (va Y Y (wk k13 ?_))
 obtain rfl := some_r H
 refine c_ret (n_give 0 Y (fun _ h => h) ?_)
 intro M14 l15 h16
 intro a w' f s
 exact hret _ (.inl Y) a w' f.df ⟨_, _, Res.of1 Y (RV.t f Y), s.ext, ⟨_, Y, h16⟩⟩
theorem ref36_Complete.calls (hM : Sub M w) (p0 : Backup) (v1 : Value) (h2 : RS Key.F M v1 p0.Keys) (p1 : Table) (v3 : Value) (h4 : RS Key.F M v3 p1.Keys) (p2 : Int) (r : Bool) (H : ref36_Complete p0 p1 p2 = some r) :
  Calls prog 25 [.agg (Backup.C p0 v1).toArray, .agg (Table.C p1 v3).toArray, .int .i64 p2].toArray w (Post M w fun M' v => v = (.bool r)) := by
 refine enter 42 [(0, .agg (Backup.C p0 v1).toArray), (1, .agg (Table.C p1 v3).toArray), (2, .int .i64 p2)] func25 Y Y Y hM ?_
 intro Q hret
 unfold ref36_Complete at H
 refine c_sr fun _ k5 => w_boxM trivial Y Y Y ?_
 intro b6 M7 l8 h9
 replace h2 := h2.mono l8
 replace h4 := h4.mono l8
 refine w_boxM trivial Y Y Y ?_
 intro b10 M11 l12 h13
 replace h2 := h2.mono l12
 replace h4 := h4.mono l12
 replace h9 := l12 _ _ h9
 refine va Y Y (wk k5 (c_sr fun _ k14 => wv Y (fun f s => r_loadA ta28 ts28 (f.ev Y) (s.sub _ _ h13) Y Y) (vm Y Y ?_)))
 obtain ⟨t15, e20, H⟩ := bnd H
 refine w_call cf17 trivial Y Y (fun w s => ref36_Select.calls s p1 v3 h4 p2 _ e20) ?_
 rintro v160 M17 l18 ⟨v21, hv_, h22⟩
 replace hv_ := hv_.symm
 subst hv_
 replace h2 := h2.mono l18
 replace h9 := l18 _ _ h9
 refine va Y Y (wk k14 ?_)
 refine c_cut (fun a' w' => ∃ (M23 : Heap), HLe M17 M23 ∧ Fr 42 [] a' ∧ St none' M w M23 (lt []) w' ∧ ref36_Complete.j1  = some r) ?_ ?_
 ·refine c_seq ?_
  intro K26 k26
  refine c_reg (va Y Y (wk k26 (c_block ?_)))
  refine c_loop (fun (s27 : Int) a' w' => ∃ (M28 : Heap), HLe M17 M28 ∧ Fr 42 [(3, ptr b6 0), (7, v21), (8, .int .i64 s27)] a' ∧ St none' M w M28 (lt []) w') 0 H ?_ ?_
  ·intro a w' f s
   exact ⟨_, HLe.refl _, f.pk Y, s.selD [] (by decide) Y⟩
  intro s27 y31 H r30 a w' hJ
  obtain ⟨M28, l29, f, s⟩ := hJ
  refine cof f s ?_
  unfold ref36_Complete.l5 at H
  replace h2 := h2.mono l29
  replace h9 := l29 _ _ h9
  replace h22 := h22.mono l29
  refine c_seq fun K32 k32 => c_sr fun _ k33 => vm Y Y (vm Y Y (wv Y (fun f s => r_lenR underlying24 h22 (f.ev Y)) (v_lss Y Y Y (wk k33 (c_if Y (fun b34 => ?_) (fun b34 => ?_))))))
  ·replace H := if_t b34 H
   refine cs k32 ?_
   refine c_cut (fun a' w' => ∃ (M35 : Heap), HLe M28 M35 ∧ Fr 42 [(3, ptr b6 0), (7, v21), (8, .int .i64 s27)] a' ∧ St none' M w M35 (lt []) w' ∧ ref36_Complete.j2 s27 = some y31) ?_ ?_
   ·refine c_block (c_sr fun _ k37 => va Y Y (wk k37 ?_))
    refine c_cut (fun a' w' => ∃ (x38 : Bool) (M39 : Heap), HLe M28 M39 ∧ Fr 42 [(3, ptr b6 0), (7, v21), (8, .int .i64 s27), (9, .bool x38)] a' ∧ St none' M w M39 (lt []) w' ∧ ref36_Complete.j3 x38 s27 = some y31) ?_ ?_
    ·refine c_seq ?_
     intro K44 k44
     refine c_reg (va Y Y (wk k44 (c_block ?_)))
     refine c_loop (fun (s45 : (Bool × Int)) a' w' => ∃ (M46 : Heap), HLe M28 M46 ∧ Fr 42 [(3, ptr b6 0), (7, v21), (8, .int .i64 s27), (9, .bool s45.1), (10, .int .i64 s45.2)] a' ∧ St none' M w M46 (lt []) w') (false, 0) H ?_ ?_
     ·intro a w' f s
      exact ⟨_, HLe.refl _, f.pk Y, s.selD [] (by decide) Y⟩
     intro s45 y49 H r48 a w' hJ
     obtain ⟨M46, l47, f, s⟩ := hJ
     refine cof f s ?_
     unfold ref36_Complete.l4 at H
     replace h2 := h2.mono l47
     replace h9 := l47 _ _ h9
     replace h22 := h22.mono l47
     refine c_seq fun K50 k50 => c_sr fun _ k51 => vm Y Y (v_fa fa26_7 Y Y (wv Y (fun f s => r_load1 ta24 (f.ev Y) (s.sub _ _ h9) (Backup.g37 _ _)) (wv Y (fun f s => r_lenR underlying24 h2 (f.ev Y)) (v_lss Y Y Y (wk k51 (c_if Y (fun b52 => ?_) (fun b52 => ?_)))))))
     ·replace H := if_t b52 H
      refine cs k50 (c_seq fun K53 k53 => c_block ?_)
      by_cases b59 : s45.1 = true
      ·replace H := if_t b59 H
       refine cV [([], [9]), ([(0, 27)], []), ([(1, 28)], [3]), ([(2, 29), (1, 28)], []), ([(1, 28)], [10]), ([(3, 30), (4, 31), (1, 28)], []), ([(5, 32), (1, 28)], []), ([(1, 28)], [7]), ([(1, 28)], [8]), ([(7, 34), (8, 35), (1, 28)], []), ([(9, 36), (1, 28)], []), ([(6, 33), (10, 37), (1, 28)], []), ([(1, 28), (11, 38)], []), ([(12, 39)], [])] (by kernel_rfl) (aV (pz Y fun _ f s => r_move (f.ev Y)) (aV (pz Y fun _ f s => r_move (f.ev Y)) (aV (pzq b59 Y Y Y) (aV (pzq b59 Y Y Y) (aV (pzq b59 Y Y Y) (aV (pzq b59 Y Y Y) (aV (pzq b59 Y Y Y) (aV (pzq b59 Y Y Y) (aV (pzq b59 Y Y Y) (aV (pzq b59 Y Y Y) (aV (pzq b59 Y Y Y) (aV (pzq b59 Y Y Y) (aV (pz Y fun _ f s => r_pickT (f.ev Y) b59 (f.ev Y)) (aV (pz Y fun _ f s => r_assign (f.ev Y)) aV0)))))))))))))) Y fun M106 l107 => ?_
       replace h2 := h2.mono l107
       replace h9 := l107 _ _ h9
       replace h22 := h22.mono l107
       exact ni k53 (c_reg (vm Y Y (v_add Y Y Y (va Y Y (w_nil fun a w' f s => ⟨_, (some_r H).symm, _, l47.trans l107, f.pk Y, s.selD [] (by decide) Y⟩)))))
      replace b59 := Bool.eq_false_iff.2 b59
      replace H := if_f b59 H
      obtain ⟨g124, H⟩ := grd_s H
      obtain ⟨g140, H⟩ := grd_s H
      refine c_drawV [([], [9]), ([(0, 27)], []), ([(1, 28)], [3]), ([(2, 29), (1, 28)], []), ([(1, 28)], [10]), ([(3, 30), (4, 31), (1, 28)], []), ([(5, 32), (1, 28)], []), ([(1, 28)], [7]), ([(1, 28)], [8]), ([(7, 34), (8, 35), (1, 28)], []), ([(9, 36), (1, 28)], []), ([(6, 33), (10, 37), (1, 28)], []), ([(1, 28), (11, 38)], []), ([(12, 39)], [])] [_, _, _, _, _, _, .agg (Key.C (rd p0.Keys s45.2)).toArray, _, _, _, .agg (Key.C (rd t15 s27)).toArray, _, _, _] (by kernel_rfl) (by kernel_rfl) Y (aV (pz Y fun _ f s => r_move (f.ev Y)) (aV (pz Y fun _ f s => r_move (f.ev Y)) (aV (pzg b59 Y Y Y fun _ f s => r_fa fa26_7 (f.ev Y)) (aV (pzg b59 Y Y Y fun l113 f s => r_load1 ta24 (f.ev Y) (s.sub _ _ (l113 _ _ h9)) (Backup.g37 _ _)) (aV (pzg b59 Y Y Y fun _ f s => r_move (f.ev Y)) (aV (pzg b59 Y Y Y fun l120 f s => r_iR underlying24 ts97 (h2.mono l120) (f.ev Y) (f.ev Y) g124.1 g124.2) (aV (pzg b59 Y Y Y fun l126 f s => r_loadEA ta97 ts97 (h2.mono l126) s.sub g124.1 g124.2 (f.ev Y) Y Y) (aV (pzg b59 Y Y Y fun _ f s => r_move (f.ev Y)) (aV (pzg b59 Y Y Y fun _ f s => r_move (f.ev Y)) (aV (pzg b59 Y Y Y fun l136 f s => r_iR underlying24 ts97 (h22.mono l136) (f.ev Y) (f.ev Y) g140.1 g140.2) (aV (pzg b59 Y Y Y fun l142 f s => r_loadEA ta97 ts97 (h22.mono l142) s.sub g140.1 g140.2 (f.ev Y) Y Y) (aV (pzg b59 Y Y Y fun _ f s => r_eqS eq97 (f.ev Y) (f.ev Y)) (aV (pz Y fun _ f s => r_pickF (f.ev Y) b59 (f.ev Y)) (aV (pz Y fun _ f s => r_assign (f.ev Y)) aV0)))))))))))))) fun M157 l158 => ?_
      exact ni k53 (c_reg (vm Y Y (v_add Y Y Y (va Y Y (w_nil fun a w' f s => ⟨_, (some_r H).symm, _, l47.trans l158, f.pk Y, s.selD [] (by decide) Y⟩)))))
     replace H := if_f b52 H
     replace H := map_inr H r48
     refine c_exit ?_
     intro a w' f s
     exact ⟨s45.1, _, l47, f.pk Y, s.selD [] (by decide) Y, H⟩
    rintro a w' ⟨x38, M39, l40, f, s, H⟩
    refine cof f s ?_
    unfold ref36_Complete.j3 at H
    refine c_sr fun _ k41 => vm Y Y (wv Y (fun f s => r_not (f.ev Y)) (wk k41 (c_if Y (fun b42 => ?_) (fun b42 => ?_))))
    ·replace H := if_t b42 H
     refine c_sr fun _ k43 => va Y Y (wk k43 ?_)
     obtain rfl := (r30 _ (Option.some.inj H).symm)
     exact cx1 hret Y Y Y Y
    replace H := if_f b42 H
    refine c_skip ?_
    intro a w' f s
    exact ⟨_, l40, f.pk Y, s.selD [] (by decide) Y, H⟩
   rintro a w' ⟨M35, l36, f, s, H⟩
   refine cof f s ?_
   unfold ref36_Complete.j2 at H
   exact c_reg (vm Y Y (v_add Y Y Y (va Y Y (w_nil fun a w' f s => ⟨_, (some_r H).symm, _, l29.trans l36, f.pk Y, s.selD [] (by decide) Y⟩))))
  replace H := if_f b34 H
  replace H := map_inr H r30
  refine c_exit ?_
  intro a w' f s
  exact ⟨_, l29, f.nil, s.selD [] (by decide) Y, H⟩
 rintro a w' ⟨M23, l24, f, s, H⟩
 refine cof f s ?_
 unfold ref36_Complete.j1 at H
 refine c_sr fun _ k25 => va Y Y (wk k25 ?_)
 obtain rfl := some_r H
 exact cx1 hret Y Y Y Y
theorem law36_BackupMatchesSpec.calls (hM : Sub M w) (hG : Gl M) (hs_law36_sanity : ∀ t, law36_sanity = some t → t = true) (p0 : (List UInt8)) (p1 : Backup) (v1 : Value) (h2 : RS Key.F M v1 p1.Keys) (p2 : Backup) (v3 : Value) (h4 : RS Key.F M v3 p2.Keys) (p3 : Table) (v5 : Value) (h6 : RS Key.F M v5 p3.Keys) (p4 : Int) (r : Bool) (hr_ : r = true) (H : law36_BackupMatchesSpec p0 p1 p2 p3 p4 = some r) :
  Calls prog 3 [str p0, .agg (Backup.C p1 v1).toArray, .agg (Backup.C p2 v3).toArray, .agg (Table.C p3 v5).toArray, .int .i64 p4].toArray w (Post M w fun M' v => v = (.bool r)) := by
 refine enter 109 [(0, str p0), (1, .agg (Backup.C p1 v1).toArray), (2, .agg (Backup.C p2 v3).toArray), (3, .agg (Table.C p3 v5).toArray), (4, .int .i64 p4)] func3 Y Y Y hM ?_
 intro Q hret
 unfold law36_BackupMatchesSpec at H
 refine c_sr fun _ k7 => w_boxM trivial Y Y Y ?_
 intro b8 M9 l10 h11
 replace hG := hG.mono l10
 replace h2 := h2.mono l10
 replace h4 := h4.mono l10
 replace h6 := h6.mono l10
 refine w_boxM trivial Y Y Y ?_
 intro b12 M13 l14 h15
 replace hG := hG.mono l14
 replace h2 := h2.mono l14
 replace h4 := h4.mono l14
 replace h6 := h6.mono l14
 replace h11 := l14 _ _ h11
 refine w_boxM trivial Y Y Y ?_
 intro b16 M17 l18 h19
 replace hG := hG.mono l18
 replace h2 := h2.mono l18
 replace h4 := h4.mono l18
 replace h6 := h6.mono l18
 replace h11 := l18 _ _ h11
 replace h15 := l18 _ _ h15
 refine va Y Y (wk k7 (c_seq fun K20 k20 => ?_))
 obtain ⟨t21, H1, H⟩ := bnd H
 refine c_cut (fun a' w' => ∃ (M22 : Heap), HLe M17 M22 ∧ Fr 109 [(0, str p0), (4, .int .i64 p4), (6, ptr b8 0), (7, ptr b12 0), (8, ptr b16 0), (36, .bool t21)] a' ∧ St none' M w M22 (lt []) w') ?_ ?_
 ·replace H := H1
  refine c_reg (wv Y (fun f s => r_loadA ta26 ts26 (f.ev Y) (s.sub _ _ h11) (Backup.d0_38 _ _) (Backup.len _ _)) ?_)
  obtain ⟨t24, e29, H⟩ := bnd H
  refine w_call cf12 trivial Y Y (fun w s => law36_few.calls s p1 v1 h2 _ e29) ?_
  rintro _ M26 l27 rfl
  replace hG := hG.mono l27
  replace h2 := h2.mono l27
  replace h4 := h4.mono l27
  replace h6 := h6.mono l27
  replace h11 := l27 _ _ h11
  replace h15 := l27 _ _ h15
  replace h19 := l27 _ _ h19
  refine wv Y (fun f s => r_not (f.ev Y)) (vm Y Y ?_)
  by_cases b30 : (!t24) = true
  ·replace H := if_t b30 H
   refine wq b30 Y Y Y (wq b30 Y Y Y (wq b30 Y Y Y (wv Y (fun f s => r_pickT (f.ev Y) b30 (f.ev Y)) (vm Y Y (wqs 4 Y (wv Y (fun f s => r_pickT (f.ev Y) Y (f.ev Y)) (vm Y Y (wqs 3 Y (wv Y (fun f s => r_pickT (f.ev Y) Y (f.ev Y)) ?_)))))))))
   obtain rfl := some_r H
   exact w_nil fun a w' f s => ⟨_, l27, f.pk Y, s.sel [] (by decide) Y⟩
  replace b30 := Bool.eq_false_iff.2 b30
  replace H := if_f b30 H
  refine wg b30 Y Y Y (fun f s => r_loadA ta26 ts26 (f.ev Y) (s.sub _ _ h15) (Backup.d0_38 _ _) (Backup.len _ _)) ?_
  obtain ⟨t31, e36, H⟩ := bnd H
  refine w_call cf12 (Wnt.of Y Y b30) Y Y (fun w s => law36_few.calls s p2 v3 h4 _ e36) ?_
  rintro _ M33 l34 rfl
  replace hG := hG.mono l34
  replace h2 := h2.mono l34
  replace h4 := h4.mono l34
  replace h6 := h6.mono l34
  replace h11 := l34 _ _ h11
  replace h15 := l34 _ _ h15
  replace h19 := l34 _ _ h19
  refine wg b30 Y Y Y (fun f s => r_not (f.ev Y)) (wv Y (fun f s => r_pickF (f.ev Y) b30 (f.ev Y)) (vm Y Y ?_))
  by_cases b37 : (!t31) = true
  ·replace H := if_t b37 H
   refine wq b37 Y Y Y (wq b37 Y Y Y (wq b37 Y Y Y (wq b37 Y Y Y (wv Y (fun f s => r_pickT (f.ev Y) b37 (f.ev Y)) (vm Y Y (wqs 3 Y (wv Y (fun f s => r_pickT (f.ev Y) Y (f.ev Y)) ?_)))))))
   obtain rfl := some_r H
   exact w_nil fun a w' f s => ⟨_, l27.trans l34, f.pk Y, s.sel [] (by decide) Y⟩
  replace b37 := Bool.eq_false_iff.2 b37
  replace H := if_f b37 H
  refine wg b37 Y Y Y (fun f s => r_fa fa28_1 (f.ev Y)) (wg b37 Y Y Y (fun f s => r_load1 ta24 (f.ev Y) (s.sub _ _ h19) Y) (wg b37 Y Y Y (fun f s => r_lenR underlying24 h6 (f.ev Y)) (wg b37 Y Y Y (fun f s => r_gtr (f.ev Y) (f.ev Y)) (wv Y (fun f s => r_pickF (f.ev Y) b37 (f.ev Y)) (vm Y Y ?_)))))
  by_cases b38 : (decide ((40 : Int) < (p3.Keys.length : Int))) = true
  ·replace H := if_t b38 H
   refine wq b38 Y Y Y (wq b38 Y Y Y (wq b38 Y Y Y (wv Y (fun f s => r_pickT (f.ev Y) b38 (f.ev Y)) ?_)))
   obtain rfl := some_r H
   exact w_nil fun a w' f s => ⟨_, l27.trans l34, f.pk Y, s.sel [] (by decide) Y⟩
  replace b38 := Bool.eq_false_iff.2 b38
  replace H := if_f b38 H
  refine wg b38 Y Y Y (fun f s => r_move (f.ev Y)) (wg b38 Y Y Y (fun f s => r_slen underlying9 (f.ev Y)) (wg b38 Y Y Y (fun f s => r_gtr (f.ev Y) (f.ev Y)) (wv Y (fun f s => r_pickF (f.ev Y) b38 (f.ev Y)) ?_)))
  obtain rfl := some_r H
  exact w_nil fun a w' f s => ⟨_, l27.trans l34, f.pk Y, s.sel [] (by decide) Y⟩
 rintro a w' ⟨M22, l23, f, s⟩
 refine cof f s ?_
 replace hG := hG.mono l23
 replace h2 := h2.mono l23
 replace h4 := h4.mono l23
 replace h6 := h6.mono l23
 replace h11 := l23 _ _ h11
 replace h15 := l23 _ _ h15
 replace h19 := l23 _ _ h19
 refine c_if Y (fun b39 => ?_) (fun b39 => ?_)
 ·replace H := if_t b39 H
  refine c_sr fun _ k40 => ?_
  obtain ⟨t41, e46, H⟩ := bnd H
  refine w_call cf13 trivial Y Y (fun w s => law36_sanity.calls s hG  _ (hs_law36_sanity _ e46) e46) ?_
  rintro _ M43 l44 rfl
  replace hG := hG.mono l44
  replace h2 := h2.mono l44
  replace h4 := h4.mono l44
  replace h6 := h6.mono l44
  replace h11 := l44 _ _ h11
  replace h15 := l44 _ _ h15
  replace h19 := l44 _ _ h19
  refine va Y Y (wk k40 ?_)
  obtain rfl := some_r H
  exact cx1 hret Y Y Y Y
 replace H := if_f b39 H
 refine cs k20 (c_sr fun _ k47 => vm Y Y (wv Y (fun f s => r_loadA ta26 ts26 (f.ev Y) (s.sub _ _ h11) (Backup.d0_38 _ _) (Backup.len _ _)) ?_))
 obtain ⟨t48, e53, H⟩ := bnd H
 refine w_call cf14 trivial Y Y (fun w s => backup_Make.calls s hG p0 p1 v1 h2 _ e53) ?_
 rintro _ M50 l51 rfl
 replace hG := hG.mono l51
 replace h2 := h2.mono l51
 replace h4 := h4.mono l51
 replace h6 := h6.mono l51
 replace h11 := l51 _ _ h11
 replace h15 := l51 _ _ h15
 replace h19 := l51 _ _ h19
 refine vm Y Y (v_extract Y Y Y (v_extract Y Y Y (va Y Y (va Y Y (wk k47 (c_sr fun _ k54 => vm Y Y (wv Y (fun f s => r_loadA ta26 ts26 (f.ev Y) (s.sub _ _ h11) (Backup.d0_38 _ _) (Backup.len _ _)) ?_)))))))
 obtain ⟨t55, e60, H⟩ := bnd H
 refine w_call cf15 trivial Y Y (fun w s => ref36_Make.calls s hG p0 p1 v1 h2 _ e60) ?_
 rintro _ M57 l58 rfl
 replace hG := hG.mono l58
 replace h2 := h2.mono l58
 replace h4 := h4.mono l58
 replace h6 := h6.mono l58
 replace h11 := l58 _ _ h11
 replace h15 := l58 _ _ h15
 replace h19 := l58 _ _ h19
 refine vm Y Y (v_extract Y Y Y (v_extract Y Y Y (va Y Y (va Y Y (wk k54 (c_sr fun _ k61 => wv Y (fun f s => r_loadA ta28 ts28 (f.ev Y) (s.sub _ _ h19) Y Y) (vm Y Y ?_)))))))
 obtain ⟨t62, e67, H⟩ := bnd H
 refine w_call cf16 trivial Y Y (fun w s => backup_Select.calls s p3 v5 h6 p4 _ e67) ?_
 rintro v2266 M64 l65 ⟨v68, hv_, h69⟩
 replace hv_ := hv_.symm
 subst hv_
 replace hG := hG.mono l65
 replace h2 := h2.mono l65
 replace h4 := h4.mono l65
 replace h6 := h6.mono l65
 replace h11 := l65 _ _ h11
 replace h15 := l65 _ _ h15
 replace h19 := l65 _ _ h19
 refine va Y Y (wk k61 (c_sr fun _ k70 => wv Y (fun f s => r_loadA ta28 ts28 (f.ev Y) (s.sub _ _ h19) Y Y) (vm Y Y ?_)))
 obtain ⟨t71, e76, H⟩ := bnd H
 refine w_call cf17 trivial Y Y (fun w s => ref36_Select.calls s p3 v5 h6 p4 _ e76) ?_
 rintro v2265 M73 l74 ⟨v77, hv_, h78⟩
 replace hv_ := hv_.symm
 subst hv_
 replace hG := hG.mono l74
 replace h2 := h2.mono l74
 replace h4 := h4.mono l74
 replace h6 := h6.mono l74
 replace h11 := l74 _ _ h11
 replace h15 := l74 _ _ h15
 replace h19 := l74 _ _ h19
 replace h69 := h69.mono l74
 refine va Y Y (wk k70 (c_sr fun _ k79 => vm Y Y (wv Y (fun f s => r_build (is := [7]) (xs := [.tmp 56]) (A := Backup.C (⟨replicate 16 0, 0, 0, 0, 0, replicate 16 0, [], t62⟩ : Backup) v68) Y (f.evs Y) (built_of (pl := [(0, 16), (16, 1), (17, 1), (18, 1), (19, 1), (20, 16), (36, 1), (37, 1)]) (A0 := Backup.C (⟨replicate 16 0, 0, 0, 0, 0, replicate 16 0, [], []⟩ : Backup) (.slice none 0 0)) tz26 underlying26 (by kernel_rfl) Y (.cons (vs := [v68]) (B := Backup.C (⟨replicate 16 0, 0, 0, 0, 0, replicate 16 0, [], t62⟩ : Backup) v68) Y (h69.cells1) Y (by rw [Backup.len]; decide) (Backup.s37_1 _ _) .nil))) (vm Y Y (wv Y (fun f s => r_build (is := [7]) (xs := [.tmp 58]) (A := Backup.C (⟨replicate 16 0, 0, 0, 0, 0, replicate 16 0, [], t71⟩ : Backup) v77) Y (f.evs Y) (built_of (pl := [(0, 16), (16, 1), (17, 1), (18, 1), (19, 1), (20, 16), (36, 1), (37, 1)]) (A0 := Backup.C (⟨replicate 16 0, 0, 0, 0, 0, replicate 16 0, [], []⟩ : Backup) (.slice none 0 0)) tz26 underlying26 (by kernel_rfl) Y (.cons (vs := [v77]) (B := Backup.C (⟨replicate 16 0, 0, 0, 0, 0, replicate 16 0, [], t71⟩ : Backup) v77) Y (h78.cells1) Y (by rw [Backup.len]; decide) (Backup.s37_1 _ _) .nil))) ?_)))))
 obtain ⟨t80, e85, H⟩ := bnd H
 refine w_call cf18 trivial Y Y (fun w s => ref36_Same.calls s (⟨replicate 16 0, 0, 0, 0, 0, replicate 16 0, [], t62⟩ : Backup) v68 h69 (⟨replicate 16 0, 0, 0, 0, 0, replicate 16 0, [], t71⟩ : Backup) v77 h78 _ e85) ?_
 rintro _ M82 l83 rfl
 replace hG := hG.mono l83
 replace h2 := h2.mono l83
 replace h4 := h4.mono l83
 replace h6 := h6.mono l83
 replace h11 := l83 _ _ h11
 replace h15 := l83 _ _ h15
 replace h19 := l83 _ _ h19
 refine va Y Y (wk k79 ?_)
 obtain ⟨t86, H1, H⟩ := bnd H
 have ht_ := (some_r H).trans hr_
 refine c_cut (fun a' w' => ∃ (M87 : Heap), HLe M82 M87 ∧ Fr 109 [(10, .bool t86)] a' ∧ St none' M w M87 (lt []) w') ?_ ?_
 ·replace H := H1
  obtain ⟨t1179, e1184, H⟩ := bnd H
  by_cases b1188 : t1179 = true
  ·replace H := if_t b1188 H
   by_cases b1199 : t80 = true
   ·replace H := if_t b1199 H
    by_cases b1218 : (t48.1 == t55.1) = true
    ·replace H := if_t b1218 H
     by_cases b1237 : (t48.2 == t55.2) = true
     ·replace H := if_t b1237 H
      obtain ⟨t1245, e1250, H⟩ := bnd H
      obtain ⟨t1258, e1263, H⟩ := bnd H
      by_cases b1276 : (t1245 == t1258) = true
      ·replace H := if_t b1276 H
       obtain ⟨t1288, e1293, H⟩ := bnd H
       obtain ⟨t1305, e1310, H⟩ := bnd H
       by_cases b1323 : (t1288 == t1305) = true
       ·replace H := if_t b1323 H
        obtain ⟨t1331, e1336, H⟩ := bnd H
        obtain ⟨t1344, e1349, H⟩ := bnd H
        by_cases b1362 : (t1331 == t1344) = true
        ·replace H := if_t b1362 H
         obtain ⟨t1378, e1383, H⟩ := bnd H
         obtain ⟨t1399, e1404, H⟩ := bnd H
         refine c_drawP [([], []), ([(0, 61)], []), ([(1, 62)], [17]), ([(1, 62), (2, 63)], []), ([(3, 64)], []), ([(4, 65)], [11]), ([(4, 65)], [13]), ([(5, 66), (6, 67), (4, 65)], []), ([(4, 65), (7, 68)], []), ([(8, 69)], []), ([(9, 70)], [12]), ([(9, 70)], [14]), ([(10, 71), (11, 72), (9, 70)], []), ([(9, 70), (12, 73)], []), ([(13, 74)], []), ([(14, 75)], [6]), ([(15, 76), (14, 75)], []), ([(14, 75)], [6]), ([(17, 78), (14, 75)], []), ([(16, 77), (18, 79), (14, 75)], []), ([(14, 75), (19, 80)], []), ([(20, 81)], []), ([(21, 82)], [6]), ([(21, 82)], [7]), ([(22, 83), (23, 84), (21, 82)], []), ([(21, 82)], [6]), ([(21, 82)], [7]), ([(25, 86), (26, 87), (21, 82)], []), ([(24, 85), (27, 88), (21, 82)], []), ([(21, 82), (28, 89)], []), ([(29, 90)], []), ([(30, 91)], [6]), ([(31, 92), (30, 91)], []), ([(30, 91)], [6]), ([(33, 94), (30, 91)], []), ([(32, 93), (34, 95), (30, 91)], []), ([(30, 91), (35, 96)], []), ([(36, 97)], []), ([(37, 98)], [6]), ([(37, 98)], [8]), ([(37, 98)], [4]), ([(38, 99), (39, 100), (40, 101), (37, 98)], []), ([(37, 98)], [6]), ([(37, 98)], [8]), ([(37, 98)], [4]), ([(42, 103), (43, 104), (44, 105), (37, 98)], []), ([(41, 102), (45, 106), (37, 98)], []), ([(37, 98), (46, 107)], []), ([(47, 108)], [])] [vq (.bool t1179), vq (.bool t1179), vq (.bool t80), vq (.bool t80), vq (.bool t80), vq (str t48.1), vq (str t55.1), vq (.bool (t48.1 == t55.1)), vq (.bool (t48.1 == t55.1)), vq (.bool (t48.1 == t55.1)), vq (.int .i64 t48.2), vq (.int .i64 t55.2), vq (.bool (t48.2 == t55.2)), vq (.bool (t48.2 == t55.2)), vq (.bool (t48.2 == t55.2)), vq (.agg (Backup.C p1 v1).toArray), vq (.bool t1245), vq (.agg (Backup.C p1 v1).toArray), vq (.bool t1258), vq (.bool (t1245 == t1258)), vq (.bool (t1245 == t1258)), vq (.bool (t1245 == t1258)), vq (.agg (Backup.C p1 v1).toArray), vq (.agg (Backup.C p2 v3).toArray), vq (.bool t1288), vq (.agg (Backup.C p1 v1).toArray), vq (.agg (Backup.C p2 v3).toArray), vq (.bool t1305), vq (.bool (t1288 == t1305)), vq (.bool (t1288 == t1305)), vq (.bool (t1288 == t1305)), vq (.agg (Backup.C p1 v1).toArray), vq (str t1331), vq (.agg (Backup.C p1 v1).toArray), vq (str t1344), vq (.bool (t1331 == t1344)), vq (.bool (t1331 == t1344)), vq (.bool (t1331 == t1344)), vq (.agg (Backup.C p1 v1).toArray), vq (.agg (Table.C p3 v5).toArray), vq (.int .i64 p4), vq (.bool t1378), vq (.agg (Backup.C p1 v1).toArray), vq (.agg (Table.C p3 v5).toArray), vq (.int .i64 p4), vq (.bool t1399), vq (.bool (t1378 == t1399)), vq (.bool (t1378 == t1399)), vq (.bool (t1378 == t1399))] (by kernel_rfl) (by kernel_rfl) ?_ (aT ?_ (aT ?_ (aT ?_ (aT ?_ (aT ?_ (aT ?_ (aT ?_ (aT ?_ (aT ?_ (aT ?_ (aT ?_ (aT ?_ (aT ?_ (aT ?_ (aT ?_ (aT ?_ (aT ?_ (aT ?_ (aT ?_ (aT ?_ (aT ?_ (aT ?_ (aT ?_ (aT ?_ (aT ?_ (aT ?_ (aT ?_ (aT ?_ (aT ?_ (aT ?_ (aT ?_ (aT ?_ (aT ?_ (aT ?_ (aT ?_ (aT ?_ (aT ?_ (aT ?_ (aT ?_ (aT ?_ (aT ?_ (aT ?_ (aT ?_ (aT ?_ (aT ?_ (aT ?_ (aT ?_ (aT ?_ (aT ?_ AllT.nil))))))))))))))))))))))))))))))))))))))))))))))))) ?_
         ·exact (mC (mC (mC (mC (mC (mC (mC (mC (mC (mC (mC (mC (mC (mC (mC (mC (mC (mC (mC (mC (mC (mC (mC (mC (mC (mC (mC (mC (mC (mC (mC (mC (mC (mC (mC (mC (mC (mC (mC (mC (mC (mC (mC (mC (mC (mC (mC (mC (mC MonoA.nil)))))))))))))))))))))))))))))))))))))))))))))))))
         ·intro a w' _ l1178 hd s
          replace hG := hG.mono l1178
          refine OP.ofW hd.fr s Y (w_call cf13 trivial Y Y (fun w s => law36_sanity.calls s hG  _ (hs_law36_sanity _ e1184) e1184) ?_)
          rintro _ M1181 l1182 rfl
          exact w_nil fun a w' f s => ⟨Y, f.df, _, l1182, s, f.get _ _ Y⟩
         ·intro a w' _ _ hd s
          exact pv (hd.fr.add (hd.val 0 61 _ Y Y)) s Y (fun f s => r_move (f.ev Y)) Y
         ·intro a w' _ _ hd s
          exact pg ((hd.fr.add (hd.val 1 62 _ Y Y)).add (hd.base 17 _ Y Y)) s (Wnt.of Y Y b1188) Y Y (fun f s => r_move (f.ev Y))
         ·intro a w' _ _ hd s
          exact pv ((hd.fr.add (hd.val 2 63 _ Y Y)).add (hd.val 1 62 _ Y Y)) s Y (fun f s => r_pickT (f.ev Y) b1188 (f.ev Y)) Y
         ·intro a w' _ _ hd s
          exact pv (hd.fr.add (hd.val 3 64 _ Y Y)) s Y (fun f s => r_move (f.ev Y)) Y
         ·intro a w' _ _ hd s
          exact pg ((hd.fr.add (hd.val 4 65 _ Y Y)).add (hd.base 11 _ Y Y)) s (Wnt.of Y Y b1199) Y Y (fun f s => r_move (f.ev Y))
         ·intro a w' _ _ hd s
          exact pg ((hd.fr.add (hd.val 4 65 _ Y Y)).add (hd.base 13 _ Y Y)) s (Wnt.of Y Y b1199) Y Y (fun f s => r_move (f.ev Y))
         ·intro a w' _ _ hd s
          exact pg (((hd.fr.add (hd.val 4 65 _ Y Y)).add (hd.val 6 67 _ Y Y)).add (hd.val 5 66 _ Y Y)) s (Wnt.of Y Y b1199) Y Y (fun f s => r_seql (f.ev Y) (f.ev Y))
         ·intro a w' _ _ hd s
          exact pv ((hd.fr.add (hd.val 7 68 _ Y Y)).add (hd.val 4 65 _ Y Y)) s Y (fun f s => r_pickT (f.ev Y) b1199 (f.ev Y)) Y
         ·intro a w' _ _ hd s
          exact pv (hd.fr.add (hd.val 8 69 _ Y Y)) s Y (fun f s => r_move (f.ev Y)) Y
         ·intro a w' _ _ hd s
          exact pg ((hd.fr.add (hd.val 9 70 _ Y Y)).add (hd.base 12 _ Y Y)) s (Wnt.of Y Y b1218) Y Y (fun f s => r_move (f.ev Y))
         ·intro a w' _ _ hd s
          exact pg ((hd.fr.add (hd.val 9 70 _ Y Y)).add (hd.base 14 _ Y Y)) s (Wnt.of Y Y b1218) Y Y (fun f s => r_move (f.ev Y))
         ·intro a w' _ _ hd s
          exact pg (((hd.fr.add (hd.val 9 70 _ Y Y)).add (hd.val 11 72 _ Y Y)).add (hd.val 10 71 _ Y Y)) s (Wnt.of Y Y b1218) Y Y (fun f s => r_eql (f.ev Y) (f.ev Y))
         ·intro a w' _ _ hd s
          exact pv ((hd.fr.add (hd.val 12 73 _ Y Y)).add (hd.val 9 70 _ Y Y)) s Y (fun f s => r_pickT (f.ev Y) b1218 (f.ev Y)) Y
         ·intro a w' _ _ hd s
          exact pv (hd.fr.add (hd.val 13 74 _ Y Y)) s Y (fun f s => r_move (f.ev Y)) Y
         ·intro a w' _ l1239 hd s
          replace h2 := h2.mono l1239
          exact pg ((hd.fr.add (hd.val 14 75 _ Y Y)).add (hd.base 6 _ Y Y)) s (Wnt.of Y Y b1237) Y Y (fun f s => r_loadA ta26 ts26 (f.ev Y) (s.sub _ _ (l1239 _ _ h11)) (Backup.d0_38 _ _) (Backup.len _ _))
         ·intro a w' _ l1242 hd s
          have e1243 := hd.val 15 76 _ Y Y
          replace h2 := h2.mono l1242
          have e1244 := hd.val 14 75 _ Y Y
          refine OP.ofW ((hd.fr.add e1244).add e1243) s Y (w_call cf19 (Wnt.of Y Y b1237) Y Y (fun w s => backup_Valid.calls s p1 v1 h2 _ e1250) ?_)
          rintro _ M1247 l1248 rfl
          replace h2 := h2.mono l1248
          exact w_nil fun a w' f s => ⟨Y, f.df, _, l1248, s, f.get _ _ Y⟩
         ·intro a w' _ l1252 hd s
          replace h2 := h2.mono l1252
          exact pg ((hd.fr.add (hd.val 14 75 _ Y Y)).add (hd.base 6 _ Y Y)) s (Wnt.of Y Y b1237) Y Y (fun f s => r_loadA ta26 ts26 (f.ev Y) (s.sub _ _ (l1252 _ _ h11)) (Backup.d0_38 _ _) (Backup.len _ _))
         ·intro a w' _ l1255 hd s
          have e1256 := hd.val 17 78 _ Y Y
          replace h2 := h2.mono l1255
          have e1257 := hd.val 14 75 _ Y Y
          refine OP.ofW ((hd.fr.add e1257).add e1256) s Y (w_call cf20 (Wnt.of Y Y b1237) Y Y (fun w s => ref36_Valid.calls s p1 v1 h2 _ e1263) ?_)
          rintro _ M1260 l1261 rfl
          replace h2 := h2.mono l1261
          exact w_nil fun a w' f s => ⟨Y, f.df, _, l1261, s, f.get _ _ Y⟩
         ·intro a w' _ _ hd s
          exact pg (((hd.fr.add (hd.val 14 75 _ Y Y)).add (hd.val 18 79 _ Y Y)).add (hd.val 16 77 _ Y Y)) s (Wnt.of Y Y b1237) Y Y (fun f s => r_eqlb underlying4 (f.ev Y) (f.ev Y))
         ·intro a w' _ _ hd s
          exact pv ((hd.fr.add (hd.val 19 80 _ Y Y)).add (hd.val 14 75 _ Y Y)) s Y (fun f s => r_pickT (f.ev Y) b1237 (f.ev Y)) Y
         ·intro a w' _ _ hd s
          exact pv (hd.fr.add (hd.val 20 81 _ Y Y)) s Y (fun f s => r_move (f.ev Y)) Y
         ·intro a w' _ l1278 hd s
          replace h2 := h2.mono l1278
          exact pg ((hd.fr.add (hd.val 21 82 _ Y Y)).add (hd.base 6 _ Y Y)) s (Wnt.of Y Y b1276) Y Y (fun f s => r_loadA ta26 ts26 (f.ev Y) (s.sub _ _ (l1278 _ _ h11)) (Backup.d0_38 _ _) (Backup.len _ _))
         ·intro a w' _ l1281 hd s
          replace h4 := h4.mono l1281
          exact pg ((hd.fr.add (hd.val 21 82 _ Y Y)).add (hd.base 7 _ Y Y)) s (Wnt.of Y Y b1276) Y Y (fun f s => r_loadA ta26 ts26 (f.ev Y) (s.sub _ _ (l1281 _ _ h15)) (Backup.d0_38 _ _) (Backup.len _ _))
         ·intro a w' _ l1284 hd s
          have e1285 := hd.val 22 83 _ Y Y
          replace h2 := h2.mono l1284
          have e1286 := hd.val 23 84 _ Y Y
          replace h4 := h4.mono l1284
          have e1287 := hd.val 21 82 _ Y Y
          refine OP.ofW (((hd.fr.add e1287).add e1286).add e1285) s Y (w_call cf21 (Wnt.of Y Y b1276) Y Y (fun w s => backup_Same.calls s p1 v1 h2 p2 v3 h4 _ e1293) ?_)
          rintro _ M1290 l1291 rfl
          replace h2 := h2.mono l1291
          replace h4 := h4.mono l1291
          exact w_nil fun a w' f s => ⟨Y, f.df, _, l1291, s, f.get _ _ Y⟩
         ·intro a w' _ l1295 hd s
          replace h2 := h2.mono l1295
          exact pg ((hd.fr.add (hd.val 21 82 _ Y Y)).add (hd.base 6 _ Y Y)) s (Wnt.of Y Y b1276) Y Y (fun f s => r_loadA ta26 ts26 (f.ev Y) (s.sub _ _ (l1295 _ _ h11)) (Backup.d0_38 _ _) (Backup.len _ _))
         ·intro a w' _ l1298 hd s
          replace h4 := h4.mono l1298
          exact pg ((hd.fr.add (hd.val 21 82 _ Y Y)).add (hd.base 7 _ Y Y)) s (Wnt.of Y Y b1276) Y Y (fun f s => r_loadA ta26 ts26 (f.ev Y) (s.sub _ _ (l1298 _ _ h15)) (Backup.d0_38 _ _) (Backup.len _ _))
         ·intro a w' _ l1301 hd s
          have e1302 := hd.val 25 86 _ Y Y
          replace h2 := h2.mono l1301
          have e1303 := hd.val 26 87 _ Y Y
          replace h4 := h4.mono l1301
          have e1304 := hd.val 21 82 _ Y Y
          refine OP.ofW (((hd.fr.add e1304).add e1303).add e1302) s Y (w_call cf18 (Wnt.of Y Y b1276) Y Y (fun w s => ref36_Same.calls s p1 v1 h2 p2 v3 h4 _ e1310) ?_)
          rintro _ M1307 l1308 rfl
          replace h2 := h2.mono l1308
          exact w_nil fun a w' f s => ⟨Y, f.df, _, l1308, s, f.get _ _ Y⟩
         ·intro a w' _ _ hd s
          exact pg (((hd.fr.add (hd.val 21 82 _ Y Y)).add (hd.val 27 88 _ Y Y)).add (hd.val 24 85 _ Y Y)) s (Wnt.of Y Y b1276) Y Y (fun f s => r_eqlb underlying4 (f.ev Y) (f.ev Y))
         ·intro a w' _ _ hd s
          exact pv ((hd.fr.add (hd.val 28 89 _ Y Y)).add (hd.val 21 82 _ Y Y)) s Y (fun f s => r_pickT (f.ev Y) b1276 (f.ev Y)) Y
         ·intro a w' _ _ hd s
          exact pv (hd.fr.add (hd.val 29 90 _ Y Y)) s Y (fun f s => r_move (f.ev Y)) Y
         ·intro a w' _ l1325 hd s
          replace h2 := h2.mono l1325
          exact pg ((hd.fr.add (hd.val 30 91 _ Y Y)).add (hd.base 6 _ Y Y)) s (Wnt.of Y Y b1323) Y Y (fun f s => r_loadA ta26 ts26 (f.ev Y) (s.sub _ _ (l1325 _ _ h11)) (Backup.d0_38 _ _) (Backup.len _ _))
         ·intro a w' _ l1328 hd s
          have e1329 := hd.val 31 92 _ Y Y
          replace h2 := h2.mono l1328
          have e1330 := hd.val 30 91 _ Y Y
          refine OP.ofW ((hd.fr.add e1330).add e1329) s Y (w_call cf22 (Wnt.of Y Y b1323) Y Y (fun w s => backup_Header.calls s p1 v1 h2 _ e1336) ?_)
          rintro _ M1333 l1334 rfl
          replace h2 := h2.mono l1334
          exact w_nil fun a w' f s => ⟨Y, f.df, _, l1334, s, f.get _ _ Y⟩
         ·intro a w' _ l1338 hd s
          replace h2 := h2.mono l1338
          exact pg ((hd.fr.add (hd.val 30 91 _ Y Y)).add (hd.base 6 _ Y Y)) s (Wnt.of Y Y b1323) Y Y (fun f s => r_loadA ta26 ts26 (f.ev Y) (s.sub _ _ (l1338 _ _ h11)) (Backup.d0_38 _ _) (Backup.len _ _))
         ·intro a w' _ l1341 hd s
          have e1342 := hd.val 33 94 _ Y Y
          replace h2 := h2.mono l1341
          have e1343 := hd.val 30 91 _ Y Y
          refine OP.ofW ((hd.fr.add e1343).add e1342) s Y (w_call cf23 (Wnt.of Y Y b1323) Y Y (fun w s => ref36_Header.calls s p1 v1 h2 _ e1349) ?_)
          rintro _ M1346 l1347 rfl
          replace h2 := h2.mono l1347
          exact w_nil fun a w' f s => ⟨Y, f.df, _, l1347, s, f.get _ _ Y⟩
         ·intro a w' _ _ hd s
          exact pg (((hd.fr.add (hd.val 30 91 _ Y Y)).add (hd.val 34 95 _ Y Y)).add (hd.val 32 93 _ Y Y)) s (Wnt.of Y Y b1323) Y Y (fun f s => r_seql (f.ev Y) (f.ev Y))
         ·intro a w' _ _ hd s
          exact pv ((hd.fr.add (hd.val 35 96 _ Y Y)).add (hd.val 30 91 _ Y Y)) s Y (fun f s => r_pickT (f.ev Y) b1323 (f.ev Y)) Y
         ·intro a w' _ _ hd s
          exact pv (hd.fr.add (hd.val 36 97 _ Y Y)) s Y (fun f s => r_move (f.ev Y)) Y
         ·intro a w' _ l1364 hd s
          replace h2 := h2.mono l1364
          exact pg ((hd.fr.add (hd.val 37 98 _ Y Y)).add (hd.base 6 _ Y Y)) s (Wnt.of Y Y b1362) Y Y (fun f s => r_loadA ta26 ts26 (f.ev Y) (s.sub _ _ (l1364 _ _ h11)) (Backup.d0_38 _ _) (Backup.len _ _))
         ·intro a w' _ l1367 hd s
          replace h6 := h6.mono l1367
          exact pg ((hd.fr.add (hd.val 37 98 _ Y Y)).add (hd.base 8 _ Y Y)) s (Wnt.of Y Y b1362) Y Y (fun f s => r_loadA ta28 ts28 (f.ev Y) (s.sub _ _ (l1367 _ _ h19)) Y Y)
         ·intro a w' _ _ hd s
          exact pg ((hd.fr.add (hd.val 37 98 _ Y Y)).add (hd.base 4 _ Y Y)) s (Wnt.of Y Y b1362) Y Y (fun f s => r_move (f.ev Y))
         ·intro a w' _ l1373 hd s
          have e1374 := hd.val 38 99 _ Y Y
          replace h2 := h2.mono l1373
          have e1375 := hd.val 39 100 _ Y Y
          replace h6 := h6.mono l1373
          have e1376 := hd.val 40 101 _ Y Y
          have e1377 := hd.val 37 98 _ Y Y
          refine OP.ofW ((((hd.fr.add e1377).add e1376).add e1375).add e1374) s Y (w_call cf24 (Wnt.of Y Y b1362) Y Y (fun w s => backup_Complete.calls s p1 v1 h2 p3 v5 h6 p4 _ e1383) ?_)
          rintro _ M1380 l1381 rfl
          replace h2 := h2.mono l1381
          replace h6 := h6.mono l1381
          exact w_nil fun a w' f s => ⟨Y, f.df, _, l1381, s, f.get _ _ Y⟩
         ·intro a w' _ l1385 hd s
          replace h2 := h2.mono l1385
          exact pg ((hd.fr.add (hd.val 37 98 _ Y Y)).add (hd.base 6 _ Y Y)) s (Wnt.of Y Y b1362) Y Y (fun f s => r_loadA ta26 ts26 (f.ev Y) (s.sub _ _ (l1385 _ _ h11)) (Backup.d0_38 _ _) (Backup.len _ _))
         ·intro a w' _ l1388 hd s
          replace h6 := h6.mono l1388
          exact pg ((hd.fr.add (hd.val 37 98 _ Y Y)).add (hd.base 8 _ Y Y)) s (Wnt.of Y Y b1362) Y Y (fun f s => r_loadA ta28 ts28 (f.ev Y) (s.sub _ _ (l1388 _ _ h19)) Y Y)
         ·intro a w' _ _ hd s
          exact pg ((hd.fr.add (hd.val 37 98 _ Y Y)).add (hd.base 4 _ Y Y)) s (Wnt.of Y Y b1362) Y Y (fun f s => r_move (f.ev Y))
         ·intro a w' _ l1394 hd s
          have e1395 := hd.val 42 103 _ Y Y
          replace h2 := h2.mono l1394
          have e1396 := hd.val 43 104 _ Y Y
          replace h6 := h6.mono l1394
          have e1397 := hd.val 44 105 _ Y Y
          have e1398 := hd.val 37 98 _ Y Y
          refine OP.ofW ((((hd.fr.add e1398).add e1397).add e1396).add e1395) s Y (w_call cf25 (Wnt.of Y Y b1362) Y Y (fun w s => ref36_Complete.calls s p1 v1 h2 p3 v5 h6 p4 _ e1404) ?_)
          rintro _ M1401 l1402 rfl
          exact w_nil fun a w' f s => ⟨Y, f.df, _, l1402, s, f.get _ _ Y⟩
         ·intro a w' _ _ hd s
          exact pg (((hd.fr.add (hd.val 37 98 _ Y Y)).add (hd.val 45 106 _ Y Y)).add (hd.val 41 102 _ Y Y)) s (Wnt.of Y Y b1362) Y Y (fun f s => r_eqlb underlying4 (f.ev Y) (f.ev Y))
         ·intro a w' _ _ hd s
          exact pv ((hd.fr.add (hd.val 46 107 _ Y Y)).add (hd.val 37 98 _ Y Y)) s Y (fun f s => r_pickT (f.ev Y) b1362 (f.ev Y)) Y
         ·intro a w' _ _ hd s
          exact pv (hd.fr.add (hd.val 47 108 _ Y Y)) s Y (fun f s => r_assign (f.ev Y)) Y
         intro a w' M1417 l1418 hdf hsz hb hv s
         have e1419 := hv 48 10 _ Y Y
         refine n_of (c := (Cx.mk prog 109 none' M w)) ?_ ((Fr.start hdf hsz).add e1419) s
         obtain rfl := some_r H
         refine n_id ?_
         intro a w' f s
         exact ⟨_, l1418, f.pk Y, s.sel [] (by decide) Y⟩
        replace b1362 := Bool.eq_false_iff.2 b1362
        replace H := if_f b1362 H
        exact absurd ((some_r H).trans ht_) (by decide)
       replace b1323 := Bool.eq_false_iff.2 b1323
       replace H := if_f b1323 H
       exact absurd ((some_r H).trans ht_) (by decide)
      replace b1276 := Bool.eq_false_iff.2 b1276
      replace H := if_f b1276 H
      exact absurd ((some_r H).trans ht_) (by decide)
     replace b1237 := Bool.eq_false_iff.2 b1237
     replace H := if_f b1237 H
     exact absurd ((some_r H).trans ht_) (by decide)
    replace b1218 := Bool.eq_false_iff.2 b1218
    replace H := if_f b1218 H
    exact absurd ((some_r H).trans ht_) (by decide)
   replace b1199 := Bool.eq_false_iff.2 b1199
   replace H := if_f b1199 H
   exact absurd ((some_r H).trans ht_) (by decide)
  replace b1188 := Bool.eq_false_iff.2 b1188
  replace H := if_f b1188 H
  exact absurd ((some_r H).trans ht_) (by decide)
 rintro a w' ⟨M87, l88, f, s⟩
 refine cof f s ?_
 obtain rfl := some_r H
 exact cx1 hret Y Y Y Y
end Go.Cu
