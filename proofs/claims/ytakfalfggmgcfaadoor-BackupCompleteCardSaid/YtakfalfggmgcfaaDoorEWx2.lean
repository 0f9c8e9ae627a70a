/- Each Go function comes to its pure function; condition: that one is defined there. -/
import Derived.Test.YtakfalfggmgcfaaDoorEWx1
import Derived.Test.YtakfalfggmgcfaaDoorK1
import Derived.Shelf.Strings.Repeat
import Derived.Shelf.Strings.OnBuilder
import Derived.Ground.NamesProg
import Derived.Lib.Agree
import Derived.Test.YtakfalfggmgcfaaDoorProg
import Derived.KernelRfl
set_option linter.unusedVariables false
set_option linter.unusedSimpArgs false
set_option maxHeartbeats 4000000
set_option maxRecDepth 20000
namespace Go.Cu
open Go.Proofs Go.Proofs.Tryd Go.Shelf
theorem backup_Open.calls {M : Heap} {w : World} (hM : Sub M w) (hG : Gl M) (p0 : (List UInt8)) (p1 : (List UInt8)) (r : (Backup × Int)) (H : backup_Open p0 p1 = some r) :
  Calls Tryd.prog 22 [(str p0), (str p1)].toArray w (Post M w fun M' v => ∃ v258, v = .tuple #[(.agg (Backup.C r.1 v258).toArray), (.int .i64 r.2)] ∧ RS Key.F M' v258 r.1.Keys) := by
 refine enter 87 [(0, (str p0)), (1, (str p1))] Tryd.func22 rfl rfl rfl hM ?_
 intro Q hret
 unfold backup_Open at H
 refine c_sr fun _ hK1 => ?_
 refine w_allocL (A := Backup.C (⟨(Vector.replicate 16 (0 : Int)), (0 : Int), (0 : Int), (0 : Int), (0 : Int), (Vector.replicate 16 (0 : Int)), ([] : List UInt8), ([] : (List Key))⟩ : Backup) (.slice none 0 0)) tz36 trivial rfl rfl ?_
 intro b2
 refine v_assign rfl rfl ?_
 refine w_nil (hK1 _ _ _ ?_)
 refine c_seq fun K3 hK3 => ?_
 refine c_sr fun _ hK4 => ?_
 refine v_move rfl rfl ?_
 refine wv rfl (fun a w hf hs => r_slen Tryd.underlying9 (hf.ev rfl)) ?_
 refine wv rfl (fun a w hf hs => r_neq (hf.ev rfl) (hf.ev rfl)) ?_
 refine w_nil (hK4 _ _ _ ?_)
 refine c_if rfl (fun b5 => ?_) (fun b5 => ?_)
 ·replace H := if_t b5 H
  refine c_sr fun _ hK6 => ?_
  refine wv rfl (fun a w hf hs => r_build (is := []) (xs := []) (vs := []) (A := Backup.C (⟨(Vector.replicate 16 (0 : Int)), (0 : Int), (0 : Int), (0 : Int), (0 : Int), (Vector.replicate 16 (0 : Int)), ([] : List UInt8), ([] : (List Key))⟩ : Backup) (.slice none 0 0)) rfl (hf.evs rfl) (built_of (pl := [(0, 16), (16, 1), (17, 1), (18, 1), (19, 1), (20, 16), (36, 1), (37, 1)]) (A0 := Backup.C (⟨(Vector.replicate 16 (0 : Int)), (0 : Int), (0 : Int), (0 : Int), (0 : Int), (Vector.replicate 16 (0 : Int)), ([] : List UInt8), ([] : (List Key))⟩ : Backup) (.slice none 0 0)) tz36 Tryd.underlying36 (by kernel_rfl) rfl .nil)) ?_
  obtain ⟨z7, e9, H⟩ := bnd H
  have e8 := some_r e9
  refine w_store (i := 0) (vs := Backup.C (⟨(Vector.replicate 16 (0 : Int)), (0 : Int), (0 : Int), (0 : Int), (0 : Int), (Vector.replicate 16 (0 : Int)), ([] : List UInt8), ([] : (List Key))⟩ : Backup) (.slice none 0 0)) (A' := Backup.C z7 (.slice none 0 0)) trivial rfl rfl rfl rfl ts36 (Backup.len _ _) (Backup.C_one _ rfl) (by rw [Backup.len]; decide) (by rw [← e8]; exact (splice_all _ _ (by simp [Backup.C]))) ?_
  have h10 : RS Key.F M (.slice none 0 0) z7.Keys := by rw [← e8]; exact RS.none
  clear e9 e8
  refine v_assign rfl rfl ?_
  refine w_nil (hK6 _ _ _ ?_)
  obtain rfl := some_r H
  exact c_ret fun a w' hf hs => hret _ (.inl rfl) a w' hf.df ⟨_, _, Res.of2 rfl ⟨_, hf.get _ _ rfl, run_loadA (hs.blk (i := 0) rfl) ta36 ts36 (Backup.d0_38 _ _) (Backup.len _ _)⟩ (RV.t hf rfl), hs.ext, ⟨_, rfl, h10⟩⟩
 ·replace H := if_f b5 H
  refine c_skip (hK3 _ _ _ ?_)
  refine c_sr fun _ hK11 => ?_
  refine v_move rfl rfl ?_
  refine w_s2b Tryd.underlying9 Tryd.underlying66 Tryd.underlying5 trivial rfl rfl ?_
  intro v12 M13 l14 h15
  replace hG := hG.mono l14
  refine wv rfl (fun a w hf hs => r_build (is := [0]) (xs := [.tmp 18]) (vs := [v12]) (A := backup_reader.C (⟨(bytesI p1), (0 : Int)⟩ : backup_reader) v12) rfl (hf.evs rfl) (built_of (pl := [(0, 1), (1, 1)]) (A0 := backup_reader.C (⟨([] : (List Int)), (0 : Int)⟩ : backup_reader) (.slice none 0 0)) tz80 Tryd.underlying80 (by kernel_rfl) rfl (.cons (vs := [v12]) (B := backup_reader.C (⟨(bytesI p1), (0 : Int)⟩ : backup_reader) v12) rfl (h15.cells1) rfl (by rw [backup_reader.len]; decide) rfl .nil))) ?_
  refine wv rfl (fun a w hf hs => r_build (is := [0]) (xs := [.tmp 19]) (vs := [(.agg (backup_reader.C (⟨(bytesI p1), (0 : Int)⟩ : backup_reader) v12).toArray)]) (A := backup_blobReader.C (⟨(⟨(bytesI p1), (0 : Int)⟩ : backup_reader), ([] : List UInt8)⟩ : backup_blobReader) v12) rfl (hf.evs rfl) (built_of (pl := [(0, 2), (2, 1)]) (A0 := backup_blobReader.C (⟨(⟨([] : (List Int)), (0 : Int)⟩ : backup_reader), ([] : List UInt8)⟩ : backup_blobReader) (.slice none 0 0)) tz82 Tryd.underlying82 (by kernel_rfl) rfl (.cons (vs := backup_reader.C (⟨(bytesI p1), (0 : Int)⟩ : backup_reader) v12) (B := backup_blobReader.C (⟨(⟨(bytesI p1), (0 : Int)⟩ : backup_reader), ([] : List UInt8)⟩ : backup_blobReader) v12) rfl rfl (backup_reader.len _ _) (by rw [backup_blobReader.len]; decide) rfl .nil))) ?_
  refine w_boxL trivial rfl rfl rfl ?_
  intro b16
  refine v_assign rfl rfl ?_
  refine w_nil (hK11 _ _ _ ?_)
  refine c_sr fun _ hK17 => ?_
  refine v_move rfl rfl ?_
  obtain ⟨t18, e19, H⟩ := bnd H
  refine w_callJ (b0 := b16) 1 cf51 trivial rfl rfl rfl rfl (fun w hs => backup_blobReader_peek.calls (b := b16) (T := 82) (q := []) (x_ := (⟨(⟨(bytesI p1), (0 : Int)⟩ : backup_reader), ([] : List UInt8)⟩ : backup_blobReader)) hs h15 _ e19) ?_
  rintro v22 M20 _ l21 ⟨v26, hv_, h27, n25, rfl⟩
  subst hv_
  replace hG := hG.mono l21
  refine w_L [.blk b2 (.cells (Backup.C (⟨(Vector.replicate 16 (0 : Int)), (0 : Int), (0 : Int), (0 : Int), (0 : Int), (Vector.replicate 16 (0 : Int)), ([] : List UInt8), ([] : (List Key))⟩ : Backup) (.slice none 0 0)).toArray 36 (0, 0)), .blk b16 (.cells (backup_blobReader.C t18.2 v26).toArray 82 (0, 0))] (by first | rfl | (rw [n25]; rfl)) ?_
  refine w_allocL (A := Backup.C (⟨(Vector.replicate 16 (0 : Int)), (0 : Int), (0 : Int), (0 : Int), (0 : Int), (Vector.replicate 16 (0 : Int)), ([] : List UInt8), ([] : (List Key))⟩ : Backup) (.slice none 0 0)) tz36 trivial rfl rfl ?_
  intro b28
  refine w_L [.blk b2 (.cells (Backup.C (⟨(Vector.replicate 16 (0 : Int)), (0 : Int), (0 : Int), (0 : Int), (0 : Int), (Vector.replicate 16 (0 : Int)), ([] : List UInt8), ([] : (List Key))⟩ : Backup) (.slice none 0 0)).toArray 36 (0, 0)), .blk b16 (.cells (backup_blobReader.C t18.2 v26).toArray 82 (0, 0)), .blk b28 (.cells (Backup.C (⟨(Vector.replicate 16 (0 : Int)), (0 : Int), (0 : Int), (0 : Int), (0 : Int), (Vector.replicate 16 (0 : Int)), ([] : List UInt8), ([] : (List Key))⟩ : Backup) (.slice none 0 0)).toArray 36 (0, 0))] (by first | rfl | (rw [n25]; rfl)) ?_
  refine w_store (i := 2) (vs := Backup.C t18.1 (.slice none 0 0)) (A' := Backup.C t18.1 (.slice none 0 0)) trivial rfl rfl rfl rfl ts36 (Backup.len _ _) (Backup.C_one _ rfl) (by rw [Backup.len]; decide) (splice_all _ _ (by simp [Backup.C])) ?_
  refine w_L [.blk b2 (.cells (Backup.C (⟨(Vector.replicate 16 (0 : Int)), (0 : Int), (0 : Int), (0 : Int), (0 : Int), (Vector.replicate 16 (0 : Int)), ([] : List UInt8), ([] : (List Key))⟩ : Backup) (.slice none 0 0)).toArray 36 (0, 0)), .blk b16 (.cells (backup_blobReader.C t18.2 v26).toArray 82 (0, 0)), .blk b28 (.cells (Backup.C t18.1 (.slice none 0 0)).toArray 36 (0, 0))] (by first | rfl | (rw [n25]; rfl)) ?_
  refine w_nil (hK17 _ _ _ ?_)
  refine c_seq fun K29 hK29 => ?_
  refine c_sr fun _ hK30 => ?_
  refine v_move rfl rfl ?_
  refine wv rfl (fun a w hf hs => r_nilCheck (hf.ev rfl)) ?_
  refine v_fa fa82_0 rfl rfl ?_
  refine v_fa fa80_1 rfl rfl ?_
  refine wv rfl (fun a w hf hs => r_load1 ta24 (hf.ev rfl) (hs.blk (i := 1) rfl) rfl) ?_
  refine wv rfl (fun a w hf hs => r_neq (hf.ev rfl) (hf.ev rfl)) ?_
  refine w_nil (hK30 _ _ _ ?_)
  refine c_if rfl (fun b31 => ?_) (fun b31 => ?_)
  ·replace H := if_t b31 H
   refine c_seq fun K32 hK32 => ?_
   refine c_drawP [([], []), ([], [6]), ([(1, 31)], []), ([(2, 32)], []), ([(3, 33)], []), ([(4, 34)], []), ([(0, 30)], [4]), ([(5, 35)], [])] [fun v M => v = (.agg (Backup.C (⟨(Vector.replicate 16 (0 : Int)), (0 : Int), (0 : Int), (0 : Int), (0 : Int), (Vector.replicate 16 (0 : Int)), ([] : List UInt8), ([] : (List Key))⟩ : Backup) (.slice none 0 0)).toArray), fun v M => v = (ptr b16 0), fun v M => v = (ptr b16 0), fun v M => v = (ptr b16 0), fun v M => v = (ptr b16 1), fun v M => v = (.int .i64 t18.2.reader.e), fun _ _ => True, fun v M => v = (.int .i64 t18.2.reader.e)] (by kernel_rfl) (by kernel_rfl) ?_ (AllT.cons ?_ (AllT.cons ?_ (AllT.cons ?_ (AllT.cons ?_ (AllT.cons ?_ (AllT.cons ?_ (AllT.cons ?_ (AllT.cons ?_ AllT.nil)))))))) ?_
   ·exact (mC (mC (mC (mC (mC (mC (mC (mC MonoA.nil))))))))
   ·intro a w' M33 l34 hd hs
    exact pv hd.fr hs rfl (fun a w hf hs => r_build (is := []) (xs := []) (vs := []) (A := Backup.C (⟨(Vector.replicate 16 (0 : Int)), (0 : Int), (0 : Int), (0 : Int), (0 : Int), (Vector.replicate 16 (0 : Int)), ([] : List UInt8), ([] : (List Key))⟩ : Backup) (.slice none 0 0)) rfl (hf.evs rfl) (built_of (pl := [(0, 16), (16, 1), (17, 1), (18, 1), (19, 1), (20, 16), (36, 1), (37, 1)]) (A0 := Backup.C (⟨(Vector.replicate 16 (0 : Int)), (0 : Int), (0 : Int), (0 : Int), (0 : Int), (Vector.replicate 16 (0 : Int)), ([] : List UInt8), ([] : (List Key))⟩ : Backup) (.slice none 0 0)) tz36 Tryd.underlying36 (by kernel_rfl) rfl .nil)) rfl
   ·intro a w' M35 l36 hd hs
    exact pv (hd.fr.add (hd.base 6 _ rfl rfl)) hs rfl (fun a w hf hs => r_move (hf.ev rfl)) rfl
   ·intro a w' M37 l38 hd hs
    have e39 := hd.val 1 31 _ rfl rfl
    exact pv (hd.fr.add e39) hs rfl (fun a w hf hs => r_nilCheck (hf.ev rfl)) rfl
   ·intro a w' M40 l41 hd hs
    have e42 := hd.val 2 32 _ rfl rfl
    exact pv (hd.fr.add e42) hs rfl (fun a w hf hs => r_fa fa82_0 (hf.ev rfl)) rfl
   ·intro a w' M43 l44 hd hs
    have e45 := hd.val 3 33 _ rfl rfl
    exact pv (hd.fr.add e45) hs rfl (fun a w hf hs => r_fa fa80_1 (hf.ev rfl)) rfl
   ·intro a w' M46 l47 hd hs
    have e48 := hd.val 4 34 _ rfl rfl
    exact pv (hd.fr.add e48) hs rfl (fun a w hf hs => r_load1 ta24 (hf.ev rfl) (hs.blk (i := 1) rfl) rfl) rfl
   ·intro a w' M49 l50 hd hs
    have e51 := hd.val 0 30 _ rfl rfl
    refine OP.ofW (l := [(4, (ptr b2 0)), (30, (.agg (Backup.C (⟨(Vector.replicate 16 (0 : Int)), (0 : Int), (0 : Int), (0 : Int), (0 : Int), (Vector.replicate 16 (0 : Int)), ([] : List UInt8), ([] : (List Key))⟩ : Backup) (.slice none 0 0)).toArray))]) ((hd.fr.add e51).add (hd.base 4 _ rfl rfl)) hs rfl ?_
    refine w_store (i := 0) (vs := Backup.C (⟨(Vector.replicate 16 (0 : Int)), (0 : Int), (0 : Int), (0 : Int), (0 : Int), (Vector.replicate 16 (0 : Int)), ([] : List UInt8), ([] : (List Key))⟩ : Backup) (.slice none 0 0)) (A' := Backup.C (⟨(Vector.replicate 16 (0 : Int)), (0 : Int), (0 : Int), (0 : Int), (0 : Int), (Vector.replicate 16 (0 : Int)), ([] : List UInt8), ([] : (List Key))⟩ : Backup) (.slice none 0 0)) trivial rfl rfl rfl rfl ts36 (Backup.len _ _) (Backup.C_one _ rfl) (by rw [Backup.len]; decide) (splice_all _ _ (by simp [Backup.C])) ?_
    exact w_nil fun a w' hf hs => ⟨rfl, hf.df, _, (HLe.refl _), hs, trivial⟩
   ·intro a w' M52 l53 hd hs
    have e54 := hd.val 5 35 _ rfl rfl
    exact pv (hd.fr.add e54) hs rfl (fun a w hf hs => r_assign (hf.ev rfl)) rfl
   intro a w' M55 l56 hdf hsz hb hv hs
   replace hG := hG.mono l56
   replace h27 := h27.mono l56
   have e57 := hv 7 5 _ rfl rfl
   refine n_of (c := (Cx.mk Tryd.prog 87 none' M w)) (l := [(4, (ptr b2 0)), (5, (.int .i64 t18.2.reader.e))]) ?_ (((Fr.start hdf hsz).add e57).add (hb 4 _ rfl rfl)) hs
   clear hdf hsz hb hv hs e57
   refine n_id (hK32 _ _ _ ?_)
   obtain rfl := some_r H
   exact c_ret fun a w' hf hs => hret _ (.inl rfl) a w' hf.df ⟨_, _, Res.of2 rfl ⟨_, hf.get _ _ rfl, run_loadA (hs.blk (i := 0) rfl) ta36 ts36 (Backup.d0_38 _ _) (Backup.len _ _)⟩ (RV.t hf rfl), hs.ext, ⟨_, rfl, RS.none⟩⟩
  ·replace H := if_f b31 H
   refine c_skip (hK29 _ _ _ ?_)
   refine c_seq fun K58 hK58 => ?_
   obtain ⟨t64, e69, H⟩ := bnd H
   obtain ⟨t103, e108, H⟩ := bnd H
   refine c_drawP [([], [0]), ([(0, 37)], []), ([], [6]), ([(2, 39)], []), ([(3, 40)], []), ([(4, 41)], []), ([], [6]), ([(6, 43)], []), ([(7, 44)], []), ([(8, 45)], []), ([(9, 46)], []), ([(10, 47)], []), ([(1, 38), (5, 42), (11, 48)], []), ([(12, 49)], []), ([(13, 36)], []), ([(13, 36)], []), ([(14, 50)], []), ([(15, 51)], [])] [fun v M => v = (str p0), fun v M => v = (str t64), fun v M => v = (ptr b16 0), fun v M => v = (ptr b16 0), fun v M => v = (ptr b16 2), fun v M => v = (str t18.2.header), fun v M => v = (ptr b16 0), fun v M => v = (ptr b16 0), fun v M => v = (ptr b16 0), fun v M => v = (ptr b16 0), fun v M => v = v26, fun v M => v = (str (intsB t18.2.reader.rest_)), fun v M => v = (.tuple #[(str t103.1), (.int .i64 t103.2)]), fun v M => v = (.tuple #[(str t103.1), (.int .i64 t103.2)]), fun v M => v = (str t103.1), fun v M => v = (.int .i64 t103.2), fun v M => v = (str t103.1), fun v M => v = (.int .i64 t103.2)] (by kernel_rfl) (by kernel_rfl) ?_ (AllT.cons ?_ (AllT.cons ?_ (AllT.cons ?_ (AllT.cons ?_ (AllT.cons ?_ (AllT.cons ?_ (AllT.cons ?_ (AllT.cons ?_ (AllT.cons ?_ (AllT.cons ?_ (AllT.cons ?_ (AllT.cons ?_ (AllT.cons ?_ (AllT.cons ?_ (AllT.cons ?_ (AllT.cons ?_ (AllT.cons ?_ (AllT.cons ?_ AllT.nil)))))))))))))))))) ?_
   ·exact (mC (mC (mC (mC (mC (mC (mC (mC (mC (mC (mC (mC (mC (mC (mC (mC (mC (mC MonoA.nil))))))))))))))))))
   ·intro a w' M59 l60 hd hs
    exact pv (hd.fr.add (hd.base 0 _ rfl rfl)) hs rfl (fun a w hf hs => r_move (hf.ev rfl)) rfl
   ·intro a w' M61 l62 hd hs
    have e63 := hd.val 0 37 _ rfl rfl
    replace hG := hG.mono l62
    refine OP.ofW (l := [(37, (str p0))]) (hd.fr.add e63) hs rfl ?_
    refine w_call cf49 trivial rfl rfl (fun w hs => kdf_Derive.calls hs hG p0 ([98, 97, 99, 107, 117, 112] : List UInt8) ([] : (List (List UInt8))) (.slice none 0 0) RS.none _ e69) ?_
    rintro _ M66 l67 rfl
    exact w_nil fun a w' hf hs => ⟨rfl, hf.df, _, l67, hs, hf.get _ _ rfl⟩
   ·intro a w' M70 l71 hd hs
    exact pv (hd.fr.add (hd.base 6 _ rfl rfl)) hs rfl (fun a w hf hs => r_move (hf.ev rfl)) rfl
   ·intro a w' M72 l73 hd hs
    have e74 := hd.val 2 39 _ rfl rfl
    exact pv (hd.fr.add e74) hs rfl (fun a w hf hs => r_nilCheck (hf.ev rfl)) rfl
   ·intro a w' M75 l76 hd hs
    have e77 := hd.val 3 40 _ rfl rfl
    exact pv (hd.fr.add e77) hs rfl (fun a w hf hs => r_fa fa82_1 (hf.ev rfl)) rfl
   ·intro a w' M78 l79 hd hs
    have e80 := hd.val 4 41 _ rfl rfl
    exact pv (hd.fr.add e80) hs rfl (fun a w hf hs => r_load1 ta9 (hf.ev rfl) (hs.blk (i := 1) rfl) rfl) rfl
   ·intro a w' M81 l82 hd hs
    exact pv (hd.fr.add (hd.base 6 _ rfl rfl)) hs rfl (fun a w hf hs => r_move (hf.ev rfl)) rfl
   ·intro a w' M83 l84 hd hs
    have e85 := hd.val 6 43 _ rfl rfl
    exact pv (hd.fr.add e85) hs rfl (fun a w hf hs => r_nilCheck (hf.ev rfl)) rfl
   ·intro a w' M86 l87 hd hs
    have e88 := hd.val 7 44 _ rfl rfl
    exact pv (hd.fr.add e88) hs rfl (fun a w hf hs => r_fa fa82_0 (hf.ev rfl)) rfl
   ·intro a w' M89 l90 hd hs
    have e91 := hd.val 8 45 _ rfl rfl
    exact pv (hd.fr.add e91) hs rfl (fun a w hf hs => r_fa fa80_0 (hf.ev rfl)) rfl
   ·intro a w' M92 l93 hd hs
    have e94 := hd.val 9 46 _ rfl rfl
    exact pv (hd.fr.add e94) hs rfl (fun a w hf hs => r_load1 ta66 (hf.ev rfl) (hs.blk (i := 1) rfl) rfl) rfl
   ·intro a w' M95 l96 hd hs
    have e97 := hd.val 10 47 _ rfl rfl
    replace h27 := h27.mono l96
    exact pv (hd.fr.add e97) hs rfl (fun a w hf hs => r_b2s Tryd.underlying66 Tryd.underlying5 Tryd.underlying9 h27 hs.sub (hf.ev rfl)) rfl
   ·intro a w' M98 l99 hd hs
    have e100 := hd.val 1 38 _ rfl rfl
    have e101 := hd.val 5 42 _ rfl rfl
    have e102 := hd.val 11 48 _ rfl rfl
    replace hG := hG.mono l99
    refine OP.ofW (l := [(38, (str t64)), (42, (str t18.2.header)), (48, (str (intsB t18.2.reader.rest_)))]) (((hd.fr.add e102).add e101).add e100) hs rfl ?_
    refine w_call cf17 trivial rfl rfl (fun w hs => seal_Open.calls hs hG t64 t18.2.header (intsB t18.2.reader.rest_) _ e108) ?_
    rintro _ M105 l106 rfl
    exact w_nil fun a w' hf hs => ⟨rfl, hf.df, _, l106, hs, hf.get _ _ rfl⟩
   ·intro a w' M109 l110 hd hs
    have e111 := hd.val 12 49 _ rfl rfl
    exact pv (hd.fr.add e111) hs rfl (fun a w hf hs => r_move (hf.ev rfl)) rfl
   ·intro a w' M112 l113 hd hs
    have e114 := hd.val 13 36 _ rfl rfl
    exact pv (hd.fr.add e114) hs rfl (fun a w hf hs => r_extract (hf.ev rfl) rfl) rfl
   ·intro a w' M115 l116 hd hs
    have e117 := hd.val 13 36 _ rfl rfl
    exact pv (hd.fr.add e117) hs rfl (fun a w hf hs => r_extract (hf.ev rfl) rfl) rfl
   ·intro a w' M118 l119 hd hs
    have e120 := hd.val 14 50 _ rfl rfl
    exact pv (hd.fr.add e120) hs rfl (fun a w hf hs => r_assign (hf.ev rfl)) rfl
   ·intro a w' M121 l122 hd hs
    have e123 := hd.val 15 51 _ rfl rfl
    exact pv (hd.fr.add e123) hs rfl (fun a w hf hs => r_assign (hf.ev rfl)) rfl
   intro a w' M124 l125 hdf hsz hb hv hs
   have e126 := hv 16 8 _ rfl rfl
   have e127 := hv 17 9 _ rfl rfl
   refine n_of (c := (Cx.mk Tryd.prog 87 none' M w)) (l := [(4, (ptr b2 0)), (7, (ptr b28 0)), (8, (str t103.1)), (9, (.int .i64 t103.2))]) ?_ (((((Fr.start hdf hsz).add e127).add e126).add (hb 7 _ rfl rfl)).add (hb 4 _ rfl rfl)) hs
   clear hdf hsz hb hv hs e126 e127
   refine n_id (hK58 _ _ _ ?_)
   refine c_seq fun K128 hK128 => ?_
   refine c_sr fun _ hK129 => ?_
   refine v_move rfl rfl ?_
   refine wv rfl (fun a w hf hs => r_neq (hf.ev rfl) (hf.ev rfl)) ?_
   refine w_nil (hK129 _ _ _ ?_)
   refine c_if rfl (fun b130 => ?_) (fun b130 => ?_)
   ·replace H := if_t b130 H
    refine c_sr fun _ hK131 => ?_
    refine wv rfl (fun a w hf hs => r_build (is := []) (xs := []) (vs := []) (A := Backup.C (⟨(Vector.replicate 16 (0 : Int)), (0 : Int), (0 : Int), (0 : Int), (0 : Int), (Vector.replicate 16 (0 : Int)), ([] : List UInt8), ([] : (List Key))⟩ : Backup) (.slice none 0 0)) rfl (hf.evs rfl) (built_of (pl := [(0, 16), (16, 1), (17, 1), (18, 1), (19, 1), (20, 16), (36, 1), (37, 1)]) (A0 := Backup.C (⟨(Vector.replicate 16 (0 : Int)), (0 : Int), (0 : Int), (0 : Int), (0 : Int), (Vector.replicate 16 (0 : Int)), ([] : List UInt8), ([] : (List Key))⟩ : Backup) (.slice none 0 0)) tz36 Tryd.underlying36 (by kernel_rfl) rfl .nil)) ?_
    refine v_move rfl rfl ?_
    obtain ⟨z132, e134, H⟩ := bnd H
    have e133 := some_r e134
    refine w_store (i := 0) (vs := Backup.C (⟨(Vector.replicate 16 (0 : Int)), (0 : Int), (0 : Int), (0 : Int), (0 : Int), (Vector.replicate 16 (0 : Int)), ([] : List UInt8), ([] : (List Key))⟩ : Backup) (.slice none 0 0)) (A' := Backup.C z132 (.slice none 0 0)) trivial rfl rfl rfl rfl ts36 (Backup.len _ _) (Backup.C_one _ rfl) (by rw [Backup.len]; decide) (by rw [← e133]; exact (splice_all _ _ (by simp [Backup.C]))) ?_
    have h135 : RS Key.F M124 (.slice none 0 0) z132.Keys := by rw [← e133]; exact RS.none
    clear e134 e133
    refine w_L [.blk b2 (.cells (Backup.C z132 (.slice none 0 0)).toArray 36 (0, 0)), .blk b16 (.cells (backup_blobReader.C t18.2 v26).toArray 82 (0, 0)), .blk b28 (.cells (Backup.C t18.1 (.slice none 0 0)).toArray 36 (0, 0))] (by first | rfl | (rw [n25]; rfl)) ?_
    refine v_assign rfl rfl ?_
    refine w_nil (hK131 _ _ _ ?_)
    obtain rfl := some_r H
    exact c_ret fun a w' hf hs => hret _ (.inl rfl) a w' hf.df ⟨_, _, Res.of2 rfl ⟨_, hf.get _ _ rfl, run_loadA (hs.blk (i := 0) rfl) ta36 ts36 (Backup.d0_38 _ _) (Backup.len _ _)⟩ (RV.t hf rfl), hs.ext, ⟨_, rfl, h135⟩⟩
   ·replace H := if_f b130 H
    refine c_skip (hK128 _ _ _ ?_)
    refine c_sr fun _ hK136 => ?_
    refine v_move rfl rfl ?_
    refine w_s2b Tryd.underlying9 Tryd.underlying66 Tryd.underlying5 trivial rfl rfl ?_
    intro v137 M138 l139 h140
    refine wv rfl (fun a w hf hs => r_build (is := [0]) (xs := [.tmp 57]) (vs := [v137]) (A := backup_reader.C (⟨(bytesI t103.1), (0 : Int)⟩ : backup_reader) v137) rfl (hf.evs rfl) (built_of (pl := [(0, 1), (1, 1)]) (A0 := backup_reader.C (⟨([] : (List Int)), (0 : Int)⟩ : backup_reader) (.slice none 0 0)) tz80 Tryd.underlying80 (by kernel_rfl) rfl (.cons (vs := [v137]) (B := backup_reader.C (⟨(bytesI t103.1), (0 : Int)⟩ : backup_reader) v137) rfl (h140.cells1) rfl (by rw [backup_reader.len]; decide) rfl .nil))) ?_
    refine w_boxL trivial rfl rfl rfl ?_
    intro b141
    refine v_assign rfl rfl ?_
    refine w_nil (hK136 _ _ _ ?_)
    refine c_row0 55 9 ?_
    refine c_cut (fun a' w' => ∃ (x142 : Backup) (v143 : Value) (x144 : backup_reader) (v145 : Value) (M147 : Heap), HLe M138 M147 ∧ RS (FI .u8) M147 v145 x144.rest_ ∧ Fr 87 [(4, (ptr b2 0)), (7, (ptr b28 0)), (10, (ptr b141 0))] a' ∧ St none' M w M147 (lt [.blk b2 (.cells (Backup.C (⟨(Vector.replicate 16 (0 : Int)), (0 : Int), (0 : Int), (0 : Int), (0 : Int), (Vector.replicate 16 (0 : Int)), ([] : List UInt8), ([] : (List Key))⟩ : Backup) (.slice none 0 0)).toArray 36 (0, 0)), dead, .blk b28 (.cells (Backup.C x142 v143).toArray 36 (0, 0)), .blk b141 (.cells (backup_reader.C x144 v145).toArray 80 (0, 0)), rowI Key.F v143 55 x142.Keys]) w' ∧ backup_Open.j1 x142 x144 = some r) ?_ ?_
    ·refine c_seq ?_
     intro K192 hK192
     refine c_reg ?_
     refine v_move rfl rfl ?_
     obtain ⟨t193, e194, H⟩ := bnd H
     refine w_callJ (b0 := b141) 3 cf52 trivial rfl rfl rfl rfl (fun w hs => backup_whole_LLstring.calls (b := b141) (T := 80) (q := []) (x_ := (⟨(bytesI t103.1), (0 : Int)⟩ : backup_reader)) hs h140 _ e194) ?_
     rintro v197 M195 _ l196 ⟨v198, v200, hv_, h199, h201, rfl⟩
     replace hv_ := hv_.symm
     subst hv_
     refine w_L [.blk b2 (.cells (Backup.C (⟨(Vector.replicate 16 (0 : Int)), (0 : Int), (0 : Int), (0 : Int), (0 : Int), (Vector.replicate 16 (0 : Int)), ([] : List UInt8), ([] : (List Key))⟩ : Backup) (.slice none 0 0)).toArray 36 (0, 0)), .blk b16 (.cells (backup_blobReader.C t18.2 v26).toArray 82 (0, 0)), .blk b28 (.cells (Backup.C t18.1 (.slice none 0 0)).toArray 36 (0, 0)), .blk b141 (.cells (backup_reader.C t193.2 v200).toArray 80 (0, 0)), rowI Key.F (.slice none 0 0) 55 t18.1.Keys] (by first | rfl | (rw [n25]; rfl)) ?_
     refine wv rfl (fun a w hf hs => r_lenR Tryd.underlying63 h199 (hf.ev rfl)) ?_
     refine v_move rfl rfl ?_
     refine w_nil (hK192 _ _ _ ?_)
     refine c_block ?_
     refine c_loop (fun (s202 : (Backup × backup_reader × Int)) a' w' => ∃ (v203 : Value) (v204 : Value) (M206 : Heap), HLe M195 M206 ∧ RS (FI .u8) M206 v204 s202.2.1.rest_ ∧ Fr 87 [(4, (ptr b2 0)), (7, (ptr b28 0)), (10, (ptr b141 0)), (61, v198), (62, (.int .i64 (t193.1.length : Int))), (63, (.int .i64 s202.2.2))] a' ∧ St none' M w M206 (lt [.blk b2 (.cells (Backup.C (⟨(Vector.replicate 16 (0 : Int)), (0 : Int), (0 : Int), (0 : Int), (0 : Int), (Vector.replicate 16 (0 : Int)), ([] : List UInt8), ([] : (List Key))⟩ : Backup) (.slice none 0 0)).toArray 36 (0, 0)), dead, .blk b28 (.cells (Backup.C s202.1 v203).toArray 36 (0, 0)), .blk b141 (.cells (backup_reader.C s202.2.1 v204).toArray 80 (0, 0)), rowI Key.F v203 55 s202.1.Keys]) w') (t18.1, t193.2, (0 : Int)) H ?_ ?_
     ·intro a w' hf hs
      exact ⟨(.slice none 0 0), v200, _, HLe.refl _, h201, ((((((hf.nil.add (hf.get _ _ rfl)).add (hf.get _ _ rfl)).add (hf.get _ _ rfl)).add (hf.get _ _ rfl)).add (hf.get _ _ rfl)).add (hf.get _ _ rfl)), hs.selD [some 0, none, some 2, some 3, some 4] (by decide) rfl⟩
     ·clear H
      intro s202 y209 H r208 a w' hJ
      obtain ⟨v203, v204, M206, l207, h205, hf, hs⟩ := hJ
      refine c_of (c := (Cx.mk Tryd.prog 87 none' M w)) ?_ hf hs
      unfold backup_Open.l2 at H
      clear hf hs
      replace h199 := h199.mono l207
      refine c_sr fun _ hK210 => ?_
      refine v_lss rfl rfl rfl ?_
      refine w_nil (hK210 _ _ _ ?_)
      refine c_seq fun K211 hK211 => ?_
      refine c_if rfl (fun b212 => ?_) (fun b212 => ?_)
      ·replace H := if_t b212 H
       refine c_skip (hK211 _ _ _ ?_)
       refine c_seq fun K213 hK213 => ?_
       refine c_block ?_
       refine c_sr fun _ hK214 => ?_
       obtain ⟨g215, H⟩ := grd_s H
       refine wv rfl (fun a w hf hs => r_iR Tryd.underlying63 ts9 h199 (hf.ev rfl) (hf.ev rfl) g215.1 g215.2) ?_
       refine wv rfl (fun a w hf hs => r_loadE1 ta9 h199 hs.sub g215.1 g215.2 (hf.ev rfl) rfl) ?_
       refine v_assign rfl rfl ?_
       refine w_nil (hK214 _ _ _ ?_)
       refine c_split2 6 (by kernel_rfl) (by kernel_rfl) (by kernel_rfl) (by kernel_rfl) rfl ?_
       intro K216 hK216
       obtain ⟨t230, e231, H⟩ := bnd H
       refine d_drawW [[], [], [], [4], []] [⟨[], [7], [], none⟩, ⟨[(0, 67)], [], [(2, 0)], none⟩, ⟨[], [10], [], none⟩, ⟨[], [12], [], none⟩, ⟨[(2, 69), (3, 70)], [], [(3, 0)], some (3, 0)⟩, ⟨[(4, 71)], [], [], none⟩] [fun v M => v = (ptr b28 37), fun v M => v = v203, fun v M => v = (ptr b141 0), fun v M => v = (str (rd t193.1 s202.2.2)), fun v M => v = (.agg (Key.C t230.1).toArray), fun v M => ∃ (v240 : Value), v = v240 ∧ RS Key.F M v240 ([t230.1] : List Key) ∧ ∃ A, v240 = .slice A ([t230.1] : List Key).length ([t230.1] : List Key).length] [[fun y M => y = .blk b2 (.cells (Backup.C (⟨(Vector.replicate 16 (0 : Int)), (0 : Int), (0 : Int), (0 : Int), (0 : Int), (Vector.replicate 16 (0 : Int)), ([] : List UInt8), ([] : (List Key))⟩ : Backup) (.slice none 0 0)).toArray 36 (0, 0))], [fun y M => y = dead], [fun y M => y = .blk b28 (.cells (Backup.C s202.1 v203).toArray 36 (0, 0))], [fun y M => y = .blk b141 (.cells (backup_reader.C s202.2.1 v204).toArray 80 (0, 0)), fun y M => ∃ (v235 : Value), y = .blk b141 (.cells (backup_reader.C t230.2 v235).toArray 80 (0, 0)) ∧ RS (FI .u8) M v235 t230.2.rest_], [fun y M => y = rowI Key.F v203 55 s202.1.Keys]] (by kernel_rfl) (by kernel_rfl) ?_ ?_ rfl ?_ (AllW.cons ?_ (AllW.cons ?_ (AllW.cons ?_ (AllW.cons ?_ (AllW.cons ?_ (AllW.cons ?_ AllW.nil)))))) ?_
       ·exact (mC (mC (mC (mC (mC (MonoA.cons (fun _ _ _ hM h => by obtain ⟨v240, e_, q0, q1⟩ := h; exact ⟨v240, e_, q0.mono hM, q1⟩) MonoA.nil))))))
       ·exact (MonoK.cons (mono_cons (fun _ _ _ _ h => h) mono_nil) (MonoK.cons (mono_cons (fun _ _ _ _ h => h) mono_nil) (MonoK.cons (mono_cons (fun _ _ _ _ h => h) mono_nil) (MonoK.cons (mono_cons (fun _ _ _ _ h => h) (mono_cons (fun _ _ _ hM h => by obtain ⟨v235, e_, q0⟩ := h; exact ⟨v235, e_, q0.mono hM⟩) mono_nil)) (MonoK.cons (mono_cons (fun _ _ _ _ h => h) mono_nil) MonoK.nil)))))
       ·exact (All0.cons rfl (All0.cons rfl (All0.cons rfl (All0.cons rfl (All0.cons rfl All0.nil)))))
       ·intro a w' M217 L_ l218 hL hd hs
        obtain ⟨x0_, L0_, rfl, hL0⟩ := lenS hL
        obtain ⟨x1_, L1_, rfl, hL1⟩ := lenS hL0
        obtain ⟨x2_, L2_, rfl, hL2⟩ := lenS hL1
        obtain ⟨x3_, L3_, rfl, hL3⟩ := lenS hL2
        obtain ⟨x4_, L4_, rfl, hL4⟩ := lenS hL3
        obtain rfl := len0 hL4
        exact pw (hd.fr.add (hd.base 7 _ rfl rfl)) hs rfl (fun a w hf hs => r_fa fa36_7 (hf.ev rfl)) rfl rfl
       ·intro a w' M219 L_ l220 hL hd hs
        have e221 := hd.val 0 67 _ rfl rfl
        obtain ⟨x0_, L0_, rfl, hL0⟩ := lenS hL
        obtain ⟨x1_, L1_, rfl, hL1⟩ := lenS hL0
        obtain ⟨x2_, L2_, rfl, hL2⟩ := lenS hL1
        obtain ⟨x3_, L3_, rfl, hL3⟩ := lenS hL2
        obtain ⟨x4_, L4_, rfl, hL4⟩ := lenS hL3
        obtain rfl := len0 hL4
        obtain ⟨_, ⟨⟩, rfl⟩ := hd.item 2 0 _ rfl rfl
        exact pw (hd.fr.add e221) hs rfl (fun a w hf hs => r_load1 ta34 (hf.ev rfl) (hs.blk (i := 2) rfl) (Backup.g37 _ _)) rfl rfl
       ·intro a w' M222 L_ l223 hL hd hs
        obtain ⟨x0_, L0_, rfl, hL0⟩ := lenS hL
        obtain ⟨x1_, L1_, rfl, hL1⟩ := lenS hL0
        obtain ⟨x2_, L2_, rfl, hL2⟩ := lenS hL1
        obtain ⟨x3_, L3_, rfl, hL3⟩ := lenS hL2
        obtain ⟨x4_, L4_, rfl, hL4⟩ := lenS hL3
        obtain rfl := len0 hL4
        exact pw (hd.fr.add (hd.base 10 _ rfl rfl)) hs rfl (fun a w hf hs => r_move (hf.ev rfl)) rfl rfl
       ·intro a w' M224 L_ l225 hL hd hs
        obtain ⟨x0_, L0_, rfl, hL0⟩ := lenS hL
        obtain ⟨x1_, L1_, rfl, hL1⟩ := lenS hL0
        obtain ⟨x2_, L2_, rfl, hL2⟩ := lenS hL1
        obtain ⟨x3_, L3_, rfl, hL3⟩ := lenS hL2
        obtain ⟨x4_, L4_, rfl, hL4⟩ := lenS hL3
        obtain rfl := len0 hL4
        exact pw (hd.fr.add (hd.base 12 _ rfl rfl)) hs rfl (fun a w hf hs => r_move (hf.ev rfl)) rfl rfl
       ·intro a w' M226 L_ l227 hL hd hs
        have e228 := hd.val 2 69 _ rfl rfl
        have e229 := hd.val 3 70 _ rfl rfl
        obtain ⟨x0_, L0_, rfl, hL0⟩ := lenS hL
        obtain ⟨x1_, L1_, rfl, hL1⟩ := lenS hL0
        obtain ⟨x2_, L2_, rfl, hL2⟩ := lenS hL1
        obtain ⟨x3_, L3_, rfl, hL3⟩ := lenS hL2
        obtain ⟨x4_, L4_, rfl, hL4⟩ := lenS hL3
        obtain rfl := len0 hL4
        obtain ⟨_, ⟨⟩, rfl⟩ := hd.item 3 0 _ rfl rfl
        replace h205 := h205.mono l227
        refine OP.ofW (l := [(69, (ptr b141 0)), (70, (str (rd t193.1 s202.2.2)))]) ((hd.fr.add e229).add e228) hs rfl ?_
        refine w_callJ (b0 := b141) 3 cf54 trivial rfl rfl rfl rfl (fun w hs => backup_reader_key.calls (b := b141) (T := 80) (q := []) (x_ := s202.2.1) hs h205 (rd t193.1 s202.2.2) _ e231) ?_
        rintro v234 M232 _ l233 ⟨v235, hv_, h236, rfl⟩
        subst hv_
        replace h205 := h205.mono l233
        exact w_nil fun a w' hf hs => ⟨rfl, hf.df, _, _, l233, hs, hf.get _ _ rfl, ⟨.blk b141 (.cells (backup_reader.C t230.2 v235).toArray 80 (0, 0)), rfl, of_some (q := fun y M => ∃ (v235 : Value), y = .blk b141 (.cells (backup_reader.C t230.2 v235).toArray 80 (0, 0)) ∧ RS (FI .u8) M v235 t230.2.rest_) ⟨v235, rfl, h236⟩⟩⟩
       ·intro a w' M237 L_ l238 hL hd hs
        have e239 := hd.val 4 71 _ rfl rfl
        obtain ⟨x0_, L0_, rfl, hL0⟩ := lenS hL
        obtain ⟨x1_, L1_, rfl, hL1⟩ := lenS hL0
        obtain ⟨x2_, L2_, rfl, hL2⟩ := lenS hL1
        obtain ⟨x3_, L3_, rfl, hL3⟩ := lenS hL2
        obtain ⟨x4_, L4_, rfl, hL4⟩ := lenS hL3
        obtain rfl := len0 hL4
        refine OP.ofW (l := [(71, (.agg (Key.C t230.1).toArray))]) (hd.fr.add e239) hs rfl ?_
        refine w_bsl (F := Key.F) (es := ([t230.1] : List Key)) (xs := [.tmp 71]) (vs := [(.agg (Key.C t230.1).toArray)]) Tryd.underlying34 te55 trivial rfl rfl rfl rfl rfl (by decide) ?_
        intro v240 M241 l242 h243 c244
        exact w_nil fun a w' hf hs => ⟨rfl, hf.df, _, _, l242, hs, ⟨v240, hf.get _ _ rfl, h243, c244⟩, rfl⟩
       intro a w' M245 L_ l246 hL hdf hsz hb hv hi hs
       replace h205 := h205.mono l246
       have e247 := hv 1 68 _ rfl rfl
       obtain ⟨v248, e252, h249, h251⟩ := hv 5 72 _ rfl rfl
       obtain ⟨x0_, L0_, rfl, hL0⟩ := lenS hL
       obtain ⟨x1_, L1_, rfl, hL1⟩ := lenS hL0
       obtain ⟨x2_, L2_, rfl, hL2⟩ := lenS hL1
       obtain ⟨x3_, L3_, rfl, hL3⟩ := lenS hL2
       obtain ⟨x4_, L4_, rfl, hL4⟩ := lenS hL3
       obtain rfl := len0 hL4
       obtain ⟨_, hy, rfl⟩ := hi 0 _ rfl
       obtain rfl := Option.some.inj hy
       obtain ⟨_, hy, rfl⟩ := hi 1 _ rfl
       obtain rfl := Option.some.inj hy
       obtain ⟨_, hy, rfl⟩ := hi 2 _ rfl
       obtain rfl := Option.some.inj hy
       obtain ⟨_, hy, v253, rfl, h254⟩ := hi 3 _ rfl
       obtain rfl := Option.some.inj hy
       obtain ⟨_, hy, rfl⟩ := hi 4 _ rfl
       obtain rfl := Option.some.inj hy
       clear hi hy
       refine n_of (c := (Cx.mk Tryd.prog 87 none' M w)) (l := [(4, (ptr b2 0)), (7, (ptr b28 0)), (10, (ptr b141 0)), (61, v198), (62, (.int .i64 (t193.1.length : Int))), (63, (.int .i64 s202.2.2)), (68, v203), (72, v248)]) ?_ (((((((((Fr.start hdf hsz).add e252).add e247).add (hb 63 _ rfl rfl)).add (hb 62 _ rfl rfl)).add (hb 61 _ rfl rfl)).add (hb 10 _ rfl rfl)).add (hb 7 _ rfl rfl)).add (hb 4 _ rfl rfl)) hs
       clear hdf hsz hb hv hs e247 e252
       refine n_id (hK216 _ _ _ ?_)
       obtain ⟨g255, H⟩ := grd_s H
       refine w_app (F := Key.F) (m2 := ([t230.1] : List Key)) (i := 4) Tryd.underlying34 te55 Tryd.underlying34 (.inl ⟨_, rfl⟩) trivial rfl rfl rfl rfl (Src.rs Key.F_one h249) g255 ?_
       intro v256
       refine v_fa fa36_7 rfl rfl ?_
       refine w_rcell 4 rfl ?_
       intro q257
       refine w_store (i := 2) (vs := [v256]) (A' := Backup.C ({ s202.1 with Keys := (s202.1.Keys ++ ([t230.1] : List Key)) } : Backup) v256) trivial rfl rfl rfl q257.1 ts34 rfl (one1 q257.2) (by rw [Backup.len]; decide) (Backup.s37_1 _ _) ?_
       refine w_L [.blk b2 (.cells (Backup.C (⟨(Vector.replicate 16 (0 : Int)), (0 : Int), (0 : Int), (0 : Int), (0 : Int), (Vector.replicate 16 (0 : Int)), ([] : List UInt8), ([] : (List Key))⟩ : Backup) (.slice none 0 0)).toArray 36 (0, 0)), dead, .blk b28 (.cells (Backup.C ({ s202.1 with Keys := (s202.1.Keys ++ ([t230.1] : List Key)) } : Backup) v256).toArray 36 (0, 0)), .blk b141 (.cells (backup_reader.C t230.2 v253).toArray 80 (0, 0)), rowI Key.F v256 55 (s202.1.Keys ++ ([t230.1] : List Key))] (by first | rfl | (rw [n25]; rfl)) ?_
       refine w_nil (hK213 _ _ _ ?_)
       refine c_reg ?_
       refine v_add rfl rfl rfl ?_
       refine v_move rfl rfl ?_
       exact w_nil fun a w' hf hs => ⟨_, (some_r H).symm, v256, v253, _, l207.trans l246, h254, ((((((hf.nil.add (hf.get _ _ rfl)).add (hf.get _ _ rfl)).add (hf.get _ _ rfl)).add (hf.get _ _ rfl)).add (hf.get _ _ rfl)).add (hf.get _ _ rfl)), hs.selD [some 0, none, some 2, some 3, some 4] (by decide) rfl⟩
      ·replace H := if_f b212 H
       replace H := map_inr H r208
       refine c_exit ?_
       intro a w' hf hs
       exact ⟨s202.1, v203, s202.2.1, v204, _, (l196.trans l207), h205, (((hf.nil.add (hf.get _ _ rfl)).add (hf.get _ _ rfl)).add (hf.get _ _ rfl)), hs.selD [some 0, none, some 2, some 3, some 4] (by decide) rfl, H⟩
    ·rintro a w' ⟨x142, v143, x144, v145, M147, l148, h146, hf, hs, H⟩
     refine c_of (c := (Cx.mk Tryd.prog 87 none' M w)) ?_ hf hs
     unfold backup_Open.j1 at H
     clear hf hs
     refine c_seq fun K149 hK149 => ?_
     refine c_sr fun _ hK150 => ?_
     refine v_move rfl rfl ?_
     refine wv rfl (fun a w hf hs => r_loadA ta36 ts36 (hf.ev rfl) (hs.blk (i := 2) rfl) (Backup.d0_38 _ _) (Backup.len _ _)) ?_
     obtain ⟨t154, e159, H⟩ := bnd H
     refine w_give 4 rfl (fun _ h => h) ?_
     intro M151 l152 h153
     replace h146 := h146.mono l152
     refine w_call cf46 trivial rfl rfl (fun w hs => backup_Valid.calls hs x142 v143 h153 _ e159) ?_
     rintro _ M156 l157 rfl
     replace h146 := h146.mono l157
     replace h153 := h153.mono l157
     obtain ⟨t160, e161, H⟩ := bnd H
     refine w_callJ (b0 := b141) 3 cf55 trivial rfl rfl rfl rfl (fun w hs => backup_reader_check.calls (b := b141) (T := 80) (q := []) (x_ := x144) hs h146 t154 (6 : Int) _ e161) ?_
     rintro v164 M162 _ l163 ⟨v165, hv_, h166, rfl⟩
     subst hv_
     replace h153 := h153.mono l163
     refine w_L [.blk b2 (.cells (Backup.C (⟨(Vector.replicate 16 (0 : Int)), (0 : Int), (0 : Int), (0 : Int), (0 : Int), (Vector.replicate 16 (0 : Int)), ([] : List UInt8), ([] : (List Key))⟩ : Backup) (.slice none 0 0)).toArray 36 (0, 0)), dead, .blk b28 (.cells (Backup.C x142 v143).toArray 36 (0, 0)), .blk b141 (.cells (backup_reader.C t160.2 v165).toArray 80 (0, 0)), dead] (by first | rfl | (rw [n25]; rfl)) ?_
     refine wv rfl (fun a w hf hs => r_not (hf.ev rfl)) ?_
     refine w_nil (hK150 _ _ _ ?_)
     refine c_if rfl (fun b167 => ?_) (fun b167 => ?_)
     ·replace H := if_t b167 H
      refine c_seq fun K168 hK168 => ?_
      refine c_drawP [([], []), ([], [10]), ([(1, 82)], []), ([(2, 83)], []), ([(3, 84)], []), ([(0, 81)], [4]), ([(4, 85)], [])] [fun v M => v = (.agg (Backup.C (⟨(Vector.replicate 16 (0 : Int)), (0 : Int), (0 : Int), (0 : Int), (0 : Int), (Vector.replicate 16 (0 : Int)), ([] : List UInt8), ([] : (List Key))⟩ : Backup) (.slice none 0 0)).toArray), fun v M => v = (ptr b141 0), fun v M => v = (ptr b141 0), fun v M => v = (ptr b141 1), fun v M => v = (.int .i64 t160.2.e), fun _ _ => True, fun v M => v = (.int .i64 t160.2.e)] (by kernel_rfl) (by kernel_rfl) ?_ (AllT.cons ?_ (AllT.cons ?_ (AllT.cons ?_ (AllT.cons ?_ (AllT.cons ?_ (AllT.cons ?_ (AllT.cons ?_ AllT.nil))))))) ?_
      ·exact (mC (mC (mC (mC (mC (mC (mC MonoA.nil)))))))
      ·intro a w' M169 l170 hd hs
       exact pv hd.fr hs rfl (fun a w hf hs => r_build (is := []) (xs := []) (vs := []) (A := Backup.C (⟨(Vector.replicate 16 (0 : Int)), (0 : Int), (0 : Int), (0 : Int), (0 : Int), (Vector.replicate 16 (0 : Int)), ([] : List UInt8), ([] : (List Key))⟩ : Backup) (.slice none 0 0)) rfl (hf.evs rfl) (built_of (pl := [(0, 16), (16, 1), (17, 1), (18, 1), (19, 1), (20, 16), (36, 1), (37, 1)]) (A0 := Backup.C (⟨(Vector.replicate 16 (0 : Int)), (0 : Int), (0 : Int), (0 : Int), (0 : Int), (Vector.replicate 16 (0 : Int)), ([] : List UInt8), ([] : (List Key))⟩ : Backup) (.slice none 0 0)) tz36 Tryd.underlying36 (by kernel_rfl) rfl .nil)) rfl
      ·intro a w' M171 l172 hd hs
       exact pv (hd.fr.add (hd.base 10 _ rfl rfl)) hs rfl (fun a w hf hs => r_move (hf.ev rfl)) rfl
      ·intro a w' M173 l174 hd hs
       have e175 := hd.val 1 82 _ rfl rfl
       exact pv (hd.fr.add e175) hs rfl (fun a w hf hs => r_nilCheck (hf.ev rfl)) rfl
      ·intro a w' M176 l177 hd hs
       have e178 := hd.val 2 83 _ rfl rfl
       exact pv (hd.fr.add e178) hs rfl (fun a w hf hs => r_fa fa80_1 (hf.ev rfl)) rfl
      ·intro a w' M179 l180 hd hs
       have e181 := hd.val 3 84 _ rfl rfl
       exact pv (hd.fr.add e181) hs rfl (fun a w hf hs => r_load1 ta24 (hf.ev rfl) (hs.blk (i := 3) rfl) rfl) rfl
      ·intro a w' M182 l183 hd hs
       have e184 := hd.val 0 81 _ rfl rfl
       refine OP.ofW (l := [(4, (ptr b2 0)), (81, (.agg (Backup.C (⟨(Vector.replicate 16 (0 : Int)), (0 : Int), (0 : Int), (0 : Int), (0 : Int), (Vector.replicate 16 (0 : Int)), ([] : List UInt8), ([] : (List Key))⟩ : Backup) (.slice none 0 0)).toArray))]) ((hd.fr.add e184).add (hd.base 4 _ rfl rfl)) hs rfl ?_
       refine w_store (i := 0) (vs := Backup.C (⟨(Vector.replicate 16 (0 : Int)), (0 : Int), (0 : Int), (0 : Int), (0 : Int), (Vector.replicate 16 (0 : Int)), ([] : List UInt8), ([] : (List Key))⟩ : Backup) (.slice none 0 0)) (A' := Backup.C (⟨(Vector.replicate 16 (0 : Int)), (0 : Int), (0 : Int), (0 : Int), (0 : Int), (Vector.replicate 16 (0 : Int)), ([] : List UInt8), ([] : (List Key))⟩ : Backup) (.slice none 0 0)) trivial rfl rfl rfl rfl ts36 (Backup.len _ _) (Backup.C_one _ rfl) (by rw [Backup.len]; decide) (splice_all _ _ (by simp [Backup.C])) ?_
       exact w_nil fun a w' hf hs => ⟨rfl, hf.df, _, (HLe.refl _), hs, trivial⟩
      ·intro a w' M185 l186 hd hs
       have e187 := hd.val 4 85 _ rfl rfl
       exact pv (hd.fr.add e187) hs rfl (fun a w hf hs => r_assign (hf.ev rfl)) rfl
      intro a w' M188 l189 hdf hsz hb hv hs
      replace h153 := h153.mono l189
      have e190 := hv 6 5 _ rfl rfl
      refine n_of (c := (Cx.mk Tryd.prog 87 none' M w)) (l := [(4, (ptr b2 0)), (5, (.int .i64 t160.2.e))]) ?_ (((Fr.start hdf hsz).add e190).add (hb 4 _ rfl rfl)) hs
      clear hdf hsz hb hv hs e190
      refine n_id (hK168 _ _ _ ?_)
      obtain rfl := some_r H
      exact c_ret fun a w' hf hs => hret _ (.inl rfl) a w' hf.df ⟨_, _, Res.of2 rfl ⟨_, hf.get _ _ rfl, run_loadA (hs.blk (i := 0) rfl) ta36 ts36 (Backup.d0_38 _ _) (Backup.len _ _)⟩ (RV.t hf rfl), hs.ext, ⟨_, rfl, RS.none⟩⟩
     ·replace H := if_f b167 H
      refine c_skip (hK149 _ _ _ ?_)
      refine c_sr fun _ hK191 => ?_
      refine wv rfl (fun a w hf hs => r_loadA ta36 ts36 (hf.ev rfl) (hs.blk (i := 2) rfl) (Backup.d0_38 _ _) (Backup.len _ _)) ?_
      refine w_store (i := 0) (vs := Backup.C x142 v143) (A' := Backup.C x142 v143) trivial rfl rfl rfl rfl ts36 (Backup.len _ _) (Backup.C_one _ h153.one) (by rw [Backup.len]; decide) (splice_all _ _ (by simp [Backup.C])) ?_
      refine w_L [.blk b2 (.cells (Backup.C x142 v143).toArray 36 (0, 0)), dead, .blk b28 (.cells (Backup.C x142 v143).toArray 36 (0, 0)), .blk b141 (.cells (backup_reader.C t160.2 v165).toArray 80 (0, 0)), dead] (by first | rfl | (rw [n25]; rfl)) ?_
      refine v_assign rfl rfl ?_
      refine w_nil (hK191 _ _ _ ?_)
      obtain rfl := some_r H
      exact c_ret fun a w' hf hs => hret _ (.inl rfl) a w' hf.df ⟨_, _, Res.of2 rfl ⟨_, hf.get _ _ rfl, run_loadA (hs.blk (i := 0) rfl) ta36 ts36 (Backup.d0_38 _ _) (Backup.len _ _)⟩ (RV.t hf rfl), hs.ext, ⟨_, rfl, h153⟩⟩
theorem backup_Peek.calls {M : Heap} {w : World} (hM : Sub M w) (p0 : (List UInt8)) (r : (Backup × Int)) (H : backup_Peek p0 = some r) :
  Calls Tryd.prog 45 [(str p0)].toArray w (Post M w fun M' v => ∃ v51, v = .tuple #[(.agg (Backup.C r.1 v51).toArray), (.int .i64 r.2)] ∧ RS Key.F M' v51 r.1.Keys) := by
 refine enter 26 [(0, (str p0))] Tryd.func45 rfl rfl rfl hM ?_
 intro Q hret
 unfold backup_Peek at H
 refine c_sr fun _ hK1 => ?_
 refine w_allocL (A := Backup.C (⟨(Vector.replicate 16 (0 : Int)), (0 : Int), (0 : Int), (0 : Int), (0 : Int), (Vector.replicate 16 (0 : Int)), ([] : List UInt8), ([] : (List Key))⟩ : Backup) (.slice none 0 0)) tz36 trivial rfl rfl ?_
 intro b2
 refine v_assign rfl rfl ?_
 refine w_nil (hK1 _ _ _ ?_)
 refine c_sr fun _ hK3 => ?_
 refine v_move rfl rfl ?_
 refine w_s2b Tryd.underlying9 Tryd.underlying66 Tryd.underlying5 trivial rfl rfl ?_
 intro v4 M5 l6 h7
 refine wv rfl (fun a w hf hs => r_build (is := [0]) (xs := [.tmp 7]) (vs := [v4]) (A := backup_reader.C (⟨(bytesI p0), (0 : Int)⟩ : backup_reader) v4) rfl (hf.evs rfl) (built_of (pl := [(0, 1), (1, 1)]) (A0 := backup_reader.C (⟨([] : (List Int)), (0 : Int)⟩ : backup_reader) (.slice none 0 0)) tz80 Tryd.underlying80 (by kernel_rfl) rfl (.cons (vs := [v4]) (B := backup_reader.C (⟨(bytesI p0), (0 : Int)⟩ : backup_reader) v4) rfl (h7.cells1) rfl (by rw [backup_reader.len]; decide) rfl .nil))) ?_
 refine wv rfl (fun a w hf hs => r_build (is := [0]) (xs := [.tmp 8]) (vs := [(.agg (backup_reader.C (⟨(bytesI p0), (0 : Int)⟩ : backup_reader) v4).toArray)]) (A := backup_blobReader.C (⟨(⟨(bytesI p0), (0 : Int)⟩ : backup_reader), ([] : List UInt8)⟩ : backup_blobReader) v4) rfl (hf.evs rfl) (built_of (pl := [(0, 2), (2, 1)]) (A0 := backup_blobReader.C (⟨(⟨([] : (List Int)), (0 : Int)⟩ : backup_reader), ([] : List UInt8)⟩ : backup_blobReader) (.slice none 0 0)) tz82 Tryd.underlying82 (by kernel_rfl) rfl (.cons (vs := backup_reader.C (⟨(bytesI p0), (0 : Int)⟩ : backup_reader) v4) (B := backup_blobReader.C (⟨(⟨(bytesI p0), (0 : Int)⟩ : backup_reader), ([] : List UInt8)⟩ : backup_blobReader) v4) rfl rfl (backup_reader.len _ _) (by rw [backup_blobReader.len]; decide) rfl .nil))) ?_
 refine w_boxL trivial rfl rfl rfl ?_
 intro b8
 refine v_assign rfl rfl ?_
 refine w_nil (hK3 _ _ _ ?_)
 refine c_sr fun _ hK9 => ?_
 refine v_move rfl rfl ?_
 obtain ⟨t10, e11, H⟩ := bnd H
 refine w_callJ (b0 := b8) 1 cf51 trivial rfl rfl rfl rfl (fun w hs => backup_blobReader_peek.calls (b := b8) (T := 82) (q := []) (x_ := (⟨(⟨(bytesI p0), (0 : Int)⟩ : backup_reader), ([] : List UInt8)⟩ : backup_blobReader)) hs h7 _ e11) ?_
 rintro v14 M12 _ l13 ⟨v18, hv_, h19, n17, rfl⟩
 subst hv_
 refine w_L [.blk b2 (.cells (Backup.C (⟨(Vector.replicate 16 (0 : Int)), (0 : Int), (0 : Int), (0 : Int), (0 : Int), (Vector.replicate 16 (0 : Int)), ([] : List UInt8), ([] : (List Key))⟩ : Backup) (.slice none 0 0)).toArray 36 (0, 0)), .blk b8 (.cells (backup_blobReader.C t10.2 v18).toArray 82 (0, 0))] (by first | rfl | (rw [n17]; rfl)) ?_
 refine w_allocL (A := Backup.C (⟨(Vector.replicate 16 (0 : Int)), (0 : Int), (0 : Int), (0 : Int), (0 : Int), (Vector.replicate 16 (0 : Int)), ([] : List UInt8), ([] : (List Key))⟩ : Backup) (.slice none 0 0)) tz36 trivial rfl rfl ?_
 intro b20
 refine w_L [.blk b2 (.cells (Backup.C (⟨(Vector.replicate 16 (0 : Int)), (0 : Int), (0 : Int), (0 : Int), (0 : Int), (Vector.replicate 16 (0 : Int)), ([] : List UInt8), ([] : (List Key))⟩ : Backup) (.slice none 0 0)).toArray 36 (0, 0)), .blk b8 (.cells (backup_blobReader.C t10.2 v18).toArray 82 (0, 0)), .blk b20 (.cells (Backup.C (⟨(Vector.replicate 16 (0 : Int)), (0 : Int), (0 : Int), (0 : Int), (0 : Int), (Vector.replicate 16 (0 : Int)), ([] : List UInt8), ([] : (List Key))⟩ : Backup) (.slice none 0 0)).toArray 36 (0, 0))] (by first | rfl | (rw [n17]; rfl)) ?_
 refine w_store (i := 2) (vs := Backup.C t10.1 (.slice none 0 0)) (A' := Backup.C t10.1 (.slice none 0 0)) trivial rfl rfl rfl rfl ts36 (Backup.len _ _) (Backup.C_one _ rfl) (by rw [Backup.len]; decide) (splice_all _ _ (by simp [Backup.C])) ?_
 refine w_L [.blk b2 (.cells (Backup.C (⟨(Vector.replicate 16 (0 : Int)), (0 : Int), (0 : Int), (0 : Int), (0 : Int), (Vector.replicate 16 (0 : Int)), ([] : List UInt8), ([] : (List Key))⟩ : Backup) (.slice none 0 0)).toArray 36 (0, 0)), .blk b8 (.cells (backup_blobReader.C t10.2 v18).toArray 82 (0, 0)), .blk b20 (.cells (Backup.C t10.1 (.slice none 0 0)).toArray 36 (0, 0))] (by first | rfl | (rw [n17]; rfl)) ?_
 refine w_nil (hK9 _ _ _ ?_)
 refine c_seq fun K21 hK21 => ?_
 refine c_sr fun _ hK22 => ?_
 refine v_move rfl rfl ?_
 refine wv rfl (fun a w hf hs => r_nilCheck (hf.ev rfl)) ?_
 refine v_fa fa82_0 rfl rfl ?_
 refine v_fa fa80_1 rfl rfl ?_
 refine wv rfl (fun a w hf hs => r_load1 ta24 (hf.ev rfl) (hs.blk (i := 1) rfl) rfl) ?_
 refine wv rfl (fun a w hf hs => r_neq (hf.ev rfl) (hf.ev rfl)) ?_
 refine w_nil (hK22 _ _ _ ?_)
 refine c_if rfl (fun b23 => ?_) (fun b23 => ?_)
 ·replace H := if_t b23 H
  refine c_seq fun K24 hK24 => ?_
  refine c_drawP [([], []), ([], [4]), ([(1, 20)], []), ([(2, 21)], []), ([(3, 22)], []), ([(4, 23)], []), ([(0, 19)], [2]), ([(5, 24)], [])] [fun v M => v = (.agg (Backup.C (⟨(Vector.replicate 16 (0 : Int)), (0 : Int), (0 : Int), (0 : Int), (0 : Int), (Vector.replicate 16 (0 : Int)), ([] : List UInt8), ([] : (List Key))⟩ : Backup) (.slice none 0 0)).toArray), fun v M => v = (ptr b8 0), fun v M => v = (ptr b8 0), fun v M => v = (ptr b8 0), fun v M => v = (ptr b8 1), fun v M => v = (.int .i64 t10.2.reader.e), fun _ _ => True, fun v M => v = (.int .i64 t10.2.reader.e)] (by kernel_rfl) (by kernel_rfl) ?_ (AllT.cons ?_ (AllT.cons ?_ (AllT.cons ?_ (AllT.cons ?_ (AllT.cons ?_ (AllT.cons ?_ (AllT.cons ?_ (AllT.cons ?_ AllT.nil)))))))) ?_
  ·exact (mC (mC (mC (mC (mC (mC (mC (mC MonoA.nil))))))))
  ·intro a w' M25 l26 hd hs
   exact pv hd.fr hs rfl (fun a w hf hs => r_build (is := []) (xs := []) (vs := []) (A := Backup.C (⟨(Vector.replicate 16 (0 : Int)), (0 : Int), (0 : Int), (0 : Int), (0 : Int), (Vector.replicate 16 (0 : Int)), ([] : List UInt8), ([] : (List Key))⟩ : Backup) (.slice none 0 0)) rfl (hf.evs rfl) (built_of (pl := [(0, 16), (16, 1), (17, 1), (18, 1), (19, 1), (20, 16), (36, 1), (37, 1)]) (A0 := Backup.C (⟨(Vector.replicate 16 (0 : Int)), (0 : Int), (0 : Int), (0 : Int), (0 : Int), (Vector.replicate 16 (0 : Int)), ([] : List UInt8), ([] : (List Key))⟩ : Backup) (.slice none 0 0)) tz36 Tryd.underlying36 (by kernel_rfl) rfl .nil)) rfl
  ·intro a w' M27 l28 hd hs
   exact pv (hd.fr.add (hd.base 4 _ rfl rfl)) hs rfl (fun a w hf hs => r_move (hf.ev rfl)) rfl
  ·intro a w' M29 l30 hd hs
   have e31 := hd.val 1 20 _ rfl rfl
   exact pv (hd.fr.add e31) hs rfl (fun a w hf hs => r_nilCheck (hf.ev rfl)) rfl
  ·intro a w' M32 l33 hd hs
   have e34 := hd.val 2 21 _ rfl rfl
   exact pv (hd.fr.add e34) hs rfl (fun a w hf hs => r_fa fa82_0 (hf.ev rfl)) rfl
  ·intro a w' M35 l36 hd hs
   have e37 := hd.val 3 22 _ rfl rfl
   exact pv (hd.fr.add e37) hs rfl (fun a w hf hs => r_fa fa80_1 (hf.ev rfl)) rfl
  ·intro a w' M38 l39 hd hs
   have e40 := hd.val 4 23 _ rfl rfl
   exact pv (hd.fr.add e40) hs rfl (fun a w hf hs => r_load1 ta24 (hf.ev rfl) (hs.blk (i := 1) rfl) rfl) rfl
  ·intro a w' M41 l42 hd hs
   have e43 := hd.val 0 19 _ rfl rfl
   refine OP.ofW (l := [(2, (ptr b2 0)), (19, (.agg (Backup.C (⟨(Vector.replicate 16 (0 : Int)), (0 : Int), (0 : Int), (0 : Int), (0 : Int), (Vector.replicate 16 (0 : Int)), ([] : List UInt8), ([] : (List Key))⟩ : Backup) (.slice none 0 0)).toArray))]) ((hd.fr.add e43).add (hd.base 2 _ rfl rfl)) hs rfl ?_
   refine w_store (i := 0) (vs := Backup.C (⟨(Vector.replicate 16 (0 : Int)), (0 : Int), (0 : Int), (0 : Int), (0 : Int), (Vector.replicate 16 (0 : Int)), ([] : List UInt8), ([] : (List Key))⟩ : Backup) (.slice none 0 0)) (A' := Backup.C (⟨(Vector.replicate 16 (0 : Int)), (0 : Int), (0 : Int), (0 : Int), (0 : Int), (Vector.replicate 16 (0 : Int)), ([] : List UInt8), ([] : (List Key))⟩ : Backup) (.slice none 0 0)) trivial rfl rfl rfl rfl ts36 (Backup.len _ _) (Backup.C_one _ rfl) (by rw [Backup.len]; decide) (splice_all _ _ (by simp [Backup.C])) ?_
   exact w_nil fun a w' hf hs => ⟨rfl, hf.df, _, (HLe.refl _), hs, trivial⟩
  ·intro a w' M44 l45 hd hs
   have e46 := hd.val 5 24 _ rfl rfl
   exact pv (hd.fr.add e46) hs rfl (fun a w hf hs => r_assign (hf.ev rfl)) rfl
  intro a w' M47 l48 hdf hsz hb hv hs
  have e49 := hv 7 3 _ rfl rfl
  refine n_of (c := (Cx.mk Tryd.prog 26 none' M w)) (l := [(2, (ptr b2 0)), (3, (.int .i64 t10.2.reader.e))]) ?_ (((Fr.start hdf hsz).add e49).add (hb 2 _ rfl rfl)) hs
  clear hdf hsz hb hv hs e49
  refine n_id (hK24 _ _ _ ?_)
  obtain rfl := some_r H
  exact c_ret fun a w' hf hs => hret _ (.inl rfl) a w' hf.df ⟨_, _, Res.of2 rfl ⟨_, hf.get _ _ rfl, run_loadA (hs.blk (i := 0) rfl) ta36 ts36 (Backup.d0_38 _ _) (Backup.len _ _)⟩ (RV.t hf rfl), hs.ext, ⟨_, rfl, RS.none⟩⟩
 ·replace H := if_f b23 H
  refine c_skip (hK21 _ _ _ ?_)
  refine c_sr fun _ hK50 => ?_
  refine wv rfl (fun a w hf hs => r_loadA ta36 ts36 (hf.ev rfl) (hs.blk (i := 2) rfl) (Backup.d0_38 _ _) (Backup.len _ _)) ?_
  refine w_store (i := 0) (vs := Backup.C t10.1 (.slice none 0 0)) (A' := Backup.C t10.1 (.slice none 0 0)) trivial rfl rfl rfl rfl ts36 (Backup.len _ _) (Backup.C_one _ rfl) (by rw [Backup.len]; decide) (splice_all _ _ (by simp [Backup.C])) ?_
  refine w_L [.blk b2 (.cells (Backup.C t10.1 (.slice none 0 0)).toArray 36 (0, 0)), .blk b8 (.cells (backup_blobReader.C t10.2 v18).toArray 82 (0, 0)), .blk b20 (.cells (Backup.C t10.1 (.slice none 0 0)).toArray 36 (0, 0))] (by first | rfl | (rw [n17]; rfl)) ?_
  refine v_assign rfl rfl ?_
  refine w_nil (hK50 _ _ _ ?_)
  obtain rfl := some_r H
  exact c_ret fun a w' hf hs => hret _ (.inl rfl) a w' hf.df ⟨_, _, Res.of2 rfl ⟨_, hf.get _ _ rfl, run_loadA (hs.blk (i := 0) rfl) ta36 ts36 (Backup.d0_38 _ _) (Backup.len _ _)⟩ (RV.t hf rfl), hs.ext, ⟨_, rfl, (rs_of_nil n17)⟩⟩
theorem ref36_Same.calls {M : Heap} {w : World} (hM : Sub M w) (p0 : Backup) (v1 : Value) (h2 : RS Key.F M v1 p0.Keys) (p1 : Backup) (v3 : Value) (h4 : RS Key.F M v3 p1.Keys) (r : Bool) (H : ref36_Same p0 p1 = some r) :
  Calls Tryd.prog 23 [(.agg (Backup.C p0 v1).toArray), (.agg (Backup.C p1 v3).toArray)].toArray w (Post M w fun M' v => v = (.bool r)) := by
 refine enter 80 [(0, (.agg (Backup.C p0 v1).toArray)), (1, (.agg (Backup.C p1 v3).toArray))] Tryd.func23 rfl rfl rfl hM ?_
 intro Q hret
 unfold ref36_Same at H
 refine c_sr fun _ hK5 => ?_
 refine w_boxM trivial rfl rfl rfl ?_
 intro b6 M7 l8 h9
 replace h2 := h2.mono l8
 replace h4 := h4.mono l8
 refine w_boxM trivial rfl rfl rfl ?_
 intro b10 M11 l12 h13
 replace h2 := h2.mono l12
 replace h4 := h4.mono l12
 replace h9 := l12 _ _ h9
 refine v_assign rfl rfl ?_
 refine w_nil (hK5 _ _ _ ?_)
 refine c_seq fun K14 hK14 => ?_
 obtain ⟨t15, H1, H⟩ := bnd H
 refine c_cut (fun a' w' => ∃ (M16 : Heap), HLe M11 M16 ∧ Fr 80 [(2, (ptr b6 0)), (3, (ptr b10 0)), (61, (.bool t15))] a' ∧ St none' M w M16 (lt []) w') ?_ ?_
 ·replace H := H1
  clear H1
  refine c_reg ?_
  refine v_fa fa36_0 rfl rfl ?_
  refine wv rfl (fun a w hf hs => r_loadA ta33 ts33 (hf.ev rfl) (hs.sub _ _ h9) (Backup.d0_16 _ _) (vI_len _)) ?_
  refine v_fa fa36_0 rfl rfl ?_
  refine wv rfl (fun a w hf hs => r_loadA ta33 ts33 (hf.ev rfl) (hs.sub _ _ h13) (Backup.d0_16 _ _) (vI_len _)) ?_
  refine wv rfl (fun a w hf hs => r_neS eq33 (hf.ev rfl) (hf.ev rfl)) ?_
  refine v_move rfl rfl ?_
  by_cases b18 : (!(decide (p0.Domain = p1.Domain))) = true
  ·replace H := if_t b18 H
   refine w_not (Nwt.of rfl rfl b18) rfl ?_
   refine w_not (Nwt.of rfl rfl b18) rfl ?_
   refine w_not (Nwt.of rfl rfl b18) rfl ?_
   refine w_not (Nwt.of rfl rfl b18) rfl ?_
   refine w_not (Nwt.of rfl rfl b18) rfl ?_
   refine wv rfl (fun a w hf hs => r_pickT (hf.ev rfl) b18 (hf.ev rfl)) ?_
   refine v_move rfl rfl ?_
   refine w_not (Nwt.of rfl rfl rfl) rfl ?_
   refine w_not (Nwt.of rfl rfl rfl) rfl ?_
   refine w_not (Nwt.of rfl rfl rfl) rfl ?_
   refine w_not (Nwt.of rfl rfl rfl) rfl ?_
   refine w_not (Nwt.of rfl rfl rfl) rfl ?_
   refine wv rfl (fun a w hf hs => r_pickT (hf.ev rfl) rfl (hf.ev rfl)) ?_
   refine v_move rfl rfl ?_
   refine w_not (Nwt.of rfl rfl rfl) rfl ?_
   refine w_not (Nwt.of rfl rfl rfl) rfl ?_
   refine w_not (Nwt.of rfl rfl rfl) rfl ?_
   refine w_not (Nwt.of rfl rfl rfl) rfl ?_
   refine w_not (Nwt.of rfl rfl rfl) rfl ?_
   refine wv rfl (fun a w hf hs => r_pickT (hf.ev rfl) rfl (hf.ev rfl)) ?_
   refine v_move rfl rfl ?_
   refine w_not (Nwt.of rfl rfl rfl) rfl ?_
   refine w_not (Nwt.of rfl rfl rfl) rfl ?_
   refine w_not (Nwt.of rfl rfl rfl) rfl ?_
   refine w_not (Nwt.of rfl rfl rfl) rfl ?_
   refine w_not (Nwt.of rfl rfl rfl) rfl ?_
   refine wv rfl (fun a w hf hs => r_pickT (hf.ev rfl) rfl (hf.ev rfl)) ?_
   refine v_move rfl rfl ?_
   refine w_not (Nwt.of rfl rfl rfl) rfl ?_
   refine w_not (Nwt.of rfl rfl rfl) rfl ?_
   refine w_not (Nwt.of rfl rfl rfl) rfl ?_
   refine w_not (Nwt.of rfl rfl rfl) rfl ?_
   refine w_not (Nwt.of rfl rfl rfl) rfl ?_
   refine wv rfl (fun a w hf hs => r_pickT (hf.ev rfl) rfl (hf.ev rfl)) ?_
   refine v_move rfl rfl ?_
   refine w_not (Nwt.of rfl rfl rfl) rfl ?_
   refine w_not (Nwt.of rfl rfl rfl) rfl ?_
   refine w_not (Nwt.of rfl rfl rfl) rfl ?_
   refine w_not (Nwt.of rfl rfl rfl) rfl ?_
   refine w_not (Nwt.of rfl rfl rfl) rfl ?_
   refine wv rfl (fun a w hf hs => r_pickT (hf.ev rfl) rfl (hf.ev rfl)) ?_
   refine v_move rfl rfl ?_
   refine w_not (Nwt.of rfl rfl rfl) rfl ?_
   refine w_not (Nwt.of rfl rfl rfl) rfl ?_
   refine w_not (Nwt.of rfl rfl rfl) rfl ?_
   refine w_not (Nwt.of rfl rfl rfl) rfl ?_
   refine w_not (Nwt.of rfl rfl rfl) rfl ?_
   refine w_not (Nwt.of rfl rfl rfl) rfl ?_
   refine w_not (Nwt.of rfl rfl rfl) rfl ?_
   refine wv rfl (fun a w hf hs => r_pickT (hf.ev rfl) rfl (hf.ev rfl)) ?_
   obtain rfl := some_r H
   exact w_nil fun a w' hf hs => ⟨_, (HLe.refl _), (((hf.nil.add (hf.get _ _ rfl)).add (hf.get _ _ rfl)).add (hf.get _ _ rfl)), hs.sel [] (by decide) rfl⟩
  ·replace b18 := Bool.eq_false_iff.2 b18
   replace H := if_f b18 H
   refine w_val (Wnt.of rfl rfl b18) rfl (fun a w hf hs => r_fa fa36_1 (hf.ev rfl)) ?_
   refine w_val (Wnt.of rfl rfl b18) rfl (fun a w hf hs => r_load1 ta3 (hf.ev rfl) (hs.sub _ _ h9) (Backup.g16 _ _)) ?_
   refine w_val (Wnt.of rfl rfl b18) rfl (fun a w hf hs => r_fa fa36_1 (hf.ev rfl)) ?_
   refine w_val (Wnt.of rfl rfl b18) rfl (fun a w hf hs => r_load1 ta3 (hf.ev rfl) (hs.sub _ _ h13) (Backup.g16 _ _)) ?_
   refine w_val (Wnt.of rfl rfl b18) rfl (fun a w hf hs => r_neq (hf.ev rfl) (hf.ev rfl)) ?_
   refine wv rfl (fun a w hf hs => r_pickF (hf.ev rfl) b18 (hf.ev rfl)) ?_
   refine v_move rfl rfl ?_
   by_cases b19 : (p0.Epoch != p1.Epoch) = true
   ·replace H := if_t b19 H
    refine w_not (Nwt.of rfl rfl b19) rfl ?_
    refine w_not (Nwt.of rfl rfl b19) rfl ?_
    refine w_not (Nwt.of rfl rfl b19) rfl ?_
    refine w_not (Nwt.of rfl rfl b19) rfl ?_
    refine w_not (Nwt.of rfl rfl b19) rfl ?_
    refine wv rfl (fun a w hf hs => r_pickT (hf.ev rfl) b19 (hf.ev rfl)) ?_
    refine v_move rfl rfl ?_
    refine w_not (Nwt.of rfl rfl rfl) rfl ?_
    refine w_not (Nwt.of rfl rfl rfl) rfl ?_
    refine w_not (Nwt.of rfl rfl rfl) rfl ?_
    refine w_not (Nwt.of rfl rfl rfl) rfl ?_
    refine w_not (Nwt.of rfl rfl rfl) rfl ?_
    refine wv rfl (fun a w hf hs => r_pickT (hf.ev rfl) rfl (hf.ev rfl)) ?_
    refine v_move rfl rfl ?_
    refine w_not (Nwt.of rfl rfl rfl) rfl ?_
    refine w_not (Nwt.of rfl rfl rfl) rfl ?_
    refine w_not (Nwt.of rfl rfl rfl) rfl ?_
    refine w_not (Nwt.of rfl rfl rfl) rfl ?_
    refine w_not (Nwt.of rfl rfl rfl) rfl ?_
    refine wv rfl (fun a w hf hs => r_pickT (hf.ev rfl) rfl (hf.ev rfl)) ?_
    refine v_move rfl rfl ?_
    refine w_not (Nwt.of rfl rfl rfl) rfl ?_
    refine w_not (Nwt.of rfl rfl rfl) rfl ?_
    refine w_not (Nwt.of rfl rfl rfl) rfl ?_
    refine w_not (Nwt.of rfl rfl rfl) rfl ?_
    refine w_not (Nwt.of rfl rfl rfl) rfl ?_
    refine wv rfl (fun a w hf hs => r_pickT (hf.ev rfl) rfl (hf.ev rfl)) ?_
    refine v_move rfl rfl ?_
    refine w_not (Nwt.of rfl rfl rfl) rfl ?_
    refine w_not (Nwt.of rfl rfl rfl) rfl ?_
    refine w_not (Nwt.of rfl rfl rfl) rfl ?_
    refine w_not (Nwt.of rfl rfl rfl) rfl ?_
    refine w_not (Nwt.of rfl rfl rfl) rfl ?_
    refine wv rfl (fun a w hf hs => r_pickT (hf.ev rfl) rfl (hf.ev rfl)) ?_
    refine v_move rfl rfl ?_
    refine w_not (Nwt.of rfl rfl rfl) rfl ?_
    refine w_not (Nwt.of rfl rfl rfl) rfl ?_
    refine w_not (Nwt.of rfl rfl rfl) rfl ?_
    refine w_not (Nwt.of rfl rfl rfl) rfl ?_
    refine w_not (Nwt.of rfl rfl rfl) rfl ?_
    refine w_not (Nwt.of rfl rfl rfl) rfl ?_
    refine w_not (Nwt.of rfl rfl rfl) rfl ?_
    refine wv rfl (fun a w hf hs => r_pickT (hf.ev rfl) rfl (hf.ev rfl)) ?_
    obtain rfl := some_r H
    exact w_nil fun a w' hf hs => ⟨_, (HLe.refl _), (((hf.nil.add (hf.get _ _ rfl)).add (hf.get _ _ rfl)).add (hf.get _ _ rfl)), hs.sel [] (by decide) rfl⟩
   ·replace b19 := Bool.eq_false_iff.2 b19
    replace H := if_f b19 H
    refine w_val (Wnt.of rfl rfl b19) rfl (fun a w hf hs => r_fa fa36_2 (hf.ev rfl)) ?_
    refine w_val (Wnt.of rfl rfl b19) rfl (fun a w hf hs => r_load1 ta3 (hf.ev rfl) (hs.sub _ _ h9) (Backup.g17 _ _)) ?_
    refine w_val (Wnt.of rfl rfl b19) rfl (fun a w hf hs => r_fa fa36_2 (hf.ev rfl)) ?_
    refine w_val (Wnt.of rfl rfl b19) rfl (fun a w hf hs => r_load1 ta3 (hf.ev rfl) (hs.sub _ _ h13) (Backup.g17 _ _)) ?_
    refine w_val (Wnt.of rfl rfl b19) rfl (fun a w hf hs => r_neq (hf.ev rfl) (hf.ev rfl)) ?_
    refine wv rfl (fun a w hf hs => r_pickF (hf.ev rfl) b19 (hf.ev rfl)) ?_
    refine v_move rfl rfl ?_
    by_cases b20 : (p0.Number != p1.Number) = true
    ·replace H := if_t b20 H
     refine w_not (Nwt.of rfl rfl b20) rfl ?_
     refine w_not (Nwt.of rfl rfl b20) rfl ?_
     refine w_not (Nwt.of rfl rfl b20) rfl ?_
     refine w_not (Nwt.of rfl rfl b20) rfl ?_
     refine w_not (Nwt.of rfl rfl b20) rfl ?_
     refine wv rfl (fun a w hf hs => r_pickT (hf.ev rfl) b20 (hf.ev rfl)) ?_
     refine v_move rfl rfl ?_
     refine w_not (Nwt.of rfl rfl rfl) rfl ?_
     refine w_not (Nwt.of rfl rfl rfl) rfl ?_
     refine w_not (Nwt.of rfl rfl rfl) rfl ?_
     refine w_not (Nwt.of rfl rfl rfl) rfl ?_
     refine w_not (Nwt.of rfl rfl rfl) rfl ?_
     refine wv rfl (fun a w hf hs => r_pickT (hf.ev rfl) rfl (hf.ev rfl)) ?_
     refine v_move rfl rfl ?_
     refine w_not (Nwt.of rfl rfl rfl) rfl ?_
     refine w_not (Nwt.of rfl rfl rfl) rfl ?_
     refine w_not (Nwt.of rfl rfl rfl) rfl ?_
     refine w_not (Nwt.of rfl rfl rfl) rfl ?_
     refine w_not (Nwt.of rfl rfl rfl) rfl ?_
     refine wv rfl (fun a w hf hs => r_pickT (hf.ev rfl) rfl (hf.ev rfl)) ?_
     refine v_move rfl rfl ?_
     refine w_not (Nwt.of rfl rfl rfl) rfl ?_
     refine w_not (Nwt.of rfl rfl rfl) rfl ?_
     refine w_not (Nwt.of rfl rfl rfl) rfl ?_
     refine w_not (Nwt.of rfl rfl rfl) rfl ?_
     refine w_not (Nwt.of rfl rfl rfl) rfl ?_
     refine wv rfl (fun a w hf hs => r_pickT (hf.ev rfl) rfl (hf.ev rfl)) ?_
     refine v_move rfl rfl ?_
     refine w_not (Nwt.of rfl rfl rfl) rfl ?_
     refine w_not (Nwt.of rfl rfl rfl) rfl ?_
     refine w_not (Nwt.of rfl rfl rfl) rfl ?_
     refine w_not (Nwt.of rfl rfl rfl) rfl ?_
     refine w_not (Nwt.of rfl rfl rfl) rfl ?_
     refine w_not (Nwt.of rfl rfl rfl) rfl ?_
     refine w_not (Nwt.of rfl rfl rfl) rfl ?_
     refine wv rfl (fun a w hf hs => r_pickT (hf.ev rfl) rfl (hf.ev rfl)) ?_
     obtain rfl := some_r H
     exact w_nil fun a w' hf hs => ⟨_, (HLe.refl _), (((hf.nil.add (hf.get _ _ rfl)).add (hf.get _ _ rfl)).add (hf.get _ _ rfl)), hs.sel [] (by decide) rfl⟩
    ·replace b20 := Bool.eq_false_iff.2 b20
     replace H := if_f b20 H
     refine w_val (Wnt.of rfl rfl b20) rfl (fun a w hf hs => r_fa fa36_3 (hf.ev rfl)) ?_
     refine w_val (Wnt.of rfl rfl b20) rfl (fun a w hf hs => r_load1 ta3 (hf.ev rfl) (hs.sub _ _ h9) (Backup.g18 _ _)) ?_
     refine w_val (Wnt.of rfl rfl b20) rfl (fun a w hf hs => r_fa fa36_3 (hf.ev rfl)) ?_
     refine w_val (Wnt.of rfl rfl b20) rfl (fun a w hf hs => r_load1 ta3 (hf.ev rfl) (hs.sub _ _ h13) (Backup.g18 _ _)) ?_
     refine w_val (Wnt.of rfl rfl b20) rfl (fun a w hf hs => r_neq (hf.ev rfl) (hf.ev rfl)) ?_
     refine wv rfl (fun a w hf hs => r_pickF (hf.ev rfl) b20 (hf.ev rfl)) ?_
     refine v_move rfl rfl ?_
     by_cases b21 : (p0.Firmware != p1.Firmware) = true
     ·replace H := if_t b21 H
      refine w_not (Nwt.of rfl rfl b21) rfl ?_
      refine w_not (Nwt.of rfl rfl b21) rfl ?_
      refine w_not (Nwt.of rfl rfl b21) rfl ?_
      refine w_not (Nwt.of rfl rfl b21) rfl ?_
      refine w_not (Nwt.of rfl rfl b21) rfl ?_
      refine wv rfl (fun a w hf hs => r_pickT (hf.ev rfl) b21 (hf.ev rfl)) ?_
      refine v_move rfl rfl ?_
      refine w_not (Nwt.of rfl rfl rfl) rfl ?_
      refine w_not (Nwt.of rfl rfl rfl) rfl ?_
      refine w_not (Nwt.of rfl rfl rfl) rfl ?_
      refine w_not (Nwt.of rfl rfl rfl) rfl ?_
      refine w_not (Nwt.of rfl rfl rfl) rfl ?_
      refine wv rfl (fun a w hf hs => r_pickT (hf.ev rfl) rfl (hf.ev rfl)) ?_
      refine v_move rfl rfl ?_
      refine w_not (Nwt.of rfl rfl rfl) rfl ?_
      refine w_not (Nwt.of rfl rfl rfl) rfl ?_
      refine w_not (Nwt.of rfl rfl rfl) rfl ?_
      refine w_not (Nwt.of rfl rfl rfl) rfl ?_
      refine w_not (Nwt.of rfl rfl rfl) rfl ?_
      refine wv rfl (fun a w hf hs => r_pickT (hf.ev rfl) rfl (hf.ev rfl)) ?_
      refine v_move rfl rfl ?_
      refine w_not (Nwt.of rfl rfl rfl) rfl ?_
      refine w_not (Nwt.of rfl rfl rfl) rfl ?_
      refine w_not (Nwt.of rfl rfl rfl) rfl ?_
      refine w_not (Nwt.of rfl rfl rfl) rfl ?_
      refine w_not (Nwt.of rfl rfl rfl) rfl ?_
      refine w_not (Nwt.of rfl rfl rfl) rfl ?_
      refine w_not (Nwt.of rfl rfl rfl) rfl ?_
      refine wv rfl (fun a w hf hs => r_pickT (hf.ev rfl) rfl (hf.ev rfl)) ?_
      obtain rfl := some_r H
      exact w_nil fun a w' hf hs => ⟨_, (HLe.refl _), (((hf.nil.add (hf.get _ _ rfl)).add (hf.get _ _ rfl)).add (hf.get _ _ rfl)), hs.sel [] (by decide) rfl⟩
     ·replace b21 := Bool.eq_false_iff.2 b21
      replace H := if_f b21 H
      refine w_val (Wnt.of rfl rfl b21) rfl (fun a w hf hs => r_fa fa36_4 (hf.ev rfl)) ?_
      refine w_val (Wnt.of rfl rfl b21) rfl (fun a w hf hs => r_load1 ta3 (hf.ev rfl) (hs.sub _ _ h9) (Backup.g19 _ _)) ?_
      refine w_val (Wnt.of rfl rfl b21) rfl (fun a w hf hs => r_fa fa36_4 (hf.ev rfl)) ?_
      refine w_val (Wnt.of rfl rfl b21) rfl (fun a w hf hs => r_load1 ta3 (hf.ev rfl) (hs.sub _ _ h13) (Backup.g19 _ _)) ?_
      refine w_val (Wnt.of rfl rfl b21) rfl (fun a w hf hs => r_neq (hf.ev rfl) (hf.ev rfl)) ?_
      refine wv rfl (fun a w hf hs => r_pickF (hf.ev rfl) b21 (hf.ev rfl)) ?_
      refine v_move rfl rfl ?_
      by_cases b22 : (p0.Time != p1.Time) = true
      ·replace H := if_t b22 H
       refine w_not (Nwt.of rfl rfl b22) rfl ?_
       refine w_not (Nwt.of rfl rfl b22) rfl ?_
       refine w_not (Nwt.of rfl rfl b22) rfl ?_
       refine w_not (Nwt.of rfl rfl b22) rfl ?_
       refine w_not (Nwt.of rfl rfl b22) rfl ?_
       refine wv rfl (fun a w hf hs => r_pickT (hf.ev rfl) b22 (hf.ev rfl)) ?_
       refine v_move rfl rfl ?_
       refine w_not (Nwt.of rfl rfl rfl) rfl ?_
       refine w_not (Nwt.of rfl rfl rfl) rfl ?_
       refine w_not (Nwt.of rfl rfl rfl) rfl ?_
       refine w_not (Nwt.of rfl rfl rfl) rfl ?_
       refine w_not (Nwt.of rfl rfl rfl) rfl ?_
       refine wv rfl (fun a w hf hs => r_pickT (hf.ev rfl) rfl (hf.ev rfl)) ?_
       refine v_move rfl rfl ?_
       refine w_not (Nwt.of rfl rfl rfl) rfl ?_
       refine w_not (Nwt.of rfl rfl rfl) rfl ?_
       refine w_not (Nwt.of rfl rfl rfl) rfl ?_
       refine w_not (Nwt.of rfl rfl rfl) rfl ?_
       refine w_not (Nwt.of rfl rfl rfl) rfl ?_
       refine w_not (Nwt.of rfl rfl rfl) rfl ?_
       refine w_not (Nwt.of rfl rfl rfl) rfl ?_
       refine wv rfl (fun a w hf hs => r_pickT (hf.ev rfl) rfl (hf.ev rfl)) ?_
       obtain rfl := some_r H
       exact w_nil fun a w' hf hs => ⟨_, (HLe.refl _), (((hf.nil.add (hf.get _ _ rfl)).add (hf.get _ _ rfl)).add (hf.get _ _ rfl)), hs.sel [] (by decide) rfl⟩
      ·replace b22 := Bool.eq_false_iff.2 b22
       replace H := if_f b22 H
       refine w_val (Wnt.of rfl rfl b22) rfl (fun a w hf hs => r_fa fa36_5 (hf.ev rfl)) ?_
       refine w_val (Wnt.of rfl rfl b22) rfl (fun a w hf hs => r_loadA ta33 ts33 (hf.ev rfl) (hs.sub _ _ h9) (Backup.d20_16 _ _) (vI_len _)) ?_
       refine w_val (Wnt.of rfl rfl b22) rfl (fun a w hf hs => r_fa fa36_5 (hf.ev rfl)) ?_
       refine w_val (Wnt.of rfl rfl b22) rfl (fun a w hf hs => r_loadA ta33 ts33 (hf.ev rfl) (hs.sub _ _ h13) (Backup.d20_16 _ _) (vI_len _)) ?_
       refine w_val (Wnt.of rfl rfl b22) rfl (fun a w hf hs => r_neS eq33 (hf.ev rfl) (hf.ev rfl)) ?_
       refine wv rfl (fun a w hf hs => r_pickF (hf.ev rfl) b22 (hf.ev rfl)) ?_
       refine v_move rfl rfl ?_
       by_cases b23 : (!(decide (p0.Policy = p1.Policy))) = true
       ·replace H := if_t b23 H
        refine w_not (Nwt.of rfl rfl b23) rfl ?_
        refine w_not (Nwt.of rfl rfl b23) rfl ?_
        refine w_not (Nwt.of rfl rfl b23) rfl ?_
        refine w_not (Nwt.of rfl rfl b23) rfl ?_
        refine w_not (Nwt.of rfl rfl b23) rfl ?_
        refine wv rfl (fun a w hf hs => r_pickT (hf.ev rfl) b23 (hf.ev rfl)) ?_
        refine v_move rfl rfl ?_
        refine w_not (Nwt.of rfl rfl rfl) rfl ?_
        refine w_not (Nwt.of rfl rfl rfl) rfl ?_
        refine w_not (Nwt.of rfl rfl rfl) rfl ?_
        refine w_not (Nwt.of rfl rfl rfl) rfl ?_
        refine w_not (Nwt.of rfl rfl rfl) rfl ?_
        refine w_not (Nwt.of rfl rfl rfl) rfl ?_
        refine w_not (Nwt.of rfl rfl rfl) rfl ?_
        refine wv rfl (fun a w hf hs => r_pickT (hf.ev rfl) rfl (hf.ev rfl)) ?_
        obtain rfl := some_r H
        exact w_nil fun a w' hf hs => ⟨_, (HLe.refl _), (((hf.nil.add (hf.get _ _ rfl)).add (hf.get _ _ rfl)).add (hf.get _ _ rfl)), hs.sel [] (by decide) rfl⟩
       ·replace b23 := Bool.eq_false_iff.2 b23
        replace H := if_f b23 H
        refine w_val (Wnt.of rfl rfl b23) rfl (fun a w hf hs => r_fa fa36_6 (hf.ev rfl)) ?_
        refine w_val (Wnt.of rfl rfl b23) rfl (fun a w hf hs => r_load1 ta9 (hf.ev rfl) (hs.sub _ _ h9) (Backup.g36 _ _)) ?_
        refine w_val (Wnt.of rfl rfl b23) rfl (fun a w hf hs => r_fa fa36_6 (hf.ev rfl)) ?_
        refine w_val (Wnt.of rfl rfl b23) rfl (fun a w hf hs => r_load1 ta9 (hf.ev rfl) (hs.sub _ _ h13) (Backup.g36 _ _)) ?_
        refine w_val (Wnt.of rfl rfl b23) rfl (fun a w hf hs => r_sneq (hf.ev rfl) (hf.ev rfl)) ?_
        refine wv rfl (fun a w hf hs => r_pickF (hf.ev rfl) b23 (hf.ev rfl)) ?_
        refine v_move rfl rfl ?_
        by_cases b24 : (!(p0.Module == p1.Module)) = true
        ·replace H := if_t b24 H
         refine w_not (Nwt.of rfl rfl b24) rfl ?_
         refine w_not (Nwt.of rfl rfl b24) rfl ?_
         refine w_not (Nwt.of rfl rfl b24) rfl ?_
         refine w_not (Nwt.of rfl rfl b24) rfl ?_
         refine w_not (Nwt.of rfl rfl b24) rfl ?_
         refine w_not (Nwt.of rfl rfl b24) rfl ?_
         refine w_not (Nwt.of rfl rfl b24) rfl ?_
         refine wv rfl (fun a w hf hs => r_pickT (hf.ev rfl) b24 (hf.ev rfl)) ?_
         obtain rfl := some_r H
         exact w_nil fun a w' hf hs => ⟨_, (HLe.refl _), (((hf.nil.add (hf.get _ _ rfl)).add (hf.get _ _ rfl)).add (hf.get _ _ rfl)), hs.sel [] (by decide) rfl⟩
        ·replace b24 := Bool.eq_false_iff.2 b24
         replace H := if_f b24 H
         refine w_val (Wnt.of rfl rfl b24) rfl (fun a w hf hs => r_fa fa36_7 (hf.ev rfl)) ?_
         refine w_val (Wnt.of rfl rfl b24) rfl (fun a w hf hs => r_load1 ta34 (hf.ev rfl) (hs.sub _ _ h9) (Backup.g37 _ _)) ?_
         refine w_val (Wnt.of rfl rfl b24) rfl (fun a w hf hs => r_lenR Tryd.underlying34 h2 (hf.ev rfl)) ?_
         refine w_val (Wnt.of rfl rfl b24) rfl (fun a w hf hs => r_fa fa36_7 (hf.ev rfl)) ?_
         refine w_val (Wnt.of rfl rfl b24) rfl (fun a w hf hs => r_load1 ta34 (hf.ev rfl) (hs.sub _ _ h13) (Backup.g37 _ _)) ?_
         refine w_val (Wnt.of rfl rfl b24) rfl (fun a w hf hs => r_lenR Tryd.underlying34 h4 (hf.ev rfl)) ?_
         refine w_val (Wnt.of rfl rfl b24) rfl (fun a w hf hs => r_neq (hf.ev rfl) (hf.ev rfl)) ?_
         refine wv rfl (fun a w hf hs => r_pickF (hf.ev rfl) b24 (hf.ev rfl)) ?_
         obtain rfl := some_r H
         exact w_nil fun a w' hf hs => ⟨_, (HLe.refl _), (((hf.nil.add (hf.get _ _ rfl)).add (hf.get _ _ rfl)).add (hf.get _ _ rfl)), hs.sel [] (by decide) rfl⟩
 ·clear H1
  rintro a w' ⟨M16, l17, hf, hs⟩
  refine c_of (c := (Cx.mk Tryd.prog 80 none' M w)) ?_ hf hs
  clear hf hs
  replace h2 := h2.mono l17
  replace h4 := h4.mono l17
  replace h9 := l17 _ _ h9
  replace h13 := l17 _ _ h13
  refine c_if rfl (fun b25 => ?_) (fun b25 => ?_)
  ·replace H := if_t b25 H
   refine c_sr fun _ hK26 => ?_
   refine v_assign rfl rfl ?_
   refine w_nil (hK26 _ _ _ ?_)
   obtain rfl := some_r H
   exact c_ret fun a w' hf hs => hret _ (.inl rfl) a w' hf.df ⟨_, _, Res.of1 rfl (RV.t hf rfl), hs.ext, rfl⟩
  ·replace H := if_f b25 H
   refine c_skip (hK14 _ _ _ ?_)
   refine c_cut (fun a' w' => ∃ (M27 : Heap), HLe M16 M27 ∧ Fr 80 [] a' ∧ St none' M w M27 (lt []) w' ∧ ref36_Same.j1  = some r) ?_ ?_
   ·refine c_seq ?_
    intro K30 hK30
    refine c_reg ?_
    refine v_assign rfl rfl ?_
    refine w_nil (hK30 _ _ _ ?_)
    refine c_block ?_
    refine c_loop (fun (s31 : Int) a' w' => ∃ (M32 : Heap), HLe M16 M32 ∧ Fr 80 [(2, (ptr b6 0)), (3, (ptr b10 0)), (5, (.int .i64 s31))] a' ∧ St none' M w M32 (lt []) w') (0 : Int) H ?_ ?_
    ·intro a w' hf hs
     exact ⟨_, HLe.refl _, (((hf.nil.add (hf.get _ _ rfl)).add (hf.get _ _ rfl)).add (hf.get _ _ rfl)), hs.selD [] (by decide) rfl⟩
    ·clear H
     intro s31 y35 H r34 a w' hJ
     obtain ⟨M32, l33, hf, hs⟩ := hJ
     refine c_of (c := (Cx.mk Tryd.prog 80 none' M w)) ?_ hf hs
     unfold ref36_Same.l2 at H
     clear hf hs
     replace h2 := h2.mono l33
     replace h4 := h4.mono l33
     replace h9 := l33 _ _ h9
     replace h13 := l33 _ _ h13
     refine c_seq fun K36 hK36 => ?_
     refine c_sr fun _ hK37 => ?_
     refine v_move rfl rfl ?_
     refine v_fa fa36_7 rfl rfl ?_
     refine wv rfl (fun a w hf hs => r_load1 ta34 (hf.ev rfl) (hs.sub _ _ h9) (Backup.g37 _ _)) ?_
     refine wv rfl (fun a w hf hs => r_lenR Tryd.underlying34 h2 (hf.ev rfl)) ?_
     refine v_lss rfl rfl rfl ?_
     refine w_nil (hK37 _ _ _ ?_)
     refine c_if rfl (fun b38 => ?_) (fun b38 => ?_)
     ·replace H := if_t b38 H
      refine c_skip (hK36 _ _ _ ?_)
      refine c_seq fun K39 hK39 => ?_
      refine c_block ?_
      refine c_seq fun K40 hK40 => ?_
      obtain ⟨g52, H⟩ := grd_s H
      obtain ⟨g67, H⟩ := grd_s H
      refine c_drawP [([], [2]), ([(0, 69)], []), ([], [5]), ([(1, 70), (2, 71)], []), ([(3, 72)], []), ([], [3]), ([(5, 74)], []), ([], [5]), ([(6, 75), (7, 76)], []), ([(8, 77)], []), ([(4, 73), (9, 78)], [])] [fun v M => v = (ptr b6 37), fun v M => v = v1, fun v M => v = (.int .i64 s31), fun v M => v = (eP v1 s31 9 0), fun v M => v = (.agg (Key.C (rd p0.Keys s31)).toArray), fun v M => v = (ptr b10 37), fun v M => v = v3, fun v M => v = (.int .i64 s31), fun v M => v = (eP v3 s31 9 0), fun v M => v = (.agg (Key.C (rd p1.Keys s31)).toArray), fun v M => v = (.bool (!(decide ((rd p0.Keys s31) = (rd p1.Keys s31)))))] (by kernel_rfl) (by kernel_rfl) ?_ (AllT.cons ?_ (AllT.cons ?_ (AllT.cons ?_ (AllT.cons ?_ (AllT.cons ?_ (AllT.cons ?_ (AllT.cons ?_ (AllT.cons ?_ (AllT.cons ?_ (AllT.cons ?_ (AllT.cons ?_ AllT.nil))))))))))) ?_
      ·exact (mC (mC (mC (mC (mC (mC (mC (mC (mC (mC (mC MonoA.nil)))))))))))
      ·intro a w' M41 l42 hd hs
       replace h9 := l42 _ _ h9
       replace h2 := h2.mono l42
       exact pv (hd.fr.add (hd.base 2 _ rfl rfl)) hs rfl (fun a w hf hs => r_fa fa36_7 (hf.ev rfl)) rfl
      ·intro a w' M43 l44 hd hs
       have e45 := hd.val 0 69 _ rfl rfl
       replace h9 := l44 _ _ h9
       replace h2 := h2.mono l44
       exact pv (hd.fr.add e45) hs rfl (fun a w hf hs => r_load1 ta34 (hf.ev rfl) (hs.sub _ _ h9) (Backup.g37 _ _)) rfl
      ·intro a w' M46 l47 hd hs
       exact pv (hd.fr.add (hd.base 5 _ rfl rfl)) hs rfl (fun a w hf hs => r_move (hf.ev rfl)) rfl
      ·intro a w' M48 l49 hd hs
       have e50 := hd.val 1 70 _ rfl rfl
       replace h2 := h2.mono l49
       have e51 := hd.val 2 71 _ rfl rfl
       refine OP.ofW (l := [(70, v1), (71, (.int .i64 s31))]) ((hd.fr.add e51).add e50) hs rfl ?_
       refine wv rfl (fun a w hf hs => r_iR Tryd.underlying34 ts55 h2 (hf.ev rfl) (hf.ev rfl) g52.1 g52.2) ?_
       exact w_nil fun a w' hf hs => ⟨rfl, hf.df, _, (HLe.refl _), hs, hf.get _ _ rfl⟩
      ·intro a w' M53 l54 hd hs
       have e55 := hd.val 3 72 _ rfl rfl
       replace h2 := h2.mono l54
       refine OP.ofW (l := [(72, (eP v1 s31 9 0))]) (hd.fr.add e55) hs rfl ?_
       refine wv rfl (fun a w hf hs => r_loadEA ta55 ts55 h2 hs.sub g52.1 g52.2 (hf.ev rfl) rfl rfl) ?_
       exact w_nil fun a w' hf hs => ⟨rfl, hf.df, _, (HLe.refl _), hs, hf.get _ _ rfl⟩
      ·intro a w' M56 l57 hd hs
       replace h13 := l57 _ _ h13
       replace h4 := h4.mono l57
       exact pv (hd.fr.add (hd.base 3 _ rfl rfl)) hs rfl (fun a w hf hs => r_fa fa36_7 (hf.ev rfl)) rfl
      ·intro a w' M58 l59 hd hs
       have e60 := hd.val 5 74 _ rfl rfl
       replace h13 := l59 _ _ h13
       replace h4 := h4.mono l59
       exact pv (hd.fr.add e60) hs rfl (fun a w hf hs => r_load1 ta34 (hf.ev rfl) (hs.sub _ _ h13) (Backup.g37 _ _)) rfl
      ·intro a w' M61 l62 hd hs
       exact pv (hd.fr.add (hd.base 5 _ rfl rfl)) hs rfl (fun a w hf hs => r_move (hf.ev rfl)) rfl
      ·intro a w' M63 l64 hd hs
       have e65 := hd.val 6 75 _ rfl rfl
       replace h4 := h4.mono l64
       have e66 := hd.val 7 76 _ rfl rfl
       refine OP.ofW (l := [(75, v3), (76, (.int .i64 s31))]) ((hd.fr.add e66).add e65) hs rfl ?_
       refine wv rfl (fun a w hf hs => r_iR Tryd.underlying34 ts55 h4 (hf.ev rfl) (hf.ev rfl) g67.1 g67.2) ?_
       exact w_nil fun a w' hf hs => ⟨rfl, hf.df, _, (HLe.refl _), hs, hf.get _ _ rfl⟩
      ·intro a w' M68 l69 hd hs
       have e70 := hd.val 8 77 _ rfl rfl
       replace h4 := h4.mono l69
       refine OP.ofW (l := [(77, (eP v3 s31 9 0))]) (hd.fr.add e70) hs rfl ?_
       refine wv rfl (fun a w hf hs => r_loadEA ta55 ts55 h4 hs.sub g67.1 g67.2 (hf.ev rfl) rfl rfl) ?_
       exact w_nil fun a w' hf hs => ⟨rfl, hf.df, _, (HLe.refl _), hs, hf.get _ _ rfl⟩
      ·intro a w' M71 l72 hd hs
       have e73 := hd.val 4 73 _ rfl rfl
       have e74 := hd.val 9 78 _ rfl rfl
       refine OP.ofW (l := [(73, (.agg (Key.C (rd p0.Keys s31)).toArray)), (78, (.agg (Key.C (rd p1.Keys s31)).toArray))]) ((hd.fr.add e74).add e73) hs rfl ?_
       refine wv rfl (fun a w hf hs => r_neS eq55 (hf.ev rfl) (hf.ev rfl)) ?_
       exact w_nil fun a w' hf hs => ⟨rfl, hf.df, _, (HLe.refl _), hs, hf.get _ _ rfl⟩
      intro a w' M75 l76 hdf hsz hb hv hs
      have e77 := hv 10 79 _ rfl rfl
      refine n_of (c := (Cx.mk Tryd.prog 80 none' M w)) (l := [(2, (ptr b6 0)), (3, (ptr b10 0)), (5, (.int .i64 s31)), (79, (.bool (!(decide ((rd p0.Keys s31) = (rd p1.Keys s31))))))]) ?_ (((((Fr.start hdf hsz).add e77).add (hb 5 _ rfl rfl)).add (hb 3 _ rfl rfl)).add (hb 2 _ rfl rfl)) hs
      clear hdf hsz hb hv hs e77
      refine n_id (hK40 _ _ _ ?_)
      refine c_if rfl (fun b78 => ?_) (fun b78 => ?_)
      ·replace H := if_t b78 H
       refine c_sr fun _ hK79 => ?_
       refine v_assign rfl rfl ?_
       refine w_nil (hK79 _ _ _ ?_)
       obtain rfl := (r34 _ (Option.some.inj H).symm)
       exact c_ret fun a w' hf hs => hret _ (.inl rfl) a w' hf.df ⟨_, _, Res.of1 rfl (RV.t hf rfl), hs.ext, rfl⟩
      ·replace H := if_f b78 H
       refine c_skip (hK39 _ _ _ ?_)
       refine c_reg ?_
       refine v_move rfl rfl ?_
       refine v_add rfl rfl rfl ?_
       refine v_assign rfl rfl ?_
       exact w_nil fun a w' hf hs => ⟨_, (some_r H).symm, _, l33.trans l76, (((hf.nil.add (hf.get _ _ rfl)).add (hf.get _ _ rfl)).add (hf.get _ _ rfl)), hs.selD [] (by decide) rfl⟩
     ·replace H := if_f b38 H
      replace H := map_inr H r34
      refine c_exit ?_
      intro a w' hf hs
      exact ⟨_, l33, hf.nil, hs.selD [] (by decide) rfl, H⟩
   ·rintro a w' ⟨M27, l28, hf, hs, H⟩
    refine c_of (c := (Cx.mk Tryd.prog 80 none' M w)) ?_ hf hs
    unfold ref36_Same.j1 at H
    clear hf hs
    refine c_sr fun _ hK29 => ?_
    refine v_assign rfl rfl ?_
    refine w_nil (hK29 _ _ _ ?_)
    obtain rfl := some_r H
    exact c_ret fun a w' hf hs => hret _ (.inl rfl) a w' hf.df ⟨_, _, Res.of1 rfl (RV.t hf rfl), hs.ext, rfl⟩
theorem slices_Equal_Key.calls {M : Heap} {w : World} (hM : Sub M w) (p0 : (List Key)) (v1 : Value) (h2 : RS Key.F M v1 p0) (p1 : (List Key)) (v3 : Value) (h4 : RS Key.F M v3 p1) (r : Bool) (H : slices_Equal_Key p0 p1 = some r) :
  Calls Tryd.prog 93 [v1, v3].toArray w (Post M w fun M' v => v = (.bool r)) := by
 refine enter 26 [(0, v1), (1, v3)] Tryd.func93 rfl rfl rfl hM ?_
 intro Q hret
 unfold slices_Equal_Key at H
 refine c_sr fun _ hK5 => ?_
 refine v_assign rfl rfl ?_
 refine w_nil (hK5 _ _ _ ?_)
 refine c_seq fun K6 hK6 => ?_
 refine c_sr fun _ hK7 => ?_
 refine v_move rfl rfl ?_
 refine wv rfl (fun a w hf hs => r_lenR Tryd.underlying34 h2 (hf.ev rfl)) ?_
 refine v_move rfl rfl ?_
 refine wv rfl (fun a w hf hs => r_lenR Tryd.underlying34 h4 (hf.ev rfl)) ?_
 refine wv rfl (fun a w hf hs => r_neq (hf.ev rfl) (hf.ev rfl)) ?_
 refine w_nil (hK7 _ _ _ ?_)
 refine c_if rfl (fun b8 => ?_) (fun b8 => ?_)
 ·replace H := if_t b8 H
  refine c_sr fun _ hK9 => ?_
  refine v_assign rfl rfl ?_
  refine w_nil (hK9 _ _ _ ?_)
  obtain rfl := some_r H
  exact c_ret fun a w' hf hs => hret _ (.inl rfl) a w' hf.df ⟨_, _, Res.of1 rfl (RV.t hf rfl), hs.ext, rfl⟩
 ·replace H := if_f b8 H
  refine c_skip (hK6 _ _ _ ?_)
  refine c_cut (fun a' w' => ∃ (M10 : Heap), HLe M M10 ∧ Fr 26 [] a' ∧ St none' M w M10 (lt []) w' ∧ slices_Equal_Key.j1  = some r) ?_ ?_
  ·refine c_seq ?_
   intro K13 hK13
   refine c_reg ?_
   refine v_move rfl rfl ?_
   refine wv rfl (fun a w hf hs => r_lenR Tryd.underlying34 h2 (hf.ev rfl)) ?_
   refine v_move rfl rfl ?_
   refine w_nil (hK13 _ _ _ ?_)
   refine c_block ?_
   refine c_loop (fun (s14 : Int) a' w' => ∃ (M15 : Heap), HLe M M15 ∧ Fr 26 [(0, v1), (1, v3), (12, (.int .i64 (p0.length : Int))), (13, (.int .i64 s14))] a' ∧ St none' M w M15 (lt []) w') (0 : Int) H ?_ ?_
   ·intro a w' hf hs
    exact ⟨_, HLe.refl _, ((((hf.nil.add (hf.get _ _ rfl)).add (hf.get _ _ rfl)).add (hf.get _ _ rfl)).add (hf.get _ _ rfl)), hs.selD [] (by decide) rfl⟩
   ·clear H
    intro s14 y18 H r17 a w' hJ
    obtain ⟨M15, l16, hf, hs⟩ := hJ
    refine c_of (c := (Cx.mk Tryd.prog 26 none' M w)) ?_ hf hs
    unfold slices_Equal_Key.l2 at H
    clear hf hs
    replace h2 := h2.mono l16
    replace h4 := h4.mono l16
    refine c_sr fun _ hK19 => ?_
    refine v_lss rfl rfl rfl ?_
    refine w_nil (hK19 _ _ _ ?_)
    refine c_seq fun K20 hK20 => ?_
    refine c_if rfl (fun b21 => ?_) (fun b21 => ?_)
    ·replace H := if_t b21 H
     refine c_skip (hK20 _ _ _ ?_)
     refine c_seq fun K22 hK22 => ?_
     refine c_block ?_
     refine c_sr fun _ hK23 => ?_
     refine v_move rfl rfl ?_
     refine v_assign rfl rfl ?_
     refine w_nil (hK23 _ _ _ ?_)
     refine c_seq fun K24 hK24 => ?_
     obtain ⟨g33, H⟩ := grd_s H
     obtain ⟨g45, H⟩ := grd_s H
     refine c_drawP [([], [0]), ([], [5]), ([(0, 16), (1, 17)], []), ([(2, 18)], []), ([], [1]), ([], [5]), ([(4, 20), (5, 21)], []), ([(6, 22)], []), ([(3, 19), (7, 23)], [])] [fun v M => v = v1, fun v M => v = (.int .i64 s14), fun v M => v = (eP v1 s14 9 0), fun v M => v = (.agg (Key.C (rd p0 s14)).toArray), fun v M => v = v3, fun v M => v = (.int .i64 s14), fun v M => v = (eP v3 s14 9 0), fun v M => v = (.agg (Key.C (rd p1 s14)).toArray), fun v M => v = (.bool (!(decide ((rd p0 s14) = (rd p1 s14)))))] (by kernel_rfl) (by kernel_rfl) ?_ (AllT.cons ?_ (AllT.cons ?_ (AllT.cons ?_ (AllT.cons ?_ (AllT.cons ?_ (AllT.cons ?_ (AllT.cons ?_ (AllT.cons ?_ (AllT.cons ?_ AllT.nil))))))))) ?_
     ·exact (mC (mC (mC (mC (mC (mC (mC (mC (mC MonoA.nil)))))))))
     ·intro a w' M25 l26 hd hs
      replace h2 := h2.mono l26
      exact pv (hd.fr.add (hd.base 0 _ rfl rfl)) hs rfl (fun a w hf hs => r_move (hf.ev rfl)) rfl
     ·intro a w' M27 l28 hd hs
      exact pv (hd.fr.add (hd.base 5 _ rfl rfl)) hs rfl (fun a w hf hs => r_move (hf.ev rfl)) rfl
     ·intro a w' M29 l30 hd hs
      have e31 := hd.val 0 16 _ rfl rfl
      replace h2 := h2.mono l30
      have e32 := hd.val 1 17 _ rfl rfl
      refine OP.ofW (l := [(16, v1), (17, (.int .i64 s14))]) ((hd.fr.add e32).add e31) hs rfl ?_
      refine wv rfl (fun a w hf hs => r_iR Tryd.underlying34 ts55 h2 (hf.ev rfl) (hf.ev rfl) g33.1 g33.2) ?_
      exact w_nil fun a w' hf hs => ⟨rfl, hf.df, _, (HLe.refl _), hs, hf.get _ _ rfl⟩
     ·intro a w' M34 l35 hd hs
      have e36 := hd.val 2 18 _ rfl rfl
      replace h2 := h2.mono l35
      refine OP.ofW (l := [(18, (eP v1 s14 9 0))]) (hd.fr.add e36) hs rfl ?_
      refine wv rfl (fun a w hf hs => r_loadEA ta55 ts55 h2 hs.sub g33.1 g33.2 (hf.ev rfl) rfl rfl) ?_
      exact w_nil fun a w' hf hs => ⟨rfl, hf.df, _, (HLe.refl _), hs, hf.get _ _ rfl⟩
     ·intro a w' M37 l38 hd hs
      replace h4 := h4.mono l38
      exact pv (hd.fr.add (hd.base 1 _ rfl rfl)) hs rfl (fun a w hf hs => r_move (hf.ev rfl)) rfl
     ·intro a w' M39 l40 hd hs
      exact pv (hd.fr.add (hd.base 5 _ rfl rfl)) hs rfl (fun a w hf hs => r_move (hf.ev rfl)) rfl
     ·intro a w' M41 l42 hd hs
      have e43 := hd.val 4 20 _ rfl rfl
      replace h4 := h4.mono l42
      have e44 := hd.val 5 21 _ rfl rfl
      refine OP.ofW (l := [(20, v3), (21, (.int .i64 s14))]) ((hd.fr.add e44).add e43) hs rfl ?_
      refine wv rfl (fun a w hf hs => r_iR Tryd.underlying34 ts55 h4 (hf.ev rfl) (hf.ev rfl) g45.1 g45.2) ?_
      exact w_nil fun a w' hf hs => ⟨rfl, hf.df, _, (HLe.refl _), hs, hf.get _ _ rfl⟩
     ·intro a w' M46 l47 hd hs
      have e48 := hd.val 6 22 _ rfl rfl
      replace h4 := h4.mono l47
      refine OP.ofW (l := [(22, (eP v3 s14 9 0))]) (hd.fr.add e48) hs rfl ?_
      refine wv rfl (fun a w hf hs => r_loadEA ta55 ts55 h4 hs.sub g45.1 g45.2 (hf.ev rfl) rfl rfl) ?_
      exact w_nil fun a w' hf hs => ⟨rfl, hf.df, _, (HLe.refl _), hs, hf.get _ _ rfl⟩
     ·intro a w' M49 l50 hd hs
      have e51 := hd.val 3 19 _ rfl rfl
      have e52 := hd.val 7 23 _ rfl rfl
      refine OP.ofW (l := [(19, (.agg (Key.C (rd p0 s14)).toArray)), (23, (.agg (Key.C (rd p1 s14)).toArray))]) ((hd.fr.add e52).add e51) hs rfl ?_
      refine wv rfl (fun a w hf hs => r_neS eq55 (hf.ev rfl) (hf.ev rfl)) ?_
      exact w_nil fun a w' hf hs => ⟨rfl, hf.df, _, (HLe.refl _), hs, hf.get _ _ rfl⟩
     intro a w' M53 l54 hdf hsz hb hv hs
     have e55 := hv 8 24 _ rfl rfl
     refine n_of (c := (Cx.mk Tryd.prog 26 none' M w)) (l := [(0, v1), (1, v3), (12, (.int .i64 (p0.length : Int))), (13, (.int .i64 s14)), (24, (.bool (!(decide ((rd p0 s14) = (rd p1 s14))))))]) ?_ ((((((Fr.start hdf hsz).add e55).add (hb 13 _ rfl rfl)).add (hb 12 _ rfl rfl)).add (hb 1 _ rfl rfl)).add (hb 0 _ rfl rfl)) hs
     clear hdf hsz hb hv hs e55
     refine n_id (hK24 _ _ _ ?_)
     refine c_if rfl (fun b56 => ?_) (fun b56 => ?_)
     ·replace H := if_t b56 H
      refine c_sr fun _ hK57 => ?_
      refine v_assign rfl rfl ?_
      refine w_nil (hK57 _ _ _ ?_)
      obtain rfl := (r17 _ (Option.some.inj H).symm)
      exact c_ret fun a w' hf hs => hret _ (.inl rfl) a w' hf.df ⟨_, _, Res.of1 rfl (RV.t hf rfl), hs.ext, rfl⟩
     ·replace H := if_f b56 H
      refine c_skip (hK22 _ _ _ ?_)
      refine c_reg ?_
      refine v_add rfl rfl rfl ?_
      refine v_move rfl rfl ?_
      exact w_nil fun a w' hf hs => ⟨_, (some_r H).symm, _, l16.trans l54, ((((hf.nil.add (hf.get _ _ rfl)).add (hf.get _ _ rfl)).add (hf.get _ _ rfl)).add (hf.get _ _ rfl)), hs.selD [] (by decide) rfl⟩
    ·replace H := if_f b21 H
     replace H := map_inr H r17
     refine c_exit ?_
     intro a w' hf hs
     exact ⟨_, l16, hf.nil, hs.selD [] (by decide) rfl, H⟩
  ·rintro a w' ⟨M10, l11, hf, hs, H⟩
   refine c_of (c := (Cx.mk Tryd.prog 26 none' M w)) ?_ hf hs
   unfold slices_Equal_Key.j1 at H
   clear hf hs
   refine c_sr fun _ hK12 => ?_
   refine v_assign rfl rfl ?_
   refine w_nil (hK12 _ _ _ ?_)
   obtain rfl := some_r H
   exact c_ret fun a w' hf hs => hret _ (.inl rfl) a w' hf.df ⟨_, _, Res.of1 rfl (RV.t hf rfl), hs.ext, rfl⟩
theorem backup_Same.calls {M : Heap} {w : World} (hM : Sub M w) (p0 : Backup) (v1 : Value) (h2 : RS Key.F M v1 p0.Keys) (p1 : Backup) (v3 : Value) (h4 : RS Key.F M v3 p1.Keys) (r : Bool) (H : backup_Same p0 p1 = some r) :
  Calls Tryd.prog 47 [(.agg (Backup.C p0 v1).toArray), (.agg (Backup.C p1 v3).toArray)].toArray w (Post M w fun M' v => v = (.bool r)) := by
 refine enter 17 [(0, (.agg (Backup.C p0 v1).toArray)), (1, (.agg (Backup.C p1 v3).toArray))] Tryd.func47 rfl rfl rfl hM ?_
 intro Q hret
 unfold backup_Same at H
 refine c_sr fun _ hK5 => ?_
 refine w_boxM trivial rfl rfl rfl ?_
 intro b6 M7 l8 h9
 replace h2 := h2.mono l8
 replace h4 := h4.mono l8
 refine w_boxM trivial rfl rfl rfl ?_
 intro b10 M11 l12 h13
 replace h2 := h2.mono l12
 replace h4 := h4.mono l12
 replace h9 := l12 _ _ h9
 refine v_assign rfl rfl ?_
 refine w_nil (hK5 _ _ _ ?_)
 obtain ⟨t14, H1, H⟩ := bnd H
 refine c_cut (fun a' w' => ∃ (M15 : Heap), HLe M11 M15 ∧ Fr 17 [(4, (.bool t14))] a' ∧ St none' M w M15 (lt []) w') ?_ ?_
 ·replace H := H1
  clear H1
  obtain ⟨t22, e27, H⟩ := bnd H
  obtain ⟨t33, e38, H⟩ := bnd H
  by_cases b46 : (t22 == t33) = true
  ·replace H := if_t b46 H
   obtain ⟨t66, e71, H⟩ := bnd H
   refine c_drawP [([], [2]), ([(0, 5)], []), ([], [3]), ([(2, 7)], []), ([(1, 6), (3, 8)], []), ([(4, 9)], []), ([(5, 10)], [2]), ([(6, 11), (5, 10)], []), ([(5, 10)], [3]), ([(8, 13), (5, 10)], []), ([(7, 12), (9, 14), (5, 10)], []), ([(5, 10), (10, 15)], []), ([(11, 16)], [])] [fun v M => v = (.agg (Backup.C p0 v1).toArray), fun v M => v = (str t22), fun v M => v = (.agg (Backup.C p1 v3).toArray), fun v M => v = (str t33), fun v M => v = (.bool (t22 == t33)), fun v M => v = (.bool (t22 == t33)), fun v M => v = (ptr b6 37), fun v M => v = v1, fun v M => v = (ptr b10 37), fun v M => v = v3, fun v M => v = (.bool t66), fun v M => v = (.bool t66), fun v M => v = (.bool t66)] (by kernel_rfl) (by kernel_rfl) ?_ (AllT.cons ?_ (AllT.cons ?_ (AllT.cons ?_ (AllT.cons ?_ (AllT.cons ?_ (AllT.cons ?_ (AllT.cons ?_ (AllT.cons ?_ (AllT.cons ?_ (AllT.cons ?_ (AllT.cons ?_ (AllT.cons ?_ (AllT.cons ?_ AllT.nil))))))))))))) ?_
   ·exact (mC (mC (mC (mC (mC (mC (mC (mC (mC (mC (mC (mC (mC MonoA.nil)))))))))))))
   ·intro a w' M17 l18 hd hs
    replace h9 := l18 _ _ h9
    replace h2 := h2.mono l18
    exact pv (hd.fr.add (hd.base 2 _ rfl rfl)) hs rfl (fun a w hf hs => r_loadA ta36 ts36 (hf.ev rfl) (hs.sub _ _ h9) (Backup.d0_38 _ _) (Backup.len _ _)) rfl
   ·intro a w' M19 l20 hd hs
    have e21 := hd.val 0 5 _ rfl rfl
    replace h2 := h2.mono l20
    refine OP.ofW (l := [(5, (.agg (Backup.C p0 v1).toArray))]) (hd.fr.add e21) hs rfl ?_
    refine w_call cf48 trivial rfl rfl (fun w hs => backup_Header.calls hs p0 v1 h2 _ e27) ?_
    rintro _ M24 l25 rfl
    replace h2 := h2.mono l25
    exact w_nil fun a w' hf hs => ⟨rfl, hf.df, _, l25, hs, hf.get _ _ rfl⟩
   ·intro a w' M28 l29 hd hs
    replace h13 := l29 _ _ h13
    replace h4 := h4.mono l29
    exact pv (hd.fr.add (hd.base 3 _ rfl rfl)) hs rfl (fun a w hf hs => r_loadA ta36 ts36 (hf.ev rfl) (hs.sub _ _ h13) (Backup.d0_38 _ _) (Backup.len _ _)) rfl
   ·intro a w' M30 l31 hd hs
    have e32 := hd.val 2 7 _ rfl rfl
    replace h4 := h4.mono l31
    refine OP.ofW (l := [(7, (.agg (Backup.C p1 v3).toArray))]) (hd.fr.add e32) hs rfl ?_
    refine w_call cf48 trivial rfl rfl (fun w hs => backup_Header.calls hs p1 v3 h4 _ e38) ?_
    rintro _ M35 l36 rfl
    replace h4 := h4.mono l36
    exact w_nil fun a w' hf hs => ⟨rfl, hf.df, _, l36, hs, hf.get _ _ rfl⟩
   ·intro a w' M39 l40 hd hs
    have e41 := hd.val 1 6 _ rfl rfl
    have e42 := hd.val 3 8 _ rfl rfl
    refine OP.ofW (l := [(6, (str t22)), (8, (str t33))]) ((hd.fr.add e42).add e41) hs rfl ?_
    refine wv rfl (fun a w hf hs => r_seql (hf.ev rfl) (hf.ev rfl)) ?_
    exact w_nil fun a w' hf hs => ⟨rfl, hf.df, _, (HLe.refl _), hs, hf.get _ _ rfl⟩
   ·intro a w' M43 l44 hd hs
    have e45 := hd.val 4 9 _ rfl rfl
    exact pv (hd.fr.add e45) hs rfl (fun a w hf hs => r_move (hf.ev rfl)) rfl
   ·intro a w' M47 l48 hd hs
    replace h9 := l48 _ _ h9
    replace h2 := h2.mono l48
    have e49 := hd.val 5 10 _ rfl rfl
    refine OP.ofW (l := [(2, (ptr b6 0)), (10, (.bool (t22 == t33)))]) ((hd.fr.add e49).add (hd.base 2 _ rfl rfl)) hs rfl ?_
    refine w_val (Wnt.of rfl rfl b46) rfl (fun a w hf hs => r_fa fa36_7 (hf.ev rfl)) ?_
    exact w_nil fun a w' hf hs => ⟨rfl, hf.df, _, (HLe.refl _), hs, hf.get _ _ rfl⟩
   ·intro a w' M50 l51 hd hs
    have e52 := hd.val 6 11 _ rfl rfl
    replace h9 := l51 _ _ h9
    replace h2 := h2.mono l51
    have e53 := hd.val 5 10 _ rfl rfl
    refine OP.ofW (l := [(11, (ptr b6 37)), (10, (.bool (t22 == t33)))]) ((hd.fr.add e53).add e52) hs rfl ?_
    refine w_val (Wnt.of rfl rfl b46) rfl (fun a w hf hs => r_load1 ta34 (hf.ev rfl) (hs.sub _ _ h9) (Backup.g37 _ _)) ?_
    exact w_nil fun a w' hf hs => ⟨rfl, hf.df, _, (HLe.refl _), hs, hf.get _ _ rfl⟩
   ·intro a w' M54 l55 hd hs
    replace h13 := l55 _ _ h13
    replace h4 := h4.mono l55
    have e56 := hd.val 5 10 _ rfl rfl
    refine OP.ofW (l := [(3, (ptr b10 0)), (10, (.bool (t22 == t33)))]) ((hd.fr.add e56).add (hd.base 3 _ rfl rfl)) hs rfl ?_
    refine w_val (Wnt.of rfl rfl b46) rfl (fun a w hf hs => r_fa fa36_7 (hf.ev rfl)) ?_
    exact w_nil fun a w' hf hs => ⟨rfl, hf.df, _, (HLe.refl _), hs, hf.get _ _ rfl⟩
   ·intro a w' M57 l58 hd hs
    have e59 := hd.val 8 13 _ rfl rfl
    replace h13 := l58 _ _ h13
    replace h4 := h4.mono l58
    have e60 := hd.val 5 10 _ rfl rfl
    refine OP.ofW (l := [(13, (ptr b10 37)), (10, (.bool (t22 == t33)))]) ((hd.fr.add e60).add e59) hs rfl ?_
    refine w_val (Wnt.of rfl rfl b46) rfl (fun a w hf hs => r_load1 ta34 (hf.ev rfl) (hs.sub _ _ h13) (Backup.g37 _ _)) ?_
    exact w_nil fun a w' hf hs => ⟨rfl, hf.df, _, (HLe.refl _), hs, hf.get _ _ rfl⟩
   ·intro a w' M61 l62 hd hs
    have e63 := hd.val 7 12 _ rfl rfl
    replace h2 := h2.mono l62
    have e64 := hd.val 9 14 _ rfl rfl
    replace h4 := h4.mono l62
    have e65 := hd.val 5 10 _ rfl rfl
    refine OP.ofW (l := [(12, v1), (14, v3), (10, (.bool (t22 == t33)))]) (((hd.fr.add e65).add e64).add e63) hs rfl ?_
    refine w_call cf93 (Wnt.of rfl rfl b46) rfl rfl (fun w hs => slices_Equal_Key.calls hs p0.Keys v1 h2 p1.Keys v3 h4 _ e71) ?_
    rintro _ M68 l69 rfl
    replace h2 := h2.mono l69
    replace h4 := h4.mono l69
    exact w_nil fun a w' hf hs => ⟨rfl, hf.df, _, l69, hs, hf.get _ _ rfl⟩
   ·intro a w' M72 l73 hd hs
    have e74 := hd.val 5 10 _ rfl rfl
    have e75 := hd.val 10 15 _ rfl rfl
    refine OP.ofW (l := [(10, (.bool (t22 == t33))), (15, (.bool t66))]) ((hd.fr.add e75).add e74) hs rfl ?_
    refine wv rfl (fun a w hf hs => r_pickT (hf.ev rfl) b46 (hf.ev rfl)) ?_
    exact w_nil fun a w' hf hs => ⟨rfl, hf.df, _, (HLe.refl _), hs, hf.get _ _ rfl⟩
   ·intro a w' M76 l77 hd hs
    have e78 := hd.val 11 16 _ rfl rfl
    exact pv (hd.fr.add e78) hs rfl (fun a w hf hs => r_assign (hf.ev rfl)) rfl
   intro a w' M79 l80 hdf hsz hb hv hs
   replace h2 := h2.mono l80
   replace h4 := h4.mono l80
   replace h9 := l80 _ _ h9
   replace h13 := l80 _ _ h13
   have e81 := hv 12 4 _ rfl rfl
   refine n_of (c := (Cx.mk Tryd.prog 17 none' M w)) (l := [(4, (.bool t66))]) ?_ ((Fr.start hdf hsz).add e81) hs
   clear hdf hsz hb hv hs e81
   obtain rfl := some_r H
   refine n_id ?_
   intro a w' hf hs
   exact ⟨_, l80, (hf.nil.add (hf.get _ _ rfl)), hs.sel [] (by decide) rfl⟩
  ·replace b46 := Bool.eq_false_iff.2 b46
   replace H := if_f b46 H
   refine c_drawP [([], [2]), ([(0, 5)], []), ([], [3]), ([(2, 7)], []), ([(1, 6), (3, 8)], []), ([(4, 9)], []), ([(5, 10)], [2]), ([(6, 11), (5, 10)], []), ([(5, 10)], [3]), ([(8, 13), (5, 10)], []), ([(7, 12), (9, 14), (5, 10)], []), ([(5, 10), (10, 15)], []), ([(11, 16)], [])] [fun v M => v = (.agg (Backup.C p0 v1).toArray), fun v M => v = (str t22), fun v M => v = (.agg (Backup.C p1 v3).toArray), fun v M => v = (str t33), fun v M => v = (.bool (t22 == t33)), fun v M => v = (.bool (t22 == t33)), fun v M => v = undef, fun v M => v = undef, fun v M => v = undef, fun v M => v = undef, fun v M => v = undef, fun v M => v = (.bool false), fun v M => v = (.bool false)] (by kernel_rfl) (by kernel_rfl) ?_ (AllT.cons ?_ (AllT.cons ?_ (AllT.cons ?_ (AllT.cons ?_ (AllT.cons ?_ (AllT.cons ?_ (AllT.cons ?_ (AllT.cons ?_ (AllT.cons ?_ (AllT.cons ?_ (AllT.cons ?_ (AllT.cons ?_ (AllT.cons ?_ AllT.nil))))))))))))) ?_
   ·exact (mC (mC (mC (mC (mC (mC (mC (mC (mC (mC (mC (mC (mC MonoA.nil)))))))))))))
   ·intro a w' M17 l18 hd hs
    replace h9 := l18 _ _ h9
    replace h2 := h2.mono l18
    exact pv (hd.fr.add (hd.base 2 _ rfl rfl)) hs rfl (fun a w hf hs => r_loadA ta36 ts36 (hf.ev rfl) (hs.sub _ _ h9) (Backup.d0_38 _ _) (Backup.len _ _)) rfl
   ·intro a w' M19 l20 hd hs
    have e21 := hd.val 0 5 _ rfl rfl
    replace h2 := h2.mono l20
    refine OP.ofW (l := [(5, (.agg (Backup.C p0 v1).toArray))]) (hd.fr.add e21) hs rfl ?_
    refine w_call cf48 trivial rfl rfl (fun w hs => backup_Header.calls hs p0 v1 h2 _ e27) ?_
    rintro _ M24 l25 rfl
    exact w_nil fun a w' hf hs => ⟨rfl, hf.df, _, l25, hs, hf.get _ _ rfl⟩
   ·intro a w' M28 l29 hd hs
    replace h13 := l29 _ _ h13
    replace h4 := h4.mono l29
    exact pv (hd.fr.add (hd.base 3 _ rfl rfl)) hs rfl (fun a w hf hs => r_loadA ta36 ts36 (hf.ev rfl) (hs.sub _ _ h13) (Backup.d0_38 _ _) (Backup.len _ _)) rfl
   ·intro a w' M30 l31 hd hs
    have e32 := hd.val 2 7 _ rfl rfl
    replace h4 := h4.mono l31
    refine OP.ofW (l := [(7, (.agg (Backup.C p1 v3).toArray))]) (hd.fr.add e32) hs rfl ?_
    refine w_call cf48 trivial rfl rfl (fun w hs => backup_Header.calls hs p1 v3 h4 _ e38) ?_
    rintro _ M35 l36 rfl
    exact w_nil fun a w' hf hs => ⟨rfl, hf.df, _, l36, hs, hf.get _ _ rfl⟩
   ·intro a w' M39 l40 hd hs
    have e41 := hd.val 1 6 _ rfl rfl
    have e42 := hd.val 3 8 _ rfl rfl
    refine OP.ofW (l := [(6, (str t22)), (8, (str t33))]) ((hd.fr.add e42).add e41) hs rfl ?_
    refine wv rfl (fun a w hf hs => r_seql (hf.ev rfl) (hf.ev rfl)) ?_
    exact w_nil fun a w' hf hs => ⟨rfl, hf.df, _, (HLe.refl _), hs, hf.get _ _ rfl⟩
   ·intro a w' M43 l44 hd hs
    have e45 := hd.val 4 9 _ rfl rfl
    exact pv (hd.fr.add e45) hs rfl (fun a w hf hs => r_move (hf.ev rfl)) rfl
   ·intro a w' M82 l83 hd hs
    have e84 := hd.val 5 10 _ rfl rfl
    refine OP.ofW (l := [(2, (ptr b6 0)), (10, (.bool (t22 == t33)))]) ((hd.fr.add e84).add (hd.base 2 _ rfl rfl)) hs rfl ?_
    refine w_not (Nwt.of rfl rfl b46) rfl ?_
    exact w_nil fun a w' hf hs => ⟨rfl, hf.df, _, (HLe.refl _), hs, hf.get _ _ rfl⟩
   ·intro a w' M85 l86 hd hs
    have e87 := hd.val 6 11 _ rfl rfl
    have e88 := hd.val 5 10 _ rfl rfl
    refine OP.ofW (l := [(11, undef), (10, (.bool (t22 == t33)))]) ((hd.fr.add e88).add e87) hs rfl ?_
    refine w_not (Nwt.of rfl rfl b46) rfl ?_
    exact w_nil fun a w' hf hs => ⟨rfl, hf.df, _, (HLe.refl _), hs, hf.get _ _ rfl⟩
   ·intro a w' M89 l90 hd hs
    have e91 := hd.val 5 10 _ rfl rfl
    refine OP.ofW (l := [(3, (ptr b10 0)), (10, (.bool (t22 == t33)))]) ((hd.fr.add e91).add (hd.base 3 _ rfl rfl)) hs rfl ?_
    refine w_not (Nwt.of rfl rfl b46) rfl ?_
    exact w_nil fun a w' hf hs => ⟨rfl, hf.df, _, (HLe.refl _), hs, hf.get _ _ rfl⟩
   ·intro a w' M92 l93 hd hs
    have e94 := hd.val 8 13 _ rfl rfl
    have e95 := hd.val 5 10 _ rfl rfl
    refine OP.ofW (l := [(13, undef), (10, (.bool (t22 == t33)))]) ((hd.fr.add e95).add e94) hs rfl ?_
    refine w_not (Nwt.of rfl rfl b46) rfl ?_
    exact w_nil fun a w' hf hs => ⟨rfl, hf.df, _, (HLe.refl _), hs, hf.get _ _ rfl⟩
   ·intro a w' M96 l97 hd hs
    have e98 := hd.val 7 12 _ rfl rfl
    have e99 := hd.val 9 14 _ rfl rfl
    have e100 := hd.val 5 10 _ rfl rfl
    refine OP.ofW (l := [(12, undef), (14, undef), (10, (.bool (t22 == t33)))]) (((hd.fr.add e100).add e99).add e98) hs rfl ?_
    refine w_not (Nwt.of rfl rfl b46) rfl ?_
    exact w_nil fun a w' hf hs => ⟨rfl, hf.df, _, (HLe.refl _), hs, hf.get _ _ rfl⟩
   ·intro a w' M101 l102 hd hs
    have e103 := hd.val 5 10 _ rfl rfl
    have e104 := hd.val 10 15 _ rfl rfl
    refine OP.ofW (l := [(10, (.bool (t22 == t33))), (15, undef)]) ((hd.fr.add e104).add e103) hs rfl ?_
    refine wv rfl (fun a w hf hs => r_pickF (hf.ev rfl) b46 (hf.ev rfl)) ?_
    exact w_nil fun a w' hf hs => ⟨rfl, hf.df, _, (HLe.refl _), hs, hf.get _ _ rfl⟩
   ·intro a w' M105 l106 hd hs
    have e107 := hd.val 11 16 _ rfl rfl
    exact pv (hd.fr.add e107) hs rfl (fun a w hf hs => r_assign (hf.ev rfl)) rfl
   intro a w' M108 l109 hdf hsz hb hv hs
   have e110 := hv 12 4 _ rfl rfl
   refine n_of (c := (Cx.mk Tryd.prog 17 none' M w)) (l := [(4, (.bool false))]) ?_ ((Fr.start hdf hsz).add e110) hs
   clear hdf hsz hb hv hs e110
   obtain rfl := some_r H
   refine n_id ?_
   intro a w' hf hs
   exact ⟨_, l109, (hf.nil.add (hf.get _ _ rfl)), hs.sel [] (by decide) rfl⟩
 ·clear H1
  rintro a w' ⟨M15, l16, hf, hs⟩
  refine c_of (c := (Cx.mk Tryd.prog 17 none' M w)) ?_ hf hs
  clear hf hs
  obtain rfl := some_r H
  exact c_ret fun a w' hf hs => hret _ (.inl rfl) a w' hf.df ⟨_, _, Res.of1 rfl (RV.t hf rfl), hs.ext, rfl⟩
theorem keys_Live.calls {M : Heap} {w : World} (hM : Sub M w) (p0 : Key) (p1 : Int) (r : Bool) (H : keys_Live p0 p1 = some r) :
  Calls Tryd.prog 58 [(.agg (Key.C p0).toArray), (.int .i64 p1)].toArray w (Post M w fun M' v => v = (.bool r)) := by
 refine enter 15 [(0, (.agg (Key.C p0).toArray)), (1, (.int .i64 p1))] Tryd.func58 rfl rfl rfl hM ?_
 intro Q hret
 unfold keys_Live at H
 refine c_sr fun _ hK1 => ?_
 refine w_boxM trivial rfl rfl rfl ?_
 intro b2 M3 l4 h5
 refine v_assign rfl rfl ?_
 refine w_nil (hK1 _ _ _ ?_)
 obtain ⟨t6, H1, H⟩ := bnd H
 refine c_cut (fun a' w' => ∃ (M7 : Heap), HLe M3 M7 ∧ Fr 15 [(4, (.bool t6))] a' ∧ St none' M w M7 (lt []) w') ?_ ?_
 ·replace H := H1
  clear H1
  refine c_reg ?_
  refine v_fa fa55_4 rfl rfl ?_
  refine wv rfl (fun a w hf hs => r_load1 ta3 (hf.ev rfl) (hs.sub _ _ h5) rfl) ?_
  refine v_move rfl rfl ?_
  refine wv rfl (fun a w hf hs => r_leq (hf.ev rfl) (hf.ev rfl)) ?_
  refine v_move rfl rfl ?_
  by_cases b9 : (decide (p0.Start ≤ p1)) = true
  ·replace H := if_t b9 H
   refine w_val (Wnt.of rfl rfl b9) rfl (fun a w hf hs => r_move (hf.ev rfl)) ?_
   refine w_val (Wnt.of rfl rfl b9) rfl (fun a w hf hs => r_fa fa55_5 (hf.ev rfl)) ?_
   refine w_val (Wnt.of rfl rfl b9) rfl (fun a w hf hs => r_load1 ta3 (hf.ev rfl) (hs.sub _ _ h5) rfl) ?_
   refine w_val (Wnt.of rfl rfl b9) rfl (fun a w hf hs => r_lss (hf.ev rfl) (hf.ev rfl)) ?_
   refine wv rfl (fun a w hf hs => r_pickT (hf.ev rfl) b9 (hf.ev rfl)) ?_
   refine v_assign rfl rfl ?_
   obtain rfl := some_r H
   exact w_nil fun a w' hf hs => ⟨_, (HLe.refl _), (hf.nil.add (hf.get _ _ rfl)), hs.sel [] (by decide) rfl⟩
  ·replace b9 := Bool.eq_false_iff.2 b9
   replace H := if_f b9 H
   refine w_not (Nwt.of rfl rfl b9) rfl ?_
   refine w_not (Nwt.of rfl rfl b9) rfl ?_
   refine w_not (Nwt.of rfl rfl b9) rfl ?_
   refine w_not (Nwt.of rfl rfl b9) rfl ?_
   refine wv rfl (fun a w hf hs => r_pickF (hf.ev rfl) b9 (hf.ev rfl)) ?_
   refine v_assign rfl rfl ?_
   obtain rfl := some_r H
   exact w_nil fun a w' hf hs => ⟨_, (HLe.refl _), (hf.nil.add (hf.get _ _ rfl)), hs.sel [] (by decide) rfl⟩
 ·clear H1
  rintro a w' ⟨M7, l8, hf, hs⟩
  refine c_of (c := (Cx.mk Tryd.prog 15 none' M w)) ?_ hf hs
  clear hf hs
  obtain rfl := some_r H
  exact c_ret fun a w' hf hs => hret _ (.inl rfl) a w' hf.df ⟨_, _, Res.of1 rfl (RV.t hf rfl), hs.ext, rfl⟩
theorem backup_Select.calls {M : Heap} {w : World} (hM : Sub M w) (p0 : Table) (v1 : Value) (h2 : RS Key.F M v1 p0.Keys) (p1 : Int) (r : (List Key)) (H : backup_Select p0 p1 = some r) :
  Calls Tryd.prog 25 [(.agg (Table.C p0 v1).toArray), (.int .i64 p1)].toArray w (Post M w fun M' v => ∃ v48, v = v48 ∧ RS Key.F M' v48 r) := by
 refine enter 23 [(0, (.agg (Table.C p0 v1).toArray)), (1, (.int .i64 p1))] Tryd.func25 rfl rfl rfl hM ?_
 intro Q hret
 unfold backup_Select at H
 refine c_sr fun _ hK3 => ?_
 refine w_boxM trivial rfl rfl rfl ?_
 intro b4 M5 l6 h7
 replace h2 := h2.mono l6
 refine v_assign rfl rfl ?_
 refine w_nil (hK3 _ _ _ ?_)
 refine c_row0 55 9 ?_
 refine c_cut (fun a' w' => ∃ (x8 : (List Key)) (v9 : Value) (M10 : Heap), HLe M5 M10 ∧ Fr 23 [(4, v9)] a' ∧ St none' M w M10 (lt [rowI Key.F v9 55 x8]) w' ∧ backup_Select.j1 x8 = some r) ?_ ?_
 ·refine c_seq ?_
  intro K16 hK16
  refine c_reg ?_
  refine v_fa fa44_1 rfl rfl ?_
  refine wv rfl (fun a w hf hs => r_load1 ta34 (hf.ev rfl) (hs.sub _ _ h7) rfl) ?_
  refine wv rfl (fun a w hf hs => r_lenR Tryd.underlying34 h2 (hf.ev rfl)) ?_
  refine v_move rfl rfl ?_
  refine w_nil (hK16 _ _ _ ?_)
  refine c_block ?_
  refine c_loop (fun (s17 : ((List Key) × Int)) a' w' => ∃ (v18 : Value) (M19 : Heap), HLe M5 M19 ∧ Fr 23 [(1, (.int .i64 p1)), (4, v18), (8, v1), (9, (.int .i64 (p0.Keys.length : Int))), (10, (.int .i64 s17.2))] a' ∧ St none' M w M19 (lt [rowI Key.F v18 55 s17.1]) w') (([] : (List Key)), (0 : Int)) H ?_ ?_
  ·intro a w' hf hs
   exact ⟨(.slice none 0 0), _, HLe.refl _, (((((hf.nil.add (hf.get _ _ rfl)).add (hf.get _ _ rfl)).add (hf.get _ _ rfl)).add (hf.get _ _ rfl)).add (hf.get _ _ rfl)), hs.selD [some 0] (by decide) rfl⟩
  ·clear H
   intro s17 y22 H r21 a w' hJ
   obtain ⟨v18, M19, l20, hf, hs⟩ := hJ
   refine c_of (c := (Cx.mk Tryd.prog 23 none' M w)) ?_ hf hs
   unfold backup_Select.l3 at H
   clear hf hs
   replace h2 := h2.mono l20
   refine c_sr fun _ hK23 => ?_
   refine v_lss rfl rfl rfl ?_
   refine w_nil (hK23 _ _ _ ?_)
   refine c_seq fun K24 hK24 => ?_
   refine c_if rfl (fun b25 => ?_) (fun b25 => ?_)
   ·replace H := if_t b25 H
    refine c_skip (hK24 _ _ _ ?_)
    refine c_cut (fun a' w' => ∃ (x26 : (List Key)) (v27 : Value) (M28 : Heap), HLe M19 M28 ∧ Fr 23 [(1, (.int .i64 p1)), (4, v27), (8, v1), (9, (.int .i64 (p0.Keys.length : Int))), (10, (.int .i64 s17.2))] a' ∧ St none' M w M28 (lt [rowI Key.F v27 55 x26]) w' ∧ backup_Select.j2 x26 s17 = some y22) ?_ ?_
    ·refine c_block ?_
     refine c_sr fun _ hK30 => ?_
     obtain ⟨g31, H⟩ := grd_s H
     refine wv rfl (fun a w hf hs => r_iR Tryd.underlying34 ts55 h2 (hf.ev rfl) (hf.ev rfl) g31.1 g31.2) ?_
     refine wv rfl (fun a w hf hs => r_loadEA ta55 ts55 h2 hs.sub g31.1 g31.2 (hf.ev rfl) rfl rfl) ?_
     refine w_allocL (A := Key.C (⟨(0 : Int), (0 : Int), ([] : List UInt8), (0 : Int), (0 : Int), (0 : Int), (0 : Int), (0 : Int), false⟩ : Key)) tz55 trivial rfl rfl ?_
     intro b32
     refine w_store (i := 1) (vs := Key.C (rd p0.Keys s17.2)) (A' := Key.C (rd p0.Keys s17.2)) trivial rfl rfl rfl rfl ts55 rfl (Key.F_one _) (Nat.le_of_ble_eq_true rfl) rfl ?_
     refine w_nil (hK30 _ _ _ ?_)
     refine c_sr fun _ hK33 => ?_
     refine wv rfl (fun a w hf hs => r_loadA ta55 ts55 (hf.ev rfl) (hs.blk (i := 1) rfl) rfl rfl) ?_
     refine v_move rfl rfl ?_
     obtain ⟨t34, e39, H⟩ := bnd H
     refine w_call cf58 trivial rfl rfl (fun w hs => keys_Live.calls hs (rd p0.Keys s17.2) p1 _ e39) ?_
     rintro _ M36 l37 rfl
     refine w_nil (hK33 _ _ _ ?_)
     refine c_if rfl (fun b40 => ?_) (fun b40 => ?_)
     ·replace H := if_t b40 H
      refine c_reg ?_
      refine v_move rfl rfl ?_
      refine wv rfl (fun a w hf hs => r_loadA ta55 ts55 (hf.ev rfl) (hs.blk (i := 1) rfl) rfl rfl) ?_
      refine w_bsl (F := Key.F) (es := ([(rd p0.Keys s17.2)] : List Key)) (xs := [.tmp 18]) (vs := [(.agg (Key.C (rd p0.Keys s17.2)).toArray)]) Tryd.underlying34 te55 trivial rfl rfl rfl rfl rfl (by decide) ?_
      intro v41 M42 l43 h44 c45
      obtain ⟨g46, H⟩ := grd_s H
      refine w_app (F := Key.F) (m2 := ([(rd p0.Keys s17.2)] : List Key)) (i := 0) Tryd.underlying34 te55 Tryd.underlying34 (.inl ⟨_, rfl⟩) trivial rfl rfl rfl rfl (Src.rs Key.F_one h44) g46 ?_
      intro v47
      refine v_assign rfl rfl ?_
      exact w_nil fun a w' hf hs => ⟨(s17.1 ++ ([(rd p0.Keys s17.2)] : List Key)), v47, _, (l37.trans l43), (((((hf.nil.add (hf.get _ _ rfl)).add (hf.get _ _ rfl)).add (hf.get _ _ rfl)).add (hf.get _ _ rfl)).add (hf.get _ _ rfl)), hs.selD [some 0] (by decide) rfl, H⟩
     ·replace H := if_f b40 H
      refine c_skip ?_
      intro a w' hf hs
      exact ⟨s17.1, v18, _, l37, (((((hf.nil.add (hf.get _ _ rfl)).add (hf.get _ _ rfl)).add (hf.get _ _ rfl)).add (hf.get _ _ rfl)).add (hf.get _ _ rfl)), hs.selD [some 0] (by decide) rfl, H⟩
    ·rintro a w' ⟨x26, v27, M28, l29, hf, hs, H⟩
     refine c_of (c := (Cx.mk Tryd.prog 23 none' M w)) ?_ hf hs
     unfold backup_Select.j2 at H
     clear hf hs
     refine c_reg ?_
     refine v_add rfl rfl rfl ?_
     refine v_move rfl rfl ?_
     exact w_nil fun a w' hf hs => ⟨_, (some_r H).symm, v27, _, l20.trans l29, (((((hf.nil.add (hf.get _ _ rfl)).add (hf.get _ _ rfl)).add (hf.get _ _ rfl)).add (hf.get _ _ rfl)).add (hf.get _ _ rfl)), hs.selD [some 0] (by decide) rfl⟩
   ·replace H := if_f b25 H
    replace H := map_inr H r21
    refine c_exit ?_
    intro a w' hf hs
    exact ⟨s17.1, v18, _, l20, (hf.nil.add (hf.get _ _ rfl)), hs.selD [some 0] (by decide) rfl, H⟩
 ·rintro a w' ⟨x8, v9, M10, l11, hf, hs, H⟩
  refine c_of (c := (Cx.mk Tryd.prog 23 none' M w)) ?_ hf hs
  unfold backup_Select.j1 at H
  clear hf hs
  refine c_sr fun _ hK12 => ?_
  refine v_move rfl rfl ?_
  refine v_assign rfl rfl ?_
  refine w_nil (hK12 _ _ _ ?_)
  obtain rfl := some_r H
  refine c_ret ?_
  refine n_give 0 rfl (fun _ h => h) ?_
  intro M13 l14 h15
  intro a w' hf hs
  exact hret _ (.inl rfl) a w' hf.df ⟨_, _, Res.of1 rfl (RV.t hf rfl), hs.ext, ⟨_, rfl, h15⟩⟩
theorem slices_Index_Key.calls {M : Heap} {w : World} (hM : Sub M w) (p0 : (List Key)) (v1 : Value) (h2 : RS Key.F M v1 p0) (p1 : Key) (r : Int) (H : slices_Index_Key p0 p1 = some r) :
  Calls Tryd.prog 107 [v1, (.agg (Key.C p1).toArray)].toArray w (Post M w fun M' v => v = (.int .i64 r)) := by
 refine enter 19 [(0, v1), (1, (.agg (Key.C p1).toArray))] Tryd.func107 rfl rfl rfl hM ?_
 intro Q hret
 unfold slices_Index_Key at H
 refine c_sr fun _ hK3 => ?_
 refine w_boxM trivial rfl rfl rfl ?_
 intro b4 M5 l6 h7
 replace h2 := h2.mono l6
 refine v_assign rfl rfl ?_
 refine w_nil (hK3 _ _ _ ?_)
 refine c_cut (fun a' w' => ∃ (M8 : Heap), HLe M5 M8 ∧ Fr 19 [] a' ∧ St none' M w M8 (lt []) w' ∧ slices_Index_Key.j1  = some r) ?_ ?_
 ·refine c_seq ?_
  intro K11 hK11
  refine c_reg ?_
  refine v_move rfl rfl ?_
  refine wv rfl (fun a w hf hs => r_lenR Tryd.underlying34 h2 (hf.ev rfl)) ?_
  refine v_move rfl rfl ?_
  refine w_nil (hK11 _ _ _ ?_)
  refine c_block ?_
  refine c_loop (fun (s12 : Int) a' w' => ∃ (M13 : Heap), HLe M5 M13 ∧ Fr 19 [(0, v1), (3, (ptr b4 0)), (7, (.int .i64 (p0.length : Int))), (8, (.int .i64 s12))] a' ∧ St none' M w M13 (lt []) w') (0 : Int) H ?_ ?_
  ·intro a w' hf hs
   exact ⟨_, HLe.refl _, ((((hf.nil.add (hf.get _ _ rfl)).add (hf.get _ _ rfl)).add (hf.get _ _ rfl)).add (hf.get _ _ rfl)), hs.selD [] (by decide) rfl⟩
  ·clear H
   intro s12 y16 H r15 a w' hJ
   obtain ⟨M13, l14, hf, hs⟩ := hJ
   refine c_of (c := (Cx.mk Tryd.prog 19 none' M w)) ?_ hf hs
   unfold slices_Index_Key.l2 at H
   clear hf hs
   replace h2 := h2.mono l14
   replace h7 := l14 _ _ h7
   refine c_sr fun _ hK17 => ?_
   refine v_lss rfl rfl rfl ?_
   refine w_nil (hK17 _ _ _ ?_)
   refine c_seq fun K18 hK18 => ?_
   refine c_if rfl (fun b19 => ?_) (fun b19 => ?_)
   ·replace H := if_t b19 H
    refine c_skip (hK18 _ _ _ ?_)
    refine c_seq fun K20 hK20 => ?_
    refine c_block ?_
    refine c_sr fun _ hK21 => ?_
    refine v_move rfl rfl ?_
    refine v_assign rfl rfl ?_
    refine w_nil (hK21 _ _ _ ?_)
    refine c_seq fun K22 hK22 => ?_
    obtain ⟨g33, H⟩ := grd_s H
    refine c_drawP [([], [3]), ([], [0]), ([], [5]), ([(1, 12), (2, 13)], []), ([(3, 14)], []), ([(0, 11), (4, 15)], [])] [fun v M => v = (.agg (Key.C p1).toArray), fun v M => v = v1, fun v M => v = (.int .i64 s12), fun v M => v = (eP v1 s12 9 0), fun v M => v = (.agg (Key.C (rd p0 s12)).toArray), fun v M => v = (.bool (decide (p1 = (rd p0 s12))))] (by kernel_rfl) (by kernel_rfl) ?_ (AllT.cons ?_ (AllT.cons ?_ (AllT.cons ?_ (AllT.cons ?_ (AllT.cons ?_ (AllT.cons ?_ AllT.nil)))))) ?_
    ·exact (mC (mC (mC (mC (mC (mC MonoA.nil))))))
    ·intro a w' M23 l24 hd hs
     replace h7 := l24 _ _ h7
     refine OP.ofW (l := [(3, (ptr b4 0))]) (hd.fr.add (hd.base 3 _ rfl rfl)) hs rfl ?_
     refine wv rfl (fun a w hf hs => r_loadA ta55 ts55 (hf.ev rfl) (hs.sub _ _ h7) rfl rfl) ?_
     exact w_nil fun a w' hf hs => ⟨rfl, hf.df, _, (HLe.refl _), hs, hf.get _ _ rfl⟩
    ·intro a w' M25 l26 hd hs
     replace h2 := h2.mono l26
     exact pv (hd.fr.add (hd.base 0 _ rfl rfl)) hs rfl (fun a w hf hs => r_move (hf.ev rfl)) rfl
    ·intro a w' M27 l28 hd hs
     exact pv (hd.fr.add (hd.base 5 _ rfl rfl)) hs rfl (fun a w hf hs => r_move (hf.ev rfl)) rfl
    ·intro a w' M29 l30 hd hs
     have e31 := hd.val 1 12 _ rfl rfl
     replace h2 := h2.mono l30
     have e32 := hd.val 2 13 _ rfl rfl
     refine OP.ofW (l := [(12, v1), (13, (.int .i64 s12))]) ((hd.fr.add e32).add e31) hs rfl ?_
     refine wv rfl (fun a w hf hs => r_iR Tryd.underlying34 ts55 h2 (hf.ev rfl) (hf.ev rfl) g33.1 g33.2) ?_
     exact w_nil fun a w' hf hs => ⟨rfl, hf.df, _, (HLe.refl _), hs, hf.get _ _ rfl⟩
    ·intro a w' M34 l35 hd hs
     have e36 := hd.val 3 14 _ rfl rfl
     replace h2 := h2.mono l35
     refine OP.ofW (l := [(14, (eP v1 s12 9 0))]) (hd.fr.add e36) hs rfl ?_
     refine wv rfl (fun a w hf hs => r_loadEA ta55 ts55 h2 hs.sub g33.1 g33.2 (hf.ev rfl) rfl rfl) ?_
     exact w_nil fun a w' hf hs => ⟨rfl, hf.df, _, (HLe.refl _), hs, hf.get _ _ rfl⟩
    ·intro a w' M37 l38 hd hs
     have e39 := hd.val 0 11 _ rfl rfl
     have e40 := hd.val 4 15 _ rfl rfl
     refine OP.ofW (l := [(11, (.agg (Key.C p1).toArray)), (15, (.agg (Key.C (rd p0 s12)).toArray))]) ((hd.fr.add e40).add e39) hs rfl ?_
     refine wv rfl (fun a w hf hs => r_eqS eq55 (hf.ev rfl) (hf.ev rfl)) ?_
     exact w_nil fun a w' hf hs => ⟨rfl, hf.df, _, (HLe.refl _), hs, hf.get _ _ rfl⟩
    intro a w' M41 l42 hdf hsz hb hv hs
    have e43 := hv 5 16 _ rfl rfl
    refine n_of (c := (Cx.mk Tryd.prog 19 none' M w)) (l := [(0, v1), (3, (ptr b4 0)), (5, (.int .i64 s12)), (7, (.int .i64 (p0.length : Int))), (8, (.int .i64 s12)), (16, (.bool (decide (p1 = (rd p0 s12)))))]) ?_ (((((((Fr.start hdf hsz).add e43).add (hb 8 _ rfl rfl)).add (hb 7 _ rfl rfl)).add (hb 5 _ rfl rfl)).add (hb 3 _ rfl rfl)).add (hb 0 _ rfl rfl)) hs
    clear hdf hsz hb hv hs e43
    refine n_id (hK22 _ _ _ ?_)
    refine c_if rfl (fun b44 => ?_) (fun b44 => ?_)
    ·replace H := if_t b44 H
     refine c_sr fun _ hK45 => ?_
     refine v_move rfl rfl ?_
     refine v_assign rfl rfl ?_
     refine w_nil (hK45 _ _ _ ?_)
     obtain rfl := (r15 _ (Option.some.inj H).symm)
     exact c_ret fun a w' hf hs => hret _ (.inl rfl) a w' hf.df ⟨_, _, Res.of1 rfl (RV.t hf rfl), hs.ext, rfl⟩
    ·replace H := if_f b44 H
     refine c_skip (hK20 _ _ _ ?_)
     refine c_reg ?_
     refine v_add rfl rfl rfl ?_
     refine v_move rfl rfl ?_
     exact w_nil fun a w' hf hs => ⟨_, (some_r H).symm, _, l14.trans l42, ((((hf.nil.add (hf.get _ _ rfl)).add (hf.get _ _ rfl)).add (hf.get _ _ rfl)).add (hf.get _ _ rfl)), hs.selD [] (by decide) rfl⟩
   ·replace H := if_f b19 H
    replace H := map_inr H r15
    refine c_exit ?_
    intro a w' hf hs
    exact ⟨_, l14, hf.nil, hs.selD [] (by decide) rfl, H⟩
 ·rintro a w' ⟨M8, l9, hf, hs, H⟩
  refine c_of (c := (Cx.mk Tryd.prog 19 none' M w)) ?_ hf hs
  unfold slices_Index_Key.j1 at H
  clear hf hs
  refine c_sr fun _ hK10 => ?_
  refine v_assign rfl rfl ?_
  refine w_nil (hK10 _ _ _ ?_)
  obtain rfl := some_r H
  exact c_ret fun a w' hf hs => hret _ (.inl rfl) a w' hf.df ⟨_, _, Res.of1 rfl (RV.t hf rfl), hs.ext, rfl⟩
theorem slices_Contains_Key.calls {M : Heap} {w : World} (hM : Sub M w) (p0 : (List Key)) (v1 : Value) (h2 : RS Key.F M v1 p0) (p1 : Key) (r : Bool) (H : slices_Contains_Key p0 p1 = some r) :
  Calls Tryd.prog 61 [v1, (.agg (Key.C p1).toArray)].toArray w (Post M w fun M' v => v = (.bool r)) := by
 refine enter 9 [(0, v1), (1, (.agg (Key.C p1).toArray))] Tryd.func61 rfl rfl rfl hM ?_
 intro Q hret
 unfold slices_Contains_Key at H
 refine c_sr fun _ hK3 => ?_
 refine w_boxM trivial rfl rfl rfl ?_
 intro b4 M5 l6 h7
 replace h2 := h2.mono l6
 refine v_assign rfl rfl ?_
 refine w_nil (hK3 _ _ _ ?_)
 refine c_sr fun _ hK8 => ?_
 refine v_move rfl rfl ?_
 refine wv rfl (fun a w hf hs => r_loadA ta55 ts55 (hf.ev rfl) (hs.sub _ _ h7) rfl rfl) ?_
 obtain ⟨t9, e14, H⟩ := bnd H
 refine w_call cf107 trivial rfl rfl (fun w hs => slices_Index_Key.calls hs p0 v1 h2 p1 _ e14) ?_
 rintro _ M11 l12 rfl
 refine wv rfl (fun a w hf hs => r_geq (hf.ev rfl) (hf.ev rfl)) ?_
 refine v_assign rfl rfl ?_
 refine w_nil (hK8 _ _ _ ?_)
 obtain rfl := some_r H
 exact c_ret fun a w' hf hs => hret _ (.inl rfl) a w' hf.df ⟨_, _, Res.of1 rfl (RV.t hf rfl), hs.ext, rfl⟩
theorem backup_Complete_1.calls {M : Heap} {w : World} (hM : Sub M w) (p0 : Key) (c0_ : Backup) (cb0_ : Nat) (v1 : Value) (h2 : RS Key.F M v1 c0_.Keys) (ch0_ : M cb0_ = some (.cells (Backup.C c0_ v1).toArray 36 (0, 0))) (r : Bool) (H : backup_Complete_1 p0 c0_ = some r) :
  Calls Tryd.prog 60 [(.agg (Key.C p0).toArray), (ptr cb0_ 0)].toArray w (Post M w fun M' v => v = (.bool r)) := by
 refine enter 9 [(0, (.agg (Key.C p0).toArray)), (1, (ptr cb0_ 0))] Tryd.func60 rfl rfl rfl hM ?_
 intro Q hret
 unfold backup_Complete_1 at H
 refine c_sr fun _ hK3 => ?_
 refine w_boxM trivial rfl rfl rfl ?_
 intro b4 M5 l6 h7
 replace h2 := h2.mono l6
 replace ch0_ := l6 _ _ ch0_
 refine v_assign rfl rfl ?_
 refine w_nil (hK3 _ _ _ ?_)
 refine c_sr fun _ hK8 => ?_
 refine v_fa fa36_7 rfl rfl ?_
 refine wv rfl (fun a w hf hs => r_load1 ta34 (hf.ev rfl) (hs.sub _ _ ch0_) (Backup.g37 _ _)) ?_
 refine wv rfl (fun a w hf hs => r_loadA ta55 ts55 (hf.ev rfl) (hs.sub _ _ h7) rfl rfl) ?_
 obtain ⟨t9, e14, H⟩ := bnd H
 refine w_call cf61 trivial rfl rfl (fun w hs => slices_Contains_Key.calls hs c0_.Keys v1 h2 p0 _ e14) ?_
 rintro _ M11 l12 rfl
 refine wv rfl (fun a w hf hs => r_not (hf.ev rfl)) ?_
 refine v_assign rfl rfl ?_
 refine w_nil (hK8 _ _ _ ?_)
 obtain rfl := some_r H
 exact c_ret fun a w' hf hs => hret _ (.inl rfl) a w' hf.df ⟨_, _, Res.of1 rfl (RV.t hf rfl), hs.ext, rfl⟩
theorem slices_IndexFunc_Key.calls {M : Heap} {w : World} (hM : Sub M w) (p0 : (List Key)) (v1 : Value) (h2 : RS Key.F M v1 p0) (p1 : (Key → Option Bool)) (p1v : Value) (p1h : FnS Tryd.prog M p1v (fun x => .agg (Key.C x).toArray) Value.bool p1) (r : Int) (H : slices_IndexFunc_Key p0 p1 = some r) :
  Calls Tryd.prog 66 [v1, p1v].toArray w (Post M w fun M' v => v = (.int .i64 r)) := by
 refine enter 19 [(0, v1), (1, p1v)] Tryd.func66 rfl rfl rfl hM ?_
 intro Q hret
 unfold slices_IndexFunc_Key at H
 refine c_sr fun _ hK3 => ?_
 refine v_assign rfl rfl ?_
 refine w_nil (hK3 _ _ _ ?_)
 refine c_cut (fun a' w' => ∃ (M4 : Heap), HLe M M4 ∧ Fr 19 [] a' ∧ St none' M w M4 (lt []) w' ∧ slices_IndexFunc_Key.j1  = some r) ?_ ?_
 ·refine c_seq ?_
  intro K7 hK7
  refine c_reg ?_
  refine v_move rfl rfl ?_
  refine wv rfl (fun a w hf hs => r_lenR Tryd.underlying34 h2 (hf.ev rfl)) ?_
  refine v_move rfl rfl ?_
  refine w_nil (hK7 _ _ _ ?_)
  refine c_block ?_
  refine c_loop (fun (s8 : Int) a' w' => ∃ (M9 : Heap), HLe M M9 ∧ Fr 19 [(0, v1), (1, p1v), (7, (.int .i64 (p0.length : Int))), (8, (.int .i64 s8))] a' ∧ St none' M w M9 (lt []) w') (0 : Int) H ?_ ?_
  ·intro a w' hf hs
   exact ⟨_, HLe.refl _, ((((hf.nil.add (hf.get _ _ rfl)).add (hf.get _ _ rfl)).add (hf.get _ _ rfl)).add (hf.get _ _ rfl)), hs.selD [] (by decide) rfl⟩
  ·clear H
   intro s8 y12 H r11 a w' hJ
   obtain ⟨M9, l10, hf, hs⟩ := hJ
   refine c_of (c := (Cx.mk Tryd.prog 19 none' M w)) ?_ hf hs
   unfold slices_IndexFunc_Key.l2 at H
   clear hf hs
   replace h2 := h2.mono l10
   replace p1h := p1h.mono l10
   refine c_sr fun _ hK13 => ?_
   refine v_lss rfl rfl rfl ?_
   refine w_nil (hK13 _ _ _ ?_)
   refine c_seq fun K14 hK14 => ?_
   refine c_if rfl (fun b15 => ?_) (fun b15 => ?_)
   ·replace H := if_t b15 H
    refine c_skip (hK14 _ _ _ ?_)
    refine c_seq fun K16 hK16 => ?_
    refine c_block ?_
    refine c_sr fun _ hK17 => ?_
    refine v_move rfl rfl ?_
    refine v_assign rfl rfl ?_
    refine w_nil (hK17 _ _ _ ?_)
    refine c_sr fun _ hK18 => ?_
    refine v_move rfl rfl ?_
    refine v_move rfl rfl ?_
    refine v_move rfl rfl ?_
    obtain ⟨g19, H⟩ := grd_s H
    refine wv rfl (fun a w hf hs => r_iR Tryd.underlying34 ts55 h2 (hf.ev rfl) (hf.ev rfl) g19.1 g19.2) ?_
    refine wv rfl (fun a w hf hs => r_loadEA ta55 ts55 h2 hs.sub g19.1 g19.2 (hf.ev rfl) rfl rfl) ?_
    obtain ⟨t20, e25, H⟩ := bnd H
    refine w_callV trivial rfl rfl rfl (fun _ h => by cases h) (fun w hs => p1h _ w _ _ (HLe.refl _) hs e25) ?_
    rintro _ M22 l23 rfl
    refine w_nil (hK18 _ _ _ ?_)
    refine c_if rfl (fun b26 => ?_) (fun b26 => ?_)
    ·replace H := if_t b26 H
     refine c_sr fun _ hK27 => ?_
     refine v_move rfl rfl ?_
     refine v_assign rfl rfl ?_
     refine w_nil (hK27 _ _ _ ?_)
     obtain rfl := (r11 _ (Option.some.inj H).symm)
     exact c_ret fun a w' hf hs => hret _ (.inl rfl) a w' hf.df ⟨_, _, Res.of1 rfl (RV.t hf rfl), hs.ext, rfl⟩
    ·replace H := if_f b26 H
     refine c_skip (hK16 _ _ _ ?_)
     refine c_reg ?_
     refine v_add rfl rfl rfl ?_
     refine v_move rfl rfl ?_
     exact w_nil fun a w' hf hs => ⟨_, (some_r H).symm, _, l10.trans l23, ((((hf.nil.add (hf.get _ _ rfl)).add (hf.get _ _ rfl)).add (hf.get _ _ rfl)).add (hf.get _ _ rfl)), hs.selD [] (by decide) rfl⟩
   ·replace H := if_f b15 H
    replace H := map_inr H r11
    refine c_exit ?_
    intro a w' hf hs
    exact ⟨_, l10, hf.nil, hs.selD [] (by decide) rfl, H⟩
 ·rintro a w' ⟨M4, l5, hf, hs, H⟩
  refine c_of (c := (Cx.mk Tryd.prog 19 none' M w)) ?_ hf hs
  unfold slices_IndexFunc_Key.j1 at H
  clear hf hs
  refine c_sr fun _ hK6 => ?_
  refine v_assign rfl rfl ?_
  refine w_nil (hK6 _ _ _ ?_)
  obtain rfl := some_r H
  exact c_ret fun a w' hf hs => hret _ (.inl rfl) a w' hf.df ⟨_, _, Res.of1 rfl (RV.t hf rfl), hs.ext, rfl⟩
theorem slices_ContainsFunc_Key.calls {M : Heap} {w : World} (hM : Sub M w) (p0 : (List Key)) (v1 : Value) (h2 : RS Key.F M v1 p0) (p1 : (Key → Option Bool)) (p1v : Value) (p1h : FnS Tryd.prog M p1v (fun x => .agg (Key.C x).toArray) Value.bool p1) (r : Bool) (H : slices_ContainsFunc_Key p0 p1 = some r) :
  Calls Tryd.prog 59 [v1, p1v].toArray w (Post M w fun M' v => v = (.bool r)) := by
 refine enter 9 [(0, v1), (1, p1v)] Tryd.func59 rfl rfl rfl hM ?_
 intro Q hret
 unfold slices_ContainsFunc_Key at H
 refine c_sr fun _ hK3 => ?_
 refine v_assign rfl rfl ?_
 refine w_nil (hK3 _ _ _ ?_)
 refine c_sr fun _ hK4 => ?_
 refine v_move rfl rfl ?_
 refine v_move rfl rfl ?_
 obtain ⟨t5, e10, H⟩ := bnd H
 refine w_call cf66 trivial rfl rfl (fun w hs => slices_IndexFunc_Key.calls hs p0 v1 h2 p1 p1v p1h _ e10) ?_
 rintro _ M7 l8 rfl
 refine wv rfl (fun a w hf hs => r_geq (hf.ev rfl) (hf.ev rfl)) ?_
 refine v_assign rfl rfl ?_
 refine w_nil (hK4 _ _ _ ?_)
 obtain rfl := some_r H
 exact c_ret fun a w' hf hs => hret _ (.inl rfl) a w' hf.df ⟨_, _, Res.of1 rfl (RV.t hf rfl), hs.ext, rfl⟩
theorem backup_Complete.calls {M : Heap} {w : World} (hM : Sub M w) (p0 : Backup) (v1 : Value) (h2 : RS Key.F M v1 p0.Keys) (p1 : Table) (v3 : Value) (h4 : RS Key.F M v3 p1.Keys) (p2 : Int) (r : Bool) (H : backup_Complete p0 p1 p2 = some r) :
  Calls Tryd.prog 26 [(.agg (Backup.C p0 v1).toArray), (.agg (Table.C p1 v3).toArray), (.int .i64 p2)].toArray w (Post M w fun M' v => v = (.bool r)) := by
 refine enter 13 [(0, (.agg (Backup.C p0 v1).toArray)), (1, (.agg (Table.C p1 v3).toArray)), (2, (.int .i64 p2))] Tryd.func26 rfl rfl rfl hM ?_
 intro Q hret
 unfold backup_Complete at H
 refine c_sr fun _ hK5 => ?_
 refine w_boxM trivial rfl rfl rfl ?_
 intro b6 M7 l8 h9
 replace h2 := h2.mono l8
 replace h4 := h4.mono l8
 refine w_boxM trivial rfl rfl rfl ?_
 intro b10 M11 l12 h13
 replace h2 := h2.mono l12
 replace h4 := h4.mono l12
 replace h9 := l12 _ _ h9
 refine v_assign rfl rfl ?_
 refine w_nil (hK5 _ _ _ ?_)
 refine c_sr fun _ hK14 => ?_
 refine wv rfl (fun a w hf hs => r_loadA ta44 ts44 (hf.ev rfl) (hs.sub _ _ h13) rfl rfl) ?_
 refine v_move rfl rfl ?_
 obtain ⟨t15, e20, H⟩ := bnd H
 refine w_call cf25 trivial rfl rfl (fun w hs => backup_Select.calls hs p1 v3 h4 p2 _ e20) ?_
 rintro v29 M17 l18 ⟨v21, hv_, h22⟩
 replace hv_ := hv_.symm
 subst hv_
 replace h2 := h2.mono l18
 replace h9 := l18 _ _ h9
 refine wv rfl (fun a w hf hs => r_makeFunc (hf.evs rfl)) ?_
 obtain ⟨t23, e28, H⟩ := bnd H
 refine w_call cf59 trivial rfl rfl (fun w hs => slices_ContainsFunc_Key.calls hs t15 v21 h22 (fun x => backup_Complete_1 x p0) (.func (.func 60) #[] #[(ptr b6 0)]) (FnS.of cf60 fun M' w x r hM hs hp => Calls.mono (backup_Complete_1.calls hs x p0 b6 v1 (h2.mono hM) (hM _ _ h9) _ hp) fun e w' q => q) _ e28) ?_
 rintro _ M25 l26 rfl
 refine wv rfl (fun a w hf hs => r_not (hf.ev rfl)) ?_
 refine v_assign rfl rfl ?_
 refine w_nil (hK14 _ _ _ ?_)
 obtain rfl := some_r H
 exact c_ret fun a w' hf hs => hret _ (.inl rfl) a w' hf.df ⟨_, _, Res.of1 rfl (RV.t hf rfl), hs.ext, rfl⟩
theorem law36_sanity.calls {M : Heap} {w : World} (hM : Sub M w) (hG : Gl M)  (r : Bool) (hr_ : r = true) (H : law36_sanity  = some r) :
  Calls Tryd.prog 20 [].toArray w (Post M w fun M' v => v = (.bool r)) := by
 refine enter 126 [] Tryd.func20 rfl rfl rfl hM ?_
 intro Q hret
 unfold law36_sanity at H
 refine c_sr fun _ hK1 => ?_
 refine v_assign rfl rfl ?_
 refine w_nil (hK1 _ _ _ ?_)
 refine c_sr fun _ hK2 => ?_
 obtain ⟨t3, e8, H⟩ := bnd H
 refine w_call cf44 trivial rfl rfl (fun w hs => law36_value.calls hs (118 : Int) _ e8) ?_
 rintro _ M5 l6 rfl
 replace hG := hG.mono l6
 refine wv rfl (fun a w hf hs => r_build (is := [0, 1, 2, 3, 5, 6, 8]) (xs := [.const (.int .i64 3), .const (.int .i64 1), .tmp 15, .const (.int .i64 8), .const (.int .i64 9), .const (.int .i64 2), .const (.bool true)]) (vs := [(.int .i64 3), (.int .i64 1), (str t3), (.int .i64 8), (.int .i64 9), (.int .i64 2), (.bool true)]) (A := Key.C (⟨(3 : Int), (1 : Int), t3, (8 : Int), (0 : Int), (9 : Int), (2 : Int), (0 : Int), true⟩ : Key)) rfl (hf.evs rfl) (by kernel_rfl)) ?_
 refine w_allocL (A := Key.C (⟨(0 : Int), (0 : Int), ([] : List UInt8), (0 : Int), (0 : Int), (0 : Int), (0 : Int), (0 : Int), false⟩ : Key)) tz55 trivial rfl rfl ?_
 intro b9
 refine w_store (i := 0) (vs := Key.C (⟨(3 : Int), (1 : Int), t3, (8 : Int), (0 : Int), (9 : Int), (2 : Int), (0 : Int), true⟩ : Key)) (A' := Key.C (⟨(3 : Int), (1 : Int), t3, (8 : Int), (0 : Int), (9 : Int), (2 : Int), (0 : Int), true⟩ : Key)) trivial rfl rfl rfl rfl ts55 rfl (Key.F_one _) (Nat.le_of_ble_eq_true rfl) rfl ?_
 refine w_nil (hK2 _ _ _ ?_)
 refine c_sr fun _ hK10 => ?_
 refine wv rfl (fun a w hf hs => r_build (is := [0]) (xs := [.const (.int .u8 1)]) (vs := [(.int .u8 1)]) (A := vI .u8 (#v[(1 : Int), 0, 0, 0, 0, 0, 0, 0, 0, 0, 0, 0, 0, 0, 0, 0] : Vector Int 16)) rfl (hf.evs rfl) (by kernel_rfl)) ?_
 refine wv rfl (fun a w hf hs => r_build (is := [0]) (xs := [.const (.int .u8 6)]) (vs := [(.int .u8 6)]) (A := vI .u8 (#v[(6 : Int), 0, 0, 0, 0, 0, 0, 0, 0, 0, 0, 0, 0, 0, 0, 0] : Vector Int 16)) rfl (hf.evs rfl) (by kernel_rfl)) ?_
 refine wv rfl (fun a w hf hs => r_loadA ta55 ts55 (hf.ev rfl) (hs.blk (i := 0) rfl) rfl rfl) ?_
 refine w_bsl (F := Key.F) (es := ([(⟨(3 : Int), (1 : Int), t3, (8 : Int), (0 : Int), (9 : Int), (2 : Int), (0 : Int), true⟩ : Key)] : List Key)) (xs := [.tmp 19]) (vs := [(.agg (Key.C (⟨(3 : Int), (1 : Int), t3, (8 : Int), (0 : Int), (9 : Int), (2 : Int), (0 : Int), true⟩ : Key)).toArray)]) Tryd.underlying34 te55 trivial rfl rfl rfl rfl rfl (by decide) ?_
 intro v11 M12 l13 h14 c15
 replace hG := hG.mono l13
 refine wv rfl (fun a w hf hs => r_build (is := [0, 1, 2, 3, 4, 5, 6, 7]) (xs := [.tmp 17, .const (.int .i64 2), .const (.int .i64 3), .const (.int .i64 4), .const (.int .i64 5), .tmp 18, .const (str ([109] : List UInt8)), .tmp 20]) (vs := [(.agg (vI .u8 (#v[(1 : Int), 0, 0, 0, 0, 0, 0, 0, 0, 0, 0, 0, 0, 0, 0, 0] : Vector Int 16)).toArray), (.int .i64 2), (.int .i64 3), (.int .i64 4), (.int .i64 5), (.agg (vI .u8 (#v[(6 : Int), 0, 0, 0, 0, 0, 0, 0, 0, 0, 0, 0, 0, 0, 0, 0] : Vector Int 16)).toArray), (str ([109] : List UInt8)), v11]) (A := Backup.C (⟨(#v[(1 : Int), 0, 0, 0, 0, 0, 0, 0, 0, 0, 0, 0, 0, 0, 0, 0] : Vector Int 16), (2 : Int), (3 : Int), (4 : Int), (5 : Int), (#v[(6 : Int), 0, 0, 0, 0, 0, 0, 0, 0, 0, 0, 0, 0, 0, 0, 0] : Vector Int 16), ([109] : List UInt8), ([(⟨(3 : Int), (1 : Int), t3, (8 : Int), (0 : Int), (9 : Int), (2 : Int), (0 : Int), true⟩ : Key)] : List Key)⟩ : Backup) v11) rfl (hf.evs rfl) (built_of (pl := [(0, 16), (16, 1), (17, 1), (18, 1), (19, 1), (20, 16), (36, 1), (37, 1)]) (A0 := Backup.C (⟨(Vector.replicate 16 (0 : Int)), (0 : Int), (0 : Int), (0 : Int), (0 : Int), (Vector.replicate 16 (0 : Int)), ([] : List UInt8), ([] : (List Key))⟩ : Backup) (.slice none 0 0)) tz36 Tryd.underlying36 (by kernel_rfl) rfl (.cons (vs := vI .u8 (#v[(1 : Int), 0, 0, 0, 0, 0, 0, 0, 0, 0, 0, 0, 0, 0, 0, 0] : Vector Int 16)) (B := Backup.C (⟨(#v[(1 : Int), 0, 0, 0, 0, 0, 0, 0, 0, 0, 0, 0, 0, 0, 0, 0] : Vector Int 16), (0 : Int), (0 : Int), (0 : Int), (0 : Int), (Vector.replicate 16 (0 : Int)), ([] : List UInt8), ([] : (List Key))⟩ : Backup) (.slice none 0 0)) rfl rfl (by simp) (by rw [Backup.len]; decide) (Backup.s0_16 _ _) (.cons (vs := [(.int .i64 2)]) (B := Backup.C (⟨(#v[(1 : Int), 0, 0, 0, 0, 0, 0, 0, 0, 0, 0, 0, 0, 0, 0, 0] : Vector Int 16), (2 : Int), (0 : Int), (0 : Int), (0 : Int), (Vector.replicate 16 (0 : Int)), ([] : List UInt8), ([] : (List Key))⟩ : Backup) (.slice none 0 0)) rfl rfl rfl (by rw [Backup.len]; decide) (Backup.s16_1 _ _) (.cons (vs := [(.int .i64 3)]) (B := Backup.C (⟨(#v[(1 : Int), 0, 0, 0, 0, 0, 0, 0, 0, 0, 0, 0, 0, 0, 0, 0] : Vector Int 16), (2 : Int), (3 : Int), (0 : Int), (0 : Int), (Vector.replicate 16 (0 : Int)), ([] : List UInt8), ([] : (List Key))⟩ : Backup) (.slice none 0 0)) rfl rfl rfl (by rw [Backup.len]; decide) (Backup.s17_1 _ _) (.cons (vs := [(.int .i64 4)]) (B := Backup.C (⟨(#v[(1 : Int), 0, 0, 0, 0, 0, 0, 0, 0, 0, 0, 0, 0, 0, 0, 0] : Vector Int 16), (2 : Int), (3 : Int), (4 : Int), (0 : Int), (Vector.replicate 16 (0 : Int)), ([] : List UInt8), ([] : (List Key))⟩ : Backup) (.slice none 0 0)) rfl rfl rfl (by rw [Backup.len]; decide) (Backup.s18_1 _ _) (.cons (vs := [(.int .i64 5)]) (B := Backup.C (⟨(#v[(1 : Int), 0, 0, 0, 0, 0, 0, 0, 0, 0, 0, 0, 0, 0, 0, 0] : Vector Int 16), (2 : Int), (3 : Int), (4 : Int), (5 : Int), (Vector.replicate 16 (0 : Int)), ([] : List UInt8), ([] : (List Key))⟩ : Backup) (.slice none 0 0)) rfl rfl rfl (by rw [Backup.len]; decide) (Backup.s19_1 _ _) (.cons (vs := vI .u8 (#v[(6 : Int), 0, 0, 0, 0, 0, 0, 0, 0, 0, 0, 0, 0, 0, 0, 0] : Vector Int 16)) (B := Backup.C (⟨(#v[(1 : Int), 0, 0, 0, 0, 0, 0, 0, 0, 0, 0, 0, 0, 0, 0, 0] : Vector Int 16), (2 : Int), (3 : Int), (4 : Int), (5 : Int), (#v[(6 : Int), 0, 0, 0, 0, 0, 0, 0, 0, 0, 0, 0, 0, 0, 0, 0] : Vector Int 16), ([] : List UInt8), ([] : (List Key))⟩ : Backup) (.slice none 0 0)) rfl rfl (by simp) (by rw [Backup.len]; decide) (Backup.s20_16 _ _) (.cons (vs := [(str ([109] : List UInt8))]) (B := Backup.C (⟨(#v[(1 : Int), 0, 0, 0, 0, 0, 0, 0, 0, 0, 0, 0, 0, 0, 0, 0] : Vector Int 16), (2 : Int), (3 : Int), (4 : Int), (5 : Int), (#v[(6 : Int), 0, 0, 0, 0, 0, 0, 0, 0, 0, 0, 0, 0, 0, 0, 0] : Vector Int 16), ([109] : List UInt8), ([] : (List Key))⟩ : Backup) (.slice none 0 0)) rfl rfl rfl (by rw [Backup.len]; decide) (Backup.s36_1 _ _) (.cons (vs := [v11]) (B := Backup.C (⟨(#v[(1 : Int), 0, 0, 0, 0, 0, 0, 0, 0, 0, 0, 0, 0, 0, 0, 0] : Vector Int 16), (2 : Int), (3 : Int), (4 : Int), (5 : Int), (#v[(6 : Int), 0, 0, 0, 0, 0, 0, 0, 0, 0, 0, 0, 0, 0, 0, 0] : Vector Int 16), ([109] : List UInt8), ([(⟨(3 : Int), (1 : Int), t3, (8 : Int), (0 : Int), (9 : Int), (2 : Int), (0 : Int), true⟩ : Key)] : List Key)⟩ : Backup) v11) rfl (h14.cells1) rfl (by rw [Backup.len]; decide) (Backup.s37_1 _ _) .nil)))))))))) ?_
 refine w_allocL (A := Backup.C (⟨(Vector.replicate 16 (0 : Int)), (0 : Int), (0 : Int), (0 : Int), (0 : Int), (Vector.replicate 16 (0 : Int)), ([] : List UInt8), ([] : (List Key))⟩ : Backup) (.slice none 0 0)) tz36 trivial rfl rfl ?_
 intro b16
 obtain ⟨z17, e19, H⟩ := bnd H
 have e18 := some_r e19
 refine w_store (i := 1) (vs := Backup.C (⟨(#v[(1 : Int), 0, 0, 0, 0, 0, 0, 0, 0, 0, 0, 0, 0, 0, 0, 0] : Vector Int 16), (2 : Int), (3 : Int), (4 : Int), (5 : Int), (#v[(6 : Int), 0, 0, 0, 0, 0, 0, 0, 0, 0, 0, 0, 0, 0, 0, 0] : Vector Int 16), ([109] : List UInt8), ([(⟨(3 : Int), (1 : Int), t3, (8 : Int), (0 : Int), (9 : Int), (2 : Int), (0 : Int), true⟩ : Key)] : List Key)⟩ : Backup) v11) (A' := Backup.C z17 v11) trivial rfl rfl rfl rfl ts36 (Backup.len _ _) (Backup.C_one _ h14.one) (by rw [Backup.len]; decide) (by rw [← e18]; exact (splice_all _ _ (by simp [Backup.C]))) ?_
 have h20 : RS Key.F M12 v11 z17.Keys := by rw [← e18]; exact h14
 clear e19 e18
 refine w_nil (hK10 _ _ _ ?_)
 refine c_seq fun K21 hK21 => ?_
 obtain ⟨t24, e29, H⟩ := bnd H
 obtain ⟨t36, e41, H⟩ := bnd H
 refine c_drawP [([], []), ([], [2]), ([(0, 23), (1, 24)], []), ([(2, 25)], []), ([(3, 22)], []), ([(3, 22)], []), ([(4, 26)], []), ([(5, 27)], [])] [fun v M => v = (str t24), fun v M => v = (.agg (Backup.C z17 v11).toArray), fun v M => v = (.tuple #[(str t36.1), (.int .i64 t36.2)]), fun v M => v = (.tuple #[(str t36.1), (.int .i64 t36.2)]), fun v M => v = (str t36.1), fun v M => v = (.int .i64 t36.2), fun v M => v = (str t36.1), fun v M => v = (.int .i64 t36.2)] (by kernel_rfl) (by kernel_rfl) ?_ (AllT.cons ?_ (AllT.cons ?_ (AllT.cons ?_ (AllT.cons ?_ (AllT.cons ?_ (AllT.cons ?_ (AllT.cons ?_ (AllT.cons ?_ AllT.nil)))))))) ?_
 ·exact (mC (mC (mC (mC (mC (mC (mC (mC MonoA.nil))))))))
 ·intro a w' M22 l23 hd hs
  refine OP.ofW (l := []) hd.fr hs rfl ?_
  refine w_call cf44 trivial rfl rfl (fun w hs => law36_value.calls hs (100 : Int) _ e29) ?_
  rintro _ M26 l27 rfl
  exact w_nil fun a w' hf hs => ⟨rfl, hf.df, _, l27, hs, hf.get _ _ rfl⟩
 ·intro a w' M30 l31 hd hs
  exact pv (hd.fr.add (hd.base 2 _ rfl rfl)) hs rfl (fun a w hf hs => r_loadA ta36 ts36 (hf.ev rfl) (hs.blk (i := 1) rfl) (Backup.d0_38 _ _) (Backup.len _ _)) rfl
 ·intro a w' M32 l33 hd hs
  have e34 := hd.val 0 23 _ rfl rfl
  have e35 := hd.val 1 24 _ rfl rfl
  replace h20 := h20.mono l33
  replace hG := hG.mono l33
  refine OP.ofW (l := [(23, (str t24)), (24, (.agg (Backup.C z17 v11).toArray))]) ((hd.fr.add e35).add e34) hs rfl ?_
  refine w_call cf21 trivial rfl rfl (fun w hs => backup_Make.calls hs hG t24 z17 v11 h20 _ e41) ?_
  rintro _ M38 l39 rfl
  replace h20 := h20.mono l39
  exact w_nil fun a w' hf hs => ⟨rfl, hf.df, _, l39, hs, hf.get _ _ rfl⟩
 ·intro a w' M42 l43 hd hs
  have e44 := hd.val 2 25 _ rfl rfl
  exact pv (hd.fr.add e44) hs rfl (fun a w hf hs => r_move (hf.ev rfl)) rfl
 ·intro a w' M45 l46 hd hs
  have e47 := hd.val 3 22 _ rfl rfl
  exact pv (hd.fr.add e47) hs rfl (fun a w hf hs => r_extract (hf.ev rfl) rfl) rfl
 ·intro a w' M48 l49 hd hs
  have e50 := hd.val 3 22 _ rfl rfl
  exact pv (hd.fr.add e50) hs rfl (fun a w hf hs => r_extract (hf.ev rfl) rfl) rfl
 ·intro a w' M51 l52 hd hs
  have e53 := hd.val 4 26 _ rfl rfl
  exact pv (hd.fr.add e53) hs rfl (fun a w hf hs => r_assign (hf.ev rfl)) rfl
 ·intro a w' M54 l55 hd hs
  have e56 := hd.val 5 27 _ rfl rfl
  exact pv (hd.fr.add e56) hs rfl (fun a w hf hs => r_assign (hf.ev rfl)) rfl
 intro a w' M57 l58 hdf hsz hb hv hs
 replace hG := hG.mono l58
 replace h20 := h20.mono l58
 have e59 := hv 6 3 _ rfl rfl
 have e60 := hv 7 4 _ rfl rfl
 refine n_of (c := (Cx.mk Tryd.prog 126 none' M w)) (l := [(1, (ptr b9 0)), (2, (ptr b16 0)), (3, (str t36.1)), (4, (.int .i64 t36.2))]) ?_ (((((Fr.start hdf hsz).add e60).add e59).add (hb 2 _ rfl rfl)).add (hb 1 _ rfl rfl)) hs
 clear hdf hsz hb hv hs e59 e60
 refine n_id (hK21 _ _ _ ?_)
 refine c_sr fun _ hK61 => ?_
 obtain ⟨t62, e67, H⟩ := bnd H
 refine w_call cf44 trivial rfl rfl (fun w hs => law36_value.calls hs (100 : Int) _ e67) ?_
 rintro _ M64 l65 rfl
 replace hG := hG.mono l65
 replace h20 := h20.mono l65
 refine v_move rfl rfl ?_
 obtain ⟨t68, e73, H⟩ := bnd H
 refine w_call cf22 trivial rfl rfl (fun w hs => backup_Open.calls hs hG t62 t36.1 _ e73) ?_
 rintro v279 M70 l71 ⟨v74, hv_, h75⟩
 replace hv_ := hv_.symm
 subst hv_
 replace hG := hG.mono l71
 replace h20 := h20.mono l71
 refine v_move rfl rfl ?_
 refine v_extract rfl rfl rfl ?_
 refine v_extract rfl rfl rfl ?_
 refine w_allocL (A := Backup.C (⟨(Vector.replicate 16 (0 : Int)), (0 : Int), (0 : Int), (0 : Int), (0 : Int), (Vector.replicate 16 (0 : Int)), ([] : List UInt8), ([] : (List Key))⟩ : Backup) (.slice none 0 0)) tz36 trivial rfl rfl ?_
 intro b76
 refine w_L [.blk b9 (.cells (Key.C (⟨(3 : Int), (1 : Int), t3, (8 : Int), (0 : Int), (9 : Int), (2 : Int), (0 : Int), true⟩ : Key)).toArray 55 (0, 0)), .blk b16 (.cells (Backup.C z17 v11).toArray 36 (0, 0)), .blk b76 (.cells (Backup.C (⟨(Vector.replicate 16 (0 : Int)), (0 : Int), (0 : Int), (0 : Int), (0 : Int), (Vector.replicate 16 (0 : Int)), ([] : List UInt8), ([] : (List Key))⟩ : Backup) (.slice none 0 0)).toArray 36 (0, 0))] rfl ?_
 refine w_store (i := 2) (vs := Backup.C t68.1 v74) (A' := Backup.C t68.1 v74) trivial rfl rfl rfl rfl ts36 (Backup.len _ _) (Backup.C_one _ h75.one) (by rw [Backup.len]; decide) (splice_all _ _ (by simp [Backup.C])) ?_
 refine w_L [.blk b9 (.cells (Key.C (⟨(3 : Int), (1 : Int), t3, (8 : Int), (0 : Int), (9 : Int), (2 : Int), (0 : Int), true⟩ : Key)).toArray 55 (0, 0)), .blk b16 (.cells (Backup.C z17 v11).toArray 36 (0, 0)), .blk b76 (.cells (Backup.C t68.1 v74).toArray 36 (0, 0))] rfl ?_
 refine v_assign rfl rfl ?_
 refine w_nil (hK61 _ _ _ ?_)
 refine c_sr fun _ hK77 => ?_
 refine v_move rfl rfl ?_
 obtain ⟨t78, e83, H⟩ := bnd H
 refine w_call cf45 trivial rfl rfl (fun w hs => backup_Peek.calls hs t36.1 _ e83) ?_
 rintro v278 M80 l81 ⟨v84, hv_, h85⟩
 replace hv_ := hv_.symm
 subst hv_
 replace hG := hG.mono l81
 replace h20 := h20.mono l81
 replace h75 := h75.mono l81
 refine v_move rfl rfl ?_
 refine v_extract rfl rfl rfl ?_
 refine v_extract rfl rfl rfl ?_
 refine w_allocL (A := Backup.C (⟨(Vector.replicate 16 (0 : Int)), (0 : Int), (0 : Int), (0 : Int), (0 : Int), (Vector.replicate 16 (0 : Int)), ([] : List UInt8), ([] : (List Key))⟩ : Backup) (.slice none 0 0)) tz36 trivial rfl rfl ?_
 intro b86
 refine w_L [.blk b9 (.cells (Key.C (⟨(3 : Int), (1 : Int), t3, (8 : Int), (0 : Int), (9 : Int), (2 : Int), (0 : Int), true⟩ : Key)).toArray 55 (0, 0)), .blk b16 (.cells (Backup.C z17 v11).toArray 36 (0, 0)), .blk b76 (.cells (Backup.C t68.1 v74).toArray 36 (0, 0)), .blk b86 (.cells (Backup.C (⟨(Vector.replicate 16 (0 : Int)), (0 : Int), (0 : Int), (0 : Int), (0 : Int), (Vector.replicate 16 (0 : Int)), ([] : List UInt8), ([] : (List Key))⟩ : Backup) (.slice none 0 0)).toArray 36 (0, 0))] rfl ?_
 refine w_store (i := 3) (vs := Backup.C t78.1 v84) (A' := Backup.C t78.1 v84) trivial rfl rfl rfl rfl ts36 (Backup.len _ _) (Backup.C_one _ h85.one) (by rw [Backup.len]; decide) (splice_all _ _ (by simp [Backup.C])) ?_
 refine w_L [.blk b9 (.cells (Key.C (⟨(3 : Int), (1 : Int), t3, (8 : Int), (0 : Int), (9 : Int), (2 : Int), (0 : Int), true⟩ : Key)).toArray 55 (0, 0)), .blk b16 (.cells (Backup.C z17 v11).toArray 36 (0, 0)), .blk b76 (.cells (Backup.C t68.1 v74).toArray 36 (0, 0)), .blk b86 (.cells (Backup.C t78.1 v84).toArray 36 (0, 0))] rfl ?_
 refine v_assign rfl rfl ?_
 refine w_nil (hK77 _ _ _ ?_)
 refine c_sr fun _ hK87 => ?_
 obtain ⟨t88, e93, H⟩ := bnd H
 refine w_call cf44 trivial rfl rfl (fun w hs => law36_value.calls hs (120 : Int) _ e93) ?_
 rintro _ M90 l91 rfl
 replace hG := hG.mono l91
 replace h20 := h20.mono l91
 replace h75 := h75.mono l91
 replace h85 := h85.mono l91
 refine v_move rfl rfl ?_
 obtain ⟨t94, e99, H⟩ := bnd H
 refine w_call cf22 trivial rfl rfl (fun w hs => backup_Open.calls hs hG t88 t36.1 _ e99) ?_
 rintro v277 M96 l97 ⟨v100, hv_, h101⟩
 replace hv_ := hv_.symm
 subst hv_
 replace hG := hG.mono l97
 replace h20 := h20.mono l97
 replace h75 := h75.mono l97
 replace h85 := h85.mono l97
 refine v_move rfl rfl ?_
 refine v_extract rfl rfl rfl ?_
 refine v_extract rfl rfl rfl ?_
 refine w_allocL (A := Backup.C (⟨(Vector.replicate 16 (0 : Int)), (0 : Int), (0 : Int), (0 : Int), (0 : Int), (Vector.replicate 16 (0 : Int)), ([] : List UInt8), ([] : (List Key))⟩ : Backup) (.slice none 0 0)) tz36 trivial rfl rfl ?_
 intro b102
 refine w_L [.blk b9 (.cells (Key.C (⟨(3 : Int), (1 : Int), t3, (8 : Int), (0 : Int), (9 : Int), (2 : Int), (0 : Int), true⟩ : Key)).toArray 55 (0, 0)), .blk b16 (.cells (Backup.C z17 v11).toArray 36 (0, 0)), .blk b76 (.cells (Backup.C t68.1 v74).toArray 36 (0, 0)), .blk b86 (.cells (Backup.C t78.1 v84).toArray 36 (0, 0)), .blk b102 (.cells (Backup.C (⟨(Vector.replicate 16 (0 : Int)), (0 : Int), (0 : Int), (0 : Int), (0 : Int), (Vector.replicate 16 (0 : Int)), ([] : List UInt8), ([] : (List Key))⟩ : Backup) (.slice none 0 0)).toArray 36 (0, 0))] rfl ?_
 refine w_store (i := 4) (vs := Backup.C t94.1 v100) (A' := Backup.C t94.1 v100) trivial rfl rfl rfl rfl ts36 (Backup.len _ _) (Backup.C_one _ h101.one) (by rw [Backup.len]; decide) (splice_all _ _ (by simp [Backup.C])) ?_
 refine w_L [.blk b9 (.cells (Key.C (⟨(3 : Int), (1 : Int), t3, (8 : Int), (0 : Int), (9 : Int), (2 : Int), (0 : Int), true⟩ : Key)).toArray 55 (0, 0)), .blk b16 (.cells (Backup.C z17 v11).toArray 36 (0, 0)), .blk b76 (.cells (Backup.C t68.1 v74).toArray 36 (0, 0)), .blk b86 (.cells (Backup.C t78.1 v84).toArray 36 (0, 0)), .blk b102 (.cells (Backup.C t94.1 v100).toArray 36 (0, 0))] rfl ?_
 refine v_assign rfl rfl ?_
 refine w_nil (hK87 _ _ _ ?_)
 refine c_sr fun _ hK103 => ?_
 refine wv rfl (fun a w hf hs => r_loadA ta36 ts36 (hf.ev rfl) (hs.blk (i := 1) rfl) (Backup.d0_38 _ _) (Backup.len _ _)) ?_
 obtain ⟨t104, e109, H⟩ := bnd H
 refine w_call cf21 trivial rfl rfl (fun w hs => backup_Make.calls hs hG ([115, 104, 111, 114, 116] : List UInt8) z17 v11 h20 _ e109) ?_
 rintro _ M106 l107 rfl
 replace h20 := h20.mono l107
 replace h75 := h75.mono l107
 replace h85 := h85.mono l107
 refine v_move rfl rfl ?_
 refine v_extract rfl rfl rfl ?_
 refine v_extract rfl rfl rfl ?_
 refine v_assign rfl rfl ?_
 refine v_assign rfl rfl ?_
 refine w_nil (hK103 _ _ _ ?_)
 refine c_sr fun _ hK110 => ?_
 refine wv rfl (fun a w hf hs => r_loadA ta55 ts55 (hf.ev rfl) (hs.blk (i := 0) rfl) rfl rfl) ?_
 refine w_bsl (F := Key.F) (es := ([(⟨(3 : Int), (1 : Int), t3, (8 : Int), (0 : Int), (9 : Int), (2 : Int), (0 : Int), true⟩ : Key)] : List Key)) (xs := [.tmp 50]) (vs := [(.agg (Key.C (⟨(3 : Int), (1 : Int), t3, (8 : Int), (0 : Int), (9 : Int), (2 : Int), (0 : Int), true⟩ : Key)).toArray)]) Tryd.underlying34 te55 trivial rfl rfl rfl rfl rfl (by decide) ?_
 intro v111 M112 l113 h114 c115
 replace h20 := h20.mono l113
 replace h75 := h75.mono l113
 replace h85 := h85.mono l113
 refine wv rfl (fun a w hf hs => r_build (is := [0, 1]) (xs := [.const (.int .i64 9), .tmp 51]) (vs := [(.int .i64 9), v111]) (A := Table.C (⟨(9 : Int), ([(⟨(3 : Int), (1 : Int), t3, (8 : Int), (0 : Int), (9 : Int), (2 : Int), (0 : Int), true⟩ : Key)] : List Key)⟩ : Table) v111) rfl (hf.evs rfl) (built_of (pl := [(0, 1), (1, 1)]) (A0 := Table.C (⟨(0 : Int), ([] : (List Key))⟩ : Table) (.slice none 0 0)) tz44 Tryd.underlying44 (by kernel_rfl) rfl (.cons (vs := [(.int .i64 9)]) (B := Table.C (⟨(9 : Int), ([] : (List Key))⟩ : Table) (.slice none 0 0)) rfl rfl rfl (by rw [Table.len]; decide) rfl (.cons (vs := [v111]) (B := Table.C (⟨(9 : Int), ([(⟨(3 : Int), (1 : Int), t3, (8 : Int), (0 : Int), (9 : Int), (2 : Int), (0 : Int), true⟩ : Key)] : List Key)⟩ : Table) v111) rfl (h114.cells1) rfl (by rw [Table.len]; decide) rfl .nil)))) ?_
 refine w_allocL (A := Table.C (⟨(0 : Int), ([] : (List Key))⟩ : Table) (.slice none 0 0)) tz44 trivial rfl rfl ?_
 intro b116
 refine w_L [.blk b9 (.cells (Key.C (⟨(3 : Int), (1 : Int), t3, (8 : Int), (0 : Int), (9 : Int), (2 : Int), (0 : Int), true⟩ : Key)).toArray 55 (0, 0)), .blk b16 (.cells (Backup.C z17 v11).toArray 36 (0, 0)), .blk b76 (.cells (Backup.C t68.1 v74).toArray 36 (0, 0)), .blk b86 (.cells (Backup.C t78.1 v84).toArray 36 (0, 0)), .blk b102 (.cells (Backup.C t94.1 v100).toArray 36 (0, 0)), .blk b116 (.cells (Table.C (⟨(0 : Int), ([] : (List Key))⟩ : Table) (.slice none 0 0)).toArray 44 (0, 0))] rfl ?_
 refine w_store (i := 5) (vs := Table.C (⟨(9 : Int), ([(⟨(3 : Int), (1 : Int), t3, (8 : Int), (0 : Int), (9 : Int), (2 : Int), (0 : Int), true⟩ : Key)] : List Key)⟩ : Table) v111) (A' := Table.C (⟨(9 : Int), ([(⟨(3 : Int), (1 : Int), t3, (8 : Int), (0 : Int), (9 : Int), (2 : Int), (0 : Int), true⟩ : Key)] : List Key)⟩ : Table) v111) trivial rfl rfl rfl rfl ts44 rfl (Table.C_one _ h114.one) (Nat.le_of_ble_eq_true rfl) rfl ?_
 refine w_L [.blk b9 (.cells (Key.C (⟨(3 : Int), (1 : Int), t3, (8 : Int), (0 : Int), (9 : Int), (2 : Int), (0 : Int), true⟩ : Key)).toArray 55 (0, 0)), .blk b16 (.cells (Backup.C z17 v11).toArray 36 (0, 0)), .blk b76 (.cells (Backup.C t68.1 v74).toArray 36 (0, 0)), .blk b86 (.cells (Backup.C t78.1 v84).toArray 36 (0, 0)), .blk b102 (.cells (Backup.C t94.1 v100).toArray 36 (0, 0)), .blk b116 (.cells (Table.C (⟨(9 : Int), ([(⟨(3 : Int), (1 : Int), t3, (8 : Int), (0 : Int), (9 : Int), (2 : Int), (0 : Int), true⟩ : Key)] : List Key)⟩ : Table) v111).toArray 44 (0, 0))] rfl ?_
 refine w_nil (hK110 _ _ _ ?_)
 refine c_sr fun _ hK117 => ?_
 refine wv rfl (fun a w hf hs => r_loadA ta36 ts36 (hf.ev rfl) (hs.blk (i := 1) rfl) (Backup.d0_38 _ _) (Backup.len _ _)) ?_
 refine w_allocL (A := Backup.C (⟨(Vector.replicate 16 (0 : Int)), (0 : Int), (0 : Int), (0 : Int), (0 : Int), (Vector.replicate 16 (0 : Int)), ([] : List UInt8), ([] : (List Key))⟩ : Backup) (.slice none 0 0)) tz36 trivial rfl rfl ?_
 intro b118
 refine w_L [.blk b9 (.cells (Key.C (⟨(3 : Int), (1 : Int), t3, (8 : Int), (0 : Int), (9 : Int), (2 : Int), (0 : Int), true⟩ : Key)).toArray 55 (0, 0)), .blk b16 (.cells (Backup.C z17 v11).toArray 36 (0, 0)), .blk b76 (.cells (Backup.C t68.1 v74).toArray 36 (0, 0)), .blk b86 (.cells (Backup.C t78.1 v84).toArray 36 (0, 0)), .blk b102 (.cells (Backup.C t94.1 v100).toArray 36 (0, 0)), .blk b116 (.cells (Table.C (⟨(9 : Int), ([(⟨(3 : Int), (1 : Int), t3, (8 : Int), (0 : Int), (9 : Int), (2 : Int), (0 : Int), true⟩ : Key)] : List Key)⟩ : Table) v111).toArray 44 (0, 0)), .blk b118 (.cells (Backup.C (⟨(Vector.replicate 16 (0 : Int)), (0 : Int), (0 : Int), (0 : Int), (0 : Int), (Vector.replicate 16 (0 : Int)), ([] : List UInt8), ([] : (List Key))⟩ : Backup) (.slice none 0 0)).toArray 36 (0, 0))] rfl ?_
 refine w_store (i := 6) (vs := Backup.C z17 v11) (A' := Backup.C z17 v11) trivial rfl rfl rfl rfl ts36 (Backup.len _ _) (Backup.C_one _ h20.one) (by rw [Backup.len]; decide) (splice_all _ _ (by simp [Backup.C])) ?_
 refine w_L [.blk b9 (.cells (Key.C (⟨(3 : Int), (1 : Int), t3, (8 : Int), (0 : Int), (9 : Int), (2 : Int), (0 : Int), true⟩ : Key)).toArray 55 (0, 0)), .blk b16 (.cells (Backup.C z17 v11).toArray 36 (0, 0)), .blk b76 (.cells (Backup.C t68.1 v74).toArray 36 (0, 0)), .blk b86 (.cells (Backup.C t78.1 v84).toArray 36 (0, 0)), .blk b102 (.cells (Backup.C t94.1 v100).toArray 36 (0, 0)), .blk b116 (.cells (Table.C (⟨(9 : Int), ([(⟨(3 : Int), (1 : Int), t3, (8 : Int), (0 : Int), (9 : Int), (2 : Int), (0 : Int), true⟩ : Key)] : List Key)⟩ : Table) v111).toArray 44 (0, 0)), .blk b118 (.cells (Backup.C z17 v11).toArray 36 (0, 0))] rfl ?_
 refine w_nil (hK117 _ _ _ ?_)
 refine c_sr fun _ hK119 => ?_
 refine v_fa fa36_7 rfl rfl ?_
 refine w_store (i := 6) (vs := [(.slice none 0 0)]) (A' := Backup.C ({ z17 with Keys := ([] : (List Key)) } : Backup) (.slice none 0 0)) trivial rfl rfl rfl rfl ts34 rfl (one1 rfl) (by rw [Backup.len]; decide) (Backup.s37_1 _ _) ?_
 refine w_L [.blk b9 (.cells (Key.C (⟨(3 : Int), (1 : Int), t3, (8 : Int), (0 : Int), (9 : Int), (2 : Int), (0 : Int), true⟩ : Key)).toArray 55 (0, 0)), .blk b16 (.cells (Backup.C z17 v11).toArray 36 (0, 0)), .blk b76 (.cells (Backup.C t68.1 v74).toArray 36 (0, 0)), .blk b86 (.cells (Backup.C t78.1 v84).toArray 36 (0, 0)), .blk b102 (.cells (Backup.C t94.1 v100).toArray 36 (0, 0)), .blk b116 (.cells (Table.C (⟨(9 : Int), ([(⟨(3 : Int), (1 : Int), t3, (8 : Int), (0 : Int), (9 : Int), (2 : Int), (0 : Int), true⟩ : Key)] : List Key)⟩ : Table) v111).toArray 44 (0, 0)), .blk b118 (.cells (Backup.C ({ z17 with Keys := ([] : (List Key)) } : Backup) (.slice none 0 0)).toArray 36 (0, 0))] rfl ?_
 refine w_nil (hK119 _ _ _ ?_)
 obtain ⟨t120, H1, H⟩ := bnd H
 have ht_ := (some_r H).trans hr_
 refine c_cut (fun a' w' => ∃ (M121 : Heap), HLe M112 M121 ∧ Fr 126 [(0, (.bool t120))] a' ∧ St none' M w M121 (lt [.blk b9 (.cells (Key.C (⟨(3 : Int), (1 : Int), t3, (8 : Int), (0 : Int), (9 : Int), (2 : Int), (0 : Int), true⟩ : Key)).toArray 55 (0, 0)), .blk b16 (.cells (Backup.C z17 v11).toArray 36 (0, 0)), .blk b76 (.cells (Backup.C t68.1 v74).toArray 36 (0, 0)), .blk b86 (.cells (Backup.C t78.1 v84).toArray 36 (0, 0)), .blk b102 (.cells (Backup.C t94.1 v100).toArray 36 (0, 0)), .blk b116 (.cells (Table.C (⟨(9 : Int), ([(⟨(3 : Int), (1 : Int), t3, (8 : Int), (0 : Int), (9 : Int), (2 : Int), (0 : Int), true⟩ : Key)] : List Key)⟩ : Table) v111).toArray 44 (0, 0)), .blk b118 (.cells (Backup.C ({ z17 with Keys := ([] : (List Key)) } : Backup) (.slice none 0 0)).toArray 36 (0, 0))]) w') ?_ ?_
 ·replace H := H1
  clear H1
  refine c_reg ?_
  refine v_move rfl rfl ?_
  refine wv rfl (fun a w hf hs => r_eql (hf.ev rfl) (hf.ev rfl)) ?_
  refine v_move rfl rfl ?_
  by_cases b200 : (t36.2 == (0 : Int)) = true
  ·replace H := if_t b200 H
   refine w_val (Wnt.of rfl rfl b200) rfl (fun a w hf hs => r_move (hf.ev rfl)) ?_
   refine w_val (Wnt.of rfl rfl b200) rfl (fun a w hf hs => r_eql (hf.ev rfl) (hf.ev rfl)) ?_
   refine wv rfl (fun a w hf hs => r_pickT (hf.ev rfl) b200 (hf.ev rfl)) ?_
   refine v_move rfl rfl ?_
   by_cases b201 : (t68.2 == (0 : Int)) = true
   ·replace H := if_t b201 H
    refine w_val (Wnt.of rfl rfl b201) rfl (fun a w hf hs => r_loadA ta36 ts36 (hf.ev rfl) (hs.blk (i := 1) rfl) (Backup.d0_38 _ _) (Backup.len _ _)) ?_
    refine w_val (Wnt.of rfl rfl b201) rfl (fun a w hf hs => r_loadA ta36 ts36 (hf.ev rfl) (hs.blk (i := 2) rfl) (Backup.d0_38 _ _) (Backup.len _ _)) ?_
    obtain ⟨t202, e207, H⟩ := bnd H
    refine w_call cf23 (Wnt.of rfl rfl b201) rfl rfl (fun w hs => ref36_Same.calls hs z17 v11 h20 t68.1 v74 h75 _ e207) ?_
    rintro _ M204 l205 rfl
    replace h20 := h20.mono l205
    replace h75 := h75.mono l205
    replace h85 := h85.mono l205
    replace h114 := h114.mono l205
    refine wv rfl (fun a w hf hs => r_pickT (hf.ev rfl) b201 (hf.ev rfl)) ?_
    refine v_move rfl rfl ?_
    by_cases b208 : t202 = true
    ·replace H := if_t b208 H
     refine w_val (Wnt.of rfl rfl b208) rfl (fun a w hf hs => r_move (hf.ev rfl)) ?_
     refine w_val (Wnt.of rfl rfl b208) rfl (fun a w hf hs => r_eql (hf.ev rfl) (hf.ev rfl)) ?_
     refine wv rfl (fun a w hf hs => r_pickT (hf.ev rfl) b208 (hf.ev rfl)) ?_
     refine v_move rfl rfl ?_
     by_cases b209 : (t78.2 == (0 : Int)) = true
     ·replace H := if_t b209 H
      refine w_val (Wnt.of rfl rfl b209) rfl (fun a w hf hs => r_loadA ta36 ts36 (hf.ev rfl) (hs.blk (i := 3) rfl) (Backup.d0_38 _ _) (Backup.len _ _)) ?_
      refine w_val (Wnt.of rfl rfl b209) rfl (fun a w hf hs => r_loadA ta36 ts36 (hf.ev rfl) (hs.blk (i := 6) rfl) (Backup.d0_38 _ _) (Backup.len _ _)) ?_
      obtain ⟨t210, e215, H⟩ := bnd H
      refine w_call cf23 (Wnt.of rfl rfl b209) rfl rfl (fun w hs => ref36_Same.calls hs t78.1 v84 h85 ({ z17 with Keys := ([] : (List Key)) } : Backup) (.slice none 0 0) RS.none _ e215) ?_
      rintro _ M212 l213 rfl
      replace h20 := h20.mono l213
      replace h75 := h75.mono l213
      replace h114 := h114.mono l213
      refine wv rfl (fun a w hf hs => r_pickT (hf.ev rfl) b209 (hf.ev rfl)) ?_
      refine v_move rfl rfl ?_
      by_cases b216 : t210 = true
      ·replace H := if_t b216 H
       refine w_val (Wnt.of rfl rfl b216) rfl (fun a w hf hs => r_move (hf.ev rfl)) ?_
       refine w_val (Wnt.of rfl rfl b216) rfl (fun a w hf hs => r_eql (hf.ev rfl) (hf.ev rfl)) ?_
       refine wv rfl (fun a w hf hs => r_pickT (hf.ev rfl) b216 (hf.ev rfl)) ?_
       refine v_move rfl rfl ?_
       by_cases b217 : (t94.2 == (8 : Int)) = true
       ·replace H := if_t b217 H
        refine w_val (Wnt.of rfl rfl b217) rfl (fun a w hf hs => r_move (hf.ev rfl)) ?_
        refine w_val (Wnt.of rfl rfl b217) rfl (fun a w hf hs => r_eql (hf.ev rfl) (hf.ev rfl)) ?_
        refine wv rfl (fun a w hf hs => r_pickT (hf.ev rfl) b217 (hf.ev rfl)) ?_
        refine v_move rfl rfl ?_
        by_cases b218 : (t104.2 == (1 : Int)) = true
        ·replace H := if_t b218 H
         refine w_val (Wnt.of rfl rfl b218) rfl (fun a w hf hs => r_loadA ta36 ts36 (hf.ev rfl) (hs.blk (i := 1) rfl) (Backup.d0_38 _ _) (Backup.len _ _)) ?_
         obtain ⟨t219, e224, H⟩ := bnd H
         refine w_call cf46 (Wnt.of rfl rfl b218) rfl rfl (fun w hs => backup_Valid.calls hs z17 v11 h20 _ e224) ?_
         rintro _ M221 l222 rfl
         replace h20 := h20.mono l222
         replace h75 := h75.mono l222
         replace h114 := h114.mono l222
         refine wv rfl (fun a w hf hs => r_pickT (hf.ev rfl) b218 (hf.ev rfl)) ?_
         refine v_move rfl rfl ?_
         by_cases b225 : t219 = true
         ·replace H := if_t b225 H
          refine w_val (Wnt.of rfl rfl b225) rfl (fun a w hf hs => r_loadA ta36 ts36 (hf.ev rfl) (hs.blk (i := 1) rfl) (Backup.d0_38 _ _) (Backup.len _ _)) ?_
          refine w_val (Wnt.of rfl rfl b225) rfl (fun a w hf hs => r_loadA ta36 ts36 (hf.ev rfl) (hs.blk (i := 2) rfl) (Backup.d0_38 _ _) (Backup.len _ _)) ?_
          obtain ⟨t226, e231, H⟩ := bnd H
          refine w_call cf47 (Wnt.of rfl rfl b225) rfl rfl (fun w hs => backup_Same.calls hs z17 v11 h20 t68.1 v74 h75 _ e231) ?_
          rintro _ M228 l229 rfl
          replace h20 := h20.mono l229
          replace h114 := h114.mono l229
          refine wv rfl (fun a w hf hs => r_pickT (hf.ev rfl) b225 (hf.ev rfl)) ?_
          refine v_move rfl rfl ?_
          by_cases b232 : t226 = true
          ·replace H := if_t b232 H
           refine w_val (Wnt.of rfl rfl b232) rfl (fun a w hf hs => r_loadA ta36 ts36 (hf.ev rfl) (hs.blk (i := 1) rfl) (Backup.d0_38 _ _) (Backup.len _ _)) ?_
           refine w_val (Wnt.of rfl rfl b232) rfl (fun a w hf hs => r_loadA ta36 ts36 (hf.ev rfl) (hs.blk (i := 6) rfl) (Backup.d0_38 _ _) (Backup.len _ _)) ?_
           obtain ⟨t233, e238, H⟩ := bnd H
           refine w_call cf47 (Wnt.of rfl rfl b232) rfl rfl (fun w hs => backup_Same.calls hs z17 v11 h20 ({ z17 with Keys := ([] : (List Key)) } : Backup) (.slice none 0 0) RS.none _ e238) ?_
           rintro _ M235 l236 rfl
           replace h20 := h20.mono l236
           replace h114 := h114.mono l236
           refine w_val (Wnt.of rfl rfl b232) rfl (fun a w hf hs => r_not (hf.ev rfl)) ?_
           refine wv rfl (fun a w hf hs => r_pickT (hf.ev rfl) b232 (hf.ev rfl)) ?_
           refine v_move rfl rfl ?_
           by_cases b239 : (!t233) = true
           ·replace H := if_t b239 H
            refine w_val (Wnt.of rfl rfl b239) rfl (fun a w hf hs => r_loadA ta36 ts36 (hf.ev rfl) (hs.blk (i := 1) rfl) (Backup.d0_38 _ _) (Backup.len _ _)) ?_
            refine w_val (Wnt.of rfl rfl b239) rfl (fun a w hf hs => r_loadA ta44 ts44 (hf.ev rfl) (hs.blk (i := 5) rfl) rfl rfl) ?_
            obtain ⟨t240, e245, H⟩ := bnd H
            refine w_call cf26 (Wnt.of rfl rfl b239) rfl rfl (fun w hs => backup_Complete.calls hs z17 v11 h20 (⟨(9 : Int), ([(⟨(3 : Int), (1 : Int), t3, (8 : Int), (0 : Int), (9 : Int), (2 : Int), (0 : Int), true⟩ : Key)] : List Key)⟩ : Table) v111 h114 (5 : Int) _ e245) ?_
            rintro _ M242 l243 rfl
            replace h20 := h20.mono l243
            replace h114 := h114.mono l243
            refine wv rfl (fun a w hf hs => r_pickT (hf.ev rfl) b239 (hf.ev rfl)) ?_
            refine v_move rfl rfl ?_
            by_cases b246 : t240 = true
            ·replace H := if_t b246 H
             refine w_val (Wnt.of rfl rfl b246) rfl (fun a w hf hs => r_loadA ta36 ts36 (hf.ev rfl) (hs.blk (i := 6) rfl) (Backup.d0_38 _ _) (Backup.len _ _)) ?_
             refine w_val (Wnt.of rfl rfl b246) rfl (fun a w hf hs => r_loadA ta44 ts44 (hf.ev rfl) (hs.blk (i := 5) rfl) rfl rfl) ?_
             obtain ⟨t247, e252, H⟩ := bnd H
             refine w_call cf26 (Wnt.of rfl rfl b246) rfl rfl (fun w hs => backup_Complete.calls hs ({ z17 with Keys := ([] : (List Key)) } : Backup) (.slice none 0 0) RS.none (⟨(9 : Int), ([(⟨(3 : Int), (1 : Int), t3, (8 : Int), (0 : Int), (9 : Int), (2 : Int), (0 : Int), true⟩ : Key)] : List Key)⟩ : Table) v111 h114 (5 : Int) _ e252) ?_
             rintro _ M249 l250 rfl
             replace h20 := h20.mono l250
             replace h114 := h114.mono l250
             refine w_val (Wnt.of rfl rfl b246) rfl (fun a w hf hs => r_not (hf.ev rfl)) ?_
             refine wv rfl (fun a w hf hs => r_pickT (hf.ev rfl) b246 (hf.ev rfl)) ?_
             refine v_move rfl rfl ?_
             by_cases b253 : (!t247) = true
             ·replace H := if_t b253 H
              refine w_val (Wnt.of rfl rfl b253) rfl (fun a w hf hs => r_loadA ta36 ts36 (hf.ev rfl) (hs.blk (i := 6) rfl) (Backup.d0_38 _ _) (Backup.len _ _)) ?_
              refine w_val (Wnt.of rfl rfl b253) rfl (fun a w hf hs => r_loadA ta44 ts44 (hf.ev rfl) (hs.blk (i := 5) rfl) rfl rfl) ?_
              obtain ⟨t254, e259, H⟩ := bnd H
              refine w_call cf26 (Wnt.of rfl rfl b253) rfl rfl (fun w hs => backup_Complete.calls hs ({ z17 with Keys := ([] : (List Key)) } : Backup) (.slice none 0 0) RS.none (⟨(9 : Int), ([(⟨(3 : Int), (1 : Int), t3, (8 : Int), (0 : Int), (9 : Int), (2 : Int), (0 : Int), true⟩ : Key)] : List Key)⟩ : Table) v111 h114 (9 : Int) _ e259) ?_
              rintro _ M256 l257 rfl
              replace h20 := h20.mono l257
              replace h114 := h114.mono l257
              refine wv rfl (fun a w hf hs => r_pickT (hf.ev rfl) b253 (hf.ev rfl)) ?_
              refine v_move rfl rfl ?_
              by_cases b260 : t254 = true
              ·replace H := if_t b260 H
               refine w_val (Wnt.of rfl rfl b260) rfl (fun a w hf hs => r_loadA ta44 ts44 (hf.ev rfl) (hs.blk (i := 5) rfl) rfl rfl) ?_
               obtain ⟨t261, e266, H⟩ := bnd H
               refine w_call cf25 (Wnt.of rfl rfl b260) rfl rfl (fun w hs => backup_Select.calls hs (⟨(9 : Int), ([(⟨(3 : Int), (1 : Int), t3, (8 : Int), (0 : Int), (9 : Int), (2 : Int), (0 : Int), true⟩ : Key)] : List Key)⟩ : Table) v111 h114 (5 : Int) _ e266) ?_
               rintro v276 M263 l264 ⟨v267, hv_, h268⟩
               replace hv_ := hv_.symm
               subst hv_
               replace h20 := h20.mono l264
               refine w_val (Wnt.of rfl rfl b260) rfl (fun a w hf hs => r_lenR Tryd.underlying34 h268 (hf.ev rfl)) ?_
               refine w_val (Wnt.of rfl rfl b260) rfl (fun a w hf hs => r_eql (hf.ev rfl) (hf.ev rfl)) ?_
               refine wv rfl (fun a w hf hs => r_pickT (hf.ev rfl) b260 (hf.ev rfl)) ?_
               refine v_move rfl rfl ?_
               by_cases b269 : ((t261.length : Int) == (1 : Int)) = true
               ·replace H := if_t b269 H
                refine w_val (Wnt.of rfl rfl b269) rfl (fun a w hf hs => r_loadA ta36 ts36 (hf.ev rfl) (hs.blk (i := 1) rfl) (Backup.d0_38 _ _) (Backup.len _ _)) ?_
                obtain ⟨t270, e275, H⟩ := bnd H
                refine w_call cf48 (Wnt.of rfl rfl b269) rfl rfl (fun w hs => backup_Header.calls hs z17 v11 h20 _ e275) ?_
                rintro _ M272 l273 rfl
                refine w_val (Wnt.of rfl rfl b269) rfl (fun a w hf hs => r_slen Tryd.underlying9 (hf.ev rfl)) ?_
                refine w_val (Wnt.of rfl rfl b269) rfl (fun a w hf hs => r_gtr (hf.ev rfl) (hf.ev rfl)) ?_
                refine wv rfl (fun a w hf hs => r_pickT (hf.ev rfl) b269 (hf.ev rfl)) ?_
                refine v_assign rfl rfl ?_
                obtain rfl := some_r H
                exact w_nil fun a w' hf hs => ⟨_, (l205.trans (l213.trans (l222.trans (l229.trans (l236.trans (l243.trans (l250.trans (l257.trans (l264.trans l273))))))))), (hf.nil.add (hf.get _ _ rfl)), hs.sel [0, 1, 2, 3, 4, 5, 6] (by decide) rfl⟩
               ·replace b269 := Bool.eq_false_iff.2 b269
                replace H := if_f b269 H
                exact absurd ((some_r H).trans ht_) (by decide)
              ·replace b260 := Bool.eq_false_iff.2 b260
               replace H := if_f b260 H
               exact absurd ((some_r H).trans ht_) (by decide)
             ·replace b253 := Bool.eq_false_iff.2 b253
              replace H := if_f b253 H
              exact absurd ((some_r H).trans ht_) (by decide)
            ·replace b246 := Bool.eq_false_iff.2 b246
             replace H := if_f b246 H
             exact absurd ((some_r H).trans ht_) (by decide)
           ·replace b239 := Bool.eq_false_iff.2 b239
            replace H := if_f b239 H
            exact absurd ((some_r H).trans ht_) (by decide)
          ·replace b232 := Bool.eq_false_iff.2 b232
           replace H := if_f b232 H
           exact absurd ((some_r H).trans ht_) (by decide)
         ·replace b225 := Bool.eq_false_iff.2 b225
          replace H := if_f b225 H
          exact absurd ((some_r H).trans ht_) (by decide)
        ·replace b218 := Bool.eq_false_iff.2 b218
         replace H := if_f b218 H
         exact absurd ((some_r H).trans ht_) (by decide)
       ·replace b217 := Bool.eq_false_iff.2 b217
        replace H := if_f b217 H
        exact absurd ((some_r H).trans ht_) (by decide)
      ·replace b216 := Bool.eq_false_iff.2 b216
       replace H := if_f b216 H
       exact absurd ((some_r H).trans ht_) (by decide)
     ·replace b209 := Bool.eq_false_iff.2 b209
      replace H := if_f b209 H
      exact absurd ((some_r H).trans ht_) (by decide)
    ·replace b208 := Bool.eq_false_iff.2 b208
     replace H := if_f b208 H
     exact absurd ((some_r H).trans ht_) (by decide)
   ·replace b201 := Bool.eq_false_iff.2 b201
    replace H := if_f b201 H
    exact absurd ((some_r H).trans ht_) (by decide)
  ·replace b200 := Bool.eq_false_iff.2 b200
   replace H := if_f b200 H
   exact absurd ((some_r H).trans ht_) (by decide)
 ·clear H1 ht_
  rintro a w' ⟨M121, l122, hf, hs⟩
  refine c_of (c := (Cx.mk Tryd.prog 126 none' M w)) ?_ hf hs
  clear hf hs
  obtain rfl := some_r H
  exact c_ret fun a w' hf hs => hret _ (.inl rfl) a w' hf.df ⟨_, _, Res.of1 rfl (RV.t hf rfl), hs.ext, rfl⟩
theorem ref27_within.calls {M : Heap} {w : World} (hM : Sub M w) (p0 : Int) (p1 : Int) (p2 : Int) (r : Bool) (H : ref27_within p0 p1 p2 = some r) :
  Calls Tryd.prog 56 [(.int .i64 p0), (.int .i64 p1), (.int .i64 p2)].toArray w (Post M w fun M' v => v = (.bool r)) := by
 refine enter 15 [(0, (.int .i64 p0)), (1, (.int .i64 p1)), (2, (.int .i64 p2))] Tryd.func56 rfl rfl rfl hM ?_
 intro Q hret
 unfold ref27_within at H
 refine c_sr fun _ hK1 => ?_
 refine v_assign rfl rfl ?_
 refine w_nil (hK1 _ _ _ ?_)
 obtain ⟨t2, H1, H⟩ := bnd H
 refine c_cut (fun a' w' => ∃ (M3 : Heap), HLe M M3 ∧ Fr 15 [(6, (.bool t2))] a' ∧ St none' M w M3 (lt []) w') ?_ ?_
 ·replace H := H1
  clear H1
  refine c_reg ?_
  refine v_move rfl rfl ?_
  refine v_move rfl rfl ?_
  refine wv rfl (fun a w hf hs => r_geq (hf.ev rfl) (hf.ev rfl)) ?_
  refine v_move rfl rfl ?_
  by_cases b5 : (decide (p1 ≤ p0)) = true
  ·replace H := if_t b5 H
   refine w_val (Wnt.of rfl rfl b5) rfl (fun a w hf hs => r_move (hf.ev rfl)) ?_
   refine w_val (Wnt.of rfl rfl b5) rfl (fun a w hf hs => r_move (hf.ev rfl)) ?_
   refine w_val (Wnt.of rfl rfl b5) rfl (fun a w hf hs => r_leq (hf.ev rfl) (hf.ev rfl)) ?_
   refine wv rfl (fun a w hf hs => r_pickT (hf.ev rfl) b5 (hf.ev rfl)) ?_
   refine v_assign rfl rfl ?_
   obtain rfl := some_r H
   exact w_nil fun a w' hf hs => ⟨_, (HLe.refl _), (hf.nil.add (hf.get _ _ rfl)), hs.sel [] (by decide) rfl⟩
  ·replace b5 := Bool.eq_false_iff.2 b5
   replace H := if_f b5 H
   refine w_not (Nwt.of rfl rfl b5) rfl ?_
   refine w_not (Nwt.of rfl rfl b5) rfl ?_
   refine w_not (Nwt.of rfl rfl b5) rfl ?_
   refine wv rfl (fun a w hf hs => r_pickF (hf.ev rfl) b5 (hf.ev rfl)) ?_
   refine v_assign rfl rfl ?_
   obtain rfl := some_r H
   exact w_nil fun a w' hf hs => ⟨_, (HLe.refl _), (hf.nil.add (hf.get _ _ rfl)), hs.sel [] (by decide) rfl⟩
 ·clear H1
  rintro a w' ⟨M3, l4, hf, hs⟩
  refine c_of (c := (Cx.mk Tryd.prog 15 none' M w)) ?_ hf hs
  clear hf hs
  obtain rfl := some_r H
  exact c_ret fun a w' hf hs => hret _ (.inl rfl) a w' hf.df ⟨_, _, Res.of1 rfl (RV.t hf rfl), hs.ext, rfl⟩
theorem ref27_Valid.calls {M : Heap} {w : World} (hM : Sub M w) (p0 : Key) (r : Bool) (H : ref27_Valid p0 = some r) :
  Calls Tryd.prog 57 [(.agg (Key.C p0).toArray)].toArray w (Post M w fun M' v => v = (.bool r)) := by
 refine enter 42 [(0, (.agg (Key.C p0).toArray))] Tryd.func57 rfl rfl rfl hM ?_
 intro Q hret
 unfold ref27_Valid at H
 refine c_sr fun _ hK1 => ?_
 refine w_boxM trivial rfl rfl rfl ?_
 intro b2 M3 l4 h5
 refine v_assign rfl rfl ?_
 refine w_nil (hK1 _ _ _ ?_)
 obtain ⟨t6, H1, H⟩ := bnd H
 refine c_cut (fun a' w' => ∃ (M7 : Heap), HLe M3 M7 ∧ Fr 42 [(2, (.bool t6))] a' ∧ St none' M w M7 (lt []) w') ?_ ?_
 ·replace H := H1
  clear H1
  refine c_reg ?_
  refine v_fa fa55_1 rfl rfl ?_
  refine wv rfl (fun a w hf hs => r_load1 ta3 (hf.ev rfl) (hs.sub _ _ h5) rfl) ?_
  obtain ⟨t9, e14, H⟩ := bnd H
  refine w_call cf56 trivial rfl rfl (fun w hs => ref27_within.calls hs p0.Type_ (0 : Int) (31 : Int) _ e14) ?_
  rintro _ M11 l12 rfl
  replace h5 := l12 _ _ h5
  refine v_move rfl rfl ?_
  by_cases b15 : t9 = true
  ·replace H := if_t b15 H
   refine w_val (Wnt.of rfl rfl b15) rfl (fun a w hf hs => r_fa fa55_2 (hf.ev rfl)) ?_
   refine w_val (Wnt.of rfl rfl b15) rfl (fun a w hf hs => r_load1 ta9 (hf.ev rfl) (hs.sub _ _ h5) rfl) ?_
   refine w_val (Wnt.of rfl rfl b15) rfl (fun a w hf hs => r_slen Tryd.underlying9 (hf.ev rfl)) ?_
   refine w_val (Wnt.of rfl rfl b15) rfl (fun a w hf hs => r_eql (hf.ev rfl) (hf.ev rfl)) ?_
   refine wv rfl (fun a w hf hs => r_pickT (hf.ev rfl) b15 (hf.ev rfl)) ?_
   refine v_move rfl rfl ?_
   by_cases b16 : ((p0.Value.length : Int) == (32 : Int)) = true
   ·replace H := if_t b16 H
    refine w_val (Wnt.of rfl rfl b16) rfl (fun a w hf hs => r_fa fa55_3 (hf.ev rfl)) ?_
    refine w_val (Wnt.of rfl rfl b16) rfl (fun a w hf hs => r_load1 ta3 (hf.ev rfl) (hs.sub _ _ h5) rfl) ?_
    refine w_val (Wnt.of rfl rfl b16) rfl (fun a w hf hs => r_and (hf.ev rfl) (hf.ev rfl)) ?_
    refine w_val (Wnt.of rfl rfl b16) rfl (fun a w hf hs => r_fa fa55_3 (hf.ev rfl)) ?_
    refine w_val (Wnt.of rfl rfl b16) rfl (fun a w hf hs => r_load1 ta3 (hf.ev rfl) (hs.sub _ _ h5) rfl) ?_
    refine w_val (Wnt.of rfl rfl b16) rfl (fun a w hf hs => r_eql (hf.ev rfl) (hf.ev rfl)) ?_
    refine wv rfl (fun a w hf hs => r_pickT (hf.ev rfl) b16 (hf.ev rfl)) ?_
    refine v_move rfl rfl ?_
    by_cases b17 : ((bits .and .i64 p0.Uses (956 : Int)) == p0.Uses) = true
    ·replace H := if_t b17 H
     refine w_val (Wnt.of rfl rfl b17) rfl (fun a w hf hs => r_fa fa55_4 (hf.ev rfl)) ?_
     refine w_val (Wnt.of rfl rfl b17) rfl (fun a w hf hs => r_load1 ta3 (hf.ev rfl) (hs.sub _ _ h5) rfl) ?_
     obtain ⟨t18, e23, H⟩ := bnd H
     refine w_call cf56 (Wnt.of rfl rfl b17) rfl rfl (fun w hs => ref27_within.calls hs p0.Start (0 : Int) (1099511627776 : Int) _ e23) ?_
     rintro _ M20 l21 rfl
     replace h5 := l21 _ _ h5
     refine wv rfl (fun a w hf hs => r_pickT (hf.ev rfl) b17 (hf.ev rfl)) ?_
     refine v_move rfl rfl ?_
     by_cases b24 : t18 = true
     ·replace H := if_t b24 H
      refine w_val (Wnt.of rfl rfl b24) rfl (fun a w hf hs => r_fa fa55_5 (hf.ev rfl)) ?_
      refine w_val (Wnt.of rfl rfl b24) rfl (fun a w hf hs => r_load1 ta3 (hf.ev rfl) (hs.sub _ _ h5) rfl) ?_
      refine w_val (Wnt.of rfl rfl b24) rfl (fun a w hf hs => r_fa fa55_4 (hf.ev rfl)) ?_
      refine w_val (Wnt.of rfl rfl b24) rfl (fun a w hf hs => r_load1 ta3 (hf.ev rfl) (hs.sub _ _ h5) rfl) ?_
      obtain ⟨t25, e30, H⟩ := bnd H
      refine w_call cf56 (Wnt.of rfl rfl b24) rfl rfl (fun w hs => ref27_within.calls hs p0.End p0.Start (1099511627776 : Int) _ e30) ?_
      rintro _ M27 l28 rfl
      replace h5 := l28 _ _ h5
      refine wv rfl (fun a w hf hs => r_pickT (hf.ev rfl) b24 (hf.ev rfl)) ?_
      refine v_move rfl rfl ?_
      by_cases b31 : t25 = true
      ·replace H := if_t b31 H
       refine w_val (Wnt.of rfl rfl b31) rfl (fun a w hf hs => r_fa fa55_6 (hf.ev rfl)) ?_
       refine w_val (Wnt.of rfl rfl b31) rfl (fun a w hf hs => r_load1 ta3 (hf.ev rfl) (hs.sub _ _ h5) rfl) ?_
       obtain ⟨t32, e37, H⟩ := bnd H
       refine w_call cf56 (Wnt.of rfl rfl b31) rfl rfl (fun w hs => ref27_within.calls hs p0.Version (1 : Int) (2147483647 : Int) _ e37) ?_
       rintro _ M34 l35 rfl
       replace h5 := l35 _ _ h5
       refine wv rfl (fun a w hf hs => r_pickT (hf.ev rfl) b31 (hf.ev rfl)) ?_
       refine v_move rfl rfl ?_
       by_cases b38 : t32 = true
       ·replace H := if_t b38 H
        refine w_val (Wnt.of rfl rfl b38) rfl (fun a w hf hs => r_fa fa55_7 (hf.ev rfl)) ?_
        refine w_val (Wnt.of rfl rfl b38) rfl (fun a w hf hs => r_load1 ta3 (hf.ev rfl) (hs.sub _ _ h5) rfl) ?_
        obtain ⟨t39, e44, H⟩ := bnd H
        refine w_call cf56 (Wnt.of rfl rfl b38) rfl rfl (fun w hs => ref27_within.calls hs p0.Parent (0 : Int) (2147483647 : Int) _ e44) ?_
        rintro _ M41 l42 rfl
        refine wv rfl (fun a w hf hs => r_pickT (hf.ev rfl) b38 (hf.ev rfl)) ?_
        refine v_assign rfl rfl ?_
        obtain rfl := some_r H
        exact w_nil fun a w' hf hs => ⟨_, (l12.trans (l21.trans (l28.trans (l35.trans l42)))), (hf.nil.add (hf.get _ _ rfl)), hs.sel [] (by decide) rfl⟩
       ·replace b38 := Bool.eq_false_iff.2 b38
        replace H := if_f b38 H
        refine w_not (Nwt.of rfl rfl b38) rfl ?_
        refine w_not (Nwt.of rfl rfl b38) rfl ?_
        refine w_not (Nwt.of rfl rfl b38) rfl ?_
        refine wv rfl (fun a w hf hs => r_pickF (hf.ev rfl) b38 (hf.ev rfl)) ?_
        refine v_assign rfl rfl ?_
        obtain rfl := some_r H
        exact w_nil fun a w' hf hs => ⟨_, (l12.trans (l21.trans (l28.trans l35))), (hf.nil.add (hf.get _ _ rfl)), hs.sel [] (by decide) rfl⟩
      ·replace b31 := Bool.eq_false_iff.2 b31
       replace H := if_f b31 H
       refine w_not (Nwt.of rfl rfl b31) rfl ?_
       refine w_not (Nwt.of rfl rfl b31) rfl ?_
       refine w_not (Nwt.of rfl rfl b31) rfl ?_
       refine wv rfl (fun a w hf hs => r_pickF (hf.ev rfl) b31 (hf.ev rfl)) ?_
       refine v_move rfl rfl ?_
       refine w_not (Nwt.of rfl rfl rfl) rfl ?_
       refine w_not (Nwt.of rfl rfl rfl) rfl ?_
       refine w_not (Nwt.of rfl rfl rfl) rfl ?_
       refine wv rfl (fun a w hf hs => r_pickF (hf.ev rfl) rfl (hf.ev rfl)) ?_
       refine v_assign rfl rfl ?_
       obtain rfl := some_r H
       exact w_nil fun a w' hf hs => ⟨_, (l12.trans (l21.trans l28)), (hf.nil.add (hf.get _ _ rfl)), hs.sel [] (by decide) rfl⟩
     ·replace b24 := Bool.eq_false_iff.2 b24
      replace H := if_f b24 H
      refine w_not (Nwt.of rfl rfl b24) rfl ?_
      refine w_not (Nwt.of rfl rfl b24) rfl ?_
      refine w_not (Nwt.of rfl rfl b24) rfl ?_
      refine w_not (Nwt.of rfl rfl b24) rfl ?_
      refine w_not (Nwt.of rfl rfl b24) rfl ?_
      refine wv rfl (fun a w hf hs => r_pickF (hf.ev rfl) b24 (hf.ev rfl)) ?_
      refine v_move rfl rfl ?_
      refine w_not (Nwt.of rfl rfl rfl) rfl ?_
      refine w_not (Nwt.of rfl rfl rfl) rfl ?_
      refine w_not (Nwt.of rfl rfl rfl) rfl ?_
      refine wv rfl (fun a w hf hs => r_pickF (hf.ev rfl) rfl (hf.ev rfl)) ?_
      refine v_move rfl rfl ?_
      refine w_not (Nwt.of rfl rfl rfl) rfl ?_
      refine w_not (Nwt.of rfl rfl rfl) rfl ?_
      refine w_not (Nwt.of rfl rfl rfl) rfl ?_
      refine wv rfl (fun a w hf hs => r_pickF (hf.ev rfl) rfl (hf.ev rfl)) ?_
      refine v_assign rfl rfl ?_
      obtain rfl := some_r H
      exact w_nil fun a w' hf hs => ⟨_, (l12.trans l21), (hf.nil.add (hf.get _ _ rfl)), hs.sel [] (by decide) rfl⟩
    ·replace b17 := Bool.eq_false_iff.2 b17
     replace H := if_f b17 H
     refine w_not (Nwt.of rfl rfl b17) rfl ?_
     refine w_not (Nwt.of rfl rfl b17) rfl ?_
     refine w_not (Nwt.of rfl rfl b17) rfl ?_
     refine wv rfl (fun a w hf hs => r_pickF (hf.ev rfl) b17 (hf.ev rfl)) ?_
     refine v_move rfl rfl ?_
     refine w_not (Nwt.of rfl rfl rfl) rfl ?_
     refine w_not (Nwt.of rfl rfl rfl) rfl ?_
     refine w_not (Nwt.of rfl rfl rfl) rfl ?_
     refine w_not (Nwt.of rfl rfl rfl) rfl ?_
     refine w_not (Nwt.of rfl rfl rfl) rfl ?_
     refine wv rfl (fun a w hf hs => r_pickF (hf.ev rfl) rfl (hf.ev rfl)) ?_
     refine v_move rfl rfl ?_
     refine w_not (Nwt.of rfl rfl rfl) rfl ?_
     refine w_not (Nwt.of rfl rfl rfl) rfl ?_
     refine w_not (Nwt.of rfl rfl rfl) rfl ?_
     refine wv rfl (fun a w hf hs => r_pickF (hf.ev rfl) rfl (hf.ev rfl)) ?_
     refine v_move rfl rfl ?_
     refine w_not (Nwt.of rfl rfl rfl) rfl ?_
     refine w_not (Nwt.of rfl rfl rfl) rfl ?_
     refine w_not (Nwt.of rfl rfl rfl) rfl ?_
     refine wv rfl (fun a w hf hs => r_pickF (hf.ev rfl) rfl (hf.ev rfl)) ?_
     refine v_assign rfl rfl ?_
     obtain rfl := some_r H
     exact w_nil fun a w' hf hs => ⟨_, l12, (hf.nil.add (hf.get _ _ rfl)), hs.sel [] (by decide) rfl⟩
   ·replace b16 := Bool.eq_false_iff.2 b16
    replace H := if_f b16 H
    refine w_not (Nwt.of rfl rfl b16) rfl ?_
    refine w_not (Nwt.of rfl rfl b16) rfl ?_
    refine w_not (Nwt.of rfl rfl b16) rfl ?_
    refine w_not (Nwt.of rfl rfl b16) rfl ?_
    refine w_not (Nwt.of rfl rfl b16) rfl ?_
    refine w_not (Nwt.of rfl rfl b16) rfl ?_
    refine wv rfl (fun a w hf hs => r_pickF (hf.ev rfl) b16 (hf.ev rfl)) ?_
    refine v_move rfl rfl ?_
    refine w_not (Nwt.of rfl rfl rfl) rfl ?_
    refine w_not (Nwt.of rfl rfl rfl) rfl ?_
    refine w_not (Nwt.of rfl rfl rfl) rfl ?_
    refine wv rfl (fun a w hf hs => r_pickF (hf.ev rfl) rfl (hf.ev rfl)) ?_
    refine v_move rfl rfl ?_
    refine w_not (Nwt.of rfl rfl rfl) rfl ?_
    refine w_not (Nwt.of rfl rfl rfl) rfl ?_
    refine w_not (Nwt.of rfl rfl rfl) rfl ?_
    refine w_not (Nwt.of rfl rfl rfl) rfl ?_
    refine w_not (Nwt.of rfl rfl rfl) rfl ?_
    refine wv rfl (fun a w hf hs => r_pickF (hf.ev rfl) rfl (hf.ev rfl)) ?_
    refine v_move rfl rfl ?_
    refine w_not (Nwt.of rfl rfl rfl) rfl ?_
    refine w_not (Nwt.of rfl rfl rfl) rfl ?_
    refine w_not (Nwt.of rfl rfl rfl) rfl ?_
    refine wv rfl (fun a w hf hs => r_pickF (hf.ev rfl) rfl (hf.ev rfl)) ?_
    refine v_move rfl rfl ?_
    refine w_not (Nwt.of rfl rfl rfl) rfl ?_
    refine w_not (Nwt.of rfl rfl rfl) rfl ?_
    refine w_not (Nwt.of rfl rfl rfl) rfl ?_
    refine wv rfl (fun a w hf hs => r_pickF (hf.ev rfl) rfl (hf.ev rfl)) ?_
    refine v_assign rfl rfl ?_
    obtain rfl := some_r H
    exact w_nil fun a w' hf hs => ⟨_, l12, (hf.nil.add (hf.get _ _ rfl)), hs.sel [] (by decide) rfl⟩
  ·replace b15 := Bool.eq_false_iff.2 b15
   replace H := if_f b15 H
   refine w_not (Nwt.of rfl rfl b15) rfl ?_
   refine w_not (Nwt.of rfl rfl b15) rfl ?_
   refine w_not (Nwt.of rfl rfl b15) rfl ?_
   refine w_not (Nwt.of rfl rfl b15) rfl ?_
   refine wv rfl (fun a w hf hs => r_pickF (hf.ev rfl) b15 (hf.ev rfl)) ?_
   refine v_move rfl rfl ?_
   refine w_not (Nwt.of rfl rfl rfl) rfl ?_
   refine w_not (Nwt.of rfl rfl rfl) rfl ?_
   refine w_not (Nwt.of rfl rfl rfl) rfl ?_
   refine w_not (Nwt.of rfl rfl rfl) rfl ?_
   refine w_not (Nwt.of rfl rfl rfl) rfl ?_
   refine w_not (Nwt.of rfl rfl rfl) rfl ?_
   refine wv rfl (fun a w hf hs => r_pickF (hf.ev rfl) rfl (hf.ev rfl)) ?_
   refine v_move rfl rfl ?_
   refine w_not (Nwt.of rfl rfl rfl) rfl ?_
   refine w_not (Nwt.of rfl rfl rfl) rfl ?_
   refine w_not (Nwt.of rfl rfl rfl) rfl ?_
   refine wv rfl (fun a w hf hs => r_pickF (hf.ev rfl) rfl (hf.ev rfl)) ?_
   refine v_move rfl rfl ?_
   refine w_not (Nwt.of rfl rfl rfl) rfl ?_
   refine w_not (Nwt.of rfl rfl rfl) rfl ?_
   refine w_not (Nwt.of rfl rfl rfl) rfl ?_
   refine w_not (Nwt.of rfl rfl rfl) rfl ?_
   refine w_not (Nwt.of rfl rfl rfl) rfl ?_
   refine wv rfl (fun a w hf hs => r_pickF (hf.ev rfl) rfl (hf.ev rfl)) ?_
   refine v_move rfl rfl ?_
   refine w_not (Nwt.of rfl rfl rfl) rfl ?_
   refine w_not (Nwt.of rfl rfl rfl) rfl ?_
   refine w_not (Nwt.of rfl rfl rfl) rfl ?_
   refine wv rfl (fun a w hf hs => r_pickF (hf.ev rfl) rfl (hf.ev rfl)) ?_
   refine v_move rfl rfl ?_
   refine w_not (Nwt.of rfl rfl rfl) rfl ?_
   refine w_not (Nwt.of rfl rfl rfl) rfl ?_
   refine w_not (Nwt.of rfl rfl rfl) rfl ?_
   refine wv rfl (fun a w hf hs => r_pickF (hf.ev rfl) rfl (hf.ev rfl)) ?_
   refine v_assign rfl rfl ?_
   obtain rfl := some_r H
   exact w_nil fun a w' hf hs => ⟨_, l12, (hf.nil.add (hf.get _ _ rfl)), hs.sel [] (by decide) rfl⟩
 ·clear H1
  rintro a w' ⟨M7, l8, hf, hs⟩
  refine c_of (c := (Cx.mk Tryd.prog 42 none' M w)) ?_ hf hs
  clear hf hs
  obtain rfl := some_r H
  exact c_ret fun a w' hf hs => hret _ (.inl rfl) a w' hf.df ⟨_, _, Res.of1 rfl (RV.t hf rfl), hs.ext, rfl⟩
theorem ref27_ValidTable.calls {M : Heap} {w : World} (hM : Sub M w) (p0 : Table) (v1 : Value) (h2 : RS Key.F M v1 p0.Keys) (r : Bool) (H : ref27_ValidTable p0 = some r) :
  Calls Tryd.prog 24 [(.agg (Table.C p0 v1).toArray)].toArray w (Post M w fun M' v => v = (.bool r)) := by
 refine enter 55 [(0, (.agg (Table.C p0 v1).toArray))] Tryd.func24 rfl rfl rfl hM ?_
 intro Q hret
 unfold ref27_ValidTable at H
 refine c_sr fun _ hK3 => ?_
 refine w_boxM trivial rfl rfl rfl ?_
 intro b4 M5 l6 h7
 replace h2 := h2.mono l6
 refine v_assign rfl rfl ?_
 refine w_nil (hK3 _ _ _ ?_)
 refine c_seq fun K8 hK8 => ?_
 obtain ⟨t9, H1, H⟩ := bnd H
 refine c_cut (fun a' w' => ∃ (M10 : Heap), HLe M5 M10 ∧ Fr 55 [(1, (ptr b4 0)), (16, (.bool t9))] a' ∧ St none' M w M10 (lt []) w') ?_ ?_
 ·replace H := H1
  clear H1
  refine c_reg ?_
  refine v_fa fa44_1 rfl rfl ?_
  refine wv rfl (fun a w hf hs => r_load1 ta34 (hf.ev rfl) (hs.sub _ _ h7) rfl) ?_
  refine wv rfl (fun a w hf hs => r_lenR Tryd.underlying34 h2 (hf.ev rfl)) ?_
  refine wv rfl (fun a w hf hs => r_gtr (hf.ev rfl) (hf.ev rfl)) ?_
  refine v_move rfl rfl ?_
  by_cases b12 : (decide ((4096 : Int) < (p0.Keys.length : Int))) = true
  ·replace H := if_t b12 H
   refine w_not (Nwt.of rfl rfl b12) rfl ?_
   refine w_not (Nwt.of rfl rfl b12) rfl ?_
   refine w_not (Nwt.of rfl rfl b12) rfl ?_
   refine w_not (Nwt.of rfl rfl b12) rfl ?_
   refine wv rfl (fun a w hf hs => r_pickT (hf.ev rfl) b12 (hf.ev rfl)) ?_
   obtain rfl := some_r H
   exact w_nil fun a w' hf hs => ⟨_, (HLe.refl _), ((hf.nil.add (hf.get _ _ rfl)).add (hf.get _ _ rfl)), hs.sel [] (by decide) rfl⟩
  ·replace b12 := Bool.eq_false_iff.2 b12
   replace H := if_f b12 H
   refine w_val (Wnt.of rfl rfl b12) rfl (fun a w hf hs => r_fa fa44_0 (hf.ev rfl)) ?_
   refine w_val (Wnt.of rfl rfl b12) rfl (fun a w hf hs => r_load1 ta3 (hf.ev rfl) (hs.sub _ _ h7) rfl) ?_
   obtain ⟨t13, e18, H⟩ := bnd H
   refine w_call cf56 (Wnt.of rfl rfl b12) rfl rfl (fun w hs => ref27_within.calls hs p0.Next (1 : Int) (2147483647 : Int) _ e18) ?_
   rintro _ M15 l16 rfl
   replace h2 := h2.mono l16
   replace h7 := l16 _ _ h7
   refine w_val (Wnt.of rfl rfl b12) rfl (fun a w hf hs => r_not (hf.ev rfl)) ?_
   refine wv rfl (fun a w hf hs => r_pickF (hf.ev rfl) b12 (hf.ev rfl)) ?_
   obtain rfl := some_r H
   exact w_nil fun a w' hf hs => ⟨_, l16, ((hf.nil.add (hf.get _ _ rfl)).add (hf.get _ _ rfl)), hs.sel [] (by decide) rfl⟩
 ·clear H1
  rintro a w' ⟨M10, l11, hf, hs⟩
  refine c_of (c := (Cx.mk Tryd.prog 55 none' M w)) ?_ hf hs
  clear hf hs
  replace h2 := h2.mono l11
  replace h7 := l11 _ _ h7
  refine c_if rfl (fun b19 => ?_) (fun b19 => ?_)
  ·replace H := if_t b19 H
   refine c_sr fun _ hK20 => ?_
   refine v_assign rfl rfl ?_
   refine w_nil (hK20 _ _ _ ?_)
   obtain rfl := some_r H
   exact c_ret fun a w' hf hs => hret _ (.inl rfl) a w' hf.df ⟨_, _, Res.of1 rfl (RV.t hf rfl), hs.ext, rfl⟩
  ·replace H := if_f b19 H
   refine c_skip (hK8 _ _ _ ?_)
   refine c_sr fun _ hK21 => ?_
   refine v_assign rfl rfl ?_
   refine w_nil (hK21 _ _ _ ?_)
   refine c_cut (fun a' w' => ∃ (M22 : Heap), HLe M10 M22 ∧ Fr 55 [] a' ∧ St none' M w M22 (lt []) w' ∧ ref27_ValidTable.j1  = some r) ?_ ?_
   ·refine c_seq ?_
    intro K25 hK25
    refine c_reg ?_
    refine v_assign rfl rfl ?_
    refine w_nil (hK25 _ _ _ ?_)
    refine c_block ?_
    refine c_loop (fun (s26 : (Int × Int)) a' w' => ∃ (M27 : Heap), HLe M10 M27 ∧ Fr 55 [(1, (ptr b4 0)), (3, (.int .i64 s26.1)), (4, (.int .i64 s26.2))] a' ∧ St none' M w M27 (lt []) w') ((0 : Int), (0 : Int)) H ?_ ?_
    ·intro a w' hf hs
     exact ⟨_, HLe.refl _, (((hf.nil.add (hf.get _ _ rfl)).add (hf.get _ _ rfl)).add (hf.get _ _ rfl)), hs.selD [] (by decide) rfl⟩
    ·clear H
     intro s26 y30 H r29 a w' hJ
     obtain ⟨M27, l28, hf, hs⟩ := hJ
     refine c_of (c := (Cx.mk Tryd.prog 55 none' M w)) ?_ hf hs
     unfold ref27_ValidTable.l2 at H
     clear hf hs
     replace h2 := h2.mono l28
     replace h7 := l28 _ _ h7
     refine c_seq fun K31 hK31 => ?_
     refine c_sr fun _ hK32 => ?_
     refine v_move rfl rfl ?_
     refine v_fa fa44_1 rfl rfl ?_
     refine wv rfl (fun a w hf hs => r_load1 ta34 (hf.ev rfl) (hs.sub _ _ h7) rfl) ?_
     refine wv rfl (fun a w hf hs => r_lenR Tryd.underlying34 h2 (hf.ev rfl)) ?_
     refine v_lss rfl rfl rfl ?_
     refine w_nil (hK32 _ _ _ ?_)
     refine c_if rfl (fun b33 => ?_) (fun b33 => ?_)
     ·replace H := if_t b33 H
      refine c_skip (hK31 _ _ _ ?_)
      refine c_seq fun K34 hK34 => ?_
      refine c_block ?_
      refine c_sr fun _ hK35 => ?_
      refine v_fa fa44_1 rfl rfl ?_
      refine wv rfl (fun a w hf hs => r_load1 ta34 (hf.ev rfl) (hs.sub _ _ h7) rfl) ?_
      refine v_move rfl rfl ?_
      obtain ⟨g36, H⟩ := grd_s H
      refine wv rfl (fun a w hf hs => r_iR Tryd.underlying34 ts55 h2 (hf.ev rfl) (hf.ev rfl) g36.1 g36.2) ?_
      refine wv rfl (fun a w hf hs => r_loadEA ta55 ts55 h2 hs.sub g36.1 g36.2 (hf.ev rfl) rfl rfl) ?_
      refine w_allocL (A := Key.C (⟨(0 : Int), (0 : Int), ([] : List UInt8), (0 : Int), (0 : Int), (0 : Int), (0 : Int), (0 : Int), false⟩ : Key)) tz55 trivial rfl rfl ?_
      intro b37
      refine w_store (i := 0) (vs := Key.C (rd p0.Keys s26.2)) (A' := Key.C (rd p0.Keys s26.2)) trivial rfl rfl rfl rfl ts55 rfl (Key.F_one _) (Nat.le_of_ble_eq_true rfl) rfl ?_
      refine w_nil (hK35 _ _ _ ?_)
      refine c_sr fun _ hK38 => ?_
      refine wv rfl (fun a w hf hs => r_loadA ta55 ts55 (hf.ev rfl) (hs.blk (i := 0) rfl) rfl rfl) ?_
      obtain ⟨t39, e44, H⟩ := bnd H
      refine w_call cf57 trivial rfl rfl (fun w hs => ref27_Valid.calls hs (rd p0.Keys s26.2) _ e44) ?_
      rintro _ M41 l42 rfl
      replace h7 := l42 _ _ h7
      refine v_assign rfl rfl ?_
      refine w_nil (hK38 _ _ _ ?_)
      refine c_seq fun K45 hK45 => ?_
      obtain ⟨t46, H1, H⟩ := bnd H
      refine c_cut (fun a' w' => ∃ (M47 : Heap), HLe M41 M47 ∧ Fr 55 [(1, (ptr b4 0)), (4, (.int .i64 s26.2)), (5, (ptr b37 0)), (52, (.bool t46))] a' ∧ St none' M w M47 (lt [.blk b37 (.cells (Key.C (rd p0.Keys s26.2)).toArray 55 (0, 0))]) w') ?_ ?_
      ·replace H := H1
       clear H1
       refine c_reg ?_
       refine v_move rfl rfl ?_
       refine wv rfl (fun a w hf hs => r_not (hf.ev rfl)) ?_
       refine v_move rfl rfl ?_
       by_cases b49 : (!t39) = true
       ·replace H := if_t b49 H
        refine w_not (Nwt.of rfl rfl b49) rfl ?_
        refine w_not (Nwt.of rfl rfl b49) rfl ?_
        refine w_not (Nwt.of rfl rfl b49) rfl ?_
        refine w_not (Nwt.of rfl rfl b49) rfl ?_
        refine wv rfl (fun a w hf hs => r_pickT (hf.ev rfl) b49 (hf.ev rfl)) ?_
        refine v_move rfl rfl ?_
        refine w_not (Nwt.of rfl rfl rfl) rfl ?_
        refine w_not (Nwt.of rfl rfl rfl) rfl ?_
        refine w_not (Nwt.of rfl rfl rfl) rfl ?_
        refine w_not (Nwt.of rfl rfl rfl) rfl ?_
        refine w_not (Nwt.of rfl rfl rfl) rfl ?_
        refine wv rfl (fun a w hf hs => r_pickT (hf.ev rfl) rfl (hf.ev rfl)) ?_
        refine v_move rfl rfl ?_
        refine w_not (Nwt.of rfl rfl rfl) rfl ?_
        refine w_not (Nwt.of rfl rfl rfl) rfl ?_
        refine w_not (Nwt.of rfl rfl rfl) rfl ?_
        refine w_not (Nwt.of rfl rfl rfl) rfl ?_
        refine w_not (Nwt.of rfl rfl rfl) rfl ?_
        refine wv rfl (fun a w hf hs => r_pickT (hf.ev rfl) rfl (hf.ev rfl)) ?_
        obtain rfl := some_r H
        exact w_nil fun a w' hf hs => ⟨_, (HLe.refl _), ((((hf.nil.add (hf.get _ _ rfl)).add (hf.get _ _ rfl)).add (hf.get _ _ rfl)).add (hf.get _ _ rfl)), hs.sel [0] (by decide) rfl⟩
       ·replace b49 := Bool.eq_false_iff.2 b49
        replace H := if_f b49 H
        refine w_val (Wnt.of rfl rfl b49) rfl (fun a w hf hs => r_fa fa55_0 (hf.ev rfl)) ?_
        refine w_val (Wnt.of rfl rfl b49) rfl (fun a w hf hs => r_load1 ta3 (hf.ev rfl) (hs.blk (i := 0) rfl) rfl) ?_
        refine w_val (Wnt.of rfl rfl b49) rfl (fun a w hf hs => r_move (hf.ev rfl)) ?_
        refine w_val (Wnt.of rfl rfl b49) rfl (fun a w hf hs => r_leq (hf.ev rfl) (hf.ev rfl)) ?_
        refine wv rfl (fun a w hf hs => r_pickF (hf.ev rfl) b49 (hf.ev rfl)) ?_
        refine v_move rfl rfl ?_
        by_cases b50 : (decide (((rd p0.Keys s26.2).Id) ≤ s26.1)) = true
        ·replace H := if_t b50 H
         refine w_not (Nwt.of rfl rfl b50) rfl ?_
         refine w_not (Nwt.of rfl rfl b50) rfl ?_
         refine w_not (Nwt.of rfl rfl b50) rfl ?_
         refine w_not (Nwt.of rfl rfl b50) rfl ?_
         refine w_not (Nwt.of rfl rfl b50) rfl ?_
         refine wv rfl (fun a w hf hs => r_pickT (hf.ev rfl) b50 (hf.ev rfl)) ?_
         refine v_move rfl rfl ?_
         refine w_not (Nwt.of rfl rfl rfl) rfl ?_
         refine w_not (Nwt.of rfl rfl rfl) rfl ?_
         refine w_not (Nwt.of rfl rfl rfl) rfl ?_
         refine w_not (Nwt.of rfl rfl rfl) rfl ?_
         refine w_not (Nwt.of rfl rfl rfl) rfl ?_
         refine wv rfl (fun a w hf hs => r_pickT (hf.ev rfl) rfl (hf.ev rfl)) ?_
         obtain rfl := some_r H
         exact w_nil fun a w' hf hs => ⟨_, (HLe.refl _), ((((hf.nil.add (hf.get _ _ rfl)).add (hf.get _ _ rfl)).add (hf.get _ _ rfl)).add (hf.get _ _ rfl)), hs.sel [0] (by decide) rfl⟩
        ·replace b50 := Bool.eq_false_iff.2 b50
         replace H := if_f b50 H
         refine w_val (Wnt.of rfl rfl b50) rfl (fun a w hf hs => r_fa fa55_0 (hf.ev rfl)) ?_
         refine w_val (Wnt.of rfl rfl b50) rfl (fun a w hf hs => r_load1 ta3 (hf.ev rfl) (hs.blk (i := 0) rfl) rfl) ?_
         refine w_val (Wnt.of rfl rfl b50) rfl (fun a w hf hs => r_fa fa44_0 (hf.ev rfl)) ?_
         refine w_val (Wnt.of rfl rfl b50) rfl (fun a w hf hs => r_load1 ta3 (hf.ev rfl) (hs.sub _ _ h7) rfl) ?_
         refine w_val (Wnt.of rfl rfl b50) rfl (fun a w hf hs => r_geq (hf.ev rfl) (hf.ev rfl)) ?_
         refine wv rfl (fun a w hf hs => r_pickF (hf.ev rfl) b50 (hf.ev rfl)) ?_
         refine v_move rfl rfl ?_
         by_cases b51 : (decide (p0.Next ≤ ((rd p0.Keys s26.2).Id))) = true
         ·replace H := if_t b51 H
          refine w_not (Nwt.of rfl rfl b51) rfl ?_
          refine w_not (Nwt.of rfl rfl b51) rfl ?_
          refine w_not (Nwt.of rfl rfl b51) rfl ?_
          refine w_not (Nwt.of rfl rfl b51) rfl ?_
          refine w_not (Nwt.of rfl rfl b51) rfl ?_
          refine wv rfl (fun a w hf hs => r_pickT (hf.ev rfl) b51 (hf.ev rfl)) ?_
          obtain rfl := some_r H
          exact w_nil fun a w' hf hs => ⟨_, (HLe.refl _), ((((hf.nil.add (hf.get _ _ rfl)).add (hf.get _ _ rfl)).add (hf.get _ _ rfl)).add (hf.get _ _ rfl)), hs.sel [0] (by decide) rfl⟩
         ·replace b51 := Bool.eq_false_iff.2 b51
          replace H := if_f b51 H
          refine w_val (Wnt.of rfl rfl b51) rfl (fun a w hf hs => r_fa fa55_7 (hf.ev rfl)) ?_
          refine w_val (Wnt.of rfl rfl b51) rfl (fun a w hf hs => r_load1 ta3 (hf.ev rfl) (hs.blk (i := 0) rfl) rfl) ?_
          refine w_val (Wnt.of rfl rfl b51) rfl (fun a w hf hs => r_fa fa44_0 (hf.ev rfl)) ?_
          refine w_val (Wnt.of rfl rfl b51) rfl (fun a w hf hs => r_load1 ta3 (hf.ev rfl) (hs.sub _ _ h7) rfl) ?_
          refine w_val (Wnt.of rfl rfl b51) rfl (fun a w hf hs => r_geq (hf.ev rfl) (hf.ev rfl)) ?_
          refine wv rfl (fun a w hf hs => r_pickF (hf.ev rfl) b51 (hf.ev rfl)) ?_
          obtain rfl := some_r H
          exact w_nil fun a w' hf hs => ⟨_, (HLe.refl _), ((((hf.nil.add (hf.get _ _ rfl)).add (hf.get _ _ rfl)).add (hf.get _ _ rfl)).add (hf.get _ _ rfl)), hs.sel [0] (by decide) rfl⟩
      ·clear H1
       rintro a w' ⟨M47, l48, hf, hs⟩
       refine c_of (c := (Cx.mk Tryd.prog 55 none' M w)) ?_ hf hs
       clear hf hs
       refine c_if rfl (fun b52 => ?_) (fun b52 => ?_)
       ·replace H := if_t b52 H
        refine c_sr fun _ hK53 => ?_
        refine v_assign rfl rfl ?_
        refine w_nil (hK53 _ _ _ ?_)
        obtain rfl := (r29 _ (Option.some.inj H).symm)
        exact c_ret fun a w' hf hs => hret _ (.inl rfl) a w' hf.df ⟨_, _, Res.of1 rfl (RV.t hf rfl), hs.ext, rfl⟩
       ·replace H := if_f b52 H
        refine c_skip (hK45 _ _ _ ?_)
        refine c_reg ?_
        refine v_fa fa55_0 rfl rfl ?_
        refine wv rfl (fun a w hf hs => r_load1 ta3 (hf.ev rfl) (hs.blk (i := 0) rfl) rfl) ?_
        refine v_assign rfl rfl ?_
        refine w_nil (hK34 _ _ _ ?_)
        refine c_reg ?_
        refine v_move rfl rfl ?_
        refine v_add rfl rfl rfl ?_
        refine v_assign rfl rfl ?_
        exact w_nil fun a w' hf hs => ⟨_, (some_r H).symm, _, l28.trans (l42.trans l48), (((hf.nil.add (hf.get _ _ rfl)).add (hf.get _ _ rfl)).add (hf.get _ _ rfl)), hs.selD [] (by decide) rfl⟩
     ·replace H := if_f b33 H
      replace H := map_inr H r29
      refine c_exit ?_
      intro a w' hf hs
      exact ⟨_, l28, hf.nil, hs.selD [] (by decide) rfl, H⟩
   ·rintro a w' ⟨M22, l23, hf, hs, H⟩
    refine c_of (c := (Cx.mk Tryd.prog 55 none' M w)) ?_ hf hs
    unfold ref27_ValidTable.j1 at H
    clear hf hs
    refine c_sr fun _ hK24 => ?_
    refine v_assign rfl rfl ?_
    refine w_nil (hK24 _ _ _ ?_)
    obtain rfl := some_r H
    exact c_ret fun a w' hf hs => hret _ (.inl rfl) a w' hf.df ⟨_, _, Res.of1 rfl (RV.t hf rfl), hs.ext, rfl⟩
theorem law36_starts.calls {M : Heap} {w : World} (hM : Sub M w) (p0 : Table) (v1 : Value) (h2 : RS Key.F M v1 p0.Keys) (p1 : Int) (r : Bool) (H : law36_starts p0 p1 = some r) :
  Calls Tryd.prog 27 [(.agg (Table.C p0 v1).toArray), (.int .i64 p1)].toArray w (Post M w fun M' v => v = (.bool r)) := by
 refine enter 21 [(0, (.agg (Table.C p0 v1).toArray)), (1, (.int .i64 p1))] Tryd.func27 rfl rfl rfl hM ?_
 intro Q hret
 unfold law36_starts at H
 refine c_sr fun _ hK3 => ?_
 refine w_boxM trivial rfl rfl rfl ?_
 intro b4 M5 l6 h7
 replace h2 := h2.mono l6
 refine v_assign rfl rfl ?_
 refine w_nil (hK3 _ _ _ ?_)
 refine c_cut (fun a' w' => ∃ (M8 : Heap), HLe M5 M8 ∧ Fr 21 [] a' ∧ St none' M w M8 (lt []) w' ∧ law36_starts.j1  = some r) ?_ ?_
 ·refine c_seq ?_
  intro K11 hK11
  refine c_reg ?_
  refine v_assign rfl rfl ?_
  refine w_nil (hK11 _ _ _ ?_)
  refine c_block ?_
  refine c_loop (fun (s12 : Int) a' w' => ∃ (M13 : Heap), HLe M5 M13 ∧ Fr 21 [(1, (.int .i64 p1)), (2, (ptr b4 0)), (5, (.int .i64 s12))] a' ∧ St none' M w M13 (lt []) w') (0 : Int) H ?_ ?_
  ·intro a w' hf hs
   exact ⟨_, HLe.refl _, (((hf.nil.add (hf.get _ _ rfl)).add (hf.get _ _ rfl)).add (hf.get _ _ rfl)), hs.selD [] (by decide) rfl⟩
  ·clear H
   intro s12 y16 H r15 a w' hJ
   obtain ⟨M13, l14, hf, hs⟩ := hJ
   refine c_of (c := (Cx.mk Tryd.prog 21 none' M w)) ?_ hf hs
   unfold law36_starts.l2 at H
   clear hf hs
   replace h2 := h2.mono l14
   replace h7 := l14 _ _ h7
   refine c_seq fun K17 hK17 => ?_
   refine c_sr fun _ hK18 => ?_
   refine v_move rfl rfl ?_
   refine v_fa fa44_1 rfl rfl ?_
   refine wv rfl (fun a w hf hs => r_load1 ta34 (hf.ev rfl) (hs.sub _ _ h7) rfl) ?_
   refine wv rfl (fun a w hf hs => r_lenR Tryd.underlying34 h2 (hf.ev rfl)) ?_
   refine v_lss rfl rfl rfl ?_
   refine w_nil (hK18 _ _ _ ?_)
   refine c_if rfl (fun b19 => ?_) (fun b19 => ?_)
   ·replace H := if_t b19 H
    refine c_skip (hK17 _ _ _ ?_)
    refine c_seq fun K20 hK20 => ?_
    refine c_block ?_
    refine c_sr fun _ hK21 => ?_
    refine v_fa fa44_1 rfl rfl ?_
    refine wv rfl (fun a w hf hs => r_load1 ta34 (hf.ev rfl) (hs.sub _ _ h7) rfl) ?_
    refine v_move rfl rfl ?_
    obtain ⟨g22, H⟩ := grd_s H
    refine wv rfl (fun a w hf hs => r_iR Tryd.underlying34 ts55 h2 (hf.ev rfl) (hf.ev rfl) g22.1 g22.2) ?_
    refine wv rfl (fun a w hf hs => r_faE fa55_4 h2 g22.1 g22.2 (hf.ev rfl)) ?_
    refine wv rfl (fun a w hf hs => r_loadE1 ta3 h2 hs.sub g22.1 g22.2 (hf.ev rfl) rfl) ?_
    refine v_move rfl rfl ?_
    refine wv rfl (fun a w hf hs => r_gtr (hf.ev rfl) (hf.ev rfl)) ?_
    refine w_nil (hK21 _ _ _ ?_)
    refine c_if rfl (fun b23 => ?_) (fun b23 => ?_)
    ·replace H := if_t b23 H
     refine c_sr fun _ hK24 => ?_
     refine v_assign rfl rfl ?_
     refine w_nil (hK24 _ _ _ ?_)
     obtain rfl := (r15 _ (Option.some.inj H).symm)
     exact c_ret fun a w' hf hs => hret _ (.inl rfl) a w' hf.df ⟨_, _, Res.of1 rfl (RV.t hf rfl), hs.ext, rfl⟩
    ·replace H := if_f b23 H
     refine c_skip (hK20 _ _ _ ?_)
     refine c_reg ?_
     refine v_move rfl rfl ?_
     refine v_add rfl rfl rfl ?_
     refine v_assign rfl rfl ?_
     exact w_nil fun a w' hf hs => ⟨_, (some_r H).symm, _, l14.trans (HLe.refl _), (((hf.nil.add (hf.get _ _ rfl)).add (hf.get _ _ rfl)).add (hf.get _ _ rfl)), hs.selD [] (by decide) rfl⟩
   ·replace H := if_f b19 H
    replace H := map_inr H r15
    refine c_exit ?_
    intro a w' hf hs
    exact ⟨_, l14, hf.nil, hs.selD [] (by decide) rfl, H⟩
 ·rintro a w' ⟨M8, l9, hf, hs, H⟩
  refine c_of (c := (Cx.mk Tryd.prog 21 none' M w)) ?_ hf hs
  unfold law36_starts.j1 at H
  clear hf hs
  refine c_sr fun _ hK10 => ?_
  refine v_assign rfl rfl ?_
  refine w_nil (hK10 _ _ _ ?_)
  obtain rfl := some_r H
  exact c_ret fun a w' hf hs => hret _ (.inl rfl) a w' hf.df ⟨_, _, Res.of1 rfl (RV.t hf rfl), hs.ext, rfl⟩
theorem law36_BackupComplete.calls {M : Heap} {w : World} (hM : Sub M w) (hG : Gl M) (hs_law36_sanity : ∀ t, law36_sanity = some t → t = true) (p0 : Table) (v1 : Value) (h2 : RS Key.F M v1 p0.Keys) (p1 : Int) (p2 : Int) (p3 : Backup) (v3 : Value) (h4 : RS Key.F M v3 p3.Keys) (p4 : (List UInt8)) (r : Bool) (hr_ : r = true) (H : law36_BackupComplete p0 p1 p2 p3 p4 = some r) :
  Calls Tryd.prog 9 [(.agg (Table.C p0 v1).toArray), (.int .i64 p1), (.int .i64 p2), (.agg (Backup.C p3 v3).toArray), (str p4)].toArray w (Post M w fun M' v => v = (.bool r)) := by
 refine enter 106 [(0, (.agg (Table.C p0 v1).toArray)), (1, (.int .i64 p1)), (2, (.int .i64 p2)), (3, (.agg (Backup.C p3 v3).toArray)), (4, (str p4))] Tryd.func9 rfl rfl rfl hM ?_
 intro Q hret
 unfold law36_BackupComplete at H
 refine c_sr fun _ hK5 => ?_
 refine w_boxM trivial rfl rfl rfl ?_
 intro b6 M7 l8 h9
 replace hG := hG.mono l8
 replace h2 := h2.mono l8
 refine w_boxL trivial rfl rfl rfl ?_
 intro b10
 refine v_assign rfl rfl ?_
 refine w_nil (hK5 _ _ _ ?_)
 obtain ⟨t11, H1, H⟩ := bnd H
 refine c_cut (fun a' w' => ∃ (M12 : Heap), HLe M7 M12 ∧ Fr 106 [(1, (.int .i64 p1)), (2, (.int .i64 p2)), (4, (str p4)), (5, (ptr b6 0)), (8, (ptr b10 0)), (11, (.bool t11))] a' ∧ St none' M w M12 (lt [.blk b10 (.cells (Backup.C p3 v3).toArray 36 (0, 0))]) w') ?_ ?_
 ·replace H := H1
  clear H1
  refine c_reg ?_
  refine v_fa fa44_1 rfl rfl ?_
  refine wv rfl (fun a w hf hs => r_load1 ta34 (hf.ev rfl) (hs.sub _ _ h9) rfl) ?_
  refine wv rfl (fun a w hf hs => r_lenR Tryd.underlying34 h2 (hf.ev rfl)) ?_
  refine wv rfl (fun a w hf hs => r_leq (hf.ev rfl) (hf.ev rfl)) ?_
  refine v_move rfl rfl ?_
  by_cases b14 : (decide ((p0.Keys.length : Int) ≤ (40 : Int))) = true
  ·replace H := if_t b14 H
   refine w_val (Wnt.of rfl rfl b14) rfl (fun a w hf hs => r_fa fa36_6 (hf.ev rfl)) ?_
   refine w_val (Wnt.of rfl rfl b14) rfl (fun a w hf hs => r_load1 ta9 (hf.ev rfl) (hs.blk (i := 0) rfl) (Backup.g36 _ _)) ?_
   refine w_val (Wnt.of rfl rfl b14) rfl (fun a w hf hs => r_slen Tryd.underlying9 (hf.ev rfl)) ?_
   refine w_val (Wnt.of rfl rfl b14) rfl (fun a w hf hs => r_leq (hf.ev rfl) (hf.ev rfl)) ?_
   refine wv rfl (fun a w hf hs => r_pickT (hf.ev rfl) b14 (hf.ev rfl)) ?_
   refine v_assign rfl rfl ?_
   obtain rfl := some_r H
   exact w_nil fun a w' hf hs => ⟨_, (HLe.refl _), ((((((hf.nil.add (hf.get _ _ rfl)).add (hf.get _ _ rfl)).add (hf.get _ _ rfl)).add (hf.get _ _ rfl)).add (hf.get _ _ rfl)).add (hf.get _ _ rfl)), hs.sel [0] (by decide) rfl⟩
  ·replace b14 := Bool.eq_false_iff.2 b14
   replace H := if_f b14 H
   refine w_not (Nwt.of rfl rfl b14) rfl ?_
   refine w_not (Nwt.of rfl rfl b14) rfl ?_
   refine w_not (Nwt.of rfl rfl b14) rfl ?_
   refine w_not (Nwt.of rfl rfl b14) rfl ?_
   refine wv rfl (fun a w hf hs => r_pickF (hf.ev rfl) b14 (hf.ev rfl)) ?_
   refine v_assign rfl rfl ?_
   obtain rfl := some_r H
   exact w_nil fun a w' hf hs => ⟨_, (HLe.refl _), ((((((hf.nil.add (hf.get _ _ rfl)).add (hf.get _ _ rfl)).add (hf.get _ _ rfl)).add (hf.get _ _ rfl)).add (hf.get _ _ rfl)).add (hf.get _ _ rfl)), hs.sel [0] (by decide) rfl⟩
 ·clear H1
  rintro a w' ⟨M12, l13, hf, hs⟩
  refine c_of (c := (Cx.mk Tryd.prog 106 none' M w)) ?_ hf hs
  clear hf hs
  replace hG := hG.mono l13
  replace h2 := h2.mono l13
  replace h9 := l13 _ _ h9
  refine c_seq fun K15 hK15 => ?_
  obtain ⟨t16, H1, H⟩ := bnd H
  refine c_cut (fun a' w' => ∃ (M17 : Heap), HLe M12 M17 ∧ Fr 106 [(1, (.int .i64 p1)), (2, (.int .i64 p2)), (4, (str p4)), (5, (ptr b6 0)), (8, (ptr b10 0)), (33, (.bool t16))] a' ∧ St none' M w M17 (lt [.blk b10 (.cells (Backup.C p3 v3).toArray 36 (0, 0))]) w') ?_ ?_
  ·replace H := H1
   clear H1
   refine c_reg ?_
   refine v_move rfl rfl ?_
   refine wv rfl (fun a w hf hs => r_not (hf.ev rfl)) ?_
   refine v_move rfl rfl ?_
   by_cases b19 : (!t11) = true
   ·replace H := if_t b19 H
    refine w_not (Nwt.of rfl rfl b19) rfl ?_
    refine w_not (Nwt.of rfl rfl b19) rfl ?_
    refine w_not (Nwt.of rfl rfl b19) rfl ?_
    refine wv rfl (fun a w hf hs => r_pickT (hf.ev rfl) b19 (hf.ev rfl)) ?_
    obtain rfl := some_r H
    exact w_nil fun a w' hf hs => ⟨_, (HLe.refl _), ((((((hf.nil.add (hf.get _ _ rfl)).add (hf.get _ _ rfl)).add (hf.get _ _ rfl)).add (hf.get _ _ rfl)).add (hf.get _ _ rfl)).add (hf.get _ _ rfl)), hs.sel [0] (by decide) rfl⟩
   ·replace b19 := Bool.eq_false_iff.2 b19
    replace H := if_f b19 H
    refine w_val (Wnt.of rfl rfl b19) rfl (fun a w hf hs => r_move (hf.ev rfl)) ?_
    refine w_val (Wnt.of rfl rfl b19) rfl (fun a w hf hs => r_move (hf.ev rfl)) ?_
    refine w_val (Wnt.of rfl rfl b19) rfl (fun a w hf hs => r_lss (hf.ev rfl) (hf.ev rfl)) ?_
    refine wv rfl (fun a w hf hs => r_pickF (hf.ev rfl) b19 (hf.ev rfl)) ?_
    obtain rfl := some_r H
    exact w_nil fun a w' hf hs => ⟨_, (HLe.refl _), ((((((hf.nil.add (hf.get _ _ rfl)).add (hf.get _ _ rfl)).add (hf.get _ _ rfl)).add (hf.get _ _ rfl)).add (hf.get _ _ rfl)).add (hf.get _ _ rfl)), hs.sel [0] (by decide) rfl⟩
  ·clear H1
   rintro a w' ⟨M17, l18, hf, hs⟩
   refine c_of (c := (Cx.mk Tryd.prog 106 none' M w)) ?_ hf hs
   clear hf hs
   replace hG := hG.mono l18
   replace h2 := h2.mono l18
   replace h9 := l18 _ _ h9
   refine c_if rfl (fun b20 => ?_) (fun b20 => ?_)
   ·replace H := if_t b20 H
    refine c_sr fun _ hK21 => ?_
    obtain ⟨t22, e27, H⟩ := bnd H
    refine w_call cf20 trivial rfl rfl (fun w hs => law36_sanity.calls hs hG  _ (hs_law36_sanity _ e27) e27) ?_
    rintro _ M24 l25 rfl
    replace hG := hG.mono l25
    replace h2 := h2.mono l25
    replace h9 := l25 _ _ h9
    refine v_assign rfl rfl ?_
    refine w_nil (hK21 _ _ _ ?_)
    obtain rfl := some_r H
    exact c_ret fun a w' hf hs => hret _ (.inl rfl) a w' hf.df ⟨_, _, Res.of1 rfl (RV.t hf rfl), hs.ext, rfl⟩
   ·replace H := if_f b20 H
    refine c_skip (hK15 _ _ _ ?_)
    refine c_sr fun _ hK28 => ?_
    refine wv rfl (fun a w hf hs => r_loadA ta44 ts44 (hf.ev rfl) (hs.sub _ _ h9) rfl rfl) ?_
    obtain ⟨t29, e34, H⟩ := bnd H
    refine w_call cf24 trivial rfl rfl (fun w hs => ref27_ValidTable.calls hs p0 v1 h2 _ e34) ?_
    rintro _ M31 l32 rfl
    replace hG := hG.mono l32
    replace h2 := h2.mono l32
    replace h9 := l32 _ _ h9
    refine v_assign rfl rfl ?_
    refine w_nil (hK28 _ _ _ ?_)
    refine c_seq fun K35 hK35 => ?_
    refine c_sr fun _ hK36 => ?_
    refine v_move rfl rfl ?_
    refine wv rfl (fun a w hf hs => r_not (hf.ev rfl)) ?_
    refine w_nil (hK36 _ _ _ ?_)
    refine c_if rfl (fun b37 => ?_) (fun b37 => ?_)
    ·replace H := if_t b37 H
     refine c_sr fun _ hK38 => ?_
     obtain ⟨t39, e44, H⟩ := bnd H
     refine w_call cf20 trivial rfl rfl (fun w hs => law36_sanity.calls hs hG  _ (hs_law36_sanity _ e44) e44) ?_
     rintro _ M41 l42 rfl
     replace hG := hG.mono l42
     replace h2 := h2.mono l42
     replace h9 := l42 _ _ h9
     refine v_assign rfl rfl ?_
     refine w_nil (hK38 _ _ _ ?_)
     obtain rfl := some_r H
     exact c_ret fun a w' hf hs => hret _ (.inl rfl) a w' hf.df ⟨_, _, Res.of1 rfl (RV.t hf rfl), hs.ext, rfl⟩
    ·replace H := if_f b37 H
     refine c_skip (hK35 _ _ _ ?_)
     refine c_sr fun _ hK45 => ?_
     refine wv rfl (fun a w hf hs => r_loadA ta44 ts44 (hf.ev rfl) (hs.sub _ _ h9) rfl rfl) ?_
     refine v_move rfl rfl ?_
     obtain ⟨t46, e51, H⟩ := bnd H
     refine w_call cf25 trivial rfl rfl (fun w hs => backup_Select.calls hs p0 v1 h2 p1 _ e51) ?_
     rintro v194 M48 l49 ⟨v52, hv_, h53⟩
     replace hv_ := hv_.symm
     subst hv_
     replace hG := hG.mono l49
     replace h2 := h2.mono l49
     replace h9 := l49 _ _ h9
     refine v_fa fa36_7 rfl rfl ?_
     refine w_store (i := 0) (vs := [v52]) (A' := Backup.C ({ p3 with Keys := t46 } : Backup) v52) trivial rfl rfl rfl h53.cells1 ts34 rfl (one1 h53.one) (by rw [Backup.len]; decide) (Backup.s37_1 _ _) ?_
     refine w_nil (hK45 _ _ _ ?_)
     refine c_seq fun K54 hK54 => ?_
     obtain ⟨t55, H1, H⟩ := bnd H
     have ht_ := ne_tr H hr_
     refine c_cut (fun a' w' => ∃ (M56 : Heap), HLe M48 M56 ∧ Fr 106 [(1, (.int .i64 p1)), (2, (.int .i64 p2)), (4, (str p4)), (5, (ptr b6 0)), (8, (ptr b10 0)), (64, (.bool t55))] a' ∧ St none' M w M56 (lt [.blk b10 (.cells (Backup.C ({ p3 with Keys := t46 } : Backup) v52).toArray 36 (0, 0))]) w') ?_ ?_
     ·replace H := H1
      clear H1
      refine c_reg ?_
      refine wv rfl (fun a w hf hs => r_loadA ta36 ts36 (hf.ev rfl) (hs.blk (i := 0) rfl) (Backup.d0_38 _ _) (Backup.len _ _)) ?_
      refine wv rfl (fun a w hf hs => r_loadA ta44 ts44 (hf.ev rfl) (hs.sub _ _ h9) rfl rfl) ?_
      refine v_move rfl rfl ?_
      obtain ⟨t173, e178, H⟩ := bnd H
      refine w_call cf26 trivial rfl rfl (fun w hs => backup_Complete.calls hs ({ p3 with Keys := t46 } : Backup) v52 h53 p0 v1 h2 p1 _ e178) ?_
      rintro _ M175 l176 rfl
      replace hG := hG.mono l176
      replace h2 := h2.mono l176
      replace h9 := l176 _ _ h9
      replace h53 := h53.mono l176
      refine wv rfl (fun a w hf hs => r_not (hf.ev rfl)) ?_
      refine v_move rfl rfl ?_
      by_cases b179 : (!t173) = true
      ·replace H := if_t b179 H
       exact absurd ((some_r H).trans ht_) (by decide)
      ·replace b179 := Bool.eq_false_iff.2 b179
       replace H := if_f b179 H
       refine w_val (Wnt.of rfl rfl b179) rfl (fun a w hf hs => r_loadA ta36 ts36 (hf.ev rfl) (hs.blk (i := 0) rfl) (Backup.d0_38 _ _) (Backup.len _ _)) ?_
       refine w_val (Wnt.of rfl rfl b179) rfl (fun a w hf hs => r_loadA ta44 ts44 (hf.ev rfl) (hs.sub _ _ h9) rfl rfl) ?_
       refine w_val (Wnt.of rfl rfl b179) rfl (fun a w hf hs => r_move (hf.ev rfl)) ?_
       obtain ⟨t180, e185, H⟩ := bnd H
       refine w_call cf26 (Wnt.of rfl rfl b179) rfl rfl (fun w hs => backup_Complete.calls hs ({ p3 with Keys := t46 } : Backup) v52 h53 p0 v1 h2 p2 _ e185) ?_
       rintro _ M182 l183 rfl
       replace hG := hG.mono l183
       replace h2 := h2.mono l183
       replace h9 := l183 _ _ h9
       refine w_val (Wnt.of rfl rfl b179) rfl (fun a w hf hs => r_not (hf.ev rfl)) ?_
       refine w_val (Wnt.of rfl rfl b179) rfl (fun a w hf hs => r_move (hf.ev rfl)) ?_
       by_cases b186 : (!t180) = true
       ·replace H := if_t b186 H
        refine w_val (Wnt.of rfl rfl b186) rfl (fun a w hf hs => r_move (hf.ev rfl)) ?_
        refine w_val (Wnt.of rfl rfl b186) rfl (fun a w hf hs => r_geq (hf.ev rfl) (hf.ev rfl)) ?_
        refine w_val (Wnt.of rfl rfl b179) rfl (fun a w hf hs => r_pickT (hf.ev rfl) b186 (hf.ev rfl)) ?_
        refine w_val (Wnt.of rfl rfl b179) rfl (fun a w hf hs => r_move (hf.ev rfl)) ?_
        by_cases b187 : (decide ((0 : Int) ≤ p1)) = true
        ·replace H := if_t b187 H
         refine w_val (Wnt.of rfl rfl b187) rfl (fun a w hf hs => r_loadA ta44 ts44 (hf.ev rfl) (hs.sub _ _ h9) rfl rfl) ?_
         refine w_val (Wnt.of rfl rfl b187) rfl (fun a w hf hs => r_move (hf.ev rfl)) ?_
         obtain ⟨t188, e193, H⟩ := bnd H
         refine w_call cf27 (Wnt.of rfl rfl b187) rfl rfl (fun w hs => law36_starts.calls hs p0 v1 h2 p1 _ e193) ?_
         rintro _ M190 l191 rfl
         replace hG := hG.mono l191
         replace h2 := h2.mono l191
         replace h9 := l191 _ _ h9
         refine w_val (Wnt.of rfl rfl b179) rfl (fun a w hf hs => r_pickT (hf.ev rfl) b187 (hf.ev rfl)) ?_
         refine wv rfl (fun a w hf hs => r_pickF (hf.ev rfl) b179 (hf.ev rfl)) ?_
         obtain rfl := some_r H
         exact w_nil fun a w' hf hs => ⟨_, (l176.trans (l183.trans l191)), ((((((hf.nil.add (hf.get _ _ rfl)).add (hf.get _ _ rfl)).add (hf.get _ _ rfl)).add (hf.get _ _ rfl)).add (hf.get _ _ rfl)).add (hf.get _ _ rfl)), hs.sel [0] (by decide) rfl⟩
        ·replace b187 := Bool.eq_false_iff.2 b187
         replace H := if_f b187 H
         refine w_not (Nwt.of rfl rfl b187) rfl ?_
         refine w_not (Nwt.of rfl rfl b187) rfl ?_
         refine w_not (Nwt.of rfl rfl b187) rfl ?_
         refine w_val (Wnt.of rfl rfl b179) rfl (fun a w hf hs => r_pickF (hf.ev rfl) b187 (hf.ev rfl)) ?_
         refine wv rfl (fun a w hf hs => r_pickF (hf.ev rfl) b179 (hf.ev rfl)) ?_
         obtain rfl := some_r H
         exact w_nil fun a w' hf hs => ⟨_, (l176.trans l183), ((((((hf.nil.add (hf.get _ _ rfl)).add (hf.get _ _ rfl)).add (hf.get _ _ rfl)).add (hf.get _ _ rfl)).add (hf.get _ _ rfl)).add (hf.get _ _ rfl)), hs.sel [0] (by decide) rfl⟩
       ·replace b186 := Bool.eq_false_iff.2 b186
        replace H := if_f b186 H
        refine w_not (Nwt.of rfl rfl b186) rfl ?_
        refine w_not (Nwt.of rfl rfl b186) rfl ?_
        refine w_val (Wnt.of rfl rfl b179) rfl (fun a w hf hs => r_pickF (hf.ev rfl) b186 (hf.ev rfl)) ?_
        refine w_val (Wnt.of rfl rfl b179) rfl (fun a w hf hs => r_move (hf.ev rfl)) ?_
        refine w_not (Nwt.of rfl rfl rfl) rfl ?_
        refine w_not (Nwt.of rfl rfl rfl) rfl ?_
        refine w_not (Nwt.of rfl rfl rfl) rfl ?_
        refine w_val (Wnt.of rfl rfl b179) rfl (fun a w hf hs => r_pickF (hf.ev rfl) rfl (hf.ev rfl)) ?_
        refine wv rfl (fun a w hf hs => r_pickF (hf.ev rfl) b179 (hf.ev rfl)) ?_
        obtain rfl := some_r H
        exact w_nil fun a w' hf hs => ⟨_, (l176.trans l183), ((((((hf.nil.add (hf.get _ _ rfl)).add (hf.get _ _ rfl)).add (hf.get _ _ rfl)).add (hf.get _ _ rfl)).add (hf.get _ _ rfl)).add (hf.get _ _ rfl)), hs.sel [0] (by decide) rfl⟩
     ·clear H1 ht_
      rintro a w' ⟨M56, l57, hf, hs⟩
      refine c_of (c := (Cx.mk Tryd.prog 106 none' M w)) ?_ hf hs
      clear hf hs
      replace hG := hG.mono l57
      replace h2 := h2.mono l57
      replace h9 := l57 _ _ h9
      refine c_if rfl (fun b79 => ?_) (fun b79 => ?_)
      ·replace H := if_t b79 H
       refine c_sr fun _ hK80 => ?_
       refine v_assign rfl rfl ?_
       refine w_nil (hK80 _ _ _ ?_)
       obtain rfl := some_r H
       exact c_ret fun a w' hf hs => hret _ (.inl rfl) a w' hf.df ⟨_, _, Res.of1 rfl (RV.t hf rfl), hs.ext, rfl⟩
      ·replace H := if_f b79 H
       refine c_skip (hK54 _ _ _ ?_)
       refine c_sr fun _ hK81 => ?_
       refine v_fa fa44_1 rfl rfl ?_
       refine wv rfl (fun a w hf hs => r_load1 ta34 (hf.ev rfl) (hs.sub _ _ h9) rfl) ?_
       refine v_fa fa36_7 rfl rfl ?_
       refine w_store (i := 0) (vs := [v1]) (A' := Backup.C ({ p3 with Keys := p0.Keys } : Backup) v1) trivial rfl rfl rfl h2.cells1 ts34 rfl (one1 h2.one) (by rw [Backup.len]; decide) (Backup.s37_1 _ _) ?_
       refine w_nil (hK81 _ _ _ ?_)
       refine c_seq fun K82 hK82 => ?_
       obtain ⟨t83, H1, H⟩ := bnd H
       have ht_ := ne_tr H hr_
       refine c_cut (fun a' w' => ∃ (M84 : Heap), HLe M56 M84 ∧ Fr 106 [(2, (.int .i64 p2)), (4, (str p4)), (5, (ptr b6 0)), (8, (ptr b10 0)), (79, (.bool t83))] a' ∧ St none' M w M84 (lt [.blk b10 (.cells (Backup.C ({ p3 with Keys := p0.Keys } : Backup) v1).toArray 36 (0, 0))]) w') ?_ ?_
       ·replace H := H1
        clear H1
        refine c_reg ?_
        refine wv rfl (fun a w hf hs => r_loadA ta36 ts36 (hf.ev rfl) (hs.blk (i := 0) rfl) (Backup.d0_38 _ _) (Backup.len _ _)) ?_
        refine wv rfl (fun a w hf hs => r_loadA ta44 ts44 (hf.ev rfl) (hs.sub _ _ h9) rfl rfl) ?_
        refine v_move rfl rfl ?_
        obtain ⟨t160, e165, H⟩ := bnd H
        refine w_call cf26 trivial rfl rfl (fun w hs => backup_Complete.calls hs ({ p3 with Keys := p0.Keys } : Backup) v1 h2 p0 v1 h2 p1 _ e165) ?_
        rintro _ M162 l163 rfl
        replace hG := hG.mono l163
        replace h2 := h2.mono l163
        replace h9 := l163 _ _ h9
        refine wv rfl (fun a w hf hs => r_not (hf.ev rfl)) ?_
        refine v_move rfl rfl ?_
        by_cases b166 : (!t160) = true
        ·replace H := if_t b166 H
         exact absurd ((some_r H).trans ht_) (by decide)
        ·replace b166 := Bool.eq_false_iff.2 b166
         replace H := if_f b166 H
         refine w_val (Wnt.of rfl rfl b166) rfl (fun a w hf hs => r_loadA ta36 ts36 (hf.ev rfl) (hs.blk (i := 0) rfl) (Backup.d0_38 _ _) (Backup.len _ _)) ?_
         refine w_val (Wnt.of rfl rfl b166) rfl (fun a w hf hs => r_loadA ta44 ts44 (hf.ev rfl) (hs.sub _ _ h9) rfl rfl) ?_
         refine w_val (Wnt.of rfl rfl b166) rfl (fun a w hf hs => r_move (hf.ev rfl)) ?_
         obtain ⟨t167, e172, H⟩ := bnd H
         refine w_call cf26 (Wnt.of rfl rfl b166) rfl rfl (fun w hs => backup_Complete.calls hs ({ p3 with Keys := p0.Keys } : Backup) v1 h2 p0 v1 h2 p2 _ e172) ?_
         rintro _ M169 l170 rfl
         replace hG := hG.mono l170
         replace h2 := h2.mono l170
         replace h9 := l170 _ _ h9
         refine w_val (Wnt.of rfl rfl b166) rfl (fun a w hf hs => r_not (hf.ev rfl)) ?_
         refine wv rfl (fun a w hf hs => r_pickF (hf.ev rfl) b166 (hf.ev rfl)) ?_
         obtain rfl := some_r H
         exact w_nil fun a w' hf hs => ⟨_, (l163.trans l170), (((((hf.nil.add (hf.get _ _ rfl)).add (hf.get _ _ rfl)).add (hf.get _ _ rfl)).add (hf.get _ _ rfl)).add (hf.get _ _ rfl)), hs.sel [0] (by decide) rfl⟩
       ·clear H1 ht_
        rintro a w' ⟨M84, l85, hf, hs⟩
        refine c_of (c := (Cx.mk Tryd.prog 106 none' M w)) ?_ hf hs
        clear hf hs
        replace hG := hG.mono l85
        replace h2 := h2.mono l85
        replace h9 := l85 _ _ h9
        refine c_if rfl (fun b99 => ?_) (fun b99 => ?_)
        ·replace H := if_t b99 H
         refine c_sr fun _ hK100 => ?_
         refine v_assign rfl rfl ?_
         refine w_nil (hK100 _ _ _ ?_)
         obtain rfl := some_r H
         exact c_ret fun a w' hf hs => hret _ (.inl rfl) a w' hf.df ⟨_, _, Res.of1 rfl (RV.t hf rfl), hs.ext, rfl⟩
        ·replace H := if_f b99 H
         refine c_skip (hK82 _ _ _ ?_)
         refine c_sr fun _ hK101 => ?_
         refine v_move rfl rfl ?_
         refine wv rfl (fun a w hf hs => r_loadA ta36 ts36 (hf.ev rfl) (hs.blk (i := 0) rfl) (Backup.d0_38 _ _) (Backup.len _ _)) ?_
         obtain ⟨t102, e107, H⟩ := bnd H
         refine w_call cf21 trivial rfl rfl (fun w hs => backup_Make.calls hs hG p4 ({ p3 with Keys := p0.Keys } : Backup) v1 h2 _ e107) ?_
         rintro _ M104 l105 rfl
         replace hG := hG.mono l105
         replace h2 := h2.mono l105
         replace h9 := l105 _ _ h9
         refine v_move rfl rfl ?_
         refine v_extract rfl rfl rfl ?_
         refine v_extract rfl rfl rfl ?_
         refine v_assign rfl rfl ?_
         refine v_assign rfl rfl ?_
         refine w_nil (hK101 _ _ _ ?_)
         refine c_seq fun K108 hK108 => ?_
         refine c_sr fun _ hK109 => ?_
         refine v_move rfl rfl ?_
         refine wv rfl (fun a w hf hs => r_neq (hf.ev rfl) (hf.ev rfl)) ?_
         refine w_nil (hK109 _ _ _ ?_)
         refine c_if rfl (fun b110 => ?_) (fun b110 => ?_)
         ·replace H := if_t b110 H
          refine c_sr fun _ hK111 => ?_
          obtain ⟨t112, e117, H⟩ := bnd H
          refine w_call cf20 trivial rfl rfl (fun w hs => law36_sanity.calls hs hG  _ (hs_law36_sanity _ e117) e117) ?_
          rintro _ M114 l115 rfl
          replace hG := hG.mono l115
          replace h2 := h2.mono l115
          replace h9 := l115 _ _ h9
          refine v_assign rfl rfl ?_
          refine w_nil (hK111 _ _ _ ?_)
          obtain rfl := some_r H
          exact c_ret fun a w' hf hs => hret _ (.inl rfl) a w' hf.df ⟨_, _, Res.of1 rfl (RV.t hf rfl), hs.ext, rfl⟩
         ·replace H := if_f b110 H
          refine c_skip (hK108 _ _ _ ?_)
          refine c_sr fun _ hK118 => ?_
          refine v_move rfl rfl ?_
          refine v_move rfl rfl ?_
          obtain ⟨t119, e124, H⟩ := bnd H
          refine w_call cf22 trivial rfl rfl (fun w hs => backup_Open.calls hs hG p4 t102.1 _ e124) ?_
          rintro v159 M121 l122 ⟨v125, hv_, h126⟩
          replace hv_ := hv_.symm
          subst hv_
          replace hG := hG.mono l122
          replace h2 := h2.mono l122
          replace h9 := l122 _ _ h9
          refine v_move rfl rfl ?_
          refine v_extract rfl rfl rfl ?_
          refine v_extract rfl rfl rfl ?_
          refine w_allocL (A := Backup.C (⟨(Vector.replicate 16 (0 : Int)), (0 : Int), (0 : Int), (0 : Int), (0 : Int), (Vector.replicate 16 (0 : Int)), ([] : List UInt8), ([] : (List Key))⟩ : Backup) (.slice none 0 0)) tz36 trivial rfl rfl ?_
          intro b127
          refine w_store (i := 1) (vs := Backup.C t119.1 v125) (A' := Backup.C t119.1 v125) trivial rfl rfl rfl rfl ts36 (Backup.len _ _) (Backup.C_one _ h126.one) (by rw [Backup.len]; decide) (splice_all _ _ (by simp [Backup.C])) ?_
          refine v_assign rfl rfl ?_
          refine w_nil (hK118 _ _ _ ?_)
          obtain ⟨t128, H1, H⟩ := bnd H
          have ht_ := (some_r H).trans hr_
          refine c_cut (fun a' w' => ∃ (M129 : Heap), HLe M121 M129 ∧ Fr 106 [(10, (.bool t128))] a' ∧ St none' M w M129 (lt [.blk b10 (.cells (Backup.C ({ p3 with Keys := p0.Keys } : Backup) v1).toArray 36 (0, 0)), .blk b127 (.cells (Backup.C t119.1 v125).toArray 36 (0, 0))]) w') ?_ ?_
          ·replace H := H1
           clear H1
           refine c_reg ?_
           obtain ⟨t145, e150, H⟩ := bnd H
           refine w_call cf20 trivial rfl rfl (fun w hs => law36_sanity.calls hs hG  _ (hs_law36_sanity _ e150) e150) ?_
           rintro _ M147 l148 rfl
           replace h2 := h2.mono l148
           replace h9 := l148 _ _ h9
           replace h126 := h126.mono l148
           refine v_move rfl rfl ?_
           by_cases b151 : t145 = true
           ·replace H := if_t b151 H
            refine w_val (Wnt.of rfl rfl b151) rfl (fun a w hf hs => r_move (hf.ev rfl)) ?_
            refine w_val (Wnt.of rfl rfl b151) rfl (fun a w hf hs => r_eql (hf.ev rfl) (hf.ev rfl)) ?_
            refine wv rfl (fun a w hf hs => r_pickT (hf.ev rfl) b151 (hf.ev rfl)) ?_
            refine v_move rfl rfl ?_
            by_cases b152 : (t119.2 == (0 : Int)) = true
            ·replace H := if_t b152 H
             refine w_val (Wnt.of rfl rfl b152) rfl (fun a w hf hs => r_loadA ta36 ts36 (hf.ev rfl) (hs.blk (i := 1) rfl) (Backup.d0_38 _ _) (Backup.len _ _)) ?_
             refine w_val (Wnt.of rfl rfl b152) rfl (fun a w hf hs => r_loadA ta44 ts44 (hf.ev rfl) (hs.sub _ _ h9) rfl rfl) ?_
             refine w_val (Wnt.of rfl rfl b152) rfl (fun a w hf hs => r_move (hf.ev rfl)) ?_
             obtain ⟨t153, e158, H⟩ := bnd H
             refine w_call cf26 (Wnt.of rfl rfl b152) rfl rfl (fun w hs => backup_Complete.calls hs t119.1 v125 h126 p0 v1 h2 p2 _ e158) ?_
             rintro _ M155 l156 rfl
             refine wv rfl (fun a w hf hs => r_pickT (hf.ev rfl) b152 (hf.ev rfl)) ?_
             refine v_assign rfl rfl ?_
             obtain rfl := some_r H
             exact w_nil fun a w' hf hs => ⟨_, (l148.trans l156), (hf.nil.add (hf.get _ _ rfl)), hs.sel [0, 1] (by decide) rfl⟩
            ·replace b152 := Bool.eq_false_iff.2 b152
             replace H := if_f b152 H
             exact absurd ((some_r H).trans ht_) (by decide)
           ·replace b151 := Bool.eq_false_iff.2 b151
            replace H := if_f b151 H
            exact absurd ((some_r H).trans ht_) (by decide)
          ·clear H1 ht_
           rintro a w' ⟨M129, l130, hf, hs⟩
           refine c_of (c := (Cx.mk Tryd.prog 106 none' M w)) ?_ hf hs
           clear hf hs
           obtain rfl := some_r H
           exact c_ret fun a w' hf hs => hret _ (.inl rfl) a w' hf.df ⟨_, _, Res.of1 rfl (RV.t hf rfl), hs.ext, rfl⟩
end Go.Cu
