/- Each Go function comes to its pure function; condition: that one is defined there. -/
import Derived.Test.YtakfalfggmgcfaaGreatDoorCFWx0
import Derived.Test.YtakfalfggmgcfaaGreatDoorCK1
import Derived.Shelf.Strings.OnBuilder
import Derived.Ground.NamesProg
import Derived.Lib.Agree
import Derived.Test.YtakfalfggmgcfaaGreatDoorProg
import Derived.KernelRfl
set_option linter.unusedVariables false
set_option linter.unusedSimpArgs false
set_option maxHeartbeats 4000000
set_option maxRecDepth 20000
namespace Go.Cu
open IntKind
open Vector (replicate)
variable {M : Heap} {w : World}
open Go.Proofs Go.Proofs.Tryz Go.Shelf
theorem backup_blobReader_peek.calls {M : Heap} {w : World} {b : Nat} {T : TypeId} {q : List Value} {x_ : backup_blobReader} {v1 : Value} (s : St (fun k => k = b) M w M (lt [.blk b (.cells (backup_blobReader.C x_ v1 ++ q).toArray T (0, 0))]) w) (h2 : RS (FI .u8) M v1 x_.reader.rest_) (r : (Backup × backup_blobReader)) (H : backup_blobReader_peek x_ = some r) :
  Calls prog 74 [ptr b 0].toArray w (PostI (fun k => k = b) M w fun M' x v => ∃ (v214 : Value), v = (.agg (Backup.C r.1 (.slice none 0 0)).toArray) ∧ RS (FI .u8) M' v214 r.2.reader.rest_ ∧ r.1.Keys = [] ∧ x = .blk b (.cells (backup_blobReader.C r.2 v214 ++ q).toArray T (0, 0))) := by
 refine enterI 69 [(0, ptr b 0)] func74 Y Y Y s ?_
 intro Q hret
 unfold backup_blobReader_peek at H
 refine c_sr fun _ k3 => w_allocL (A := Backup.C (⟨replicate 16 0, 0, 0, 0, 0, replicate 16 0, [], []⟩ : Backup) (.slice none 0 0)) tz26 trivial Y Y ?_
 intro b4
 refine wk k3 (c_sr fun _ k5 => vm Y Y (vm Y Y (wv Y (fun f s => r_nilCheck (f.ev Y)) (v_fa fa119_0 Y Y ?_))))
 obtain ⟨t6, e7, H⟩ := bnd H
 refine w_callJ (b0 := b) 0 cf131 trivial Y Y Y Y (fun w s => backup_read_string.calls (b := b) (T := T) (q := ([str x_.header] ++ q)) (x_ := x_.reader) s h2 _ e7) ?_
 rintro v10 M8 _ l9 ⟨v11, hv_, h12, rfl⟩
 subst hv_
 refine wv Y (fun f s => r_nilCheck (f.ev Y)) (v_fa fa119_1 Y Y (w_store (i := 0) (A' := (backup_blobReader.C (⟨t6.2, t6.1⟩ : backup_blobReader) v11 ++ q)) trivial Y Y Y Y ts9 Y (one1 Y) (Nat.le_of_ble_eq_true Y) Y (wk k5 (c_seq fun K13 k13 => csp 10 (by kernel_rfl) ?_))))
 intro K14 k14
 refine d_drawP [([], [0]), ([(0, 12)], []), ([(1, 13)], []), ([(2, 14)], []), ([(3, 15)], []), ([], [0]), ([(5, 17)], []), ([(6, 18)], []), ([(7, 19)], []), ([(8, 20)], [])] [vq (ptr b 0), vq (ptr b 0), vq (ptr b 2), vq (str t6.1), fun v M => ∃ (v29 : Value), v = v29 ∧ RS (FI .u8) M v29 (bytesI t6.1), vq (ptr b 0), vq (ptr b 0), vq (ptr b 0), vq (ptr b 1), vq (.int .i64 t6.2.e)] (by kernel_rfl) (by kernel_rfl) ?_ (aT ?_ (aT ?_ (aT ?_ (aT ?_ (aT ?_ (aT ?_ (aT ?_ (aT ?_ (aT ?_ (aT ?_ AllT.nil)))))))))) ?_
 ·exact (mC (mC (mC (mC (MonoA.cons (fun _ _ _ hM h => by obtain ⟨v29, e_, q0⟩ := h; exact ⟨v29, e_, q0.mono hM⟩) (mC (mC (mC (mC (mC MonoA.nil))))))))))
 ·intro a w' _ _ hd s
  exact pv (hd.fr.add (hd.base 0 _ Y Y)) s Y (fun f s => r_move (f.ev Y)) Y
 ·intro a w' _ _ hd s
  exact pv (hd.fr.add (hd.val 0 12 _ Y Y)) s Y (fun f s => r_nilCheck (f.ev Y)) Y
 ·intro a w' _ _ hd s
  exact pv (hd.fr.add (hd.val 1 13 _ Y Y)) s Y (fun f s => r_fa fa119_1 (f.ev Y)) Y
 ·intro a w' _ _ hd s
  exact pv (hd.fr.add (hd.val 2 14 _ Y Y)) s Y (fun f s => r_load1 ta9 (f.ev Y) (s.blk (i := 0) Y) Y) Y
 ·intro a w' _ _ hd s
  have e28 := hd.val 3 15 _ Y Y
  refine OP.ofW (hd.fr.add e28) s Y (w_s2b underlying9 underlying91 underlying5 trivial Y Y ?_)
  intro v29 M30 l31 h32
  exact w_nil fun a w' f s => ⟨Y, f.df, _, l31, s, ⟨v29, f.get _ _ Y, h32⟩⟩
 ·intro a w' _ _ hd s
  exact pv (hd.fr.add (hd.base 0 _ Y Y)) s Y (fun f s => r_move (f.ev Y)) Y
 ·intro a w' _ _ hd s
  exact pv (hd.fr.add (hd.val 5 17 _ Y Y)) s Y (fun f s => r_nilCheck (f.ev Y)) Y
 ·intro a w' _ _ hd s
  exact pv (hd.fr.add (hd.val 6 18 _ Y Y)) s Y (fun f s => r_fa fa119_0 (f.ev Y)) Y
 ·intro a w' _ _ hd s
  exact pv (hd.fr.add (hd.val 7 19 _ Y Y)) s Y (fun f s => r_fa fa117_1 (f.ev Y)) Y
 ·intro a w' _ _ hd s
  exact pv (hd.fr.add (hd.val 8 20 _ Y Y)) s Y (fun f s => r_load1 ta31 (f.ev Y) (s.blk (i := 0) Y) Y) Y
 intro a w' M47 l48 hdf hsz hb hv s
 replace h12 := h12.mono l48
 obtain ⟨v49, e51, h50⟩ := hv 4 16 _ Y Y
 have e52 := hv 9 21 _ Y Y
 refine n_of (c := (Cx.mk prog 69 (fun k => k = b) M w)) ?_ (((((Fr.start hdf hsz).add e52).add e51).add (hb 2 _ Y Y)).add (hb 0 _ Y Y)) s
 refine ni k14 (wv Y (fun f s => r_build (is := [0, 1]) (xs := [.tmp 16, .tmp 21]) (A := backup_reader.C (⟨bytesI t6.1, t6.2.e⟩ : backup_reader) v49) Y (f.evs Y) (built_of (pl := [(0, 1), (1, 1)]) (A0 := backup_reader.C (⟨[], 0⟩ : backup_reader) (.slice none 0 0)) tz117 underlying117 (by kernel_rfl) Y (.cons (vs := [v49]) (B := backup_reader.C (⟨bytesI t6.1, 0⟩ : backup_reader) v49) Y (h50.cells1) Y (by rw [backup_reader.len]; decide) Y (.cons (vs := [.int .i64 t6.2.e]) (B := backup_reader.C (⟨bytesI t6.1, t6.2.e⟩ : backup_reader) v49) Y Y Y (by rw [backup_reader.len]; decide) Y .nil)))) (w_boxL trivial Y Y Y ?_))
 intro b53
 refine va Y Y (wk k13 (c_sr fun _ k54 => vm Y Y ?_))
 obtain ⟨t55, e56, H⟩ := bnd H
 refine w_callJ (b0 := b53) 2 cf133 trivial Y Y Y Y (fun w s => backup_read_Digest.calls (b := b53) (T := 117) (q := []) (x_ := (⟨bytesI t6.1, t6.2.e⟩ : backup_reader)) s h50 _ e56) ?_
 rintro v59 M57 _ l58 ⟨v60, hv_, h61, rfl⟩
 subst hv_
 replace h12 := h12.mono l58
 refine v_fa fa26_0 Y Y (w_store (i := 1) (A' := Backup.C (⟨t55.1, 0, 0, 0, 0, replicate 16 0, [], []⟩ : Backup) (.slice none 0 0)) trivial Y Y Y Y ts23 (vI_len _) (vI_one _) (by rw [Backup.len]; decide) (Backup.s0_16 _ _) (wk k54 (c_seq fun K62 k62 => c_sr fun _ k63 => vm Y Y ?_)))
 obtain ⟨t64, e65, H⟩ := bnd H
 refine w_callJ (b0 := b53) 2 cf135 trivial Y Y Y Y (fun w s => backup_read_LLint.calls (b := b53) (T := 117) (q := []) (x_ := t55.2) s h61 _ e65) ?_
 rintro v68 M66 _ l67 ⟨v69, v71, hv_, h70, h72, rfl⟩
 replace hv_ := hv_.symm
 subst hv_
 replace h12 := h12.mono l67
 refine va Y Y (wk k63 (c_sr fun _ k73 => vm Y Y (vm Y Y (wv Y (fun f s => r_lenR underlying70 h70 (f.ev Y)) (wv Y (fun f s => r_eql (f.ev Y) (f.ev Y)) ?_)))))
 obtain ⟨t74, e75, H⟩ := bnd H
 refine w_callJ (b0 := b53) 2 cf82 trivial Y Y Y Y (fun w s => backup_reader_check.calls (b := b53) (T := 117) (q := []) (x_ := t64.2) s h72 ((t64.1.length : Int) == 4) 6 _ e75) ?_
 rintro v78 M76 _ l77 ⟨v79, hv_, h80, rfl⟩
 subst hv_
 replace h12 := h12.mono l77
 replace h70 := h70.mono l77
 refine wk k73 (c_if Y (fun b81 => ?_) (fun b81 => ?_))
 ·replace H := if_t b81 H
  refine csp 18 (by kernel_rfl) ?_
  intro K82 k82
  obtain ⟨g88, H⟩ := grd_s H
  obtain ⟨g97, H⟩ := grd_s H
  obtain ⟨g106, H⟩ := grd_s H
  obtain ⟨g115, H⟩ := grd_s H
  refine d_drawW [[], [13, 15, 17], []] [⟨[], [4], [], none⟩, ⟨[(0, 34)], [], [], none⟩, ⟨[(1, 35)], [], [], none⟩, ⟨[], [4], [], none⟩, ⟨[(3, 37)], [], [], none⟩, ⟨[(4, 38)], [], [], none⟩, ⟨[], [4], [], none⟩, ⟨[(6, 40)], [], [], none⟩, ⟨[(7, 41)], [], [], none⟩, ⟨[], [4], [], none⟩, ⟨[(9, 43)], [], [], none⟩, ⟨[(10, 44)], [], [], none⟩, ⟨[], [2], [], none⟩, ⟨[(12, 46), (2, 36)], [], [(1, 0)], some (1, 0)⟩, ⟨[], [2], [], none⟩, ⟨[(14, 47), (5, 39)], [], [(1, 1)], some (1, 1)⟩, ⟨[], [2], [], none⟩, ⟨[(16, 48), (8, 42)], [], [(1, 2)], some (1, 2)⟩] [vq v69, vq (eP v69 0 1 0), vq (.int .i64 (rd t64.1 0)), vq v69, vq (eP v69 1 1 0), vq (.int .i64 (rd t64.1 1)), vq v69, vq (eP v69 2 1 0), vq (.int .i64 (rd t64.1 2)), vq v69, vq (eP v69 3 1 0), vq (.int .i64 (rd t64.1 3)), vq (ptr b4 16), fun _ _ => True, vq (ptr b4 17), fun _ _ => True, vq (ptr b4 18), fun _ _ => True] [[fun y M => y = .blk b (.cells (backup_blobReader.C (⟨t6.2, t6.1⟩ : backup_blobReader) v11 ++ q).toArray T (0, 0))], [fun y M => y = bk b4 (Backup.C (⟨t55.1, 0, 0, 0, 0, replicate 16 0, [], []⟩ : Backup) (.slice none 0 0)) 26, fun y M => y = bk b4 (Backup.C (⟨t55.1, rd t64.1 0, 0, 0, 0, replicate 16 0, [], []⟩ : Backup) (.slice none 0 0)) 26, fun y M => y = bk b4 (Backup.C (⟨t55.1, rd t64.1 0, rd t64.1 1, 0, 0, replicate 16 0, [], []⟩ : Backup) (.slice none 0 0)) 26, fun y M => y = bk b4 (Backup.C (⟨t55.1, rd t64.1 0, rd t64.1 1, rd t64.1 2, 0, replicate 16 0, [], []⟩ : Backup) (.slice none 0 0)) 26], [fun y M => y = bk b53 (backup_reader.C t74.2 v79) 117]] (by kernel_rfl) (by kernel_rfl) ?_ ?_ Y ?_ (AllW.cons ?_ (AllW.cons ?_ (AllW.cons ?_ (AllW.cons ?_ (AllW.cons ?_ (AllW.cons ?_ (AllW.cons ?_ (AllW.cons ?_ (AllW.cons ?_ (AllW.cons ?_ (AllW.cons ?_ (AllW.cons ?_ (AllW.cons ?_ (AllW.cons ?_ (AllW.cons ?_ (AllW.cons ?_ (AllW.cons ?_ (AllW.cons ?_ AllW.nil)))))))))))))))))) ?_
  ·exact (mC (mC (mC (mC (mC (mC (mC (mC (mC (mC (mC (mC (mC (mC (mC (mC (mC (mC MonoA.nil))))))))))))))))))
  ·exact (MonoK.cons (mono_cons (fun _ _ _ _ h => h) mono_nil) (MonoK.cons (mono_cons (fun _ _ _ _ h => h) (mono_cons (fun _ _ _ _ h => h) (mono_cons (fun _ _ _ _ h => h) (mono_cons (fun _ _ _ _ h => h) mono_nil)))) (MonoK.cons (mono_cons (fun _ _ _ _ h => h) mono_nil) MonoK.nil)))
  ·exact (All0.cons Y (All0.cons Y (All0.cons Y All0.nil)))
  ·intro a w' _ _ l84 hL hd s
   replace h70 := h70.mono l84
   obtain ⟨x0_, L0_, rfl, hL0⟩ := lenS hL
   obtain ⟨x1_, L1_, rfl, hL1⟩ := lenS hL0
   obtain ⟨x2_, L2_, rfl, hL2⟩ := lenS hL1
   obtain rfl := len0 hL2
   exact pw (hd.fr.add (hd.base 4 _ Y Y)) s Y (fun f s => r_move (f.ev Y)) Y Y
  ·intro a w' _ _ l86 hL hd s
   obtain ⟨x0_, L0_, rfl, hL0⟩ := lenS hL
   obtain ⟨x1_, L1_, rfl, hL1⟩ := lenS hL0
   obtain ⟨x2_, L2_, rfl, hL2⟩ := lenS hL1
   obtain rfl := len0 hL2
   exact pw (hd.fr.add (hd.val 0 34 _ Y Y)) s Y (fun f s => r_iR underlying70 ts3 (h70.mono l86) (f.ev Y) (f.ev Y) g88.1 g88.2) Y Y
  ·intro a w' _ _ l90 hL hd s
   obtain ⟨x0_, L0_, rfl, hL0⟩ := lenS hL
   obtain ⟨x1_, L1_, rfl, hL1⟩ := lenS hL0
   obtain ⟨x2_, L2_, rfl, hL2⟩ := lenS hL1
   obtain rfl := len0 hL2
   exact pw (hd.fr.add (hd.val 1 35 _ Y Y)) s Y (fun f s => r_loadE1 ta3 (h70.mono l90) s.sub g88.1 g88.2 (f.ev Y) Y) Y Y
  ·intro a w' _ _ l93 hL hd s
   replace h70 := h70.mono l93
   obtain ⟨x0_, L0_, rfl, hL0⟩ := lenS hL
   obtain ⟨x1_, L1_, rfl, hL1⟩ := lenS hL0
   obtain ⟨x2_, L2_, rfl, hL2⟩ := lenS hL1
   obtain rfl := len0 hL2
   exact pw (hd.fr.add (hd.base 4 _ Y Y)) s Y (fun f s => r_move (f.ev Y)) Y Y
  ·intro a w' _ _ l95 hL hd s
   obtain ⟨x0_, L0_, rfl, hL0⟩ := lenS hL
   obtain ⟨x1_, L1_, rfl, hL1⟩ := lenS hL0
   obtain ⟨x2_, L2_, rfl, hL2⟩ := lenS hL1
   obtain rfl := len0 hL2
   exact pw (hd.fr.add (hd.val 3 37 _ Y Y)) s Y (fun f s => r_iR underlying70 ts3 (h70.mono l95) (f.ev Y) (f.ev Y) g97.1 g97.2) Y Y
  ·intro a w' _ _ l99 hL hd s
   obtain ⟨x0_, L0_, rfl, hL0⟩ := lenS hL
   obtain ⟨x1_, L1_, rfl, hL1⟩ := lenS hL0
   obtain ⟨x2_, L2_, rfl, hL2⟩ := lenS hL1
   obtain rfl := len0 hL2
   exact pw (hd.fr.add (hd.val 4 38 _ Y Y)) s Y (fun f s => r_loadE1 ta3 (h70.mono l99) s.sub g97.1 g97.2 (f.ev Y) Y) Y Y
  ·intro a w' _ _ l102 hL hd s
   replace h70 := h70.mono l102
   obtain ⟨x0_, L0_, rfl, hL0⟩ := lenS hL
   obtain ⟨x1_, L1_, rfl, hL1⟩ := lenS hL0
   obtain ⟨x2_, L2_, rfl, hL2⟩ := lenS hL1
   obtain rfl := len0 hL2
   exact pw (hd.fr.add (hd.base 4 _ Y Y)) s Y (fun f s => r_move (f.ev Y)) Y Y
  ·intro a w' _ _ l104 hL hd s
   obtain ⟨x0_, L0_, rfl, hL0⟩ := lenS hL
   obtain ⟨x1_, L1_, rfl, hL1⟩ := lenS hL0
   obtain ⟨x2_, L2_, rfl, hL2⟩ := lenS hL1
   obtain rfl := len0 hL2
   exact pw (hd.fr.add (hd.val 6 40 _ Y Y)) s Y (fun f s => r_iR underlying70 ts3 (h70.mono l104) (f.ev Y) (f.ev Y) g106.1 g106.2) Y Y
  ·intro a w' _ _ l108 hL hd s
   obtain ⟨x0_, L0_, rfl, hL0⟩ := lenS hL
   obtain ⟨x1_, L1_, rfl, hL1⟩ := lenS hL0
   obtain ⟨x2_, L2_, rfl, hL2⟩ := lenS hL1
   obtain rfl := len0 hL2
   exact pw (hd.fr.add (hd.val 7 41 _ Y Y)) s Y (fun f s => r_loadE1 ta3 (h70.mono l108) s.sub g106.1 g106.2 (f.ev Y) Y) Y Y
  ·intro a w' _ _ l111 hL hd s
   replace h70 := h70.mono l111
   obtain ⟨x0_, L0_, rfl, hL0⟩ := lenS hL
   obtain ⟨x1_, L1_, rfl, hL1⟩ := lenS hL0
   obtain ⟨x2_, L2_, rfl, hL2⟩ := lenS hL1
   obtain rfl := len0 hL2
   exact pw (hd.fr.add (hd.base 4 _ Y Y)) s Y (fun f s => r_move (f.ev Y)) Y Y
  ·intro a w' _ _ l113 hL hd s
   obtain ⟨x0_, L0_, rfl, hL0⟩ := lenS hL
   obtain ⟨x1_, L1_, rfl, hL1⟩ := lenS hL0
   obtain ⟨x2_, L2_, rfl, hL2⟩ := lenS hL1
   obtain rfl := len0 hL2
   exact pw (hd.fr.add (hd.val 9 43 _ Y Y)) s Y (fun f s => r_iR underlying70 ts3 (h70.mono l113) (f.ev Y) (f.ev Y) g115.1 g115.2) Y Y
  ·intro a w' _ _ l117 hL hd s
   obtain ⟨x0_, L0_, rfl, hL0⟩ := lenS hL
   obtain ⟨x1_, L1_, rfl, hL1⟩ := lenS hL0
   obtain ⟨x2_, L2_, rfl, hL2⟩ := lenS hL1
   obtain rfl := len0 hL2
   exact pw (hd.fr.add (hd.val 10 44 _ Y Y)) s Y (fun f s => r_loadE1 ta3 (h70.mono l117) s.sub g115.1 g115.2 (f.ev Y) Y) Y Y
  ·intro a w' _ _ _ hL hd s
   obtain ⟨x0_, L0_, rfl, hL0⟩ := lenS hL
   obtain ⟨x1_, L1_, rfl, hL1⟩ := lenS hL0
   obtain ⟨x2_, L2_, rfl, hL2⟩ := lenS hL1
   obtain rfl := len0 hL2
   exact pw (hd.fr.add (hd.base 2 _ Y Y)) s Y (fun f s => r_fa fa26_1 (f.ev Y)) Y Y
  ·intro a w' _ _ _ hL hd s
   have e123 := hd.val 12 46 _ Y Y
   have e124 := hd.val 2 36 _ Y Y
   obtain ⟨x0_, L0_, rfl, hL0⟩ := lenS hL
   obtain ⟨x1_, L1_, rfl, hL1⟩ := lenS hL0
   obtain ⟨x2_, L2_, rfl, hL2⟩ := lenS hL1
   obtain rfl := len0 hL2
   obtain ⟨_, ⟨⟩, rfl⟩ := hd.item 1 0 _ Y Y
   exact OP.ofW ((hd.fr.add e124).add e123) s Y (w_store (i := 1) (A' := Backup.C (⟨t55.1, rd t64.1 0, 0, 0, 0, replicate 16 0, [], []⟩ : Backup) (.slice none 0 0)) trivial Y Y Y Y ts3 Y (one1 Y) (by rw [Backup.len]; decide) (Backup.s16_1 _ _) (w_nil fun a w' f s => ⟨Y, f.df, _, _, HLe.refl _, s, trivial, ⟨bk b4 (Backup.C (⟨t55.1, rd t64.1 0, 0, 0, 0, replicate 16 0, [], []⟩ : Backup) (.slice none 0 0)) 26, Y, of_some (q := fun y M => y = bk b4 (Backup.C (⟨t55.1, rd t64.1 0, 0, 0, 0, replicate 16 0, [], []⟩ : Backup) (.slice none 0 0)) 26) Y⟩⟩))
  ·intro a w' _ _ _ hL hd s
   obtain ⟨x0_, L0_, rfl, hL0⟩ := lenS hL
   obtain ⟨x1_, L1_, rfl, hL1⟩ := lenS hL0
   obtain ⟨x2_, L2_, rfl, hL2⟩ := lenS hL1
   obtain rfl := len0 hL2
   exact pw (hd.fr.add (hd.base 2 _ Y Y)) s Y (fun f s => r_fa fa26_2 (f.ev Y)) Y Y
  ·intro a w' _ _ _ hL hd s
   have e129 := hd.val 14 47 _ Y Y
   have e130 := hd.val 5 39 _ Y Y
   obtain ⟨x0_, L0_, rfl, hL0⟩ := lenS hL
   obtain ⟨x1_, L1_, rfl, hL1⟩ := lenS hL0
   obtain ⟨x2_, L2_, rfl, hL2⟩ := lenS hL1
   obtain rfl := len0 hL2
   obtain ⟨_, ⟨⟩, rfl⟩ := hd.item 1 1 _ Y Y
   exact OP.ofW ((hd.fr.add e130).add e129) s Y (w_store (i := 1) (A' := Backup.C (⟨t55.1, rd t64.1 0, rd t64.1 1, 0, 0, replicate 16 0, [], []⟩ : Backup) (.slice none 0 0)) trivial Y Y Y Y ts3 Y (one1 Y) (by rw [Backup.len]; decide) (Backup.s17_1 _ _) (w_nil fun a w' f s => ⟨Y, f.df, _, _, HLe.refl _, s, trivial, ⟨bk b4 (Backup.C (⟨t55.1, rd t64.1 0, rd t64.1 1, 0, 0, replicate 16 0, [], []⟩ : Backup) (.slice none 0 0)) 26, Y, of_some (q := fun y M => y = bk b4 (Backup.C (⟨t55.1, rd t64.1 0, rd t64.1 1, 0, 0, replicate 16 0, [], []⟩ : Backup) (.slice none 0 0)) 26) Y⟩⟩))
  ·intro a w' _ _ _ hL hd s
   obtain ⟨x0_, L0_, rfl, hL0⟩ := lenS hL
   obtain ⟨x1_, L1_, rfl, hL1⟩ := lenS hL0
   obtain ⟨x2_, L2_, rfl, hL2⟩ := lenS hL1
   obtain rfl := len0 hL2
   exact pw (hd.fr.add (hd.base 2 _ Y Y)) s Y (fun f s => r_fa fa26_3 (f.ev Y)) Y Y
  ·intro a w' _ _ _ hL hd s
   have e135 := hd.val 16 48 _ Y Y
   have e136 := hd.val 8 42 _ Y Y
   obtain ⟨x0_, L0_, rfl, hL0⟩ := lenS hL
   obtain ⟨x1_, L1_, rfl, hL1⟩ := lenS hL0
   obtain ⟨x2_, L2_, rfl, hL2⟩ := lenS hL1
   obtain rfl := len0 hL2
   obtain ⟨_, ⟨⟩, rfl⟩ := hd.item 1 2 _ Y Y
   exact OP.ofW ((hd.fr.add e136).add e135) s Y (w_store (i := 1) (A' := Backup.C (⟨t55.1, rd t64.1 0, rd t64.1 1, rd t64.1 2, 0, replicate 16 0, [], []⟩ : Backup) (.slice none 0 0)) trivial Y Y Y Y ts3 Y (one1 Y) (by rw [Backup.len]; decide) (Backup.s18_1 _ _) (w_nil fun a w' f s => ⟨Y, f.df, _, _, HLe.refl _, s, trivial, ⟨bk b4 (Backup.C (⟨t55.1, rd t64.1 0, rd t64.1 1, rd t64.1 2, 0, replicate 16 0, [], []⟩ : Backup) (.slice none 0 0)) 26, Y, of_some (q := fun y M => y = bk b4 (Backup.C (⟨t55.1, rd t64.1 0, rd t64.1 1, rd t64.1 2, 0, replicate 16 0, [], []⟩ : Backup) (.slice none 0 0)) 26) Y⟩⟩))
  intro a w' M137 L_ l138 hL hdf hsz hb hv hi s
  replace h12 := h12.mono l138
  replace h80 := h80.mono l138
  have e139 := hv 11 45 _ Y Y
  obtain ⟨x0_, L0_, rfl, hL0⟩ := lenS hL
  obtain ⟨x1_, L1_, rfl, hL1⟩ := lenS hL0
  obtain ⟨x2_, L2_, rfl, hL2⟩ := lenS hL1
  obtain rfl := len0 hL2
  obtain ⟨_, hy, rfl⟩ := hi 0 _ Y
  obtain rfl := Option.some.inj hy
  obtain ⟨_, hy, rfl⟩ := hi 1 _ Y
  obtain rfl := Option.some.inj hy
  obtain ⟨_, hy, rfl⟩ := hi 2 _ Y
  obtain rfl := Option.some.inj hy
  refine n_of (c := (Cx.mk prog 69 (fun k => k = b) M w)) ?_ (((((Fr.start hdf hsz).add e139).add (hb 3 _ Y Y)).add (hb 2 _ Y Y)).add (hb 0 _ Y Y)) s
  refine ni k82 (v_fa fa26_4 Y Y (w_store (i := 1) (A' := Backup.C (⟨t55.1, rd t64.1 0, rd t64.1 1, rd t64.1 2, rd t64.1 3, replicate 16 0, [], []⟩ : Backup) (.slice none 0 0)) trivial Y Y Y Y ts3 Y (one1 Y) (by rw [Backup.len]; decide) (Backup.s19_1 _ _) (wk k62 (c_sr fun _ k140 => vm Y Y ?_))))
  obtain ⟨t141, e142, H⟩ := bnd H
  refine w_callJ (b0 := b53) 2 cf133 trivial Y Y Y Y (fun w s => backup_read_Digest.calls (b := b53) (T := 117) (q := []) (x_ := t74.2) s h80 _ e142) ?_
  rintro v145 M143 _ l144 ⟨v146, hv_, h147, rfl⟩
  subst hv_
  replace h12 := h12.mono l144
  replace h80 := h80.mono l144
  refine v_fa fa26_5 Y Y (w_store (i := 1) (A' := Backup.C (⟨t55.1, rd t64.1 0, rd t64.1 1, rd t64.1 2, rd t64.1 3, t141.1, [], []⟩ : Backup) (.slice none 0 0)) trivial Y Y Y Y ts23 (vI_len _) (vI_one _) (by rw [Backup.len]; decide) (Backup.s20_16 _ _) (wk k140 (c_sr fun _ k148 => vm Y Y ?_)))
  obtain ⟨t149, e150, H⟩ := bnd H
  refine w_callJ (b0 := b53) 2 cf137 trivial Y Y Y Y (fun w s => backup_whole_string.calls (b := b53) (T := 117) (q := []) (x_ := t141.2) s h147 _ e150) ?_
  rintro v153 M151 _ l152 ⟨v154, hv_, h155, rfl⟩
  subst hv_
  replace h12 := h12.mono l152
  replace h80 := h80.mono l152
  refine v_fa fa26_6 Y Y (w_store (i := 1) (A' := Backup.C (⟨t55.1, rd t64.1 0, rd t64.1 1, rd t64.1 2, rd t64.1 3, t141.1, t149.1, []⟩ : Backup) (.slice none 0 0)) trivial Y Y Y Y ts9 Y (one1 Y) (by rw [Backup.len]; decide) (Backup.s36_1 _ _) (wk k148 (c_sr fun _ k156 => vm Y Y (wv Y (fun f s => r_loadA ta26 ts26 (f.ev Y) (s.blk (i := 1) Y) (Backup.d0_38 _ _) (Backup.len _ _)) ?_))))
  obtain ⟨t157, e162, H⟩ := bnd H
  refine w_call cf19 trivial Y Y (fun w s => backup_Valid.calls s (⟨t55.1, rd t64.1 0, rd t64.1 1, rd t64.1 2, rd t64.1 3, t141.1, t149.1, []⟩ : Backup) (.slice none 0 0) RS.none _ e162) ?_
  rintro _ M159 l160 rfl
  replace h12 := h12.mono l160
  replace h80 := h80.mono l160
  replace h155 := h155.mono l160
  obtain ⟨t163, e164, H⟩ := bnd H
  refine w_callJ (b0 := b53) 2 cf82 trivial Y Y Y Y (fun w s => backup_reader_check.calls (b := b53) (T := 117) (q := []) (x_ := t149.2) s h155 t157 6 _ e164) ?_
  rintro v167 M165 _ l166 ⟨v168, hv_, h169, rfl⟩
  subst hv_
  replace h12 := h12.mono l166
  replace h80 := h80.mono l166
  refine wk k156 (c_sr fun _ k170 => vm Y Y (vm Y Y (wv Y (fun f s => r_nilCheck (f.ev Y)) (v_fa fa117_1 Y Y (wv Y (fun f s => r_load1 ta31 (f.ev Y) (s.blk (i := 2) Y) Y) (wv Y (fun f s => r_nilCheck (f.ev Y)) (v_fa fa119_0 Y Y (v_fa fa117_1 Y Y (w_store (i := 0) (A' := (backup_blobReader.C (⟨({ t6.2 with e := t163.2.e } : backup_reader), t6.1⟩ : backup_blobReader) v11 ++ q)) trivial Y Y Y Y ts31 Y (one1 Y) (Nat.le_of_ble_eq_true Y) Y (wk k170 (c_sr fun _ k171 => wv Y (fun f s => r_loadA ta26 ts26 (f.ev Y) (s.blk (i := 1) Y) (Backup.d0_38 _ _) (Backup.len _ _)) ?_)))))))))))
  obtain ⟨z172, e174, H⟩ := bnd H
  have e173 := some_r e174
  refine w_store (i := 1) (A' := Backup.C z172 (.slice none 0 0)) trivial Y Y Y Y ts26 (Backup.len _ _) (Backup.C_one _ Y) (by rw [Backup.len]; decide) (by rw [← e173]; exact (splice_all _ _ (by simp [Backup.C]))) ?_
  have h175 : RS Key.F M165 (.slice none 0 0) z172.Keys := by rw [← e173]; exact RS.none
  refine wk k171 ?_
  obtain rfl := some_r H
  exact cx hret Y fun f s => ⟨_, _, _, Res.of1 Y ⟨_, f.get _ _ Y, run_loadA (s.blk (i := 1) Y) ta26 ts26 (Backup.d0_38 _ _) (Backup.len _ _)⟩, s.sel [0] (by decide) Y, ⟨_, Y, h12, (by first | rfl | exact rs_nil (by assumption)), Y⟩⟩
 replace H := if_f b81 H
 refine cs k62 (c_sr fun _ k176 => vm Y Y ?_)
 obtain ⟨t177, e178, H⟩ := bnd H
 refine w_callJ (b0 := b53) 2 cf133 trivial Y Y Y Y (fun w s => backup_read_Digest.calls (b := b53) (T := 117) (q := []) (x_ := t74.2) s h80 _ e178) ?_
 rintro v181 M179 _ l180 ⟨v182, hv_, h183, rfl⟩
 subst hv_
 replace h12 := h12.mono l180
 refine v_fa fa26_5 Y Y (w_store (i := 1) (A' := Backup.C (⟨t55.1, 0, 0, 0, 0, t177.1, [], []⟩ : Backup) (.slice none 0 0)) trivial Y Y Y Y ts23 (vI_len _) (vI_one _) (by rw [Backup.len]; decide) (Backup.s20_16 _ _) (wk k176 (c_sr fun _ k184 => vm Y Y ?_)))
 obtain ⟨t185, e186, H⟩ := bnd H
 refine w_callJ (b0 := b53) 2 cf137 trivial Y Y Y Y (fun w s => backup_whole_string.calls (b := b53) (T := 117) (q := []) (x_ := t177.2) s h183 _ e186) ?_
 rintro v189 M187 _ l188 ⟨v190, hv_, h191, rfl⟩
 subst hv_
 replace h12 := h12.mono l188
 refine v_fa fa26_6 Y Y (w_store (i := 1) (A' := Backup.C (⟨t55.1, 0, 0, 0, 0, t177.1, t185.1, []⟩ : Backup) (.slice none 0 0)) trivial Y Y Y Y ts9 Y (one1 Y) (by rw [Backup.len]; decide) (Backup.s36_1 _ _) (wk k184 (c_sr fun _ k192 => vm Y Y (wv Y (fun f s => r_loadA ta26 ts26 (f.ev Y) (s.blk (i := 1) Y) (Backup.d0_38 _ _) (Backup.len _ _)) ?_))))
 obtain ⟨t193, e198, H⟩ := bnd H
 refine w_call cf19 trivial Y Y (fun w s => backup_Valid.calls s (⟨t55.1, 0, 0, 0, 0, t177.1, t185.1, []⟩ : Backup) (.slice none 0 0) RS.none _ e198) ?_
 rintro _ M195 l196 rfl
 replace h12 := h12.mono l196
 replace h191 := h191.mono l196
 obtain ⟨t199, e200, H⟩ := bnd H
 refine w_callJ (b0 := b53) 2 cf82 trivial Y Y Y Y (fun w s => backup_reader_check.calls (b := b53) (T := 117) (q := []) (x_ := t185.2) s h191 t193 6 _ e200) ?_
 rintro v203 M201 _ l202 ⟨v204, hv_, h205, rfl⟩
 subst hv_
 replace h12 := h12.mono l202
 refine wk k192 (c_sr fun _ k206 => vm Y Y (vm Y Y (wv Y (fun f s => r_nilCheck (f.ev Y)) (v_fa fa117_1 Y Y (wv Y (fun f s => r_load1 ta31 (f.ev Y) (s.blk (i := 2) Y) Y) (wv Y (fun f s => r_nilCheck (f.ev Y)) (v_fa fa119_0 Y Y (v_fa fa117_1 Y Y (w_store (i := 0) (A' := (backup_blobReader.C (⟨({ t6.2 with e := t199.2.e } : backup_reader), t6.1⟩ : backup_blobReader) v11 ++ q)) trivial Y Y Y Y ts31 Y (one1 Y) (Nat.le_of_ble_eq_true Y) Y (wk k206 (c_sr fun _ k207 => wv Y (fun f s => r_loadA ta26 ts26 (f.ev Y) (s.blk (i := 1) Y) (Backup.d0_38 _ _) (Backup.len _ _)) ?_)))))))))))
 obtain ⟨z208, e210, H⟩ := bnd H
 have e209 := some_r e210
 refine w_store (i := 1) (A' := Backup.C z208 (.slice none 0 0)) trivial Y Y Y Y ts26 (Backup.len _ _) (Backup.C_one _ Y) (by rw [Backup.len]; decide) (by rw [← e209]; exact (splice_all _ _ (by simp [Backup.C]))) ?_
 have h211 : RS Key.F M201 (.slice none 0 0) z208.Keys := by rw [← e209]; exact RS.none
 refine wk k207 ?_
 obtain rfl := some_r H
 exact cx hret Y fun f s => ⟨_, _, _, Res.of1 Y ⟨_, f.get _ _ Y, run_loadA (s.blk (i := 1) Y) ta26 ts26 (Backup.d0_38 _ _) (Backup.len _ _)⟩, s.sel [0] (by decide) Y, ⟨_, Y, h12, (by first | rfl | exact rs_nil (by assumption)), Y⟩⟩
theorem seal_Open.calls (hM : Sub M w) (hG : Gl M) (p0 : (List UInt8)) (p1 : (List UInt8)) (p2 : (List UInt8)) (r : ((List UInt8) × Int)) (H : seal_Open p0 p1 p2 = some r) :
  Calls prog 78 [str p0, str p1, str p2].toArray w (Post M w fun M' v => v = .tuple #[str r.1, .int .i64 r.2]) := by
 refine enter 73 [(0, str p0), (1, str p1), (2, str p2)] func78 Y Y Y hM ?_
 intro Q hret
 unfold seal_Open at H
 refine c_sr fun _ k1 => va Y Y (va Y Y (wk k1 (c_sr fun _ k2 => vm Y Y ?_)))
 obtain ⟨t3, e8, H⟩ := bnd H
 refine w_call cf110 trivial Y Y (fun w s => seal_Keys.calls s hG p0 _ e8) ?_
 rintro _ M5 l6 rfl
 replace hG := hG.mono l6
 refine vm Y Y (v_extract Y Y Y (v_extract Y Y Y (v_extract Y Y Y (va Y Y (va Y Y (va Y Y (wk k2 (c_seq fun K9 k9 => c_block (c_sr fun _ k10 => vm Y Y (wv Y (fun f s => r_neq (f.ev Y) (f.ev Y)) (va Y Y (wk k10 (c_if Y (fun b11 => ?_) (fun b11 => ?_))))))))))))))
 ·replace H := if_t b11 H
  refine c_sr fun _ k12 => vm Y Y (va Y Y (va Y Y (wk k12 ?_)))
  obtain rfl := some_r H
  exact cx2 hret Y Y Y Y Y
 replace H := if_f b11 H
 obtain ⟨t13, H1, H⟩ := bnd H
 refine c_cut (fun a' w' => ∃ (M14 : Heap), HLe M5 M14 ∧ Fr 73 [(1, str p1), (2, str p2), (8, str t3.1), (9, str t3.2.1), (24, .bool t13)] a' ∧ St none' M w M14 (lt []) w') ?_ ?_
 ·replace H := H1
  refine c_reg (vm Y Y (wv Y (fun f s => r_slen underlying9 (f.ev Y)) (wv Y (fun f s => r_gtr (f.ev Y) (f.ev Y)) (vm Y Y ?_))))
  by_cases b16 : (decide ((1048576 : Int) < (p1.length : Int))) = true
  ·replace H := if_t b16 H
   refine wq b16 Y Y Y (wq b16 Y Y Y (wq b16 Y Y Y (wv Y (fun f s => r_pickT (f.ev Y) b16 (f.ev Y)) (va Y Y ?_))))
   obtain rfl := some_r H
   exact w_nil fun a w' f s => ⟨_, HLe.refl _, f.pk Y, s.sel [] (by decide) Y⟩
  replace b16 := Bool.eq_false_iff.2 b16
  replace H := if_f b16 H
  refine wg b16 Y Y Y (fun f s => r_move (f.ev Y)) (wg b16 Y Y Y (fun f s => r_slen underlying9 (f.ev Y)) (wg b16 Y Y Y (fun f s => r_gtr (f.ev Y) (f.ev Y)) (wv Y (fun f s => r_pickF (f.ev Y) b16 (f.ev Y)) (va Y Y ?_))))
  obtain rfl := some_r H
  exact w_nil fun a w' f s => ⟨_, HLe.refl _, f.pk Y, s.sel [] (by decide) Y⟩
 rintro a w' ⟨M14, l15, f, s⟩
 refine cof f s ?_
 replace hG := hG.mono l15
 refine c_if Y (fun b17 => ?_) (fun b17 => ?_)
 ·replace H := if_t b17 H
  refine c_sr fun _ k18 => va Y Y (va Y Y (wk k18 ?_))
  obtain rfl := some_r H
  exact cx2 hret Y Y Y Y Y
 replace H := if_f b17 H
 refine c_sr fun _ k19 => vm Y Y (wv Y (fun f s => r_slen underlying9 (f.ev Y)) (v_lss Y Y Y (va Y Y (wk k19 (c_if Y (fun b20 => ?_) (fun b20 => ?_))))))
 ·replace H := if_t b20 H
  refine c_sr fun _ k21 => va Y Y (va Y Y (wk k21 ?_))
  obtain rfl := some_r H
  exact cx2 hret Y Y Y Y Y
 replace H := if_f b20 H
 refine cs k9 (c_sr fun _ k22 => vm Y Y ?_)
 obtain ⟨t23, e28, H⟩ := bnd H
 refine w_call cf56 trivial Y Y (fun w s => wire_Bytes.calls s p1 _ e28) ?_
 rintro v132 M25 l26 ⟨v29, hv_, h30⟩
 replace hv_ := hv_.symm
 subst hv_
 replace hG := hG.mono l26
 refine wv Y (fun f s => r_b2s underlying91 underlying5 underlying9 h30 s.sub (f.ev Y)) (vm Y Y (wv Y (fun f s => r_slen underlying9 (f.ev Y)) (wv Y (fun f s => r_sub (f.ev Y) (f.ev Y)) (va Y Y (va Y Y (wk k22 (c_seq fun K31 k31 => ?_)))))))
 obtain ⟨g37, H⟩ := grd_s H
 obtain ⟨g46, H⟩ := grd_s H
 refine c_drawV [([], [2]), ([(0, 43)], []), ([], [2]), ([], [11]), ([(2, 45), (3, 46)], []), ([(1, 44)], []), ([(4, 47)], [])] [_, str ((p2.take ((12 : Int)).toNat).drop ((0 : Int)).toNat), _, _, str ((p2.take (i64.wrap ((p2.length : Int) - (16 : Int))).toNat).drop ((12 : Int)).toNat), _, _] (by kernel_rfl) (by kernel_rfl) Y (aV (pz Y fun _ f s => r_move (f.ev Y)) (aV (pz Y fun _ f s => r_sslice underlying9 (f.ev Y) Y ⟨_, f.ev Y⟩ g37.1 g37.2.1 g37.2.2) (aV (pz Y fun _ f s => r_move (f.ev Y)) (aV (pz Y fun _ f s => r_move (f.ev Y)) (aV (pz Y fun _ f s => r_sslice underlying9 (f.ev Y) ⟨_, f.ev Y⟩ ⟨_, f.ev Y⟩ g46.1 g46.2.1 g46.2.2) (aV (pz Y fun _ f s => r_assign (f.ev Y)) (aV (pz Y fun _ f s => r_assign (f.ev Y)) aV0))))))) fun M53 l54 => ?_
 replace hG := hG.mono l54
 refine ni k31 (c_seq fun K57 k57 => c_seq fun K58 k58 => ?_)
 obtain ⟨t85, e90, H⟩ := bnd H
 obtain ⟨g99, H⟩ := grd_s H
 refine c_drawP [([], [9]), ([], [12]), ([], [10]), ([], [13]), ([(1, 49), (2, 50), (3, 51)], []), ([(0, 48), (4, 52)], []), ([], [2]), ([], [11]), ([(6, 54), (7, 55)], []), ([(5, 53), (8, 56)], [])] [vq (str t3.2.1), vq (str ((p2.take ((12 : Int)).toNat).drop ((0 : Int)).toNat)), vq (str (intsB t23)), vq (str ((p2.take (i64.wrap ((p2.length : Int) - (16 : Int))).toNat).drop ((12 : Int)).toNat)), fun v M => ∃ (v72 : Value), v = v72 ∧ RS FS M v72 ([([116, 97, 103] : List UInt8), (p2.take ((12 : Int)).toNat).drop ((0 : Int)).toNat, intsB t23, (p2.take (i64.wrap ((p2.length : Int) - (16 : Int))).toNat).drop ((12 : Int)).toNat] : List (List UInt8)) ∧ ∃ A, v72 = .slice A ([([116, 97, 103] : List UInt8), (p2.take ((12 : Int)).toNat).drop ((0 : Int)).toNat, intsB t23, (p2.take (i64.wrap ((p2.length : Int) - (16 : Int))).toNat).drop ((12 : Int)).toNat] : List (List UInt8)).length ([([116, 97, 103] : List UInt8), (p2.take ((12 : Int)).toNat).drop ((0 : Int)).toNat, intsB t23, (p2.take (i64.wrap ((p2.length : Int) - (16 : Int))).toNat).drop ((12 : Int)).toNat] : List (List UInt8)).length, vq (str t85), vq (str p2), vq (.int .i64 (i64.wrap ((p2.length : Int) - 16))), vq (str ((p2.take ((p2.length : Int)).toNat).drop (i64.wrap ((p2.length : Int) - (16 : Int))).toNat)), vq (.bool (!(t85 == ((p2.take ((p2.length : Int)).toNat).drop (i64.wrap ((p2.length : Int) - (16 : Int))).toNat))))] (by kernel_rfl) (by kernel_rfl) ?_ (aT ?_ (aT ?_ (aT ?_ (aT ?_ (aT ?_ (aT ?_ (aT ?_ (aT ?_ (aT ?_ (aT ?_ AllT.nil)))))))))) ?_
 ·exact (mC (mC (mC (mC (MonoA.cons (fun _ _ _ hM h => by obtain ⟨v72, e_, q0, q1⟩ := h; exact ⟨v72, e_, q0.mono hM, q1⟩) (mC (mC (mC (mC (mC MonoA.nil))))))))))
 ·intro a w' _ _ hd s
  exact pv (hd.fr.add (hd.base 9 _ Y Y)) s Y (fun f s => r_move (f.ev Y)) Y
 ·intro a w' _ _ hd s
  exact pv (hd.fr.add (hd.base 12 _ Y Y)) s Y (fun f s => r_move (f.ev Y)) Y
 ·intro a w' _ _ hd s
  exact pv (hd.fr.add (hd.base 10 _ Y Y)) s Y (fun f s => r_move (f.ev Y)) Y
 ·intro a w' _ _ hd s
  exact pv (hd.fr.add (hd.base 13 _ Y Y)) s Y (fun f s => r_move (f.ev Y)) Y
 ·intro a w' _ _ hd s
  have e69 := hd.val 1 49 _ Y Y
  have e70 := hd.val 2 50 _ Y Y
  have e71 := hd.val 3 51 _ Y Y
  refine OP.ofW (((hd.fr.add e71).add e70).add e69) s Y (w_bsl (F := FS) (es := ([([116, 97, 103] : List UInt8), (p2.take ((12 : Int)).toNat).drop ((0 : Int)).toNat, intsB t23, (p2.take (i64.wrap ((p2.length : Int) - (16 : Int))).toNat).drop ((12 : Int)).toNat] : List (List UInt8))) (xs := [.const (str ([116, 97, 103] : List UInt8)), .tmp 49, .tmp 50, .tmp 51]) underlying127 te9 trivial Y Y Y Y Y (by decide) ?_)
  intro v72 M73 l74 h75 c76
  exact w_nil fun a w' f s => ⟨Y, f.df, _, l74, s, ⟨v72, f.get _ _ Y, h75, c76⟩⟩
 ·intro a w' _ l78 hd s
  have e79 := hd.val 0 48 _ Y Y
  obtain ⟨v80, e84, h81, h83⟩ := hd.val 4 52 _ Y Y
  replace hG := hG.mono l78
  refine OP.ofW ((hd.fr.add e84).add e79) s Y (w_call cf111 trivial Y Y (fun w s => seal_code.calls s hG t3.2.1 16 ([([116, 97, 103] : List UInt8), (p2.take ((12 : Int)).toNat).drop ((0 : Int)).toNat, intsB t23, (p2.take (i64.wrap ((p2.length : Int) - (16 : Int))).toNat).drop ((12 : Int)).toNat] : List (List UInt8)) v80 h81 _ e90) ?_)
  rintro _ M87 l88 rfl
  exact w_nil fun a w' f s => ⟨Y, f.df, _, l88, s, f.get _ _ Y⟩
 ·intro a w' _ _ hd s
  exact pv (hd.fr.add (hd.base 2 _ Y Y)) s Y (fun f s => r_move (f.ev Y)) Y
 ·intro a w' _ _ hd s
  exact pv (hd.fr.add (hd.base 11 _ Y Y)) s Y (fun f s => r_move (f.ev Y)) Y
 ·intro a w' _ _ hd s
  exact pu ((hd.fr.add (hd.val 7 55 _ Y Y)).add (hd.val 6 54 _ Y Y)) s Y Y (fun f s => r_sslice underlying9 (f.ev Y) ⟨_, f.ev Y⟩ rfl g99.1 g99.2.1 g99.2.2)
 ·intro a w' _ _ hd s
  exact pv ((hd.fr.add (hd.val 8 56 _ Y Y)).add (hd.val 5 53 _ Y Y)) s Y (fun f s => r_sneq (f.ev Y) (f.ev Y)) Y
 intro a w' M104 l105 hdf hsz hb hv s
 replace hG := hG.mono l105
 have e106 := hv 9 57 _ Y Y
 refine n_of (c := (Cx.mk prog 73 none' M w)) ?_ (((((((Fr.start hdf hsz).add e106).add (hb 13 _ Y Y)).add (hb 12 _ Y Y)).add (hb 10 _ Y Y)).add (hb 9 _ Y Y)).add (hb 8 _ Y Y)) s
 refine ni k58 (c_if Y (fun b107 => ?_) (fun b107 => ?_))
 ·replace H := if_t b107 H
  refine c_sr fun _ k108 => va Y Y (va Y Y (wk k108 ?_))
  obtain rfl := some_r H
  exact cx2 hret Y Y Y Y Y
 replace H := if_f b107 H
 refine cs k57 (c_sr fun _ k109 => vm Y Y (vm Y Y (vm Y Y ?_)))
 obtain ⟨t110, e115, H⟩ := bnd H
 refine w_call cf112 trivial Y Y (fun w s => cipher_Xor.calls s t3.1 1 ((p2.take ((12 : Int)).toNat).drop ((0 : Int)).toNat) ((p2.take (i64.wrap ((p2.length : Int) - (16 : Int))).toNat).drop ((12 : Int)).toNat) _ e115) ?_
 rintro _ M112 l113 rfl
 replace hG := hG.mono l113
 refine vm Y Y (v_extract Y Y Y (v_extract Y Y Y (va Y Y (wk k109 (c_seq fun K116 k116 => c_sr fun _ k117 => vm Y Y (vm Y Y (vm Y Y (w_bsl (F := FS) (es := ([([110, 111, 110, 99, 101] : List UInt8), intsB t23, t110.1] : List (List UInt8))) (xs := [.const (str ([110, 111, 110, 99, 101] : List UInt8)), .tmp 66, .tmp 67]) underlying127 te9 trivial Y Y Y Y Y (by decide) ?_))))))))
 intro v118 M119 l120 h121 c122
 replace hG := hG.mono l120
 obtain ⟨t123, e128, H⟩ := bnd H
 refine w_call cf111 trivial Y Y (fun w s => seal_code.calls s hG t3.2.1 12 ([([110, 111, 110, 99, 101] : List UInt8), intsB t23, t110.1] : List (List UInt8)) v118 h121 _ e128) ?_
 rintro _ M125 l126 rfl
 refine vm Y Y (wv Y (fun f s => r_sneq (f.ev Y) (f.ev Y)) (wk k117 (c_if Y (fun b129 => ?_) (fun b129 => ?_))))
 ·replace H := if_t b129 H
  refine c_sr fun _ k130 => va Y Y (va Y Y (wk k130 ?_))
  obtain rfl := some_r H
  exact cx2 hret Y Y Y Y Y
 replace H := if_f b129 H
 refine cs k116 (c_sr fun _ k131 => vm Y Y (va Y Y (va Y Y (wk k131 ?_))))
 obtain rfl := some_r H
 exact cx2 hret Y Y Y Y Y
theorem wire_GetStrings.calls (hM : Sub M w) (p0 : (List Int)) (v1 : Value) (h2 : RS (FI .u8) M v1 p0) (r : ((List (List UInt8)) × Int × Int)) (H : wire_GetStrings p0 = some r) :
  Calls prog 80 [v1].toArray w (Post M w fun M' v => ∃ v57, v = .tuple #[v57, .int .i64 r.2.1, .int .i64 r.2.2] ∧ RS FS M' v57 r.1) := by
 refine enter 45 [(0, v1)] func80 Y Y Y hM ?_
 intro Q hret
 unfold wire_GetStrings at H
 refine c_sr fun _ k3 => va Y Y (va Y Y (va Y Y (wk k3 (c_sr fun _ k4 => vm Y Y ?_))))
 obtain ⟨t5, e10, H⟩ := bnd H
 refine w_call cf141 trivial Y Y (fun w s => wire_count.calls s p0 v1 h2 1 _ e10) ?_
 rintro _ M7 l8 rfl
 replace h2 := h2.mono l8
 refine vm Y Y (v_extract Y Y Y (v_extract Y Y Y (v_extract Y Y Y (va Y Y (va Y Y (va Y Y (wk k4 (c_seq fun K11 k11 => c_sr fun _ k12 => vm Y Y (wv Y (fun f s => r_neq (f.ev Y) (f.ev Y)) (wk k12 (c_if Y (fun b13 => ?_) (fun b13 => ?_))))))))))))
 ·replace H := if_t b13 H
  refine c_sr fun _ k14 => vm Y Y (va Y Y (va Y Y (va Y Y (wk k14 ?_))))
  obtain rfl := some_r H
  exact cx3 hret Y Y Y Y Y ⟨_, Y, RS.none⟩
 replace H := if_f b13 H
 refine cs k11 (c_sr fun _ k15 => va Y Y (wk k15 (c_row0 9 1 ?_)))
 refine c_cut (fun a' w' => ∃ (x16 : (List (List UInt8))) (v17 : Value) (x18 : Int) (M19 : Heap), HLe M7 M19 ∧ Fr 45 [(6, .int .i64 x18), (8, v17)] a' ∧ St none' M w M19 (lt [rowI FS v17 9 x16]) w' ∧ wire_GetStrings.j1 x16 x18 = some r) ?_ ?_
 ·refine c_seq ?_
  intro K25 k25
  refine c_reg (vm Y Y (vm Y Y (wk k25 (c_block ?_))))
  refine c_loop (fun (s26 : ((List (List UInt8)) × Int × Int)) a' w' => ∃ (v27 : Value) (M28 : Heap), HLe M7 M28 ∧ Fr 45 [(0, v1), (6, .int .i64 s26.2.1), (8, v27), (21, .int .i64 t5.1), (22, .int .i64 s26.2.2)] a' ∧ St none' M w M28 (lt [rowI FS v27 9 s26.1]) w') (([] : (List (List UInt8))), t5.2.1, 0) H ?_ ?_
  ·intro a w' f s
   exact ⟨.slice none 0 0, _, HLe.refl _, f.pk Y, s.selD [some 0] (by decide) Y⟩
  intro s26 y31 H r30 a w' hJ
  obtain ⟨v27, M28, l29, f, s⟩ := hJ
  refine cof f s ?_
  unfold wire_GetStrings.l2 at H
  replace h2 := h2.mono l29
  refine c_sr fun _ k32 => v_lss Y Y Y (wk k32 (c_seq fun K33 k33 => c_if Y (fun b34 => ?_) (fun b34 => ?_)))
  ·replace H := if_t b34 H
   refine cs k33 (c_seq fun K35 k35 => c_block (c_sr fun _ k36 => vm Y Y (vm Y Y ?_)))
   obtain ⟨g39, H⟩ := grd_s H
   refine w_ex (Φ := fun v => RS (FI .u8) M28 v ((p0.take ((p0.length : Int)).toNat).drop (s26.2.1).toNat)) trivial Y (fun a w f s => r_slR underlying91 ts5 (f.ev Y) h2 ⟨_, f.ev Y⟩ rfl g39.1 g39.2.1 g39.2.2) ?_
   intro v37 h38
   obtain ⟨t40, e45, H⟩ := bnd H
   refine w_call cf132 trivial Y Y (fun w s => wire_GetBytes.calls s ((p0.take ((p0.length : Int)).toNat).drop (s26.2.1).toNat) v37 h38 _ e45) ?_
   rintro _ M42 l43 rfl
   refine vm Y Y (v_extract Y Y Y (v_extract Y Y Y (v_extract Y Y Y (va Y Y (va Y Y (va Y Y (wk k36 (c_seq fun K46 k46 => c_sr fun _ k47 => vm Y Y (wv Y (fun f s => r_neq (f.ev Y) (f.ev Y)) (wk k47 (c_if Y (fun b48 => ?_) (fun b48 => ?_))))))))))))
   ·replace H := if_t b48 H
    refine c_sr fun _ k49 => vm Y Y (va Y Y (va Y Y (va Y Y (wk k49 ?_))))
    obtain rfl := (r30 _ (Option.some.inj H).symm)
    exact cx3 hret Y Y Y Y Y ⟨_, Y, RS.none⟩
   replace H := if_f b48 H
   refine cs k46 (c_reg (vm Y Y (vm Y Y (w_bsl (F := FS) (es := ([t40.1] : List (List UInt8))) (xs := [.tmp 36]) underlying127 te9 trivial Y Y Y Y Y (by decide) ?_))))
   intro v50 M51 l52 h53 c54
   obtain ⟨g55, H⟩ := grd_s H
   refine w_app (F := FS) (m2 := ([t40.1] : List (List UInt8))) (i := 0) underlying127 te9 underlying127 (.inl ⟨_, Y⟩) trivial Y Y Y Y (Src.rs FS.one h53) g55 ?_
   intro v56
   exact vm Y Y (vm Y Y (v_add Y Y Y (va Y Y (va Y Y (wk k35 (c_reg (v_add Y Y Y (vm Y Y (w_nil fun a w' f s => ⟨_, (some_r H).symm, v56, _, l29.trans (l43.trans l52), f.pk Y, s.selD [some 0] (by decide) Y⟩)))))))))
  replace H := if_f b34 H
  replace H := map_inr H r30
  refine c_exit ?_
  intro a w' f s
  exact ⟨s26.1, v27, s26.2.1, _, l29, f.pk Y, s.selD [some 0] (by decide) Y, H⟩
 rintro a w' ⟨x16, v17, x18, M19, l20, f, s, H⟩
 refine cof f s ?_
 unfold wire_GetStrings.j1 at H
 refine c_sr fun _ k21 => vm Y Y (vm Y Y (va Y Y (va Y Y (va Y Y (wk k21 ?_)))))
 obtain rfl := some_r H
 refine c_ret (n_give 0 Y (fun _ h => h) ?_)
 intro M22 l23 h24
 intro a w' f s
 exact hret _ (.inl Y) a w' f.df ⟨_, _, Res.of3 Y (RV.t f Y) (RV.t f Y) (RV.t f Y), s.ext, ⟨_, Y, h24⟩⟩
theorem backup_read_LLstring.calls {M : Heap} {w : World} {b : Nat} {T : TypeId} {q : List Value} {x_ : backup_reader} {v1 : Value} (s : St (fun k => k = b) M w M (lt [.blk b (.cells (backup_reader.C x_ v1 ++ q).toArray T (0, 0))]) w) (h2 : RS (FI .u8) M v1 x_.rest_) (r : ((List (List UInt8)) × backup_reader)) (H : backup_read_LLstring x_ = some r) :
  Calls prog 140 [ptr b 0, .func (.func 80) #[] #[]].toArray w (PostI (fun k => k = b) M w fun M' x v => ∃ (v34 : Value) (v36 : Value), v = v34 ∧ RS FS M' v34 r.1 ∧ RS (FI .u8) M' v36 r.2.rest_ ∧ x = .blk b (.cells (backup_reader.C r.2 v36 ++ q).toArray T (0, 0))) := by
 refine enterI 41 [(0, ptr b 0), (1, .func (.func 80) #[] #[])] func140 Y Y Y s ?_
 intro Q hret
 unfold backup_read_LLstring at H
 refine c_sr fun _ k3 => va Y Y (wk k3 (c_seq fun K4 k4 => c_sr fun _ k5 => vm Y Y (wv Y (fun f s => r_nilCheck (f.ev Y)) (v_fa fa117_1 Y Y (wv Y (fun f s => r_load1 ta31 (f.ev Y) (s.blk (i := 0) Y) Y) (wv Y (fun f s => r_neq (f.ev Y) (f.ev Y)) (wk k5 (c_if Y (fun b6 => ?_) (fun b6 => ?_)))))))))
 ·replace H := if_t b6 H
  refine c_sr fun _ k7 => vm Y Y (va Y Y (wk k7 ?_))
  obtain rfl := some_r H
  exact cx hret Y fun f s => ⟨_, _, _, Res.of1 Y (RV.t f Y), s.sel [0] (by decide) Y, ⟨_, _, Y, RS.none, h2, Y⟩⟩
 replace H := if_f b6 H
 refine cs k4 (c_sr fun _ k8 => vm Y Y (vm Y Y (wv Y (fun f s => r_nilCheck (f.ev Y)) (v_fa fa117_0 Y Y (wv Y (fun f s => r_load1 ta91 (f.ev Y) (s.blk (i := 0) Y) Y) ?_)))))
 obtain ⟨t9, e14, H⟩ := bnd H
 refine w_callV trivial Y Y Y (fun _ h => by cases h) (fun w s => ⟨_, _, _, Y, cf80, wire_GetStrings.calls s x_.rest_ v1 h2 _ e14⟩) ?_
 rintro v33 M11 l12 ⟨v15, hv_, h16⟩
 replace hv_ := hv_.symm
 subst hv_
 replace h2 := h2.mono l12
 refine vm Y Y (v_extract Y Y Y (v_extract Y Y Y (v_extract Y Y Y (va Y Y (va Y Y (va Y Y (wk k8 (c_seq fun K17 k17 => c_sr fun _ k18 => vm Y Y (vm Y Y (wv Y (fun f s => r_eql (f.ev Y) (f.ev Y)) (vm Y Y ?_)))))))))))
 obtain ⟨t19, e20, H⟩ := bnd H
 refine w_callJ (b0 := b) 0 cf82 trivial Y Y Y Y (fun w s => backup_reader_check.calls (b := b) (T := T) (q := (q)) (x_ := x_) s h2 (t9.2.2 == 0) t9.2.2 _ e20) ?_
 rintro v23 M21 _ l22 ⟨v24, hv_, h25, rfl⟩
 subst hv_
 replace h16 := h16.mono l22
 refine wv Y (fun f s => r_not (f.ev Y)) (wk k18 (c_if Y (fun b26 => ?_) (fun b26 => ?_)))
 ·replace H := if_t b26 H
  refine c_sr fun _ k27 => vm Y Y (va Y Y (wk k27 ?_))
  obtain rfl := some_r H
  exact cx hret Y fun f s => ⟨_, _, _, Res.of1 Y (RV.t f Y), s.sel [0] (by decide) Y, ⟨_, _, Y, RS.none, h25, Y⟩⟩
 replace H := if_f b26 H
 refine cs k17 (c_sr fun _ k28 => vm Y Y (vm Y Y (wv Y (fun f s => r_nilCheck (f.ev Y)) (v_fa fa117_0 Y Y (wv Y (fun f s => r_load1 ta91 (f.ev Y) (s.blk (i := 0) Y) Y) (vm Y Y ?_))))))
 obtain ⟨g31, H⟩ := grd_s H
 refine w_ex (Φ := fun v => RS (FI .u8) M21 v ((t19.2.rest_.take ((t19.2.rest_.length : Int)).toNat).drop (t9.2.1).toNat)) trivial Y (fun a w f s => r_slR underlying91 ts5 (f.ev Y) h25 ⟨_, f.ev Y⟩ rfl g31.1 g31.2.1 g31.2.2) ?_
 intro v29 h30
 refine wv Y (fun f s => r_nilCheck (f.ev Y)) (v_fa fa117_0 Y Y (w_store (i := 0) (A' := (backup_reader.C ({ t19.2 with rest_ := ((t19.2.rest_.take ((t19.2.rest_.length : Int)).toNat).drop (t9.2.1).toNat) } : backup_reader) v29 ++ q)) trivial Y Y Y h30.cells1 ts91 Y (one1 h30.one) (Nat.le_of_ble_eq_true Y) Y (wk k28 (c_sr fun _ k32 => vm Y Y (va Y Y (wk k32 ?_))))))
 obtain rfl := some_r H
 exact cx hret Y fun f s => ⟨_, _, _, Res.of1 Y (RV.t f Y), s.sel [0] (by decide) Y, ⟨_, _, Y, h16, h30, Y⟩⟩
theorem backup_whole_LLstring.calls {M : Heap} {w : World} {b : Nat} {T : TypeId} {q : List Value} {x_ : backup_reader} {v1 : Value} (s : St (fun k => k = b) M w M (lt [.blk b (.cells (backup_reader.C x_ v1 ++ q).toArray T (0, 0))]) w) (h2 : RS (FI .u8) M v1 x_.rest_) (r : ((List (List UInt8)) × backup_reader)) (H : backup_whole_LLstring x_ = some r) :
  Calls prog 79 [ptr b 0, .func (.func 80) #[] #[]].toArray w (PostI (fun k => k = b) M w fun M' x v => ∃ (v23 : Value) (v25 : Value), v = v23 ∧ RS FS M' v23 r.1 ∧ RS (FI .u8) M' v25 r.2.rest_ ∧ x = .blk b (.cells (backup_reader.C r.2 v25 ++ q).toArray T (0, 0))) := by
 refine enterI 18 [(0, ptr b 0), (1, .func (.func 80) #[] #[])] func79 Y Y Y s ?_
 intro Q hret
 unfold backup_whole_LLstring at H
 refine c_sr fun _ k3 => va Y Y (wk k3 (c_sr fun _ k4 => vm Y Y (vm Y Y ?_)))
 obtain ⟨t5, e6, H⟩ := bnd H
 refine w_callJ (b0 := b) 0 cf140 trivial Y Y Y Y (fun w s => backup_read_LLstring.calls (b := b) (T := T) (q := (q)) (x_ := x_) s h2 _ e6) ?_
 rintro v9 M7 _ l8 ⟨v10, v12, hv_, h11, h13, rfl⟩
 replace hv_ := hv_.symm
 subst hv_
 refine va Y Y (wk k4 (c_sr fun _ k14 => vm Y Y (vm Y Y (wv Y (fun f s => r_nilCheck (f.ev Y)) (v_fa fa117_0 Y Y (wv Y (fun f s => r_load1 ta91 (f.ev Y) (s.blk (i := 0) Y) Y) (wv Y (fun f s => r_lenR underlying91 h13 (f.ev Y)) (wv Y (fun f s => r_eql (f.ev Y) (f.ev Y)) ?_))))))))
 obtain ⟨t15, e16, H⟩ := bnd H
 refine w_callJ (b0 := b) 0 cf82 trivial Y Y Y Y (fun w s => backup_reader_check.calls (b := b) (T := T) (q := (q)) (x_ := t5.2) s h13 ((t5.2.rest_.length : Int) == 0) 6 _ e16) ?_
 rintro v19 M17 _ l18 ⟨v20, hv_, h21, rfl⟩
 subst hv_
 replace h11 := h11.mono l18
 refine wk k14 (c_sr fun _ k22 => vm Y Y (va Y Y (wk k22 ?_)))
 obtain rfl := some_r H
 exact cx hret Y fun f s => ⟨_, _, _, Res.of1 Y (RV.t f Y), s.sel [0] (by decide) Y, ⟨_, _, Y, h11, h21, Y⟩⟩
theorem backup_whole_LLint.calls {M : Heap} {w : World} {b : Nat} {T : TypeId} {q : List Value} {x_ : backup_reader} {v1 : Value} (s : St (fun k => k = b) M w M (lt [.blk b (.cells (backup_reader.C x_ v1 ++ q).toArray T (0, 0))]) w) (h2 : RS (FI .u8) M v1 x_.rest_) (r : ((List Int) × backup_reader)) (H : backup_whole_LLint x_ = some r) :
  Calls prog 142 [ptr b 0, .func (.func 136) #[] #[]].toArray w (PostI (fun k => k = b) M w fun M' x v => ∃ (v23 : Value) (v25 : Value), v = v23 ∧ RS (FI .i64) M' v23 r.1 ∧ RS (FI .u8) M' v25 r.2.rest_ ∧ x = .blk b (.cells (backup_reader.C r.2 v25 ++ q).toArray T (0, 0))) := by
 refine enterI 18 [(0, ptr b 0), (1, .func (.func 136) #[] #[])] func142 Y Y Y s ?_
 intro Q hret
 unfold backup_whole_LLint at H
 refine c_sr fun _ k3 => va Y Y (wk k3 (c_sr fun _ k4 => vm Y Y (vm Y Y ?_)))
 obtain ⟨t5, e6, H⟩ := bnd H
 refine w_callJ (b0 := b) 0 cf135 trivial Y Y Y Y (fun w s => backup_read_LLint.calls (b := b) (T := T) (q := (q)) (x_ := x_) s h2 _ e6) ?_
 rintro v9 M7 _ l8 ⟨v10, v12, hv_, h11, h13, rfl⟩
 replace hv_ := hv_.symm
 subst hv_
 refine va Y Y (wk k4 (c_sr fun _ k14 => vm Y Y (vm Y Y (wv Y (fun f s => r_nilCheck (f.ev Y)) (v_fa fa117_0 Y Y (wv Y (fun f s => r_load1 ta91 (f.ev Y) (s.blk (i := 0) Y) Y) (wv Y (fun f s => r_lenR underlying91 h13 (f.ev Y)) (wv Y (fun f s => r_eql (f.ev Y) (f.ev Y)) ?_))))))))
 obtain ⟨t15, e16, H⟩ := bnd H
 refine w_callJ (b0 := b) 0 cf82 trivial Y Y Y Y (fun w s => backup_reader_check.calls (b := b) (T := T) (q := (q)) (x_ := t5.2) s h13 ((t5.2.rest_.length : Int) == 0) 6 _ e16) ?_
 rintro v19 M17 _ l18 ⟨v20, hv_, h21, rfl⟩
 subst hv_
 replace h11 := h11.mono l18
 refine wk k14 (c_sr fun _ k22 => vm Y Y (va Y Y (wk k22 ?_)))
 obtain rfl := some_r H
 exact cx hret Y fun f s => ⟨_, _, _, Res.of1 Y (RV.t f Y), s.sel [0] (by decide) Y, ⟨_, _, Y, h11, h21, Y⟩⟩
theorem backup_reader_key.calls {M : Heap} {w : World} {b : Nat} {T : TypeId} {q : List Value} {x_ : backup_reader} {v1 : Value} (s : St (fun k => k = b) M w M (lt [.blk b (.cells (backup_reader.C x_ v1 ++ q).toArray T (0, 0))]) w) (h2 : RS (FI .u8) M v1 x_.rest_) (p1 : (List UInt8)) (r : (Key × backup_reader)) (H : backup_reader_key x_ p1 = some r) :
  Calls prog 81 [ptr b 0, str p1].toArray w (PostI (fun k => k = b) M w fun M' x v => ∃ (v189 : Value), v = (.agg (Key.C r.1).toArray) ∧ RS (FI .u8) M' v189 r.2.rest_ ∧ x = .blk b (.cells (backup_reader.C r.2 v189 ++ q).toArray T (0, 0))) := by
 refine enterI 90 [(0, ptr b 0), (1, str p1)] func81 Y Y Y s ?_
 intro Q hret
 unfold backup_reader_key at H
 refine c_sr fun _ k3 => w_allocL (A := Key.C (⟨0, 0, [], 0, 0, 0, 0, 0, false⟩ : Key)) tz97 trivial Y Y ?_
 intro b4
 refine wk k3 (c_sr fun _ k5 => vm Y Y (w_s2b underlying9 underlying91 underlying5 trivial Y Y ?_))
 intro v6 M7 l8 h9
 replace h2 := h2.mono l8
 refine vm Y Y (wv Y (fun f s => r_nilCheck (f.ev Y)) (v_fa fa117_1 Y Y (wv Y (fun f s => r_load1 ta31 (f.ev Y) (s.blk (i := 0) Y) Y) (wv Y (fun f s => r_build (is := [0, 1]) (xs := [.tmp 10, .tmp 14]) (A := backup_reader.C (⟨bytesI p1, x_.e⟩ : backup_reader) v6) Y (f.evs Y) (built_of (pl := [(0, 1), (1, 1)]) (A0 := backup_reader.C (⟨[], 0⟩ : backup_reader) (.slice none 0 0)) tz117 underlying117 (by kernel_rfl) Y (.cons (vs := [v6]) (B := backup_reader.C (⟨bytesI p1, 0⟩ : backup_reader) v6) Y (h9.cells1) Y (by rw [backup_reader.len]; decide) Y (.cons (vs := [.int .i64 x_.e]) (B := backup_reader.C (⟨bytesI p1, x_.e⟩ : backup_reader) v6) Y Y Y (by rw [backup_reader.len]; decide) Y .nil)))) (w_boxL trivial Y Y Y ?_)))))
 intro b10
 refine va Y Y (wk k5 (c_sr fun _ k11 => vm Y Y ?_))
 obtain ⟨t12, e13, H⟩ := bnd H
 refine w_callJ (b0 := b10) 2 cf79 trivial Y Y Y Y (fun w s => backup_whole_LLstring.calls (b := b10) (T := 117) (q := []) (x_ := (⟨bytesI p1, x_.e⟩ : backup_reader)) s h9 _ e13) ?_
 rintro v16 M14 _ l15 ⟨v17, v19, hv_, h18, h20, rfl⟩
 replace hv_ := hv_.symm
 subst hv_
 replace h2 := h2.mono l15
 refine va Y Y (wk k11 ?_)
 refine c_cut (fun a' w' => ∃ (x21 : Key) (x22 : backup_reader) (v23 : Value) (M25 : Heap), HLe M14 M25 ∧ RS (FI .u8) M25 v23 x22.rest_ ∧ Fr 90 [(0, ptr b 0), (4, ptr b4 0), (5, ptr b10 0)] a' ∧ St (fun k => k = b) M w M25 (lt [.blk b (.cells (backup_reader.C x_ v1 ++ q).toArray T (0, 0)), bk b4 (Key.C x21) 97, bk b10 (backup_reader.C x22 v23) 117]) w' ∧ backup_reader_key.j1 x21 x_ x22 = some r) ?_ ?_
 ·refine c_seq ?_
  intro K29 k29
  refine c_reg (vm Y Y (vm Y Y (wv Y (fun f s => r_lenR underlying127 h18 (f.ev Y)) (wv Y (fun f s => r_eql (f.ev Y) (f.ev Y)) ?_))))
  obtain ⟨t30, e31, H⟩ := bnd H
  refine w_callJ (b0 := b10) 2 cf82 trivial Y Y Y Y (fun w s => backup_reader_check.calls (b := b10) (T := 117) (q := []) (x_ := t12.2) s h20 ((t12.1.length : Int) == 2) 6 _ e31) ?_
  rintro v34 M32 _ l33 ⟨v35, hv_, h36, rfl⟩
  subst hv_
  replace h2 := h2.mono l33
  replace h18 := h18.mono l33
  refine wk k29 (c_if Y (fun b37 => ?_) (fun b37 => ?_))
  ·replace H := if_t b37 H
   refine c_sr fun _ k38 => vm Y Y ?_
   obtain ⟨g39, H⟩ := grd_s H
   refine wv Y (fun f s => r_iR underlying127 ts9 h18 (f.ev Y) (f.ev Y) g39.1 g39.2) (wv Y (fun f s => r_loadE1 ta9 h18 s.sub g39.1 g39.2 (f.ev Y) Y) (w_s2b underlying9 underlying91 underlying5 trivial Y Y ?_))
   intro v40 M41 l42 h43
   replace h2 := h2.mono l42
   replace h18 := h18.mono l42
   replace h36 := h36.mono l42
   refine wv Y (fun f s => r_build (is := [0]) (xs := [.tmp 27]) (A := backup_reader.C (⟨bytesI (rd t12.1 0), 0⟩ : backup_reader) v40) Y (f.evs Y) (built_of (pl := [(0, 1), (1, 1)]) (A0 := backup_reader.C (⟨[], 0⟩ : backup_reader) (.slice none 0 0)) tz117 underlying117 (by kernel_rfl) Y (.cons (vs := [v40]) (B := backup_reader.C (⟨bytesI (rd t12.1 0), 0⟩ : backup_reader) v40) Y (h43.cells1) Y (by rw [backup_reader.len]; decide) Y .nil))) (w_boxL trivial Y Y Y ?_)
   intro b44
   refine va Y Y (wk k38 (c_sr fun _ k45 => vm Y Y ?_))
   obtain ⟨t46, e47, H⟩ := bnd H
   refine w_callJ (b0 := b44) 3 cf142 trivial Y Y Y Y (fun w s => backup_whole_LLint.calls (b := b44) (T := 117) (q := []) (x_ := (⟨bytesI (rd t12.1 0), 0⟩ : backup_reader)) s h43 _ e47) ?_
   rintro v50 M48 _ l49 ⟨v51, v53, hv_, h52, h54, rfl⟩
   replace hv_ := hv_.symm
   subst hv_
   replace h2 := h2.mono l49
   replace h18 := h18.mono l49
   replace h36 := h36.mono l49
   refine va Y Y (wk k45 ?_)
   refine c_cut (fun a' w' => ∃ (x55 : Key) (x56 : backup_reader) (v57 : Value) (M59 : Heap), HLe M48 M59 ∧ RS (FI .u8) M59 v57 x56.rest_ ∧ Fr 90 [(0, ptr b 0), (4, ptr b4 0), (5, ptr b10 0), (7, ptr b44 0)] a' ∧ St (fun k => k = b) M w M59 (lt [.blk b (.cells (backup_reader.C x_ v1 ++ q).toArray T (0, 0)), bk b4 (Key.C x55) 97, bk b10 (backup_reader.C t30.2 v35) 117, bk b44 (backup_reader.C x56 v57) 117]) w' ∧ backup_reader_key.j2 x55 x_ t30 x56 = some r) ?_ ?_
   ·refine c_seq ?_
    intro K61 k61
    refine c_reg (vm Y Y (vm Y Y (wv Y (fun f s => r_lenR underlying70 h52 (f.ev Y)) (wv Y (fun f s => r_eql (f.ev Y) (f.ev Y)) ?_))))
    obtain ⟨t62, e63, H⟩ := bnd H
    refine w_callJ (b0 := b44) 3 cf82 trivial Y Y Y Y (fun w s => backup_reader_check.calls (b := b44) (T := 117) (q := []) (x_ := t46.2) s h54 ((t46.1.length : Int) == 8) 6 _ e63) ?_
    rintro v66 M64 _ l65 ⟨v67, hv_, h68, rfl⟩
    subst hv_
    replace h2 := h2.mono l65
    replace h18 := h18.mono l65
    replace h36 := h36.mono l65
    replace h52 := h52.mono l65
    refine vm Y Y ?_
    by_cases b69 : t62.1 = true
    ·replace H := if_t b69 H
     refine wg b69 Y Y Y (fun f s => r_move (f.ev Y)) (wg b69 Y Y Y (fun f s => r_move (f.ev Y)) ?_)
     obtain ⟨g70, H⟩ := grd_s H
     refine wg b69 Y Y Y (fun f s => r_iR underlying70 ts3 h52 (f.ev Y) (f.ev Y) g70.1 g70.2) (wg b69 Y Y Y (fun f s => r_loadE1 ta3 h52 s.sub g70.1 g70.2 (f.ev Y) Y) (w_bsl (F := (FI .i64)) (es := ([rd t46.1 7] : List Int)) (xs := [.tmp 41]) underlying70 te3 (Wnt.of Y Y b69) Y Y Y Y Y (by decide) ?_))
     intro v71 M72 l73 h74 c75
     replace h2 := h2.mono l73
     replace h18 := h18.mono l73
     replace h36 := h36.mono l73
     replace h52 := h52.mono l73
     replace h68 := h68.mono l73
     obtain ⟨t76, e81, H⟩ := bnd H
     refine w_call cf63 (Wnt.of Y Y b69) Y Y (fun w s => backup_within.calls s 1 ([rd t46.1 7] : List Int) v71 h74 _ e81) ?_
     rintro _ M78 l79 rfl
     replace h2 := h2.mono l79
     replace h18 := h18.mono l79
     replace h36 := h36.mono l79
     replace h52 := h52.mono l79
     replace h68 := h68.mono l79
     obtain ⟨t82, e83, H⟩ := bnd H
     refine w_callJ (b0 := b44) 3 cf82 (Wnt.of Y Y b69) Y Y Y Y (fun w s => backup_reader_check.calls (b := b44) (T := 117) (q := []) (x_ := t62.2) s h68 t76 6 _ e83) ?_
     rintro v86 M84 _ l85 ⟨v87, hv_, h88, rfl⟩
     subst hv_
     replace h2 := h2.mono l85
     replace h18 := h18.mono l85
     replace h36 := h36.mono l85
     replace h52 := h52.mono l85
     replace h68 := h68.mono l85
     refine wv Y (fun f s => r_pickT (f.ev Y) b69 (f.ev Y)) (wk k61 (c_if Y (fun b89 => ?_) (fun b89 => ?_)))
     ·replace H := if_t b89 H
      refine csp 28 (by kernel_rfl) ?_
      intro K90 k90
      obtain ⟨g96, H⟩ := grd_s H
      obtain ⟨g105, H⟩ := grd_s H
      obtain ⟨g114, H⟩ := grd_s H
      obtain ⟨g123, H⟩ := grd_s H
      obtain ⟨g132, H⟩ := grd_s H
      obtain ⟨g141, H⟩ := grd_s H
      obtain ⟨g150, H⟩ := grd_s H
      obtain ⟨g159, H⟩ := grd_s H
      obtain ⟨g168, H⟩ := grd_s H
      refine dV [([], [8]), ([(0, 46)], []), ([(1, 47)], []), ([], [8]), ([(3, 49)], []), ([(4, 50)], []), ([], [6]), ([(6, 52)], []), ([(7, 53)], []), ([], [8]), ([(9, 55)], []), ([(10, 56)], []), ([], [8]), ([(12, 58)], []), ([(13, 59)], []), ([], [8]), ([(15, 61)], []), ([(16, 62)], []), ([], [8]), ([(18, 64)], []), ([(19, 65)], []), ([], [8]), ([(21, 67)], []), ([(22, 68)], []), ([], [8]), ([(24, 70)], []), ([(25, 71)], []), ([(26, 72)], [])] (by kernel_rfl) (aV (pz Y fun _ f s => r_move (f.ev Y)) (aV (pz Y fun l94 f s => r_iR underlying70 ts3 (h52.mono l94) (f.ev Y) (f.ev Y) g96.1 g96.2) (aV (pz Y fun l98 f s => r_loadE1 ta3 (h52.mono l98) s.sub g96.1 g96.2 (f.ev Y) Y) (aV (pz Y fun _ f s => r_move (f.ev Y)) (aV (pz Y fun l103 f s => r_iR underlying70 ts3 (h52.mono l103) (f.ev Y) (f.ev Y) g105.1 g105.2) (aV (pz Y fun l107 f s => r_loadE1 ta3 (h52.mono l107) s.sub g105.1 g105.2 (f.ev Y) Y) (aV (pz Y fun _ f s => r_move (f.ev Y)) (aV (pz Y fun l112 f s => r_iR underlying127 ts9 (h18.mono l112) (f.ev Y) (f.ev Y) g114.1 g114.2) (aV (pz Y fun l116 f s => r_loadE1 ta9 (h18.mono l116) s.sub g114.1 g114.2 (f.ev Y) Y) (aV (pz Y fun _ f s => r_move (f.ev Y)) (aV (pz Y fun l121 f s => r_iR underlying70 ts3 (h52.mono l121) (f.ev Y) (f.ev Y) g123.1 g123.2) (aV (pz Y fun l125 f s => r_loadE1 ta3 (h52.mono l125) s.sub g123.1 g123.2 (f.ev Y) Y) (aV (pz Y fun _ f s => r_move (f.ev Y)) (aV (pz Y fun l130 f s => r_iR underlying70 ts3 (h52.mono l130) (f.ev Y) (f.ev Y) g132.1 g132.2) (aV (pz Y fun l134 f s => r_loadE1 ta3 (h52.mono l134) s.sub g132.1 g132.2 (f.ev Y) Y) (aV (pz Y fun _ f s => r_move (f.ev Y)) (aV (pz Y fun l139 f s => r_iR underlying70 ts3 (h52.mono l139) (f.ev Y) (f.ev Y) g141.1 g141.2) (aV (pz Y fun l143 f s => r_loadE1 ta3 (h52.mono l143) s.sub g141.1 g141.2 (f.ev Y) Y) (aV (pz Y fun _ f s => r_move (f.ev Y)) (aV (pz Y fun l148 f s => r_iR underlying70 ts3 (h52.mono l148) (f.ev Y) (f.ev Y) g150.1 g150.2) (aV (pz Y fun l152 f s => r_loadE1 ta3 (h52.mono l152) s.sub g150.1 g150.2 (f.ev Y) Y) (aV (pz Y fun _ f s => r_move (f.ev Y)) (aV (pz Y fun l157 f s => r_iR underlying70 ts3 (h52.mono l157) (f.ev Y) (f.ev Y) g159.1 g159.2) (aV (pz Y fun l161 f s => r_loadE1 ta3 (h52.mono l161) s.sub g159.1 g159.2 (f.ev Y) Y) (aV (pz Y fun _ f s => r_move (f.ev Y)) (aV (pz Y fun l166 f s => r_iR underlying70 ts3 (h52.mono l166) (f.ev Y) (f.ev Y) g168.1 g168.2) (aV (pz Y fun l170 f s => r_loadE1 ta3 (h52.mono l170) s.sub g168.1 g168.2 (f.ev Y) Y) (aV (pz Y fun _ f s => r_eql (f.ev Y) (f.ev Y)) aV0)))))))))))))))))))))))))))) Y fun M175 l176 => ?_
      replace h2 := h2.mono l176
      replace h36 := h36.mono l176
      replace h68 := h68.mono l176
      replace h88 := h88.mono l176
      refine ni k90 (wv Y (fun f s => r_build (is := [0, 1, 2, 3, 4, 5, 6, 7, 8]) (xs := [.tmp 48, .tmp 51, .tmp 54, .tmp 57, .tmp 60, .tmp 63, .tmp 66, .tmp 69, .tmp 73]) (A := Key.C (⟨rd t46.1 0, rd t46.1 1, rd t12.1 1, rd t46.1 2, rd t46.1 3, rd t46.1 4, rd t46.1 5, rd t46.1 6, (rd t46.1 7) == 1⟩ : Key)) Y (f.evs Y) (by kernel_rfl)) ?_)
      obtain ⟨z186, e188, H⟩ := bnd H
      have e187 := some_r e188
      refine w_store (i := 1) (A' := Key.C z186) trivial Y Y Y Y ts97 Y (Key.F_one _) (Nat.le_of_ble_eq_true Y) (by rw [← e187]; exact Y) ?_
      exact w_nil fun a w' f s => ⟨z186, t82.2, v87, _, l65.trans (l73.trans (l79.trans (l85.trans l176))), h88, f.pk Y, s.selD [some 0, some 1, some 2, some 3] (by decide) Y, H⟩
     replace H := if_f b89 H
     refine c_skip ?_
     intro a w' f s
     exact ⟨(⟨0, 0, [], 0, 0, 0, 0, 0, false⟩ : Key), t82.2, v87, _, l65.trans (l73.trans (l79.trans l85)), h88, f.pk Y, s.selD [some 0, some 1, some 2, some 3] (by decide) Y, H⟩
    replace b69 := Bool.eq_false_iff.2 b69
    replace H := if_f b69 H
    refine wq b69 Y Y Y (wq b69 Y Y Y (wq b69 Y Y Y (wq b69 Y Y Y (wq b69 Y Y Y (wq b69 Y Y Y (wq b69 Y Y Y (wv Y (fun f s => r_pickF (f.ev Y) b69 (f.ev Y)) (wk k61 (c_if Y (fun hb => absurd (hb.symm.trans Y) (by decide)) (fun hb => c_skip ?_))))))))))
    intro a w' f s
    exact ⟨(⟨0, 0, [], 0, 0, 0, 0, 0, false⟩ : Key), t62.2, v67, _, l65, h68, f.pk Y, s.selD [some 0, some 1, some 2, some 3] (by decide) Y, H⟩
   rintro a w' ⟨x55, x56, v57, M59, l60, h58, f, s, H⟩
   refine cof f s ?_
   unfold backup_reader_key.j2 at H
   replace h2 := h2.mono l60
   replace h36 := h36.mono l60
   exact c_reg (vm Y Y (vm Y Y (wv Y (fun f s => r_nilCheck (f.ev Y)) (v_fa fa117_1 Y Y (wv Y (fun f s => r_load1 ta31 (f.ev Y) (s.blk (i := 3) Y) Y) (wv Y (fun f s => r_nilCheck (f.ev Y)) (v_fa fa117_1 Y Y (w_store (i := 2) (A' := backup_reader.C ({ t30.2 with e := x56.e } : backup_reader) v35) trivial Y Y Y Y ts31 Y (one1 Y) (Nat.le_of_ble_eq_true Y) Y (w_nil fun a w' f s => ⟨x55, ({ t30.2 with e := x56.e } : backup_reader), v35, _, l33.trans (l42.trans (l49.trans l60)), h36, f.pk Y, s.selD [some 0, some 1, some 2] (by decide) Y, H⟩)))))))))
  replace H := if_f b37 H
  refine c_skip ?_
  intro a w' f s
  exact ⟨(⟨0, 0, [], 0, 0, 0, 0, 0, false⟩ : Key), t30.2, v35, _, l33, h36, f.pk Y, s.selD [some 0, some 1, some 2] (by decide) Y, H⟩
 rintro a w' ⟨x21, x22, v23, M25, l26, h24, f, s, H⟩
 refine cof f s ?_
 unfold backup_reader_key.j1 at H
 replace h2 := h2.mono l26
 refine c_sr fun _ k27 => vm Y Y (vm Y Y (wv Y (fun f s => r_nilCheck (f.ev Y)) (v_fa fa117_1 Y Y (wv Y (fun f s => r_load1 ta31 (f.ev Y) (s.blk (i := 2) Y) Y) (wv Y (fun f s => r_nilCheck (f.ev Y)) (v_fa fa117_1 Y Y (w_store (i := 0) (A' := (backup_reader.C ({ x_ with e := x22.e } : backup_reader) v1 ++ q)) trivial Y Y Y Y ts31 Y (one1 Y) (Nat.le_of_ble_eq_true Y) Y (wk k27 (c_sr fun _ k28 => wv Y (fun f s => r_loadA ta97 ts97 (f.ev Y) (s.blk (i := 1) Y) Y Y) (w_store (i := 1) (A' := Key.C x21) trivial Y Y Y Y ts97 Y (Key.F_one _) (Nat.le_of_ble_eq_true Y) Y (wk k28 ?_)))))))))))
 obtain rfl := some_r H
 exact cx hret Y fun f s => ⟨_, _, _, Res.of1 Y ⟨_, f.get _ _ Y, run_loadA (s.blk (i := 1) Y) ta97 ts97 Y Y⟩, s.sel [0] (by decide) Y, ⟨_, Y, h2, Y⟩⟩
theorem backup_Open.calls (hM : Sub M w) (hG : Gl M) (p0 : (List UInt8)) (p1 : (List UInt8)) (r : (Backup × Int)) (H : backup_Open p0 p1 = some r) :
  Calls prog 28 [str p0, str p1].toArray w (Post M w fun M' v => ∃ v258, v = .tuple #[.agg (Backup.C r.1 v258).toArray, .int .i64 r.2] ∧ RS Key.F M' v258 r.1.Keys) := by
 refine enter 87 [(0, str p0), (1, str p1)] func28 Y Y Y hM ?_
 intro Q hret
 unfold backup_Open at H
 refine c_sr fun _ k1 => w_allocL (A := Backup.C (⟨replicate 16 0, 0, 0, 0, 0, replicate 16 0, [], []⟩ : Backup) (.slice none 0 0)) tz26 trivial Y Y ?_
 intro b2
 refine va Y Y (wk k1 (c_seq fun K3 k3 => c_sr fun _ k4 => vm Y Y (wv Y (fun f s => r_slen underlying9 (f.ev Y)) (wv Y (fun f s => r_neq (f.ev Y) (f.ev Y)) (wk k4 (c_if Y (fun b5 => ?_) (fun b5 => ?_)))))))
 ·replace H := if_t b5 H
  refine c_sr fun _ k6 => wv Y (fun f s => r_build (is := []) (xs := []) (A := Backup.C (⟨replicate 16 0, 0, 0, 0, 0, replicate 16 0, [], []⟩ : Backup) (.slice none 0 0)) Y (f.evs Y) (built_of (pl := [(0, 16), (16, 1), (17, 1), (18, 1), (19, 1), (20, 16), (36, 1), (37, 1)]) (A0 := Backup.C (⟨replicate 16 0, 0, 0, 0, 0, replicate 16 0, [], []⟩ : Backup) (.slice none 0 0)) tz26 underlying26 (by kernel_rfl) Y .nil)) ?_
  obtain ⟨z7, e9, H⟩ := bnd H
  have e8 := some_r e9
  refine w_store (i := 0) (A' := Backup.C z7 (.slice none 0 0)) trivial Y Y Y Y ts26 (Backup.len _ _) (Backup.C_one _ Y) (by rw [Backup.len]; decide) (by rw [← e8]; exact (splice_all _ _ (by simp [Backup.C]))) ?_
  have h10 : RS Key.F M (.slice none 0 0) z7.Keys := by rw [← e8]; exact RS.none
  refine va Y Y (wk k6 ?_)
  obtain rfl := some_r H
  exact cx hret Y fun f s => ⟨_, _, Res.of2 Y ⟨_, f.get _ _ Y, run_loadA (s.blk (i := 0) Y) ta26 ts26 (Backup.d0_38 _ _) (Backup.len _ _)⟩ (RV.t f Y), s.ext, ⟨_, Y, h10⟩⟩
 replace H := if_f b5 H
 refine cs k3 (c_sr fun _ k11 => vm Y Y (w_s2b underlying9 underlying91 underlying5 trivial Y Y ?_))
 intro v12 M13 l14 h15
 replace hG := hG.mono l14
 refine wv Y (fun f s => r_build (is := [0]) (xs := [.tmp 18]) (A := backup_reader.C (⟨bytesI p1, 0⟩ : backup_reader) v12) Y (f.evs Y) (built_of (pl := [(0, 1), (1, 1)]) (A0 := backup_reader.C (⟨[], 0⟩ : backup_reader) (.slice none 0 0)) tz117 underlying117 (by kernel_rfl) Y (.cons (vs := [v12]) (B := backup_reader.C (⟨bytesI p1, 0⟩ : backup_reader) v12) Y (h15.cells1) Y (by rw [backup_reader.len]; decide) Y .nil))) (wv Y (fun f s => r_build (is := [0]) (xs := [.tmp 19]) (A := backup_blobReader.C (⟨(⟨bytesI p1, 0⟩ : backup_reader), []⟩ : backup_blobReader) v12) Y (f.evs Y) (built_of (pl := [(0, 2), (2, 1)]) (A0 := backup_blobReader.C (⟨(⟨[], 0⟩ : backup_reader), []⟩ : backup_blobReader) (.slice none 0 0)) tz119 underlying119 (by kernel_rfl) Y (.cons (vs := backup_reader.C (⟨bytesI p1, 0⟩ : backup_reader) v12) (B := backup_blobReader.C (⟨(⟨bytesI p1, 0⟩ : backup_reader), []⟩ : backup_blobReader) v12) Y Y (backup_reader.len _ _) (by rw [backup_blobReader.len]; decide) Y .nil))) (w_boxL trivial Y Y Y ?_))
 intro b16
 refine va Y Y (wk k11 (c_sr fun _ k17 => vm Y Y ?_))
 obtain ⟨t18, e19, H⟩ := bnd H
 refine w_callJ (b0 := b16) 1 cf74 trivial Y Y Y Y (fun w s => backup_blobReader_peek.calls (b := b16) (T := 119) (q := []) (x_ := (⟨(⟨bytesI p1, 0⟩ : backup_reader), []⟩ : backup_blobReader)) s h15 _ e19) ?_
 rintro v22 M20 _ l21 ⟨v26, hv_, h27, n25, rfl⟩
 subst hv_
 replace hG := hG.mono l21
 refine w_L [bk b2 (Backup.C (⟨replicate 16 0, 0, 0, 0, 0, replicate 16 0, [], []⟩ : Backup) (.slice none 0 0)) 26, bk b16 (backup_blobReader.C t18.2 v26) 119] (by first | rfl | (rw [n25]; rfl)) (w_allocL (A := Backup.C (⟨replicate 16 0, 0, 0, 0, 0, replicate 16 0, [], []⟩ : Backup) (.slice none 0 0)) tz26 trivial Y Y ?_)
 intro b28
 refine w_L [bk b2 (Backup.C (⟨replicate 16 0, 0, 0, 0, 0, replicate 16 0, [], []⟩ : Backup) (.slice none 0 0)) 26, bk b16 (backup_blobReader.C t18.2 v26) 119, bk b28 (Backup.C (⟨replicate 16 0, 0, 0, 0, 0, replicate 16 0, [], []⟩ : Backup) (.slice none 0 0)) 26] (by first | rfl | (rw [n25]; rfl)) (w_store (i := 2) (A' := Backup.C t18.1 (.slice none 0 0)) trivial Y Y Y Y ts26 (Backup.len _ _) (Backup.C_one _ Y) (by rw [Backup.len]; decide) (splice_all _ _ (by simp [Backup.C])) (w_L [bk b2 (Backup.C (⟨replicate 16 0, 0, 0, 0, 0, replicate 16 0, [], []⟩ : Backup) (.slice none 0 0)) 26, bk b16 (backup_blobReader.C t18.2 v26) 119, bk b28 (Backup.C t18.1 (.slice none 0 0)) 26] (by first | rfl | (rw [n25]; rfl)) (wk k17 (c_seq fun K29 k29 => c_sr fun _ k30 => vm Y Y (wv Y (fun f s => r_nilCheck (f.ev Y)) (v_fa fa119_0 Y Y (v_fa fa117_1 Y Y (wv Y (fun f s => r_load1 ta31 (f.ev Y) (s.blk (i := 1) Y) Y) (wv Y (fun f s => r_neq (f.ev Y) (f.ev Y)) ?_)))))))))
 refine wk k30 (c_if Y (fun b31 => ?_) (fun b31 => ?_))
 ·replace H := if_t b31 H
  refine c_seq fun K32 k32 => c_drawP [([], []), ([], [6]), ([(1, 31)], []), ([(2, 32)], []), ([(3, 33)], []), ([(4, 34)], []), ([(0, 30)], [4]), ([(5, 35)], [])] [vq (.agg (Backup.C (⟨replicate 16 0, 0, 0, 0, 0, replicate 16 0, [], []⟩ : Backup) (.slice none 0 0)).toArray), vq (ptr b16 0), vq (ptr b16 0), vq (ptr b16 0), vq (ptr b16 1), vq (.int .i64 t18.2.reader.e), fun _ _ => True, vq (.int .i64 t18.2.reader.e)] (by kernel_rfl) (by kernel_rfl) ?_ (aT ?_ (aT ?_ (aT ?_ (aT ?_ (aT ?_ (aT ?_ (aT ?_ (aT ?_ AllT.nil)))))))) ?_
  ·exact (mC (mC (mC (mC (mC (mC (mC (mC MonoA.nil))))))))
  ·intro a w' _ _ hd s
   exact pv hd.fr s Y (fun f s => r_build (is := []) (xs := []) (A := Backup.C (⟨replicate 16 0, 0, 0, 0, 0, replicate 16 0, [], []⟩ : Backup) (.slice none 0 0)) Y (f.evs Y) (built_of (pl := [(0, 16), (16, 1), (17, 1), (18, 1), (19, 1), (20, 16), (36, 1), (37, 1)]) (A0 := Backup.C (⟨replicate 16 0, 0, 0, 0, 0, replicate 16 0, [], []⟩ : Backup) (.slice none 0 0)) tz26 underlying26 (by kernel_rfl) Y .nil)) Y
  ·intro a w' _ _ hd s
   exact pv (hd.fr.add (hd.base 6 _ Y Y)) s Y (fun f s => r_move (f.ev Y)) Y
  ·intro a w' _ _ hd s
   exact pv (hd.fr.add (hd.val 1 31 _ Y Y)) s Y (fun f s => r_nilCheck (f.ev Y)) Y
  ·intro a w' _ _ hd s
   exact pv (hd.fr.add (hd.val 2 32 _ Y Y)) s Y (fun f s => r_fa fa119_0 (f.ev Y)) Y
  ·intro a w' _ _ hd s
   exact pv (hd.fr.add (hd.val 3 33 _ Y Y)) s Y (fun f s => r_fa fa117_1 (f.ev Y)) Y
  ·intro a w' _ _ hd s
   exact pv (hd.fr.add (hd.val 4 34 _ Y Y)) s Y (fun f s => r_load1 ta31 (f.ev Y) (s.blk (i := 1) Y) Y) Y
  ·intro a w' _ _ hd s
   have e51 := hd.val 0 30 _ Y Y
   exact OP.ofW ((hd.fr.add e51).add (hd.base 4 _ Y Y)) s Y (w_store (i := 0) (A' := Backup.C (⟨replicate 16 0, 0, 0, 0, 0, replicate 16 0, [], []⟩ : Backup) (.slice none 0 0)) trivial Y Y Y Y ts26 (Backup.len _ _) (Backup.C_one _ Y) (by rw [Backup.len]; decide) (splice_all _ _ (by simp [Backup.C])) (w_nil fun a w' f s => ⟨Y, f.df, _, HLe.refl _, s, trivial⟩))
  ·intro a w' _ _ hd s
   exact pv (hd.fr.add (hd.val 5 35 _ Y Y)) s Y (fun f s => r_assign (f.ev Y)) Y
  intro a w' M55 l56 hdf hsz hb hv s
  replace hG := hG.mono l56
  replace h27 := h27.mono l56
  have e57 := hv 7 5 _ Y Y
  refine n_of (c := (Cx.mk prog 87 none' M w)) ?_ (((Fr.start hdf hsz).add e57).add (hb 4 _ Y Y)) s
  refine ni k32 ?_
  obtain rfl := some_r H
  exact cx hret Y fun f s => ⟨_, _, Res.of2 Y ⟨_, f.get _ _ Y, run_loadA (s.blk (i := 0) Y) ta26 ts26 (Backup.d0_38 _ _) (Backup.len _ _)⟩ (RV.t f Y), s.ext, ⟨_, Y, RS.none⟩⟩
 replace H := if_f b31 H
 refine cs k29 (c_seq fun K58 k58 => ?_)
 obtain ⟨t64, e69, H⟩ := bnd H
 obtain ⟨t103, e108, H⟩ := bnd H
 refine cV [([], [0]), ([(0, 37)], []), ([], [6]), ([(2, 39)], []), ([(3, 40)], []), ([(4, 41)], []), ([], [6]), ([(6, 43)], []), ([(7, 44)], []), ([(8, 45)], []), ([(9, 46)], []), ([(10, 47)], []), ([(1, 38), (5, 42), (11, 48)], []), ([(12, 49)], []), ([(13, 36)], []), ([(13, 36)], []), ([(14, 50)], []), ([(15, 51)], [])] (by kernel_rfl) (aV (pz Y fun _ f s => r_move (f.ev Y)) (aV (pzc cf54 Y Y fun _ l62 w s => kdf_Derive.calls s (hG.mono l62) p0 ([98, 97, 99, 107, 117, 112] : List UInt8) ([] : (List (List UInt8))) (.slice none 0 0) RS.none _ e69) (aV (pz Y fun _ f s => r_move (f.ev Y)) (aV (pz Y fun _ f s => r_nilCheck (f.ev Y)) (aV (pz Y fun _ f s => r_fa fa119_1 (f.ev Y)) (aV (pz Y fun _ f s => r_load1 ta9 (f.ev Y) (s.blk (i := 1) Y) Y) (aV (pz Y fun _ f s => r_move (f.ev Y)) (aV (pz Y fun _ f s => r_nilCheck (f.ev Y)) (aV (pz Y fun _ f s => r_fa fa119_0 (f.ev Y)) (aV (pz Y fun _ f s => r_fa fa117_0 (f.ev Y)) (aV (pz Y fun _ f s => r_load1 ta91 (f.ev Y) (s.blk (i := 1) Y) Y) (aV (pz Y fun l96 f s => r_b2s underlying91 underlying5 underlying9 (h27.mono l96) s.sub (f.ev Y)) (aV (pzc cf78 Y Y fun _ l99 w s => seal_Open.calls s (hG.mono l99) t64 t18.2.header (intsB t18.2.reader.rest_) _ e108) (aV (pz Y fun _ f s => r_move (f.ev Y)) (aV (pz Y fun _ f s => r_extract (f.ev Y) Y) (aV (pz Y fun _ f s => r_extract (f.ev Y) Y) (aV (pz Y fun _ f s => r_assign (f.ev Y)) (aV (pz Y fun _ f s => r_assign (f.ev Y)) aV0)))))))))))))))))) Y fun M124 l125 => ?_
 refine ni k58 (c_seq fun K128 k128 => c_sr fun _ k129 => vm Y Y (wv Y (fun f s => r_neq (f.ev Y) (f.ev Y)) (wk k129 (c_if Y (fun b130 => ?_) (fun b130 => ?_)))))
 ·replace H := if_t b130 H
  refine c_sr fun _ k131 => wv Y (fun f s => r_build (is := []) (xs := []) (A := Backup.C (⟨replicate 16 0, 0, 0, 0, 0, replicate 16 0, [], []⟩ : Backup) (.slice none 0 0)) Y (f.evs Y) (built_of (pl := [(0, 16), (16, 1), (17, 1), (18, 1), (19, 1), (20, 16), (36, 1), (37, 1)]) (A0 := Backup.C (⟨replicate 16 0, 0, 0, 0, 0, replicate 16 0, [], []⟩ : Backup) (.slice none 0 0)) tz26 underlying26 (by kernel_rfl) Y .nil)) (vm Y Y ?_)
  obtain ⟨z132, e134, H⟩ := bnd H
  have e133 := some_r e134
  refine w_store (i := 0) (A' := Backup.C z132 (.slice none 0 0)) trivial Y Y Y Y ts26 (Backup.len _ _) (Backup.C_one _ Y) (by rw [Backup.len]; decide) (by rw [← e133]; exact (splice_all _ _ (by simp [Backup.C]))) ?_
  have h135 : RS Key.F M124 (.slice none 0 0) z132.Keys := by rw [← e133]; exact RS.none
  refine w_L [bk b2 (Backup.C z132 (.slice none 0 0)) 26, bk b16 (backup_blobReader.C t18.2 v26) 119, bk b28 (Backup.C t18.1 (.slice none 0 0)) 26] (by first | rfl | (rw [n25]; rfl)) (va Y Y (wk k131 ?_))
  obtain rfl := some_r H
  exact cx hret Y fun f s => ⟨_, _, Res.of2 Y ⟨_, f.get _ _ Y, run_loadA (s.blk (i := 0) Y) ta26 ts26 (Backup.d0_38 _ _) (Backup.len _ _)⟩ (RV.t f Y), s.ext, ⟨_, Y, h135⟩⟩
 replace H := if_f b130 H
 refine cs k128 (c_sr fun _ k136 => vm Y Y (w_s2b underlying9 underlying91 underlying5 trivial Y Y ?_))
 intro v137 M138 l139 h140
 refine wv Y (fun f s => r_build (is := [0]) (xs := [.tmp 57]) (A := backup_reader.C (⟨bytesI t103.1, 0⟩ : backup_reader) v137) Y (f.evs Y) (built_of (pl := [(0, 1), (1, 1)]) (A0 := backup_reader.C (⟨[], 0⟩ : backup_reader) (.slice none 0 0)) tz117 underlying117 (by kernel_rfl) Y (.cons (vs := [v137]) (B := backup_reader.C (⟨bytesI t103.1, 0⟩ : backup_reader) v137) Y (h140.cells1) Y (by rw [backup_reader.len]; decide) Y .nil))) (w_boxL trivial Y Y Y ?_)
 intro b141
 refine va Y Y (wk k136 (c_row0 97 9 ?_))
 refine c_cut (fun a' w' => ∃ (x142 : Backup) (v143 : Value) (x144 : backup_reader) (v145 : Value) (M147 : Heap), HLe M138 M147 ∧ RS (FI .u8) M147 v145 x144.rest_ ∧ Fr 87 [(4, ptr b2 0), (7, ptr b28 0), (10, ptr b141 0)] a' ∧ St none' M w M147 (lt [bk b2 (Backup.C (⟨replicate 16 0, 0, 0, 0, 0, replicate 16 0, [], []⟩ : Backup) (.slice none 0 0)) 26, dead, bk b28 (Backup.C x142 v143) 26, bk b141 (backup_reader.C x144 v145) 117, rowI Key.F v143 97 x142.Keys]) w' ∧ backup_Open.j1 x142 x144 = some r) ?_ ?_
 ·refine c_seq ?_
  intro K192 k192
  refine c_reg (vm Y Y ?_)
  obtain ⟨t193, e194, H⟩ := bnd H
  refine w_callJ (b0 := b141) 3 cf79 trivial Y Y Y Y (fun w s => backup_whole_LLstring.calls (b := b141) (T := 117) (q := []) (x_ := (⟨bytesI t103.1, 0⟩ : backup_reader)) s h140 _ e194) ?_
  rintro v197 M195 _ l196 ⟨v198, v200, hv_, h199, h201, rfl⟩
  replace hv_ := hv_.symm
  subst hv_
  refine w_L [bk b2 (Backup.C (⟨replicate 16 0, 0, 0, 0, 0, replicate 16 0, [], []⟩ : Backup) (.slice none 0 0)) 26, bk b16 (backup_blobReader.C t18.2 v26) 119, bk b28 (Backup.C t18.1 (.slice none 0 0)) 26, bk b141 (backup_reader.C t193.2 v200) 117, rowI Key.F (.slice none 0 0) 97 t18.1.Keys] (by first | rfl | (rw [n25]; rfl)) (wv Y (fun f s => r_lenR underlying127 h199 (f.ev Y)) (vm Y Y (wk k192 (c_block ?_))))
  refine c_loop (fun (s202 : (Backup × backup_reader × Int)) a' w' => ∃ (v203 : Value) (v204 : Value) (M206 : Heap), HLe M195 M206 ∧ RS (FI .u8) M206 v204 s202.2.1.rest_ ∧ Fr 87 [(4, ptr b2 0), (7, ptr b28 0), (10, ptr b141 0), (61, v198), (62, .int .i64 (t193.1.length : Int)), (63, .int .i64 s202.2.2)] a' ∧ St none' M w M206 (lt [bk b2 (Backup.C (⟨replicate 16 0, 0, 0, 0, 0, replicate 16 0, [], []⟩ : Backup) (.slice none 0 0)) 26, dead, bk b28 (Backup.C s202.1 v203) 26, bk b141 (backup_reader.C s202.2.1 v204) 117, rowI Key.F v203 97 s202.1.Keys]) w') (t18.1, t193.2, 0) H ?_ ?_
  ·intro a w' f s
   exact ⟨.slice none 0 0, v200, _, HLe.refl _, h201, f.pk Y, s.selD [some 0, none, some 2, some 3, some 4] (by decide) (by first | rfl | (rw [n25]; rfl))⟩
  intro s202 y209 H r208 a w' hJ
  obtain ⟨v203, v204, M206, l207, h205, f, s⟩ := hJ
  refine cof f s ?_
  unfold backup_Open.l2 at H
  replace h199 := h199.mono l207
  refine c_sr fun _ k210 => v_lss Y Y Y (wk k210 (c_seq fun K211 k211 => c_if Y (fun b212 => ?_) (fun b212 => ?_)))
  ·replace H := if_t b212 H
   refine cs k211 (c_seq fun K213 k213 => c_block (c_sr fun _ k214 => ?_))
   obtain ⟨g215, H⟩ := grd_s H
   refine wv Y (fun f s => r_iR underlying127 ts9 h199 (f.ev Y) (f.ev Y) g215.1 g215.2) (wv Y (fun f s => r_loadE1 ta9 h199 s.sub g215.1 g215.2 (f.ev Y) Y) (va Y Y (wk k214 (csp 6 (by kernel_rfl) ?_))))
   intro K216 k216
   obtain ⟨t230, e231, H⟩ := bnd H
   refine d_drawW [[], [], [], [4], []] [⟨[], [7], [], none⟩, ⟨[(0, 67)], [], [(2, 0)], none⟩, ⟨[], [10], [], none⟩, ⟨[], [12], [], none⟩, ⟨[(2, 69), (3, 70)], [], [(3, 0)], some (3, 0)⟩, ⟨[(4, 71)], [], [], none⟩] [vq (ptr b28 37), vq v203, vq (ptr b141 0), vq (str (rd t193.1 s202.2.2)), vq (.agg (Key.C t230.1).toArray), fun v M => ∃ (v240 : Value), v = v240 ∧ RS Key.F M v240 ([t230.1] : List Key) ∧ ∃ A, v240 = .slice A ([t230.1] : List Key).length ([t230.1] : List Key).length] [[fun y M => y = bk b2 (Backup.C (⟨replicate 16 0, 0, 0, 0, 0, replicate 16 0, [], []⟩ : Backup) (.slice none 0 0)) 26], [fun y M => y = dead], [fun y M => y = bk b28 (Backup.C s202.1 v203) 26], [fun y M => y = bk b141 (backup_reader.C s202.2.1 v204) 117, fun y M => ∃ (v235 : Value), y = bk b141 (backup_reader.C t230.2 v235) 117 ∧ RS (FI .u8) M v235 t230.2.rest_], [fun y M => y = rowI Key.F v203 97 s202.1.Keys]] (by kernel_rfl) (by kernel_rfl) ?_ ?_ Y ?_ (AllW.cons ?_ (AllW.cons ?_ (AllW.cons ?_ (AllW.cons ?_ (AllW.cons ?_ (AllW.cons ?_ AllW.nil)))))) ?_
   ·exact (mC (mC (mC (mC (mC (MonoA.cons (fun _ _ _ hM h => by obtain ⟨v240, e_, q0, q1⟩ := h; exact ⟨v240, e_, q0.mono hM, q1⟩) MonoA.nil))))))
   ·exact (MonoK.cons (mono_cons (fun _ _ _ _ h => h) mono_nil) (MonoK.cons (mono_cons (fun _ _ _ _ h => h) mono_nil) (MonoK.cons (mono_cons (fun _ _ _ _ h => h) mono_nil) (MonoK.cons (mono_cons (fun _ _ _ _ h => h) (mono_cons (fun _ _ _ hM h => by obtain ⟨v235, e_, q0⟩ := h; exact ⟨v235, e_, q0.mono hM⟩) mono_nil)) (MonoK.cons (mono_cons (fun _ _ _ _ h => h) mono_nil) MonoK.nil)))))
   ·exact (All0.cons Y (All0.cons Y (All0.cons Y (All0.cons Y (All0.cons Y All0.nil)))))
   ·intro a w' _ _ _ hL hd s
    obtain ⟨x0_, L0_, rfl, hL0⟩ := lenS hL
    obtain ⟨x1_, L1_, rfl, hL1⟩ := lenS hL0
    obtain ⟨x2_, L2_, rfl, hL2⟩ := lenS hL1
    obtain ⟨x3_, L3_, rfl, hL3⟩ := lenS hL2
    obtain ⟨x4_, L4_, rfl, hL4⟩ := lenS hL3
    obtain rfl := len0 hL4
    exact pw (hd.fr.add (hd.base 7 _ Y Y)) s Y (fun f s => r_fa fa26_7 (f.ev Y)) Y Y
   ·intro a w' _ _ _ hL hd s
    obtain ⟨x0_, L0_, rfl, hL0⟩ := lenS hL
    obtain ⟨x1_, L1_, rfl, hL1⟩ := lenS hL0
    obtain ⟨x2_, L2_, rfl, hL2⟩ := lenS hL1
    obtain ⟨x3_, L3_, rfl, hL3⟩ := lenS hL2
    obtain ⟨x4_, L4_, rfl, hL4⟩ := lenS hL3
    obtain rfl := len0 hL4
    obtain ⟨_, ⟨⟩, rfl⟩ := hd.item 2 0 _ Y Y
    exact pw (hd.fr.add (hd.val 0 67 _ Y Y)) s Y (fun f s => r_load1 ta24 (f.ev Y) (s.blk (i := 2) Y) (Backup.g37 _ _)) Y Y
   ·intro a w' _ _ _ hL hd s
    obtain ⟨x0_, L0_, rfl, hL0⟩ := lenS hL
    obtain ⟨x1_, L1_, rfl, hL1⟩ := lenS hL0
    obtain ⟨x2_, L2_, rfl, hL2⟩ := lenS hL1
    obtain ⟨x3_, L3_, rfl, hL3⟩ := lenS hL2
    obtain ⟨x4_, L4_, rfl, hL4⟩ := lenS hL3
    obtain rfl := len0 hL4
    exact pw (hd.fr.add (hd.base 10 _ Y Y)) s Y (fun f s => r_move (f.ev Y)) Y Y
   ·intro a w' _ _ _ hL hd s
    obtain ⟨x0_, L0_, rfl, hL0⟩ := lenS hL
    obtain ⟨x1_, L1_, rfl, hL1⟩ := lenS hL0
    obtain ⟨x2_, L2_, rfl, hL2⟩ := lenS hL1
    obtain ⟨x3_, L3_, rfl, hL3⟩ := lenS hL2
    obtain ⟨x4_, L4_, rfl, hL4⟩ := lenS hL3
    obtain rfl := len0 hL4
    exact pw (hd.fr.add (hd.base 12 _ Y Y)) s Y (fun f s => r_move (f.ev Y)) Y Y
   ·intro a w' _ _ l227 hL hd s
    have e228 := hd.val 2 69 _ Y Y
    have e229 := hd.val 3 70 _ Y Y
    obtain ⟨x0_, L0_, rfl, hL0⟩ := lenS hL
    obtain ⟨x1_, L1_, rfl, hL1⟩ := lenS hL0
    obtain ⟨x2_, L2_, rfl, hL2⟩ := lenS hL1
    obtain ⟨x3_, L3_, rfl, hL3⟩ := lenS hL2
    obtain ⟨x4_, L4_, rfl, hL4⟩ := lenS hL3
    obtain rfl := len0 hL4
    obtain ⟨_, ⟨⟩, rfl⟩ := hd.item 3 0 _ Y Y
    replace h205 := h205.mono l227
    refine OP.ofW ((hd.fr.add e229).add e228) s Y (w_callJ (b0 := b141) 3 cf81 trivial Y Y Y Y (fun w s => backup_reader_key.calls (b := b141) (T := 117) (q := []) (x_ := s202.2.1) s h205 (rd t193.1 s202.2.2) _ e231) ?_)
    rintro v234 M232 _ l233 ⟨v235, hv_, h236, rfl⟩
    subst hv_
    replace h205 := h205.mono l233
    exact w_nil fun a w' f s => ⟨Y, f.df, _, _, l233, s, f.get _ _ Y, ⟨bk b141 (backup_reader.C t230.2 v235) 117, Y, of_some (q := fun y M => ∃ (v235 : Value), y = bk b141 (backup_reader.C t230.2 v235) 117 ∧ RS (FI .u8) M v235 t230.2.rest_) ⟨v235, Y, h236⟩⟩⟩
   ·intro a w' _ _ _ hL hd s
    have e239 := hd.val 4 71 _ Y Y
    obtain ⟨x0_, L0_, rfl, hL0⟩ := lenS hL
    obtain ⟨x1_, L1_, rfl, hL1⟩ := lenS hL0
    obtain ⟨x2_, L2_, rfl, hL2⟩ := lenS hL1
    obtain ⟨x3_, L3_, rfl, hL3⟩ := lenS hL2
    obtain ⟨x4_, L4_, rfl, hL4⟩ := lenS hL3
    obtain rfl := len0 hL4
    refine OP.ofW (hd.fr.add e239) s Y (w_bsl (F := Key.F) (es := ([t230.1] : List Key)) (xs := [.tmp 71]) underlying24 te97 trivial Y Y Y Y Y (by decide) ?_)
    intro v240 M241 l242 h243 c244
    exact w_nil fun a w' f s => ⟨Y, f.df, _, _, l242, s, ⟨v240, f.get _ _ Y, h243, c244⟩, Y⟩
   intro a w' M245 L_ l246 hL hdf hsz hb hv hi s
   replace h205 := h205.mono l246
   have e247 := hv 1 68 _ Y Y
   obtain ⟨v248, e252, h249, h251⟩ := hv 5 72 _ Y Y
   obtain ⟨x0_, L0_, rfl, hL0⟩ := lenS hL
   obtain ⟨x1_, L1_, rfl, hL1⟩ := lenS hL0
   obtain ⟨x2_, L2_, rfl, hL2⟩ := lenS hL1
   obtain ⟨x3_, L3_, rfl, hL3⟩ := lenS hL2
   obtain ⟨x4_, L4_, rfl, hL4⟩ := lenS hL3
   obtain rfl := len0 hL4
   obtain ⟨_, hy, rfl⟩ := hi 0 _ Y
   obtain rfl := Option.some.inj hy
   obtain ⟨_, hy, rfl⟩ := hi 1 _ Y
   obtain rfl := Option.some.inj hy
   obtain ⟨_, hy, rfl⟩ := hi 2 _ Y
   obtain rfl := Option.some.inj hy
   obtain ⟨_, hy, v253, rfl, h254⟩ := hi 3 _ Y
   obtain rfl := Option.some.inj hy
   obtain ⟨_, hy, rfl⟩ := hi 4 _ Y
   obtain rfl := Option.some.inj hy
   refine n_of (c := (Cx.mk prog 87 none' M w)) ?_ (((((((((Fr.start hdf hsz).add e252).add e247).add (hb 63 _ Y Y)).add (hb 62 _ Y Y)).add (hb 61 _ Y Y)).add (hb 10 _ Y Y)).add (hb 7 _ Y Y)).add (hb 4 _ Y Y)) s
   refine ni k216 ?_
   obtain ⟨g255, H⟩ := grd_s H
   refine w_app (F := Key.F) (m2 := ([t230.1] : List Key)) (i := 4) underlying24 te97 underlying24 (.inl ⟨_, Y⟩) trivial Y Y Y Y (Src.rs Key.F_one h249) g255 ?_
   intro v256
   refine v_fa fa26_7 Y Y (w_rcell 4 Y ?_)
   intro q257
   exact w_store (i := 2) (A' := Backup.C ({ s202.1 with Keys := (s202.1.Keys ++ ([t230.1] : List Key)) } : Backup) v256) trivial Y Y Y q257.1 ts24 Y (one1 q257.2) (by rw [Backup.len]; decide) (Backup.s37_1 _ _) (w_L [bk b2 (Backup.C (⟨replicate 16 0, 0, 0, 0, 0, replicate 16 0, [], []⟩ : Backup) (.slice none 0 0)) 26, dead, bk b28 (Backup.C ({ s202.1 with Keys := (s202.1.Keys ++ ([t230.1] : List Key)) } : Backup) v256) 26, bk b141 (backup_reader.C t230.2 v253) 117, rowI Key.F v256 97 (s202.1.Keys ++ ([t230.1] : List Key))] (by first | rfl | (rw [n25]; rfl)) (wk k213 (c_reg (v_add Y Y Y (vm Y Y (w_nil fun a w' f s => ⟨_, (some_r H).symm, v256, v253, _, l207.trans l246, h254, f.pk Y, s.selD [some 0, none, some 2, some 3, some 4] (by decide) (by first | rfl | (rw [n25]; rfl))⟩))))))
  replace H := if_f b212 H
  replace H := map_inr H r208
  refine c_exit ?_
  intro a w' f s
  exact ⟨s202.1, v203, s202.2.1, v204, _, l196.trans l207, h205, f.pk Y, s.selD [some 0, none, some 2, some 3, some 4] (by decide) (by first | rfl | (rw [n25]; rfl)), H⟩
 rintro a w' ⟨x142, v143, x144, v145, M147, l148, h146, f, s, H⟩
 refine cof f s ?_
 unfold backup_Open.j1 at H
 refine c_seq fun K149 k149 => c_sr fun _ k150 => vm Y Y (wv Y (fun f s => r_loadA ta26 ts26 (f.ev Y) (s.blk (i := 2) Y) (Backup.d0_38 _ _) (Backup.len _ _)) ?_)
 obtain ⟨t154, e159, H⟩ := bnd H
 refine w_give 4 Y (fun _ h => h) ?_
 intro M151 l152 h153
 replace h146 := h146.mono l152
 refine w_call cf19 trivial Y Y (fun w s => backup_Valid.calls s x142 v143 h153 _ e159) ?_
 rintro _ M156 l157 rfl
 replace h146 := h146.mono l157
 replace h153 := h153.mono l157
 obtain ⟨t160, e161, H⟩ := bnd H
 refine w_callJ (b0 := b141) 3 cf82 trivial Y Y Y Y (fun w s => backup_reader_check.calls (b := b141) (T := 117) (q := []) (x_ := x144) s h146 t154 6 _ e161) ?_
 rintro v164 M162 _ l163 ⟨v165, hv_, h166, rfl⟩
 subst hv_
 replace h153 := h153.mono l163
 refine w_L [bk b2 (Backup.C (⟨replicate 16 0, 0, 0, 0, 0, replicate 16 0, [], []⟩ : Backup) (.slice none 0 0)) 26, dead, bk b28 (Backup.C x142 v143) 26, bk b141 (backup_reader.C t160.2 v165) 117, dead] (by first | rfl | (rw [n25]; rfl)) (wv Y (fun f s => r_not (f.ev Y)) (wk k150 (c_if Y (fun b167 => ?_) (fun b167 => ?_))))
 ·replace H := if_t b167 H
  refine c_seq fun K168 k168 => c_drawP [([], []), ([], [10]), ([(1, 82)], []), ([(2, 83)], []), ([(3, 84)], []), ([(0, 81)], [4]), ([(4, 85)], [])] [vq (.agg (Backup.C (⟨replicate 16 0, 0, 0, 0, 0, replicate 16 0, [], []⟩ : Backup) (.slice none 0 0)).toArray), vq (ptr b141 0), vq (ptr b141 0), vq (ptr b141 1), vq (.int .i64 t160.2.e), fun _ _ => True, vq (.int .i64 t160.2.e)] (by kernel_rfl) (by kernel_rfl) ?_ (aT ?_ (aT ?_ (aT ?_ (aT ?_ (aT ?_ (aT ?_ (aT ?_ AllT.nil))))))) ?_
  ·exact (mC (mC (mC (mC (mC (mC (mC MonoA.nil)))))))
  ·intro a w' _ _ hd s
   exact pv hd.fr s Y (fun f s => r_build (is := []) (xs := []) (A := Backup.C (⟨replicate 16 0, 0, 0, 0, 0, replicate 16 0, [], []⟩ : Backup) (.slice none 0 0)) Y (f.evs Y) (built_of (pl := [(0, 16), (16, 1), (17, 1), (18, 1), (19, 1), (20, 16), (36, 1), (37, 1)]) (A0 := Backup.C (⟨replicate 16 0, 0, 0, 0, 0, replicate 16 0, [], []⟩ : Backup) (.slice none 0 0)) tz26 underlying26 (by kernel_rfl) Y .nil)) Y
  ·intro a w' _ _ hd s
   exact pv (hd.fr.add (hd.base 10 _ Y Y)) s Y (fun f s => r_move (f.ev Y)) Y
  ·intro a w' _ _ hd s
   exact pv (hd.fr.add (hd.val 1 82 _ Y Y)) s Y (fun f s => r_nilCheck (f.ev Y)) Y
  ·intro a w' _ _ hd s
   exact pv (hd.fr.add (hd.val 2 83 _ Y Y)) s Y (fun f s => r_fa fa117_1 (f.ev Y)) Y
  ·intro a w' _ _ hd s
   exact pv (hd.fr.add (hd.val 3 84 _ Y Y)) s Y (fun f s => r_load1 ta31 (f.ev Y) (s.blk (i := 3) Y) Y) Y
  ·intro a w' _ _ hd s
   have e184 := hd.val 0 81 _ Y Y
   exact OP.ofW ((hd.fr.add e184).add (hd.base 4 _ Y Y)) s Y (w_store (i := 0) (A' := Backup.C (⟨replicate 16 0, 0, 0, 0, 0, replicate 16 0, [], []⟩ : Backup) (.slice none 0 0)) trivial Y Y Y Y ts26 (Backup.len _ _) (Backup.C_one _ Y) (by rw [Backup.len]; decide) (splice_all _ _ (by simp [Backup.C])) (w_nil fun a w' f s => ⟨Y, f.df, _, HLe.refl _, s, trivial⟩))
  ·intro a w' _ _ hd s
   exact pv (hd.fr.add (hd.val 4 85 _ Y Y)) s Y (fun f s => r_assign (f.ev Y)) Y
  intro a w' M188 l189 hdf hsz hb hv s
  replace h153 := h153.mono l189
  have e190 := hv 6 5 _ Y Y
  refine n_of (c := (Cx.mk prog 87 none' M w)) ?_ (((Fr.start hdf hsz).add e190).add (hb 4 _ Y Y)) s
  refine ni k168 ?_
  obtain rfl := some_r H
  exact cx hret Y fun f s => ⟨_, _, Res.of2 Y ⟨_, f.get _ _ Y, run_loadA (s.blk (i := 0) Y) ta26 ts26 (Backup.d0_38 _ _) (Backup.len _ _)⟩ (RV.t f Y), s.ext, ⟨_, Y, RS.none⟩⟩
 replace H := if_f b167 H
 refine cs k149 (c_sr fun _ k191 => wv Y (fun f s => r_loadA ta26 ts26 (f.ev Y) (s.blk (i := 2) Y) (Backup.d0_38 _ _) (Backup.len _ _)) (w_store (i := 0) (A' := Backup.C x142 v143) trivial Y Y Y Y ts26 (Backup.len _ _) (Backup.C_one _ h153.one) (by rw [Backup.len]; decide) (splice_all _ _ (by simp [Backup.C])) (w_L [bk b2 (Backup.C x142 v143) 26, dead, bk b28 (Backup.C x142 v143) 26, bk b141 (backup_reader.C t160.2 v165) 117, dead] (by first | rfl | (rw [n25]; rfl)) (va Y Y (wk k191 ?_)))))
 obtain rfl := some_r H
 exact cx hret Y fun f s => ⟨_, _, Res.of2 Y ⟨_, f.get _ _ Y, run_loadA (s.blk (i := 0) Y) ta26 ts26 (Backup.d0_38 _ _) (Backup.len _ _)⟩ (RV.t f Y), s.ext, ⟨_, Y, h153⟩⟩
theorem backup_Peek.calls (hM : Sub M w) (p0 : (List UInt8)) (r : (Backup × Int)) (H : backup_Peek p0 = some r) :
  Calls prog 26 [str p0].toArray w (Post M w fun M' v => ∃ v51, v = .tuple #[.agg (Backup.C r.1 v51).toArray, .int .i64 r.2] ∧ RS Key.F M' v51 r.1.Keys) := by
 refine enter 26 [(0, str p0)] func26 Y Y Y hM ?_
 intro Q hret
 unfold backup_Peek at H
 refine c_sr fun _ k1 => w_allocL (A := Backup.C (⟨replicate 16 0, 0, 0, 0, 0, replicate 16 0, [], []⟩ : Backup) (.slice none 0 0)) tz26 trivial Y Y ?_
 intro b2
 refine va Y Y (wk k1 (c_sr fun _ k3 => vm Y Y (w_s2b underlying9 underlying91 underlying5 trivial Y Y ?_)))
 intro v4 M5 l6 h7
 refine wv Y (fun f s => r_build (is := [0]) (xs := [.tmp 7]) (A := backup_reader.C (⟨bytesI p0, 0⟩ : backup_reader) v4) Y (f.evs Y) (built_of (pl := [(0, 1), (1, 1)]) (A0 := backup_reader.C (⟨[], 0⟩ : backup_reader) (.slice none 0 0)) tz117 underlying117 (by kernel_rfl) Y (.cons (vs := [v4]) (B := backup_reader.C (⟨bytesI p0, 0⟩ : backup_reader) v4) Y (h7.cells1) Y (by rw [backup_reader.len]; decide) Y .nil))) (wv Y (fun f s => r_build (is := [0]) (xs := [.tmp 8]) (A := backup_blobReader.C (⟨(⟨bytesI p0, 0⟩ : backup_reader), []⟩ : backup_blobReader) v4) Y (f.evs Y) (built_of (pl := [(0, 2), (2, 1)]) (A0 := backup_blobReader.C (⟨(⟨[], 0⟩ : backup_reader), []⟩ : backup_blobReader) (.slice none 0 0)) tz119 underlying119 (by kernel_rfl) Y (.cons (vs := backup_reader.C (⟨bytesI p0, 0⟩ : backup_reader) v4) (B := backup_blobReader.C (⟨(⟨bytesI p0, 0⟩ : backup_reader), []⟩ : backup_blobReader) v4) Y Y (backup_reader.len _ _) (by rw [backup_blobReader.len]; decide) Y .nil))) (w_boxL trivial Y Y Y ?_))
 intro b8
 refine va Y Y (wk k3 (c_sr fun _ k9 => vm Y Y ?_))
 obtain ⟨t10, e11, H⟩ := bnd H
 refine w_callJ (b0 := b8) 1 cf74 trivial Y Y Y Y (fun w s => backup_blobReader_peek.calls (b := b8) (T := 119) (q := []) (x_ := (⟨(⟨bytesI p0, 0⟩ : backup_reader), []⟩ : backup_blobReader)) s h7 _ e11) ?_
 rintro v14 M12 _ l13 ⟨v18, hv_, h19, n17, rfl⟩
 subst hv_
 refine w_allocL (A := Backup.C (⟨replicate 16 0, 0, 0, 0, 0, replicate 16 0, [], []⟩ : Backup) (.slice none 0 0)) tz26 trivial Y Y ?_
 intro b20
 refine w_store (i := 2) (A' := Backup.C t10.1 (.slice none 0 0)) trivial Y Y Y Y ts26 (Backup.len _ _) (Backup.C_one _ Y) (by rw [Backup.len]; decide) (splice_all _ _ (by simp [Backup.C])) (wk k9 (c_seq fun K21 k21 => c_sr fun _ k22 => vm Y Y (wv Y (fun f s => r_nilCheck (f.ev Y)) (v_fa fa119_0 Y Y (v_fa fa117_1 Y Y (wv Y (fun f s => r_load1 ta31 (f.ev Y) (s.blk (i := 1) Y) Y) (wv Y (fun f s => r_neq (f.ev Y) (f.ev Y)) (wk k22 (c_if Y (fun b23 => ?_) (fun b23 => ?_))))))))))
 ·replace H := if_t b23 H
  refine c_seq fun K24 k24 => c_drawP [([], []), ([], [4]), ([(1, 20)], []), ([(2, 21)], []), ([(3, 22)], []), ([(4, 23)], []), ([(0, 19)], [2]), ([(5, 24)], [])] [vq (.agg (Backup.C (⟨replicate 16 0, 0, 0, 0, 0, replicate 16 0, [], []⟩ : Backup) (.slice none 0 0)).toArray), vq (ptr b8 0), vq (ptr b8 0), vq (ptr b8 0), vq (ptr b8 1), vq (.int .i64 t10.2.reader.e), fun _ _ => True, vq (.int .i64 t10.2.reader.e)] (by kernel_rfl) (by kernel_rfl) ?_ (aT ?_ (aT ?_ (aT ?_ (aT ?_ (aT ?_ (aT ?_ (aT ?_ (aT ?_ AllT.nil)))))))) ?_
  ·exact (mC (mC (mC (mC (mC (mC (mC (mC MonoA.nil))))))))
  ·intro a w' _ _ hd s
   exact pv hd.fr s Y (fun f s => r_build (is := []) (xs := []) (A := Backup.C (⟨replicate 16 0, 0, 0, 0, 0, replicate 16 0, [], []⟩ : Backup) (.slice none 0 0)) Y (f.evs Y) (built_of (pl := [(0, 16), (16, 1), (17, 1), (18, 1), (19, 1), (20, 16), (36, 1), (37, 1)]) (A0 := Backup.C (⟨replicate 16 0, 0, 0, 0, 0, replicate 16 0, [], []⟩ : Backup) (.slice none 0 0)) tz26 underlying26 (by kernel_rfl) Y .nil)) Y
  ·intro a w' _ _ hd s
   exact pv (hd.fr.add (hd.base 4 _ Y Y)) s Y (fun f s => r_move (f.ev Y)) Y
  ·intro a w' _ _ hd s
   exact pv (hd.fr.add (hd.val 1 20 _ Y Y)) s Y (fun f s => r_nilCheck (f.ev Y)) Y
  ·intro a w' _ _ hd s
   exact pv (hd.fr.add (hd.val 2 21 _ Y Y)) s Y (fun f s => r_fa fa119_0 (f.ev Y)) Y
  ·intro a w' _ _ hd s
   exact pv (hd.fr.add (hd.val 3 22 _ Y Y)) s Y (fun f s => r_fa fa117_1 (f.ev Y)) Y
  ·intro a w' _ _ hd s
   exact pv (hd.fr.add (hd.val 4 23 _ Y Y)) s Y (fun f s => r_load1 ta31 (f.ev Y) (s.blk (i := 1) Y) Y) Y
  ·intro a w' _ _ hd s
   have e43 := hd.val 0 19 _ Y Y
   exact OP.ofW ((hd.fr.add e43).add (hd.base 2 _ Y Y)) s Y (w_store (i := 0) (A' := Backup.C (⟨replicate 16 0, 0, 0, 0, 0, replicate 16 0, [], []⟩ : Backup) (.slice none 0 0)) trivial Y Y Y Y ts26 (Backup.len _ _) (Backup.C_one _ Y) (by rw [Backup.len]; decide) (splice_all _ _ (by simp [Backup.C])) (w_nil fun a w' f s => ⟨Y, f.df, _, HLe.refl _, s, trivial⟩))
  ·intro a w' _ _ hd s
   exact pv (hd.fr.add (hd.val 5 24 _ Y Y)) s Y (fun f s => r_assign (f.ev Y)) Y
  intro a w' M47 l48 hdf hsz hb hv s
  have e49 := hv 7 3 _ Y Y
  refine n_of (c := (Cx.mk prog 26 none' M w)) ?_ (((Fr.start hdf hsz).add e49).add (hb 2 _ Y Y)) s
  refine ni k24 ?_
  obtain rfl := some_r H
  exact cx hret Y fun f s => ⟨_, _, Res.of2 Y ⟨_, f.get _ _ Y, run_loadA (s.blk (i := 0) Y) ta26 ts26 (Backup.d0_38 _ _) (Backup.len _ _)⟩ (RV.t f Y), s.ext, ⟨_, Y, RS.none⟩⟩
 replace H := if_f b23 H
 refine cs k21 (c_sr fun _ k50 => wv Y (fun f s => r_loadA ta26 ts26 (f.ev Y) (s.blk (i := 2) Y) (Backup.d0_38 _ _) (Backup.len _ _)) (w_store (i := 0) (A' := Backup.C t10.1 (.slice none 0 0)) trivial Y Y Y Y ts26 (Backup.len _ _) (Backup.C_one _ Y) (by rw [Backup.len]; decide) (splice_all _ _ (by simp [Backup.C])) (va Y Y (wk k50 ?_))))
 obtain rfl := some_r H
 exact cx hret Y fun f s => ⟨_, _, Res.of2 Y ⟨_, f.get _ _ Y, run_loadA (s.blk (i := 0) Y) ta26 ts26 (Backup.d0_38 _ _) (Backup.len _ _)⟩ (RV.t f Y), s.ext, ⟨_, Y, rs_of_nil n17⟩⟩
theorem ref36_Same.calls (hM : Sub M w) (p0 : Backup) (v1 : Value) (h2 : RS Key.F M v1 p0.Keys) (p1 : Backup) (v3 : Value) (h4 : RS Key.F M v3 p1.Keys) (r : Bool) (H : ref36_Same p0 p1 = some r) :
  Calls prog 18 [.agg (Backup.C p0 v1).toArray, .agg (Backup.C p1 v3).toArray].toArray w (Post M w fun M' v => v = (.bool r)) := by
 refine enter 80 [(0, .agg (Backup.C p0 v1).toArray), (1, .agg (Backup.C p1 v3).toArray)] func18 Y Y Y hM ?_
 intro Q hret
 unfold ref36_Same at H
 refine c_sr fun _ k5 => w_boxM trivial Y Y Y ?_
 intro b6 M7 l8 h9
 replace h2 := h2.mono l8
 replace h4 := h4.mono l8
 refine w_boxM trivial Y Y Y ?_
 intro b10 M11 l12 h13
 replace h2 := h2.mono l12
 replace h4 := h4.mono l12
 replace h9 := l12 _ _ h9
 refine va Y Y (wk k5 (c_seq fun K14 k14 => ?_))
 obtain ⟨t15, H1, H⟩ := bnd H
 refine c_cut (fun a' w' => ∃ (M16 : Heap), HLe M11 M16 ∧ Fr 80 [(2, ptr b6 0), (3, ptr b10 0), (61, .bool t15)] a' ∧ St none' M w M16 (lt []) w') ?_ ?_
 ·replace H := H1
  refine c_reg (v_fa fa26_0 Y Y (wv Y (fun f s => r_loadA ta23 ts23 (f.ev Y) (s.sub _ _ h9) (Backup.d0_16 _ _) (vI_len _)) (v_fa fa26_0 Y Y (wv Y (fun f s => r_loadA ta23 ts23 (f.ev Y) (s.sub _ _ h13) (Backup.d0_16 _ _) (vI_len _)) (wv Y (fun f s => r_neS eq23 (f.ev Y) (f.ev Y)) (vm Y Y ?_))))))
  by_cases b18 : (!(decide (p0.Domain = p1.Domain))) = true
  ·replace H := if_t b18 H
   refine wq b18 Y Y Y (wq b18 Y Y Y (wq b18 Y Y Y (wq b18 Y Y Y (wq b18 Y Y Y (wv Y (fun f s => r_pickT (f.ev Y) b18 (f.ev Y)) (vm Y Y (wqs 5 Y (wv Y (fun f s => r_pickT (f.ev Y) Y (f.ev Y)) (vm Y Y (wqs 5 Y (wv Y (fun f s => r_pickT (f.ev Y) Y (f.ev Y)) (vm Y Y (wqs 5 Y (wv Y (fun f s => r_pickT (f.ev Y) Y (f.ev Y)) (vm Y Y (wqs 5 Y (wv Y (fun f s => r_pickT (f.ev Y) Y (f.ev Y)) (vm Y Y (wqs 5 Y (wv Y (fun f s => r_pickT (f.ev Y) Y (f.ev Y)) (vm Y Y (wqs 6 Y ?_))))))))))))))))))))))
   refine wq Y Y Y Y (wv Y (fun f s => r_pickT (f.ev Y) Y (f.ev Y)) ?_)
   obtain rfl := some_r H
   exact w_nil fun a w' f s => ⟨_, HLe.refl _, f.pk Y, s.sel [] (by decide) Y⟩
  replace b18 := Bool.eq_false_iff.2 b18
  replace H := if_f b18 H
  refine wg b18 Y Y Y (fun f s => r_fa fa26_1 (f.ev Y)) (wg b18 Y Y Y (fun f s => r_load1 ta3 (f.ev Y) (s.sub _ _ h9) (Backup.g16 _ _)) (wg b18 Y Y Y (fun f s => r_fa fa26_1 (f.ev Y)) (wg b18 Y Y Y (fun f s => r_load1 ta3 (f.ev Y) (s.sub _ _ h13) (Backup.g16 _ _)) (wg b18 Y Y Y (fun f s => r_neq (f.ev Y) (f.ev Y)) (wv Y (fun f s => r_pickF (f.ev Y) b18 (f.ev Y)) (vm Y Y ?_))))))
  by_cases b19 : (p0.Epoch != p1.Epoch) = true
  ·replace H := if_t b19 H
   refine wq b19 Y Y Y (wq b19 Y Y Y (wq b19 Y Y Y (wq b19 Y Y Y (wq b19 Y Y Y (wv Y (fun f s => r_pickT (f.ev Y) b19 (f.ev Y)) (vm Y Y (wqs 5 Y (wv Y (fun f s => r_pickT (f.ev Y) Y (f.ev Y)) (vm Y Y (wqs 5 Y (wv Y (fun f s => r_pickT (f.ev Y) Y (f.ev Y)) (vm Y Y (wqs 5 Y (wv Y (fun f s => r_pickT (f.ev Y) Y (f.ev Y)) (vm Y Y (wqs 5 Y (wv Y (fun f s => r_pickT (f.ev Y) Y (f.ev Y)) (vm Y Y (wqs 7 Y (wv Y (fun f s => r_pickT (f.ev Y) Y (f.ev Y)) ?_))))))))))))))))))))
   obtain rfl := some_r H
   exact w_nil fun a w' f s => ⟨_, HLe.refl _, f.pk Y, s.sel [] (by decide) Y⟩
  replace b19 := Bool.eq_false_iff.2 b19
  replace H := if_f b19 H
  refine wg b19 Y Y Y (fun f s => r_fa fa26_2 (f.ev Y)) (wg b19 Y Y Y (fun f s => r_load1 ta3 (f.ev Y) (s.sub _ _ h9) (Backup.g17 _ _)) (wg b19 Y Y Y (fun f s => r_fa fa26_2 (f.ev Y)) (wg b19 Y Y Y (fun f s => r_load1 ta3 (f.ev Y) (s.sub _ _ h13) (Backup.g17 _ _)) (wg b19 Y Y Y (fun f s => r_neq (f.ev Y) (f.ev Y)) (wv Y (fun f s => r_pickF (f.ev Y) b19 (f.ev Y)) (vm Y Y ?_))))))
  by_cases b20 : (p0.Number != p1.Number) = true
  ·replace H := if_t b20 H
   refine wq b20 Y Y Y (wq b20 Y Y Y (wq b20 Y Y Y (wq b20 Y Y Y (wq b20 Y Y Y (wv Y (fun f s => r_pickT (f.ev Y) b20 (f.ev Y)) (vm Y Y (wqs 5 Y (wv Y (fun f s => r_pickT (f.ev Y) Y (f.ev Y)) (vm Y Y (wqs 5 Y (wv Y (fun f s => r_pickT (f.ev Y) Y (f.ev Y)) (vm Y Y (wqs 5 Y (wv Y (fun f s => r_pickT (f.ev Y) Y (f.ev Y)) (vm Y Y (wqs 7 Y (wv Y (fun f s => r_pickT (f.ev Y) Y (f.ev Y)) ?_)))))))))))))))))
   obtain rfl := some_r H
   exact w_nil fun a w' f s => ⟨_, HLe.refl _, f.pk Y, s.sel [] (by decide) Y⟩
  replace b20 := Bool.eq_false_iff.2 b20
  replace H := if_f b20 H
  refine wg b20 Y Y Y (fun f s => r_fa fa26_3 (f.ev Y)) (wg b20 Y Y Y (fun f s => r_load1 ta3 (f.ev Y) (s.sub _ _ h9) (Backup.g18 _ _)) (wg b20 Y Y Y (fun f s => r_fa fa26_3 (f.ev Y)) (wg b20 Y Y Y (fun f s => r_load1 ta3 (f.ev Y) (s.sub _ _ h13) (Backup.g18 _ _)) (wg b20 Y Y Y (fun f s => r_neq (f.ev Y) (f.ev Y)) (wv Y (fun f s => r_pickF (f.ev Y) b20 (f.ev Y)) (vm Y Y ?_))))))
  by_cases b21 : (p0.Firmware != p1.Firmware) = true
  ·replace H := if_t b21 H
   refine wq b21 Y Y Y (wq b21 Y Y Y (wq b21 Y Y Y (wq b21 Y Y Y (wq b21 Y Y Y (wv Y (fun f s => r_pickT (f.ev Y) b21 (f.ev Y)) (vm Y Y (wqs 5 Y (wv Y (fun f s => r_pickT (f.ev Y) Y (f.ev Y)) (vm Y Y (wqs 5 Y (wv Y (fun f s => r_pickT (f.ev Y) Y (f.ev Y)) (vm Y Y (wqs 7 Y (wv Y (fun f s => r_pickT (f.ev Y) Y (f.ev Y)) ?_))))))))))))))
   obtain rfl := some_r H
   exact w_nil fun a w' f s => ⟨_, HLe.refl _, f.pk Y, s.sel [] (by decide) Y⟩
  replace b21 := Bool.eq_false_iff.2 b21
  replace H := if_f b21 H
  refine wg b21 Y Y Y (fun f s => r_fa fa26_4 (f.ev Y)) (wg b21 Y Y Y (fun f s => r_load1 ta3 (f.ev Y) (s.sub _ _ h9) (Backup.g19 _ _)) (wg b21 Y Y Y (fun f s => r_fa fa26_4 (f.ev Y)) (wg b21 Y Y Y (fun f s => r_load1 ta3 (f.ev Y) (s.sub _ _ h13) (Backup.g19 _ _)) (wg b21 Y Y Y (fun f s => r_neq (f.ev Y) (f.ev Y)) (wv Y (fun f s => r_pickF (f.ev Y) b21 (f.ev Y)) (vm Y Y ?_))))))
  by_cases b22 : (p0.Time != p1.Time) = true
  ·replace H := if_t b22 H
   refine wq b22 Y Y Y (wq b22 Y Y Y (wq b22 Y Y Y (wq b22 Y Y Y (wq b22 Y Y Y (wv Y (fun f s => r_pickT (f.ev Y) b22 (f.ev Y)) (vm Y Y (wqs 5 Y (wv Y (fun f s => r_pickT (f.ev Y) Y (f.ev Y)) (vm Y Y (wqs 7 Y (wv Y (fun f s => r_pickT (f.ev Y) Y (f.ev Y)) ?_)))))))))))
   obtain rfl := some_r H
   exact w_nil fun a w' f s => ⟨_, HLe.refl _, f.pk Y, s.sel [] (by decide) Y⟩
  replace b22 := Bool.eq_false_iff.2 b22
  replace H := if_f b22 H
  refine wg b22 Y Y Y (fun f s => r_fa fa26_5 (f.ev Y)) (wg b22 Y Y Y (fun f s => r_loadA ta23 ts23 (f.ev Y) (s.sub _ _ h9) (Backup.d20_16 _ _) (vI_len _)) (wg b22 Y Y Y (fun f s => r_fa fa26_5 (f.ev Y)) (wg b22 Y Y Y (fun f s => r_loadA ta23 ts23 (f.ev Y) (s.sub _ _ h13) (Backup.d20_16 _ _) (vI_len _)) (wg b22 Y Y Y (fun f s => r_neS eq23 (f.ev Y) (f.ev Y)) (wv Y (fun f s => r_pickF (f.ev Y) b22 (f.ev Y)) (vm Y Y ?_))))))
  by_cases b23 : (!(decide (p0.Policy = p1.Policy))) = true
  ·replace H := if_t b23 H
   refine wq b23 Y Y Y (wq b23 Y Y Y (wq b23 Y Y Y (wq b23 Y Y Y (wq b23 Y Y Y (wv Y (fun f s => r_pickT (f.ev Y) b23 (f.ev Y)) (vm Y Y (wqs 7 Y (wv Y (fun f s => r_pickT (f.ev Y) Y (f.ev Y)) ?_))))))))
   obtain rfl := some_r H
   exact w_nil fun a w' f s => ⟨_, HLe.refl _, f.pk Y, s.sel [] (by decide) Y⟩
  replace b23 := Bool.eq_false_iff.2 b23
  replace H := if_f b23 H
  refine wg b23 Y Y Y (fun f s => r_fa fa26_6 (f.ev Y)) (wg b23 Y Y Y (fun f s => r_load1 ta9 (f.ev Y) (s.sub _ _ h9) (Backup.g36 _ _)) (wg b23 Y Y Y (fun f s => r_fa fa26_6 (f.ev Y)) (wg b23 Y Y Y (fun f s => r_load1 ta9 (f.ev Y) (s.sub _ _ h13) (Backup.g36 _ _)) (wg b23 Y Y Y (fun f s => r_sneq (f.ev Y) (f.ev Y)) (wv Y (fun f s => r_pickF (f.ev Y) b23 (f.ev Y)) (vm Y Y ?_))))))
  by_cases b24 : (!(p0.Module == p1.Module)) = true
  ·replace H := if_t b24 H
   refine wq b24 Y Y Y (wq b24 Y Y Y (wq b24 Y Y Y (wq b24 Y Y Y (wq b24 Y Y Y (wq b24 Y Y Y (wq b24 Y Y Y (wv Y (fun f s => r_pickT (f.ev Y) b24 (f.ev Y)) ?_)))))))
   obtain rfl := some_r H
   exact w_nil fun a w' f s => ⟨_, HLe.refl _, f.pk Y, s.sel [] (by decide) Y⟩
  replace b24 := Bool.eq_false_iff.2 b24
  replace H := if_f b24 H
  refine wg b24 Y Y Y (fun f s => r_fa fa26_7 (f.ev Y)) (wg b24 Y Y Y (fun f s => r_load1 ta24 (f.ev Y) (s.sub _ _ h9) (Backup.g37 _ _)) (wg b24 Y Y Y (fun f s => r_lenR underlying24 h2 (f.ev Y)) (wg b24 Y Y Y (fun f s => r_fa fa26_7 (f.ev Y)) (wg b24 Y Y Y (fun f s => r_load1 ta24 (f.ev Y) (s.sub _ _ h13) (Backup.g37 _ _)) (wg b24 Y Y Y (fun f s => r_lenR underlying24 h4 (f.ev Y)) (wg b24 Y Y Y (fun f s => r_neq (f.ev Y) (f.ev Y)) (wv Y (fun f s => r_pickF (f.ev Y) b24 (f.ev Y)) ?_)))))))
  obtain rfl := some_r H
  exact w_nil fun a w' f s => ⟨_, HLe.refl _, f.pk Y, s.sel [] (by decide) Y⟩
 rintro a w' ⟨M16, l17, f, s⟩
 refine cof f s ?_
 replace h2 := h2.mono l17
 replace h4 := h4.mono l17
 replace h9 := l17 _ _ h9
 replace h13 := l17 _ _ h13
 refine c_if Y (fun b25 => ?_) (fun b25 => ?_)
 ·replace H := if_t b25 H
  refine c_sr fun _ k26 => va Y Y (wk k26 ?_)
  obtain rfl := some_r H
  exact cx1 hret Y Y Y Y
 replace H := if_f b25 H
 refine cs k14 ?_
 refine c_cut (fun a' w' => ∃ (M27 : Heap), HLe M16 M27 ∧ Fr 80 [] a' ∧ St none' M w M27 (lt []) w' ∧ ref36_Same.j1  = some r) ?_ ?_
 ·refine c_seq ?_
  intro K30 k30
  refine c_reg (va Y Y (wk k30 (c_block ?_)))
  refine c_loop (fun (s31 : Int) a' w' => ∃ (M32 : Heap), HLe M16 M32 ∧ Fr 80 [(2, ptr b6 0), (3, ptr b10 0), (5, .int .i64 s31)] a' ∧ St none' M w M32 (lt []) w') 0 H ?_ ?_
  ·intro a w' f s
   exact ⟨_, HLe.refl _, f.pk Y, s.selD [] (by decide) Y⟩
  intro s31 y35 H r34 a w' hJ
  obtain ⟨M32, l33, f, s⟩ := hJ
  refine cof f s ?_
  unfold ref36_Same.l2 at H
  replace h2 := h2.mono l33
  replace h4 := h4.mono l33
  replace h9 := l33 _ _ h9
  replace h13 := l33 _ _ h13
  refine c_seq fun K36 k36 => c_sr fun _ k37 => vm Y Y (v_fa fa26_7 Y Y (wv Y (fun f s => r_load1 ta24 (f.ev Y) (s.sub _ _ h9) (Backup.g37 _ _)) (wv Y (fun f s => r_lenR underlying24 h2 (f.ev Y)) (v_lss Y Y Y (wk k37 (c_if Y (fun b38 => ?_) (fun b38 => ?_)))))))
  ·replace H := if_t b38 H
   refine cs k36 (c_seq fun K39 k39 => c_block (c_seq fun K40 k40 => ?_))
   obtain ⟨g52, H⟩ := grd_s H
   obtain ⟨g67, H⟩ := grd_s H
   refine c_drawV [([], [2]), ([(0, 69)], []), ([], [5]), ([(1, 70), (2, 71)], []), ([(3, 72)], []), ([], [3]), ([(5, 74)], []), ([], [5]), ([(6, 75), (7, 76)], []), ([(8, 77)], []), ([(4, 73), (9, 78)], [])] [_, _, _, _, .agg (Key.C (rd p0.Keys s31)).toArray, _, _, _, _, .agg (Key.C (rd p1.Keys s31)).toArray, _] (by kernel_rfl) (by kernel_rfl) Y (aV (pz Y fun _ f s => r_fa fa26_7 (f.ev Y)) (aV (pz Y fun l44 f s => r_load1 ta24 (f.ev Y) (s.sub _ _ (l44 _ _ h9)) (Backup.g37 _ _)) (aV (pz Y fun _ f s => r_move (f.ev Y)) (aV (pz Y fun l49 f s => r_iR underlying24 ts97 (h2.mono l49) (f.ev Y) (f.ev Y) g52.1 g52.2) (aV (pz Y fun l54 f s => r_loadEA ta97 ts97 (h2.mono l54) s.sub g52.1 g52.2 (f.ev Y) Y Y) (aV (pz Y fun _ f s => r_fa fa26_7 (f.ev Y)) (aV (pz Y fun l59 f s => r_load1 ta24 (f.ev Y) (s.sub _ _ (l59 _ _ h13)) (Backup.g37 _ _)) (aV (pz Y fun _ f s => r_move (f.ev Y)) (aV (pz Y fun l64 f s => r_iR underlying24 ts97 (h4.mono l64) (f.ev Y) (f.ev Y) g67.1 g67.2) (aV (pz Y fun l69 f s => r_loadEA ta97 ts97 (h4.mono l69) s.sub g67.1 g67.2 (f.ev Y) Y Y) (aV (pz Y fun _ f s => r_neS eq97 (f.ev Y) (f.ev Y)) aV0))))))))))) fun M75 l76 => ?_
   refine ni k40 (c_if Y (fun b78 => ?_) (fun b78 => ?_))
   ·replace H := if_t b78 H
    refine c_sr fun _ k79 => va Y Y (wk k79 ?_)
    obtain rfl := (r34 _ (Option.some.inj H).symm)
    exact cx1 hret Y Y Y Y
   replace H := if_f b78 H
   exact cs k39 (c_reg (vm Y Y (v_add Y Y Y (va Y Y (w_nil fun a w' f s => ⟨_, (some_r H).symm, _, l33.trans l76, f.pk Y, s.selD [] (by decide) Y⟩)))))
  replace H := if_f b38 H
  replace H := map_inr H r34
  refine c_exit ?_
  intro a w' f s
  exact ⟨_, l33, f.nil, s.selD [] (by decide) Y, H⟩
 rintro a w' ⟨M27, l28, f, s, H⟩
 refine cof f s ?_
 unfold ref36_Same.j1 at H
 refine c_sr fun _ k29 => va Y Y (wk k29 ?_)
 obtain rfl := some_r H
 exact cx1 hret Y Y Y Y
theorem slices_Equal_Key.calls (hM : Sub M w) (p0 : (List Key)) (v1 : Value) (h2 : RS Key.F M v1 p0) (p1 : (List Key)) (v3 : Value) (h4 : RS Key.F M v3 p1) (r : Bool) (H : slices_Equal_Key p0 p1 = some r) :
  Calls prog 66 [v1, v3].toArray w (Post M w fun M' v => v = (.bool r)) := by
 refine enter 26 [(0, v1), (1, v3)] func66 Y Y Y hM ?_
 intro Q hret
 unfold slices_Equal_Key at H
 refine c_sr fun _ k5 => va Y Y (wk k5 (c_seq fun K6 k6 => c_sr fun _ k7 => vm Y Y (wv Y (fun f s => r_lenR underlying24 h2 (f.ev Y)) (vm Y Y (wv Y (fun f s => r_lenR underlying24 h4 (f.ev Y)) (wv Y (fun f s => r_neq (f.ev Y) (f.ev Y)) (wk k7 (c_if Y (fun b8 => ?_) (fun b8 => ?_)))))))))
 ·replace H := if_t b8 H
  refine c_sr fun _ k9 => va Y Y (wk k9 ?_)
  obtain rfl := some_r H
  exact cx1 hret Y Y Y Y
 replace H := if_f b8 H
 refine cs k6 ?_
 refine c_cut (fun a' w' => ∃ (M10 : Heap), HLe M M10 ∧ Fr 26 [] a' ∧ St none' M w M10 (lt []) w' ∧ slices_Equal_Key.j1  = some r) ?_ ?_
 ·refine c_seq ?_
  intro K13 k13
  refine c_reg (vm Y Y (wv Y (fun f s => r_lenR underlying24 h2 (f.ev Y)) (vm Y Y (wk k13 (c_block ?_)))))
  refine c_loop (fun (s14 : Int) a' w' => ∃ (M15 : Heap), HLe M M15 ∧ Fr 26 [(0, v1), (1, v3), (12, .int .i64 (p0.length : Int)), (13, .int .i64 s14)] a' ∧ St none' M w M15 (lt []) w') 0 H ?_ ?_
  ·intro a w' f s
   exact ⟨_, HLe.refl _, f.pk Y, s.selD [] (by decide) Y⟩
  intro s14 y18 H r17 a w' hJ
  obtain ⟨M15, l16, f, s⟩ := hJ
  refine cof f s ?_
  unfold slices_Equal_Key.l2 at H
  replace h2 := h2.mono l16
  replace h4 := h4.mono l16
  refine c_sr fun _ k19 => v_lss Y Y Y (wk k19 (c_seq fun K20 k20 => c_if Y (fun b21 => ?_) (fun b21 => ?_)))
  ·replace H := if_t b21 H
   refine cs k20 (c_seq fun K22 k22 => c_block (c_sr fun _ k23 => vm Y Y (va Y Y (wk k23 (c_seq fun K24 k24 => ?_)))))
   obtain ⟨g33, H⟩ := grd_s H
   obtain ⟨g45, H⟩ := grd_s H
   refine c_drawV [([], [0]), ([], [5]), ([(0, 16), (1, 17)], []), ([(2, 18)], []), ([], [1]), ([], [5]), ([(4, 20), (5, 21)], []), ([(6, 22)], []), ([(3, 19), (7, 23)], [])] [_, _, _, .agg (Key.C (rd p0 s14)).toArray, _, _, _, .agg (Key.C (rd p1 s14)).toArray, _] (by kernel_rfl) (by kernel_rfl) Y (aV (pz Y fun _ f s => r_move (f.ev Y)) (aV (pz Y fun _ f s => r_move (f.ev Y)) (aV (pz Y fun l30 f s => r_iR underlying24 ts97 (h2.mono l30) (f.ev Y) (f.ev Y) g33.1 g33.2) (aV (pz Y fun l35 f s => r_loadEA ta97 ts97 (h2.mono l35) s.sub g33.1 g33.2 (f.ev Y) Y Y) (aV (pz Y fun _ f s => r_move (f.ev Y)) (aV (pz Y fun _ f s => r_move (f.ev Y)) (aV (pz Y fun l42 f s => r_iR underlying24 ts97 (h4.mono l42) (f.ev Y) (f.ev Y) g45.1 g45.2) (aV (pz Y fun l47 f s => r_loadEA ta97 ts97 (h4.mono l47) s.sub g45.1 g45.2 (f.ev Y) Y Y) (aV (pz Y fun _ f s => r_neS eq97 (f.ev Y) (f.ev Y)) aV0))))))))) fun M53 l54 => ni k24 (c_if Y (fun b56 => ?_) (fun b56 => ?_))
   ·replace H := if_t b56 H
    refine c_sr fun _ k57 => va Y Y (wk k57 ?_)
    obtain rfl := (r17 _ (Option.some.inj H).symm)
    exact cx1 hret Y Y Y Y
   replace H := if_f b56 H
   exact cs k22 (c_reg (v_add Y Y Y (vm Y Y (w_nil fun a w' f s => ⟨_, (some_r H).symm, _, l16.trans l54, f.pk Y, s.selD [] (by decide) Y⟩))))
  replace H := if_f b21 H
  replace H := map_inr H r17
  refine c_exit ?_
  intro a w' f s
  exact ⟨_, l16, f.nil, s.selD [] (by decide) Y, H⟩
 rintro a w' ⟨M10, l11, f, s, H⟩
 refine cof f s ?_
 unfold slices_Equal_Key.j1 at H
 refine c_sr fun _ k12 => va Y Y (wk k12 ?_)
 obtain rfl := some_r H
 exact cx1 hret Y Y Y Y
theorem backup_Same.calls (hM : Sub M w) (p0 : Backup) (v1 : Value) (h2 : RS Key.F M v1 p0.Keys) (p1 : Backup) (v3 : Value) (h4 : RS Key.F M v3 p1.Keys) (r : Bool) (H : backup_Same p0 p1 = some r) :
  Calls prog 21 [.agg (Backup.C p0 v1).toArray, .agg (Backup.C p1 v3).toArray].toArray w (Post M w fun M' v => v = (.bool r)) := by
 refine enter 17 [(0, .agg (Backup.C p0 v1).toArray), (1, .agg (Backup.C p1 v3).toArray)] func21 Y Y Y hM ?_
 intro Q hret
 unfold backup_Same at H
 refine c_sr fun _ k5 => w_boxM trivial Y Y Y ?_
 intro b6 M7 l8 h9
 replace h2 := h2.mono l8
 replace h4 := h4.mono l8
 refine w_boxM trivial Y Y Y ?_
 intro b10 M11 l12 h13
 replace h2 := h2.mono l12
 replace h4 := h4.mono l12
 replace h9 := l12 _ _ h9
 refine va Y Y (wk k5 ?_)
 obtain ⟨t14, H1, H⟩ := bnd H
 refine c_cut (fun a' w' => ∃ (M15 : Heap), HLe M11 M15 ∧ Fr 17 [(4, .bool t14)] a' ∧ St none' M w M15 (lt []) w') ?_ ?_
 ·replace H := H1
  obtain ⟨t22, e27, H⟩ := bnd H
  obtain ⟨t33, e38, H⟩ := bnd H
  by_cases b46 : (t22 == t33) = true
  ·replace H := if_t b46 H
   obtain ⟨t66, e71, H⟩ := bnd H
   refine c_drawV [([], [2]), ([(0, 5)], []), ([], [3]), ([(2, 7)], []), ([(1, 6), (3, 8)], []), ([(4, 9)], []), ([(5, 10)], [2]), ([(6, 11), (5, 10)], []), ([(5, 10)], [3]), ([(8, 13), (5, 10)], []), ([(7, 12), (9, 14), (5, 10)], []), ([(5, 10), (10, 15)], []), ([(11, 16)], [])] [.agg (Backup.C p0 v1).toArray, _, .agg (Backup.C p1 v3).toArray, _, _, _, _, _, _, _, _, _, _] (by kernel_rfl) (by kernel_rfl) Y (aV (pz Y fun l18 f s => r_loadA ta26 ts26 (f.ev Y) (s.sub _ _ (l18 _ _ h9)) (Backup.d0_38 _ _) (Backup.len _ _)) (aV (pzc cf22 Y Y fun _ l20 w s => backup_Header.calls s p0 v1 (h2.mono l20) _ e27) (aV (pz Y fun l29 f s => r_loadA ta26 ts26 (f.ev Y) (s.sub _ _ (l29 _ _ h13)) (Backup.d0_38 _ _) (Backup.len _ _)) (aV (pzc cf22 Y Y fun _ l31 w s => backup_Header.calls s p1 v3 (h4.mono l31) _ e38) (aV (pz Y fun _ f s => r_seql (f.ev Y) (f.ev Y)) (aV (pz Y fun _ f s => r_move (f.ev Y)) (aV (pzg b46 Y Y Y fun _ f s => r_fa fa26_7 (f.ev Y)) (aV (pzg b46 Y Y Y fun l51 f s => r_load1 ta24 (f.ev Y) (s.sub _ _ (l51 _ _ h9)) (Backup.g37 _ _)) (aV (pzg b46 Y Y Y fun _ f s => r_fa fa26_7 (f.ev Y)) (aV (pzg b46 Y Y Y fun l58 f s => r_load1 ta24 (f.ev Y) (s.sub _ _ (l58 _ _ h13)) (Backup.g37 _ _)) (aV (pzcg b46 Y Y cf66 Y Y fun _ l62 w s => slices_Equal_Key.calls s p0.Keys v1 (h2.mono l62) p1.Keys v3 (h4.mono l62) _ e71) (aV (pz Y fun _ f s => r_pickT (f.ev Y) b46 (f.ev Y)) (aV (pz Y fun _ f s => r_assign (f.ev Y)) aV0))))))))))))) fun M79 l80 => ?_
   replace h2 := h2.mono l80
   replace h4 := h4.mono l80
   replace h9 := l80 _ _ h9
   replace h13 := l80 _ _ h13
   obtain rfl := some_r H
   refine n_id ?_
   intro a w' f s
   exact ⟨_, l80, f.pk Y, s.sel [] (by decide) Y⟩
  replace b46 := Bool.eq_false_iff.2 b46
  replace H := if_f b46 H
  refine c_drawV [([], [2]), ([(0, 5)], []), ([], [3]), ([(2, 7)], []), ([(1, 6), (3, 8)], []), ([(4, 9)], []), ([(5, 10)], [2]), ([(6, 11), (5, 10)], []), ([(5, 10)], [3]), ([(8, 13), (5, 10)], []), ([(7, 12), (9, 14), (5, 10)], []), ([(5, 10), (10, 15)], []), ([(11, 16)], [])] [.agg (Backup.C p0 v1).toArray, _, .agg (Backup.C p1 v3).toArray, _, _, _, _, _, _, _, _, _, _] (by kernel_rfl) (by kernel_rfl) Y (aV (pz Y fun l18 f s => r_loadA ta26 ts26 (f.ev Y) (s.sub _ _ (l18 _ _ h9)) (Backup.d0_38 _ _) (Backup.len _ _)) (aV (pzc cf22 Y Y fun _ l20 w s => backup_Header.calls s p0 v1 (h2.mono l20) _ e27) (aV (pz Y fun l29 f s => r_loadA ta26 ts26 (f.ev Y) (s.sub _ _ (l29 _ _ h13)) (Backup.d0_38 _ _) (Backup.len _ _)) (aV (pzc cf22 Y Y fun _ l31 w s => backup_Header.calls s p1 v3 (h4.mono l31) _ e38) (aV (pz Y fun _ f s => r_seql (f.ev Y) (f.ev Y)) (aV (pz Y fun _ f s => r_move (f.ev Y)) (aV (pzq b46 Y Y Y) (aV (pzq b46 Y Y Y) (aV (pzq b46 Y Y Y) (aV (pzq b46 Y Y Y) (aV (pzq b46 Y Y Y) (aV (pz Y fun _ f s => r_pickF (f.ev Y) b46 (f.ev Y)) (aV (pz Y fun _ f s => r_assign (f.ev Y)) aV0))))))))))))) fun M108 l109 => ?_
  obtain rfl := some_r H
  refine n_id ?_
  intro a w' f s
  exact ⟨_, l109, f.pk Y, s.sel [] (by decide) Y⟩
 rintro a w' ⟨M15, l16, f, s⟩
 refine cof f s ?_
 obtain rfl := some_r H
 exact cx1 hret Y Y Y Y
theorem keys_Live.calls (hM : Sub M w) (p0 : Key) (p1 : Int) (r : Bool) (H : keys_Live p0 p1 = some r) :
  Calls prog 61 [.agg (Key.C p0).toArray, .int .i64 p1].toArray w (Post M w fun M' v => v = (.bool r)) := by
 refine enter 15 [(0, .agg (Key.C p0).toArray), (1, .int .i64 p1)] func61 Y Y Y hM ?_
 intro Q hret
 unfold keys_Live at H
 refine c_sr fun _ k1 => w_boxM trivial Y Y Y ?_
 intro b2 M3 l4 h5
 refine va Y Y (wk k1 ?_)
 obtain ⟨t6, H1, H⟩ := bnd H
 refine c_cut (fun a' w' => ∃ (M7 : Heap), HLe M3 M7 ∧ Fr 15 [(4, .bool t6)] a' ∧ St none' M w M7 (lt []) w') ?_ ?_
 ·replace H := H1
  refine c_reg (v_fa fa97_4 Y Y (wv Y (fun f s => r_load1 ta3 (f.ev Y) (s.sub _ _ h5) Y) (vm Y Y (wv Y (fun f s => r_leq (f.ev Y) (f.ev Y)) (vm Y Y ?_)))))
  by_cases b9 : (decide (p0.Start ≤ p1)) = true
  ·replace H := if_t b9 H
   refine wg b9 Y Y Y (fun f s => r_move (f.ev Y)) (wg b9 Y Y Y (fun f s => r_fa fa97_5 (f.ev Y)) (wg b9 Y Y Y (fun f s => r_load1 ta3 (f.ev Y) (s.sub _ _ h5) Y) (wg b9 Y Y Y (fun f s => r_lss (f.ev Y) (f.ev Y)) (wv Y (fun f s => r_pickT (f.ev Y) b9 (f.ev Y)) (va Y Y ?_)))))
   obtain rfl := some_r H
   exact w_nil fun a w' f s => ⟨_, HLe.refl _, f.pk Y, s.sel [] (by decide) Y⟩
  replace b9 := Bool.eq_false_iff.2 b9
  replace H := if_f b9 H
  refine wq b9 Y Y Y (wq b9 Y Y Y (wq b9 Y Y Y (wq b9 Y Y Y (wv Y (fun f s => r_pickF (f.ev Y) b9 (f.ev Y)) (va Y Y ?_)))))
  obtain rfl := some_r H
  exact w_nil fun a w' f s => ⟨_, HLe.refl _, f.pk Y, s.sel [] (by decide) Y⟩
 rintro a w' ⟨M7, l8, f, s⟩
 refine cof f s ?_
 obtain rfl := some_r H
 exact cx1 hret Y Y Y Y
theorem backup_Select.calls (hM : Sub M w) (p0 : Table) (v1 : Value) (h2 : RS Key.F M v1 p0.Keys) (p1 : Int) (r : (List Key)) (H : backup_Select p0 p1 = some r) :
  Calls prog 16 [.agg (Table.C p0 v1).toArray, .int .i64 p1].toArray w (Post M w fun M' v => ∃ v48, v = v48 ∧ RS Key.F M' v48 r) := by
 refine enter 23 [(0, .agg (Table.C p0 v1).toArray), (1, .int .i64 p1)] func16 Y Y Y hM ?_
 intro Q hret
 unfold backup_Select at H
 refine c_sr fun _ k3 => w_boxM trivial Y Y Y ?_
 intro b4 M5 l6 h7
 replace h2 := h2.mono l6
 refine va Y Y (wk k3 (c_row0 97 9 ?_))
 refine c_cut (fun a' w' => ∃ (x8 : (List Key)) (v9 : Value) (M10 : Heap), HLe M5 M10 ∧ Fr 23 [(4, v9)] a' ∧ St none' M w M10 (lt [rowI Key.F v9 97 x8]) w' ∧ backup_Select.j1 x8 = some r) ?_ ?_
 ·refine c_seq ?_
  intro K16 k16
  refine c_reg (v_fa fa28_1 Y Y (wv Y (fun f s => r_load1 ta24 (f.ev Y) (s.sub _ _ h7) Y) (wv Y (fun f s => r_lenR underlying24 h2 (f.ev Y)) (vm Y Y (wk k16 (c_block ?_))))))
  refine c_loop (fun (s17 : ((List Key) × Int)) a' w' => ∃ (v18 : Value) (M19 : Heap), HLe M5 M19 ∧ Fr 23 [(1, .int .i64 p1), (4, v18), (8, v1), (9, .int .i64 (p0.Keys.length : Int)), (10, .int .i64 s17.2)] a' ∧ St none' M w M19 (lt [rowI Key.F v18 97 s17.1]) w') (([] : (List Key)), 0) H ?_ ?_
  ·intro a w' f s
   exact ⟨.slice none 0 0, _, HLe.refl _, f.pk Y, s.selD [some 0] (by decide) Y⟩
  intro s17 y22 H r21 a w' hJ
  obtain ⟨v18, M19, l20, f, s⟩ := hJ
  refine cof f s ?_
  unfold backup_Select.l3 at H
  replace h2 := h2.mono l20
  refine c_sr fun _ k23 => v_lss Y Y Y (wk k23 (c_seq fun K24 k24 => c_if Y (fun b25 => ?_) (fun b25 => ?_)))
  ·replace H := if_t b25 H
   refine cs k24 ?_
   refine c_cut (fun a' w' => ∃ (x26 : (List Key)) (v27 : Value) (M28 : Heap), HLe M19 M28 ∧ Fr 23 [(1, .int .i64 p1), (4, v27), (8, v1), (9, .int .i64 (p0.Keys.length : Int)), (10, .int .i64 s17.2)] a' ∧ St none' M w M28 (lt [rowI Key.F v27 97 x26]) w' ∧ backup_Select.j2 x26 s17 = some y22) ?_ ?_
   ·refine c_block (c_sr fun _ k30 => ?_)
    obtain ⟨g31, H⟩ := grd_s H
    refine wv Y (fun f s => r_iR underlying24 ts97 h2 (f.ev Y) (f.ev Y) g31.1 g31.2) (wv Y (fun f s => r_loadEA ta97 ts97 h2 s.sub g31.1 g31.2 (f.ev Y) Y Y) (w_allocL (A := Key.C (⟨0, 0, [], 0, 0, 0, 0, 0, false⟩ : Key)) tz97 trivial Y Y ?_))
    intro b32
    refine w_store (i := 1) (A' := Key.C (rd p0.Keys s17.2)) trivial Y Y Y Y ts97 Y (Key.F_one _) (Nat.le_of_ble_eq_true Y) Y (wk k30 (c_sr fun _ k33 => wv Y (fun f s => r_loadA ta97 ts97 (f.ev Y) (s.blk (i := 1) Y) Y Y) (vm Y Y ?_)))
    obtain ⟨t34, e39, H⟩ := bnd H
    refine w_call cf61 trivial Y Y (fun w s => keys_Live.calls s (rd p0.Keys s17.2) p1 _ e39) ?_
    rintro _ M36 l37 rfl
    refine wk k33 (c_if Y (fun b40 => ?_) (fun b40 => ?_))
    ·replace H := if_t b40 H
     refine c_reg (vm Y Y (wv Y (fun f s => r_loadA ta97 ts97 (f.ev Y) (s.blk (i := 1) Y) Y Y) (w_bsl (F := Key.F) (es := ([rd p0.Keys s17.2] : List Key)) (xs := [.tmp 18]) underlying24 te97 trivial Y Y Y Y Y (by decide) ?_)))
     intro v41 M42 l43 h44 c45
     obtain ⟨g46, H⟩ := grd_s H
     refine w_app (F := Key.F) (m2 := ([rd p0.Keys s17.2] : List Key)) (i := 0) underlying24 te97 underlying24 (.inl ⟨_, Y⟩) trivial Y Y Y Y (Src.rs Key.F_one h44) g46 ?_
     intro v47
     exact va Y Y (w_nil fun a w' f s => ⟨s17.1 ++ ([rd p0.Keys s17.2] : List Key), v47, _, l37.trans l43, f.pk Y, s.selD [some 0] (by decide) Y, H⟩)
    replace H := if_f b40 H
    refine c_skip ?_
    intro a w' f s
    exact ⟨s17.1, v18, _, l37, f.pk Y, s.selD [some 0] (by decide) Y, H⟩
   rintro a w' ⟨x26, v27, M28, l29, f, s, H⟩
   refine cof f s ?_
   unfold backup_Select.j2 at H
   exact c_reg (v_add Y Y Y (vm Y Y (w_nil fun a w' f s => ⟨_, (some_r H).symm, v27, _, l20.trans l29, f.pk Y, s.selD [some 0] (by decide) Y⟩)))
  replace H := if_f b25 H
  replace H := map_inr H r21
  refine c_exit ?_
  intro a w' f s
  exact ⟨s17.1, v18, _, l20, f.pk Y, s.selD [some 0] (by decide) Y, H⟩
 rintro a w' ⟨x8, v9, M10, l11, f, s, H⟩
 refine cof f s ?_
 unfold backup_Select.j1 at H
 refine c_sr fun _ k12 => vm Y Y (va Y Y (wk k12 ?_))
 obtain rfl := some_r H
 refine c_ret (n_give 0 Y (fun _ h => h) ?_)
 intro M13 l14 h15
 intro a w' f s
 exact hret _ (.inl Y) a w' f.df ⟨_, _, Res.of1 Y (RV.t f Y), s.ext, ⟨_, Y, h15⟩⟩
theorem slices_Index_Key.calls (hM : Sub M w) (p0 : (List Key)) (v1 : Value) (h2 : RS Key.F M v1 p0) (p1 : Key) (r : Int) (H : slices_Index_Key p0 p1 = some r) :
  Calls prog 130 [v1, .agg (Key.C p1).toArray].toArray w (Post M w fun M' v => v = (.int .i64 r)) := by
 refine enter 19 [(0, v1), (1, .agg (Key.C p1).toArray)] func130 Y Y Y hM ?_
 intro Q hret
 unfold slices_Index_Key at H
 refine c_sr fun _ k3 => w_boxM trivial Y Y Y ?_
 intro b4 M5 l6 h7
 replace h2 := h2.mono l6
 refine va Y Y (wk k3 ?_)
 refine c_cut (fun a' w' => ∃ (M8 : Heap), HLe M5 M8 ∧ Fr 19 [] a' ∧ St none' M w M8 (lt []) w' ∧ slices_Index_Key.j1  = some r) ?_ ?_
 ·refine c_seq ?_
  intro K11 k11
  refine c_reg (vm Y Y (wv Y (fun f s => r_lenR underlying24 h2 (f.ev Y)) (vm Y Y (wk k11 (c_block ?_)))))
  refine c_loop (fun (s12 : Int) a' w' => ∃ (M13 : Heap), HLe M5 M13 ∧ Fr 19 [(0, v1), (3, ptr b4 0), (7, .int .i64 (p0.length : Int)), (8, .int .i64 s12)] a' ∧ St none' M w M13 (lt []) w') 0 H ?_ ?_
  ·intro a w' f s
   exact ⟨_, HLe.refl _, f.pk Y, s.selD [] (by decide) Y⟩
  intro s12 y16 H r15 a w' hJ
  obtain ⟨M13, l14, f, s⟩ := hJ
  refine cof f s ?_
  unfold slices_Index_Key.l2 at H
  replace h2 := h2.mono l14
  replace h7 := l14 _ _ h7
  refine c_sr fun _ k17 => v_lss Y Y Y (wk k17 (c_seq fun K18 k18 => c_if Y (fun b19 => ?_) (fun b19 => ?_)))
  ·replace H := if_t b19 H
   refine cs k18 (c_seq fun K20 k20 => c_block (c_sr fun _ k21 => vm Y Y (va Y Y (wk k21 (c_seq fun K22 k22 => ?_)))))
   obtain ⟨g33, H⟩ := grd_s H
   refine c_drawV [([], [3]), ([], [0]), ([], [5]), ([(1, 12), (2, 13)], []), ([(3, 14)], []), ([(0, 11), (4, 15)], [])] [.agg (Key.C p1).toArray, _, _, _, .agg (Key.C (rd p0 s12)).toArray, _] (by kernel_rfl) (by kernel_rfl) Y (aV (pz Y fun l24 f s => r_loadA ta97 ts97 (f.ev Y) (s.sub _ _ (l24 _ _ h7)) Y Y) (aV (pz Y fun _ f s => r_move (f.ev Y)) (aV (pz Y fun _ f s => r_move (f.ev Y)) (aV (pz Y fun l30 f s => r_iR underlying24 ts97 (h2.mono l30) (f.ev Y) (f.ev Y) g33.1 g33.2) (aV (pz Y fun l35 f s => r_loadEA ta97 ts97 (h2.mono l35) s.sub g33.1 g33.2 (f.ev Y) Y Y) (aV (pz Y fun _ f s => r_eqS eq97 (f.ev Y) (f.ev Y)) aV0)))))) fun M41 l42 => ni k22 (c_if Y (fun b44 => ?_) (fun b44 => ?_))
   ·replace H := if_t b44 H
    refine c_sr fun _ k45 => vm Y Y (va Y Y (wk k45 ?_))
    obtain rfl := (r15 _ (Option.some.inj H).symm)
    exact cx1 hret Y Y Y Y
   replace H := if_f b44 H
   exact cs k20 (c_reg (v_add Y Y Y (vm Y Y (w_nil fun a w' f s => ⟨_, (some_r H).symm, _, l14.trans l42, f.pk Y, s.selD [] (by decide) Y⟩))))
  replace H := if_f b19 H
  replace H := map_inr H r15
  refine c_exit ?_
  intro a w' f s
  exact ⟨_, l14, f.nil, s.selD [] (by decide) Y, H⟩
 rintro a w' ⟨M8, l9, f, s, H⟩
 refine cof f s ?_
 unfold slices_Index_Key.j1 at H
 refine c_sr fun _ k10 => va Y Y (wk k10 ?_)
 obtain rfl := some_r H
 exact cx1 hret Y Y Y Y
theorem slices_Contains_Key.calls (hM : Sub M w) (p0 : (List Key)) (v1 : Value) (h2 : RS Key.F M v1 p0) (p1 : Key) (r : Bool) (H : slices_Contains_Key p0 p1 = some r) :
  Calls prog 73 [v1, .agg (Key.C p1).toArray].toArray w (Post M w fun M' v => v = (.bool r)) := by
 refine enter 9 [(0, v1), (1, .agg (Key.C p1).toArray)] func73 Y Y Y hM ?_
 intro Q hret
 unfold slices_Contains_Key at H
 refine c_sr fun _ k3 => w_boxM trivial Y Y Y ?_
 intro b4 M5 l6 h7
 replace h2 := h2.mono l6
 refine va Y Y (wk k3 (c_sr fun _ k8 => vm Y Y (wv Y (fun f s => r_loadA ta97 ts97 (f.ev Y) (s.sub _ _ h7) Y Y) ?_)))
 obtain ⟨t9, e14, H⟩ := bnd H
 refine w_call cf130 trivial Y Y (fun w s => slices_Index_Key.calls s p0 v1 h2 p1 _ e14) ?_
 rintro _ M11 l12 rfl
 refine wv Y (fun f s => r_geq (f.ev Y) (f.ev Y)) (va Y Y (wk k8 ?_))
 obtain rfl := some_r H
 exact cx1 hret Y Y Y Y
theorem backup_Complete_1.calls (hM : Sub M w) (p0 : Key) (c0_ : Backup) (cb0_ : Nat) (v1 : Value) (h2 : RS Key.F M v1 c0_.Keys) (ch0_ : M cb0_ = some (.cells (Backup.C c0_ v1).toArray 26 (0, 0))) (r : Bool) (H : backup_Complete_1 p0 c0_ = some r) :
  Calls prog 72 [.agg (Key.C p0).toArray, ptr cb0_ 0].toArray w (Post M w fun M' v => v = (.bool r)) := by
 refine enter 9 [(0, .agg (Key.C p0).toArray), (1, ptr cb0_ 0)] func72 Y Y Y hM ?_
 intro Q hret
 unfold backup_Complete_1 at H
 refine c_sr fun _ k3 => w_boxM trivial Y Y Y ?_
 intro b4 M5 l6 h7
 replace h2 := h2.mono l6
 replace ch0_ := l6 _ _ ch0_
 refine va Y Y (wk k3 (c_sr fun _ k8 => v_fa fa26_7 Y Y (wv Y (fun f s => r_load1 ta24 (f.ev Y) (s.sub _ _ ch0_) (Backup.g37 _ _)) (wv Y (fun f s => r_loadA ta97 ts97 (f.ev Y) (s.sub _ _ h7) Y Y) ?_))))
 obtain ⟨t9, e14, H⟩ := bnd H
 refine w_call cf73 trivial Y Y (fun w s => slices_Contains_Key.calls s c0_.Keys v1 h2 p0 _ e14) ?_
 rintro _ M11 l12 rfl
 refine wv Y (fun f s => r_not (f.ev Y)) (va Y Y (wk k8 ?_))
 obtain rfl := some_r H
 exact cx1 hret Y Y Y Y
theorem slices_IndexFunc_Key.calls (hM : Sub M w) (p0 : (List Key)) (v1 : Value) (h2 : RS Key.F M v1 p0) (p1 : (Key → Option Bool)) (p1v : Value) (p1h : FnS prog M p1v (fun x => .agg (Key.C x).toArray) Value.bool p1) (r : Int) (H : slices_IndexFunc_Key p0 p1 = some r) :
  Calls prog 129 [v1, p1v].toArray w (Post M w fun M' v => v = (.int .i64 r)) := by
 refine enter 19 [(0, v1), (1, p1v)] func129 Y Y Y hM ?_
 intro Q hret
 unfold slices_IndexFunc_Key at H
 refine c_sr fun _ k3 => va Y Y (wk k3 ?_)
 refine c_cut (fun a' w' => ∃ (M4 : Heap), HLe M M4 ∧ Fr 19 [] a' ∧ St none' M w M4 (lt []) w' ∧ slices_IndexFunc_Key.j1  = some r) ?_ ?_
 ·refine c_seq ?_
  intro K7 k7
  refine c_reg (vm Y Y (wv Y (fun f s => r_lenR underlying24 h2 (f.ev Y)) (vm Y Y (wk k7 (c_block ?_)))))
  refine c_loop (fun (s8 : Int) a' w' => ∃ (M9 : Heap), HLe M M9 ∧ Fr 19 [(0, v1), (1, p1v), (7, .int .i64 (p0.length : Int)), (8, .int .i64 s8)] a' ∧ St none' M w M9 (lt []) w') 0 H ?_ ?_
  ·intro a w' f s
   exact ⟨_, HLe.refl _, f.pk Y, s.selD [] (by decide) Y⟩
  intro s8 y12 H r11 a w' hJ
  obtain ⟨M9, l10, f, s⟩ := hJ
  refine cof f s ?_
  unfold slices_IndexFunc_Key.l2 at H
  replace h2 := h2.mono l10
  replace p1h := p1h.mono l10
  refine c_sr fun _ k13 => v_lss Y Y Y (wk k13 (c_seq fun K14 k14 => c_if Y (fun b15 => ?_) (fun b15 => ?_)))
  ·replace H := if_t b15 H
   refine cs k14 (c_seq fun K16 k16 => c_block (c_sr fun _ k17 => vm Y Y (va Y Y (wk k17 (c_sr fun _ k18 => vm Y Y (vm Y Y (vm Y Y ?_)))))))
   obtain ⟨g19, H⟩ := grd_s H
   refine wv Y (fun f s => r_iR underlying24 ts97 h2 (f.ev Y) (f.ev Y) g19.1 g19.2) (wv Y (fun f s => r_loadEA ta97 ts97 h2 s.sub g19.1 g19.2 (f.ev Y) Y Y) ?_)
   obtain ⟨t20, e25, H⟩ := bnd H
   refine w_callV trivial Y Y Y (fun _ h => by cases h) (fun w s => p1h _ w _ _ (HLe.refl _) s e25) ?_
   rintro _ M22 l23 rfl
   refine wk k18 (c_if Y (fun b26 => ?_) (fun b26 => ?_))
   ·replace H := if_t b26 H
    refine c_sr fun _ k27 => vm Y Y (va Y Y (wk k27 ?_))
    obtain rfl := (r11 _ (Option.some.inj H).symm)
    exact cx1 hret Y Y Y Y
   replace H := if_f b26 H
   exact cs k16 (c_reg (v_add Y Y Y (vm Y Y (w_nil fun a w' f s => ⟨_, (some_r H).symm, _, l10.trans l23, f.pk Y, s.selD [] (by decide) Y⟩))))
  replace H := if_f b15 H
  replace H := map_inr H r11
  refine c_exit ?_
  intro a w' f s
  exact ⟨_, l10, f.nil, s.selD [] (by decide) Y, H⟩
 rintro a w' ⟨M4, l5, f, s, H⟩
 refine cof f s ?_
 unfold slices_IndexFunc_Key.j1 at H
 refine c_sr fun _ k6 => va Y Y (wk k6 ?_)
 obtain rfl := some_r H
 exact cx1 hret Y Y Y Y
theorem slices_ContainsFunc_Key.calls (hM : Sub M w) (p0 : (List Key)) (v1 : Value) (h2 : RS Key.F M v1 p0) (p1 : (Key → Option Bool)) (p1v : Value) (p1h : FnS prog M p1v (fun x => .agg (Key.C x).toArray) Value.bool p1) (r : Bool) (H : slices_ContainsFunc_Key p0 p1 = some r) :
  Calls prog 71 [v1, p1v].toArray w (Post M w fun M' v => v = (.bool r)) := by
 refine enter 9 [(0, v1), (1, p1v)] func71 Y Y Y hM ?_
 intro Q hret
 unfold slices_ContainsFunc_Key at H
 refine c_sr fun _ k3 => va Y Y (wk k3 (c_sr fun _ k4 => vm Y Y (vm Y Y ?_)))
 obtain ⟨t5, e10, H⟩ := bnd H
 refine w_call cf129 trivial Y Y (fun w s => slices_IndexFunc_Key.calls s p0 v1 h2 p1 p1v p1h _ e10) ?_
 rintro _ M7 l8 rfl
 refine wv Y (fun f s => r_geq (f.ev Y) (f.ev Y)) (va Y Y (wk k4 ?_))
 obtain rfl := some_r H
 exact cx1 hret Y Y Y Y
theorem backup_Complete.calls (hM : Sub M w) (p0 : Backup) (v1 : Value) (h2 : RS Key.F M v1 p0.Keys) (p1 : Table) (v3 : Value) (h4 : RS Key.F M v3 p1.Keys) (p2 : Int) (r : Bool) (H : backup_Complete p0 p1 p2 = some r) :
  Calls prog 24 [.agg (Backup.C p0 v1).toArray, .agg (Table.C p1 v3).toArray, .int .i64 p2].toArray w (Post M w fun M' v => v = (.bool r)) := by
 refine enter 13 [(0, .agg (Backup.C p0 v1).toArray), (1, .agg (Table.C p1 v3).toArray), (2, .int .i64 p2)] func24 Y Y Y hM ?_
 intro Q hret
 unfold backup_Complete at H
 refine c_sr fun _ k5 => w_boxM trivial Y Y Y ?_
 intro b6 M7 l8 h9
 replace h2 := h2.mono l8
 replace h4 := h4.mono l8
 refine w_boxM trivial Y Y Y ?_
 intro b10 M11 l12 h13
 replace h2 := h2.mono l12
 replace h4 := h4.mono l12
 replace h9 := l12 _ _ h9
 refine va Y Y (wk k5 (c_sr fun _ k14 => wv Y (fun f s => r_loadA ta28 ts28 (f.ev Y) (s.sub _ _ h13) Y Y) (vm Y Y ?_)))
 obtain ⟨t15, e20, H⟩ := bnd H
 refine w_call cf16 trivial Y Y (fun w s => backup_Select.calls s p1 v3 h4 p2 _ e20) ?_
 rintro v29 M17 l18 ⟨v21, hv_, h22⟩
 replace hv_ := hv_.symm
 subst hv_
 replace h2 := h2.mono l18
 replace h9 := l18 _ _ h9
 refine wv Y (fun f s => r_makeFunc (f.evs Y)) ?_
 obtain ⟨t23, e28, H⟩ := bnd H
 refine w_call cf71 trivial Y Y (fun w s => slices_ContainsFunc_Key.calls s t15 v21 h22 (fun x => backup_Complete_1 x p0) (.func (.func 72) #[] #[ptr b6 0]) (FnS.of cf72 fun M' w x r hM s hp => Calls.mono (backup_Complete_1.calls s x p0 b6 v1 (h2.mono hM) (hM _ _ h9) _ hp) fun e w' q => q) _ e28) ?_
 rintro _ M25 l26 rfl
 refine wv Y (fun f s => r_not (f.ev Y)) (va Y Y (wk k14 ?_))
 obtain rfl := some_r H
 exact cx1 hret Y Y Y Y
theorem law36_sanity.calls (hM : Sub M w) (hG : Gl M)  (r : Bool) (hr_ : r = true) (H : law36_sanity  = some r) :
  Calls prog 13 [].toArray w (Post M w fun M' v => v = (.bool r)) := by
 refine enter 126 [] func13 Y Y Y hM ?_
 intro Q hret
 unfold law36_sanity at H
 refine c_sr fun _ k1 => va Y Y (wk k1 (c_sr fun _ k2 => ?_))
 obtain ⟨t3, e8, H⟩ := bnd H
 refine w_call cf52 trivial Y Y (fun w s => law36_value.calls s 118 _ e8) ?_
 rintro _ M5 l6 rfl
 replace hG := hG.mono l6
 refine wv Y (fun f s => r_build (is := [0, 1, 2, 3, 5, 6, 8]) (xs := [.const (.int .i64 3), .const (.int .i64 1), .tmp 15, .const (.int .i64 8), .const (.int .i64 9), .const (.int .i64 2), .const (.bool true)]) (A := Key.C (⟨3, 1, t3, 8, 0, 9, 2, 0, true⟩ : Key)) Y (f.evs Y) (by kernel_rfl)) (w_allocL (A := Key.C (⟨0, 0, [], 0, 0, 0, 0, 0, false⟩ : Key)) tz97 trivial Y Y ?_)
 intro b9
 refine w_store (i := 0) (A' := Key.C (⟨3, 1, t3, 8, 0, 9, 2, 0, true⟩ : Key)) trivial Y Y Y Y ts97 Y (Key.F_one _) (Nat.le_of_ble_eq_true Y) Y (wk k2 (c_sr fun _ k10 => wv Y (fun f s => r_build (is := [0]) (xs := [.const (.int .u8 1)]) (A := vI .u8 (#v[1, 0, 0, 0, 0, 0, 0, 0, 0, 0, 0, 0, 0, 0, 0, 0] : Vector Int 16)) Y (f.evs Y) (by kernel_rfl)) (wv Y (fun f s => r_build (is := [0]) (xs := [.const (.int .u8 6)]) (A := vI .u8 (#v[6, 0, 0, 0, 0, 0, 0, 0, 0, 0, 0, 0, 0, 0, 0, 0] : Vector Int 16)) Y (f.evs Y) (by kernel_rfl)) (wv Y (fun f s => r_loadA ta97 ts97 (f.ev Y) (s.blk (i := 0) Y) Y Y) (w_bsl (F := Key.F) (es := ([(⟨3, 1, t3, 8, 0, 9, 2, 0, true⟩ : Key)] : List Key)) (xs := [.tmp 19]) underlying24 te97 trivial Y Y Y Y Y (by decide) ?_)))))
 intro v11 M12 l13 h14 c15
 replace hG := hG.mono l13
 refine wv Y (fun f s => r_build (is := [0, 1, 2, 3, 4, 5, 6, 7]) (xs := [.tmp 17, .const (.int .i64 2), .const (.int .i64 3), .const (.int .i64 4), .const (.int .i64 5), .tmp 18, .const (str ([109] : List UInt8)), .tmp 20]) (A := Backup.C (⟨(#v[1, 0, 0, 0, 0, 0, 0, 0, 0, 0, 0, 0, 0, 0, 0, 0] : Vector Int 16), 2, 3, 4, 5, (#v[6, 0, 0, 0, 0, 0, 0, 0, 0, 0, 0, 0, 0, 0, 0, 0] : Vector Int 16), ([109] : List UInt8), ([(⟨3, 1, t3, 8, 0, 9, 2, 0, true⟩ : Key)] : List Key)⟩ : Backup) v11) Y (f.evs Y) (built_of (pl := [(0, 16), (16, 1), (17, 1), (18, 1), (19, 1), (20, 16), (36, 1), (37, 1)]) (A0 := Backup.C (⟨replicate 16 0, 0, 0, 0, 0, replicate 16 0, [], []⟩ : Backup) (.slice none 0 0)) tz26 underlying26 (by kernel_rfl) Y (.cons (vs := vI .u8 (#v[1, 0, 0, 0, 0, 0, 0, 0, 0, 0, 0, 0, 0, 0, 0, 0] : Vector Int 16)) (B := Backup.C (⟨(#v[1, 0, 0, 0, 0, 0, 0, 0, 0, 0, 0, 0, 0, 0, 0, 0] : Vector Int 16), 0, 0, 0, 0, replicate 16 0, [], []⟩ : Backup) (.slice none 0 0)) Y Y (by simp) (by rw [Backup.len]; decide) (Backup.s0_16 _ _) (.cons (vs := [.int .i64 2]) (B := Backup.C (⟨(#v[1, 0, 0, 0, 0, 0, 0, 0, 0, 0, 0, 0, 0, 0, 0, 0] : Vector Int 16), 2, 0, 0, 0, replicate 16 0, [], []⟩ : Backup) (.slice none 0 0)) Y Y Y (by rw [Backup.len]; decide) (Backup.s16_1 _ _) (.cons (vs := [.int .i64 3]) (B := Backup.C (⟨(#v[1, 0, 0, 0, 0, 0, 0, 0, 0, 0, 0, 0, 0, 0, 0, 0] : Vector Int 16), 2, 3, 0, 0, replicate 16 0, [], []⟩ : Backup) (.slice none 0 0)) Y Y Y (by rw [Backup.len]; decide) (Backup.s17_1 _ _) (.cons (vs := [.int .i64 4]) (B := Backup.C (⟨(#v[1, 0, 0, 0, 0, 0, 0, 0, 0, 0, 0, 0, 0, 0, 0, 0] : Vector Int 16), 2, 3, 4, 0, replicate 16 0, [], []⟩ : Backup) (.slice none 0 0)) Y Y Y (by rw [Backup.len]; decide) (Backup.s18_1 _ _) (.cons (vs := [.int .i64 5]) (B := Backup.C (⟨(#v[1, 0, 0, 0, 0, 0, 0, 0, 0, 0, 0, 0, 0, 0, 0, 0] : Vector Int 16), 2, 3, 4, 5, replicate 16 0, [], []⟩ : Backup) (.slice none 0 0)) Y Y Y (by rw [Backup.len]; decide) (Backup.s19_1 _ _) (.cons (vs := vI .u8 (#v[6, 0, 0, 0, 0, 0, 0, 0, 0, 0, 0, 0, 0, 0, 0, 0] : Vector Int 16)) (B := Backup.C (⟨(#v[1, 0, 0, 0, 0, 0, 0, 0, 0, 0, 0, 0, 0, 0, 0, 0] : Vector Int 16), 2, 3, 4, 5, (#v[6, 0, 0, 0, 0, 0, 0, 0, 0, 0, 0, 0, 0, 0, 0, 0] : Vector Int 16), [], []⟩ : Backup) (.slice none 0 0)) Y Y (by simp) (by rw [Backup.len]; decide) (Backup.s20_16 _ _) (.cons (vs := [str ([109] : List UInt8)]) (B := Backup.C (⟨(#v[1, 0, 0, 0, 0, 0, 0, 0, 0, 0, 0, 0, 0, 0, 0, 0] : Vector Int 16), 2, 3, 4, 5, (#v[6, 0, 0, 0, 0, 0, 0, 0, 0, 0, 0, 0, 0, 0, 0, 0] : Vector Int 16), ([109] : List UInt8), []⟩ : Backup) (.slice none 0 0)) Y Y Y (by rw [Backup.len]; decide) (Backup.s36_1 _ _) (.cons (vs := [v11]) (B := Backup.C (⟨(#v[1, 0, 0, 0, 0, 0, 0, 0, 0, 0, 0, 0, 0, 0, 0, 0] : Vector Int 16), 2, 3, 4, 5, (#v[6, 0, 0, 0, 0, 0, 0, 0, 0, 0, 0, 0, 0, 0, 0, 0] : Vector Int 16), ([109] : List UInt8), ([(⟨3, 1, t3, 8, 0, 9, 2, 0, true⟩ : Key)] : List Key)⟩ : Backup) v11) Y (h14.cells1) Y (by rw [Backup.len]; decide) (Backup.s37_1 _ _) .nil)))))))))) ?_
 refine w_allocL (A := Backup.C (⟨replicate 16 0, 0, 0, 0, 0, replicate 16 0, [], []⟩ : Backup) (.slice none 0 0)) tz26 trivial Y Y ?_
 intro b16
 obtain ⟨z17, e19, H⟩ := bnd H
 have e18 := some_r e19
 refine w_store (i := 1) (A' := Backup.C z17 v11) trivial Y Y Y Y ts26 (Backup.len _ _) (Backup.C_one _ h14.one) (by rw [Backup.len]; decide) (by rw [← e18]; exact (splice_all _ _ (by simp [Backup.C]))) ?_
 have h20 : RS Key.F M12 v11 z17.Keys := by rw [← e18]; exact h14
 refine wk k10 (c_seq fun K21 k21 => ?_)
 obtain ⟨t24, e29, H⟩ := bnd H
 obtain ⟨t36, e41, H⟩ := bnd H
 refine c_drawV [([], []), ([], [2]), ([(0, 23), (1, 24)], []), ([(2, 25)], []), ([(3, 22)], []), ([(3, 22)], []), ([(4, 26)], []), ([(5, 27)], [])] [_, .agg (Backup.C z17 v11).toArray, _, _, _, _, _, _] (by kernel_rfl) (by kernel_rfl) Y (aV (pzc cf52 Y Y fun _ _ w s => law36_value.calls s 100 _ e29) (aV (pz Y fun _ f s => r_loadA ta26 ts26 (f.ev Y) (s.blk (i := 1) Y) (Backup.d0_38 _ _) (Backup.len _ _)) (aV (pzc cf14 Y Y fun _ l33 w s => backup_Make.calls s (hG.mono l33) t24 z17 v11 (h20.mono l33) _ e41) (aV (pz Y fun _ f s => r_move (f.ev Y)) (aV (pz Y fun _ f s => r_extract (f.ev Y) Y) (aV (pz Y fun _ f s => r_extract (f.ev Y) Y) (aV (pz Y fun _ f s => r_assign (f.ev Y)) (aV (pz Y fun _ f s => r_assign (f.ev Y)) aV0)))))))) fun M57 l58 => ?_
 replace hG := hG.mono l58
 replace h20 := h20.mono l58
 refine ni k21 (c_sr fun _ k61 => ?_)
 obtain ⟨t62, e67, H⟩ := bnd H
 refine w_call cf52 trivial Y Y (fun w s => law36_value.calls s 100 _ e67) ?_
 rintro _ M64 l65 rfl
 replace hG := hG.mono l65
 replace h20 := h20.mono l65
 refine vm Y Y ?_
 obtain ⟨t68, e73, H⟩ := bnd H
 refine w_call cf28 trivial Y Y (fun w s => backup_Open.calls s hG t62 t36.1 _ e73) ?_
 rintro v279 M70 l71 ⟨v74, hv_, h75⟩
 replace hv_ := hv_.symm
 subst hv_
 replace hG := hG.mono l71
 replace h20 := h20.mono l71
 refine vm Y Y (v_extract Y Y Y (v_extract Y Y Y (w_allocL (A := Backup.C (⟨replicate 16 0, 0, 0, 0, 0, replicate 16 0, [], []⟩ : Backup) (.slice none 0 0)) tz26 trivial Y Y ?_)))
 intro b76
 refine w_L [bk b9 (Key.C (⟨3, 1, t3, 8, 0, 9, 2, 0, true⟩ : Key)) 97, bk b16 (Backup.C z17 v11) 26, bk b76 (Backup.C (⟨replicate 16 0, 0, 0, 0, 0, replicate 16 0, [], []⟩ : Backup) (.slice none 0 0)) 26] Y (w_store (i := 2) (A' := Backup.C t68.1 v74) trivial Y Y Y Y ts26 (Backup.len _ _) (Backup.C_one _ h75.one) (by rw [Backup.len]; decide) (splice_all _ _ (by simp [Backup.C])) (w_L [bk b9 (Key.C (⟨3, 1, t3, 8, 0, 9, 2, 0, true⟩ : Key)) 97, bk b16 (Backup.C z17 v11) 26, bk b76 (Backup.C t68.1 v74) 26] Y (va Y Y (wk k61 (c_sr fun _ k77 => vm Y Y ?_)))))
 obtain ⟨t78, e83, H⟩ := bnd H
 refine w_call cf26 trivial Y Y (fun w s => backup_Peek.calls s t36.1 _ e83) ?_
 rintro v278 M80 l81 ⟨v84, hv_, h85⟩
 replace hv_ := hv_.symm
 subst hv_
 replace hG := hG.mono l81
 replace h20 := h20.mono l81
 replace h75 := h75.mono l81
 refine vm Y Y (v_extract Y Y Y (v_extract Y Y Y (w_allocL (A := Backup.C (⟨replicate 16 0, 0, 0, 0, 0, replicate 16 0, [], []⟩ : Backup) (.slice none 0 0)) tz26 trivial Y Y ?_)))
 intro b86
 refine w_L [bk b9 (Key.C (⟨3, 1, t3, 8, 0, 9, 2, 0, true⟩ : Key)) 97, bk b16 (Backup.C z17 v11) 26, bk b76 (Backup.C t68.1 v74) 26, bk b86 (Backup.C (⟨replicate 16 0, 0, 0, 0, 0, replicate 16 0, [], []⟩ : Backup) (.slice none 0 0)) 26] Y (w_store (i := 3) (A' := Backup.C t78.1 v84) trivial Y Y Y Y ts26 (Backup.len _ _) (Backup.C_one _ h85.one) (by rw [Backup.len]; decide) (splice_all _ _ (by simp [Backup.C])) (w_L [bk b9 (Key.C (⟨3, 1, t3, 8, 0, 9, 2, 0, true⟩ : Key)) 97, bk b16 (Backup.C z17 v11) 26, bk b76 (Backup.C t68.1 v74) 26, bk b86 (Backup.C t78.1 v84) 26] Y (va Y Y (wk k77 (c_sr fun _ k87 => ?_)))))
 obtain ⟨t88, e93, H⟩ := bnd H
 refine w_call cf52 trivial Y Y (fun w s => law36_value.calls s 120 _ e93) ?_
 rintro _ M90 l91 rfl
 replace hG := hG.mono l91
 replace h20 := h20.mono l91
 replace h75 := h75.mono l91
 replace h85 := h85.mono l91
 refine vm Y Y ?_
 obtain ⟨t94, e99, H⟩ := bnd H
 refine w_call cf28 trivial Y Y (fun w s => backup_Open.calls s hG t88 t36.1 _ e99) ?_
 rintro v277 M96 l97 ⟨v100, hv_, h101⟩
 replace hv_ := hv_.symm
 subst hv_
 replace hG := hG.mono l97
 replace h20 := h20.mono l97
 replace h75 := h75.mono l97
 replace h85 := h85.mono l97
 refine vm Y Y (v_extract Y Y Y (v_extract Y Y Y (w_allocL (A := Backup.C (⟨replicate 16 0, 0, 0, 0, 0, replicate 16 0, [], []⟩ : Backup) (.slice none 0 0)) tz26 trivial Y Y ?_)))
 intro b102
 refine w_L [bk b9 (Key.C (⟨3, 1, t3, 8, 0, 9, 2, 0, true⟩ : Key)) 97, bk b16 (Backup.C z17 v11) 26, bk b76 (Backup.C t68.1 v74) 26, bk b86 (Backup.C t78.1 v84) 26, bk b102 (Backup.C (⟨replicate 16 0, 0, 0, 0, 0, replicate 16 0, [], []⟩ : Backup) (.slice none 0 0)) 26] Y (w_store (i := 4) (A' := Backup.C t94.1 v100) trivial Y Y Y Y ts26 (Backup.len _ _) (Backup.C_one _ h101.one) (by rw [Backup.len]; decide) (splice_all _ _ (by simp [Backup.C])) (w_L [bk b9 (Key.C (⟨3, 1, t3, 8, 0, 9, 2, 0, true⟩ : Key)) 97, bk b16 (Backup.C z17 v11) 26, bk b76 (Backup.C t68.1 v74) 26, bk b86 (Backup.C t78.1 v84) 26, bk b102 (Backup.C t94.1 v100) 26] Y (va Y Y (wk k87 (c_sr fun _ k103 => wv Y (fun f s => r_loadA ta26 ts26 (f.ev Y) (s.blk (i := 1) Y) (Backup.d0_38 _ _) (Backup.len _ _)) ?_)))))
 obtain ⟨t104, e109, H⟩ := bnd H
 refine w_call cf14 trivial Y Y (fun w s => backup_Make.calls s hG ([115, 104, 111, 114, 116] : List UInt8) z17 v11 h20 _ e109) ?_
 rintro _ M106 l107 rfl
 replace h20 := h20.mono l107
 replace h75 := h75.mono l107
 replace h85 := h85.mono l107
 refine vm Y Y (v_extract Y Y Y (v_extract Y Y Y (va Y Y (va Y Y (wk k103 (c_sr fun _ k110 => wv Y (fun f s => r_loadA ta97 ts97 (f.ev Y) (s.blk (i := 0) Y) Y Y) (w_bsl (F := Key.F) (es := ([(⟨3, 1, t3, 8, 0, 9, 2, 0, true⟩ : Key)] : List Key)) (xs := [.tmp 50]) underlying24 te97 trivial Y Y Y Y Y (by decide) ?_)))))))
 intro v111 M112 l113 h114 c115
 replace h20 := h20.mono l113
 replace h75 := h75.mono l113
 replace h85 := h85.mono l113
 refine wv Y (fun f s => r_build (is := [0, 1]) (xs := [.const (.int .i64 9), .tmp 51]) (A := Table.C (⟨9, ([(⟨3, 1, t3, 8, 0, 9, 2, 0, true⟩ : Key)] : List Key)⟩ : Table) v111) Y (f.evs Y) (built_of (pl := [(0, 1), (1, 1)]) (A0 := Table.C (⟨0, []⟩ : Table) (.slice none 0 0)) tz28 underlying28 (by kernel_rfl) Y (.cons (vs := [.int .i64 9]) (B := Table.C (⟨9, []⟩ : Table) (.slice none 0 0)) Y Y Y (by rw [Table.len]; decide) Y (.cons (vs := [v111]) (B := Table.C (⟨9, ([(⟨3, 1, t3, 8, 0, 9, 2, 0, true⟩ : Key)] : List Key)⟩ : Table) v111) Y (h114.cells1) Y (by rw [Table.len]; decide) Y .nil)))) (w_allocL (A := Table.C (⟨0, []⟩ : Table) (.slice none 0 0)) tz28 trivial Y Y ?_)
 intro b116
 refine w_L [bk b9 (Key.C (⟨3, 1, t3, 8, 0, 9, 2, 0, true⟩ : Key)) 97, bk b16 (Backup.C z17 v11) 26, bk b76 (Backup.C t68.1 v74) 26, bk b86 (Backup.C t78.1 v84) 26, bk b102 (Backup.C t94.1 v100) 26, bk b116 (Table.C (⟨0, []⟩ : Table) (.slice none 0 0)) 28] Y (w_store (i := 5) (A' := Table.C (⟨9, ([(⟨3, 1, t3, 8, 0, 9, 2, 0, true⟩ : Key)] : List Key)⟩ : Table) v111) trivial Y Y Y Y ts28 Y (Table.C_one _ h114.one) (Nat.le_of_ble_eq_true Y) Y (w_L [bk b9 (Key.C (⟨3, 1, t3, 8, 0, 9, 2, 0, true⟩ : Key)) 97, bk b16 (Backup.C z17 v11) 26, bk b76 (Backup.C t68.1 v74) 26, bk b86 (Backup.C t78.1 v84) 26, bk b102 (Backup.C t94.1 v100) 26, bk b116 (Table.C (⟨9, ([(⟨3, 1, t3, 8, 0, 9, 2, 0, true⟩ : Key)] : List Key)⟩ : Table) v111) 28] Y (wk k110 (c_sr fun _ k117 => wv Y (fun f s => r_loadA ta26 ts26 (f.ev Y) (s.blk (i := 1) Y) (Backup.d0_38 _ _) (Backup.len _ _)) ?_))))
 refine w_allocL (A := Backup.C (⟨replicate 16 0, 0, 0, 0, 0, replicate 16 0, [], []⟩ : Backup) (.slice none 0 0)) tz26 trivial Y Y ?_
 intro b118
 refine w_L [bk b9 (Key.C (⟨3, 1, t3, 8, 0, 9, 2, 0, true⟩ : Key)) 97, bk b16 (Backup.C z17 v11) 26, bk b76 (Backup.C t68.1 v74) 26, bk b86 (Backup.C t78.1 v84) 26, bk b102 (Backup.C t94.1 v100) 26, bk b116 (Table.C (⟨9, ([(⟨3, 1, t3, 8, 0, 9, 2, 0, true⟩ : Key)] : List Key)⟩ : Table) v111) 28, bk b118 (Backup.C (⟨replicate 16 0, 0, 0, 0, 0, replicate 16 0, [], []⟩ : Backup) (.slice none 0 0)) 26] Y (w_store (i := 6) (A' := Backup.C z17 v11) trivial Y Y Y Y ts26 (Backup.len _ _) (Backup.C_one _ h20.one) (by rw [Backup.len]; decide) (splice_all _ _ (by simp [Backup.C])) (w_L [bk b9 (Key.C (⟨3, 1, t3, 8, 0, 9, 2, 0, true⟩ : Key)) 97, bk b16 (Backup.C z17 v11) 26, bk b76 (Backup.C t68.1 v74) 26, bk b86 (Backup.C t78.1 v84) 26, bk b102 (Backup.C t94.1 v100) 26, bk b116 (Table.C (⟨9, ([(⟨3, 1, t3, 8, 0, 9, 2, 0, true⟩ : Key)] : List Key)⟩ : Table) v111) 28, bk b118 (Backup.C z17 v11) 26] Y ?_))
 refine wk k117 (c_sr fun _ k119 => v_fa fa26_7 Y Y (w_store (i := 6) (A' := Backup.C ({ z17 with Keys := ([] : (List Key)) } : Backup) (.slice none 0 0)) trivial Y Y Y Y ts24 Y (one1 Y) (by rw [Backup.len]; decide) (Backup.s37_1 _ _) (w_L [bk b9 (Key.C (⟨3, 1, t3, 8, 0, 9, 2, 0, true⟩ : Key)) 97, bk b16 (Backup.C z17 v11) 26, bk b76 (Backup.C t68.1 v74) 26, bk b86 (Backup.C t78.1 v84) 26, bk b102 (Backup.C t94.1 v100) 26, bk b116 (Table.C (⟨9, ([(⟨3, 1, t3, 8, 0, 9, 2, 0, true⟩ : Key)] : List Key)⟩ : Table) v111) 28, bk b118 (Backup.C ({ z17 with Keys := ([] : (List Key)) } : Backup) (.slice none 0 0)) 26] Y (wk k119 ?_))))
 obtain ⟨t120, H1, H⟩ := bnd H
 have ht_ := (some_r H).trans hr_
 refine c_cut (fun a' w' => ∃ (M121 : Heap), HLe M112 M121 ∧ Fr 126 [(0, .bool t120)] a' ∧ St none' M w M121 (lt [bk b9 (Key.C (⟨3, 1, t3, 8, 0, 9, 2, 0, true⟩ : Key)) 97, bk b16 (Backup.C z17 v11) 26, bk b76 (Backup.C t68.1 v74) 26, bk b86 (Backup.C t78.1 v84) 26, bk b102 (Backup.C t94.1 v100) 26, bk b116 (Table.C (⟨9, ([(⟨3, 1, t3, 8, 0, 9, 2, 0, true⟩ : Key)] : List Key)⟩ : Table) v111) 28, bk b118 (Backup.C ({ z17 with Keys := ([] : (List Key)) } : Backup) (.slice none 0 0)) 26]) w') ?_ ?_
 ·replace H := H1
  refine c_reg (vm Y Y (wv Y (fun f s => r_eql (f.ev Y) (f.ev Y)) (vm Y Y ?_)))
  by_cases b200 : (t36.2 == 0) = true
  ·replace H := if_t b200 H
   refine wg b200 Y Y Y (fun f s => r_move (f.ev Y)) (wg b200 Y Y Y (fun f s => r_eql (f.ev Y) (f.ev Y)) (wv Y (fun f s => r_pickT (f.ev Y) b200 (f.ev Y)) (vm Y Y ?_)))
   by_cases b201 : (t68.2 == 0) = true
   ·replace H := if_t b201 H
    refine wg b201 Y Y Y (fun f s => r_loadA ta26 ts26 (f.ev Y) (s.blk (i := 1) Y) (Backup.d0_38 _ _) (Backup.len _ _)) (wg b201 Y Y Y (fun f s => r_loadA ta26 ts26 (f.ev Y) (s.blk (i := 2) Y) (Backup.d0_38 _ _) (Backup.len _ _)) ?_)
    obtain ⟨t202, e207, H⟩ := bnd H
    refine w_call cf18 (Wnt.of Y Y b201) Y Y (fun w s => ref36_Same.calls s z17 v11 h20 t68.1 v74 h75 _ e207) ?_
    rintro _ M204 l205 rfl
    replace h20 := h20.mono l205
    replace h75 := h75.mono l205
    replace h85 := h85.mono l205
    replace h114 := h114.mono l205
    refine wv Y (fun f s => r_pickT (f.ev Y) b201 (f.ev Y)) (vm Y Y ?_)
    by_cases b208 : t202 = true
    ·replace H := if_t b208 H
     refine wg b208 Y Y Y (fun f s => r_move (f.ev Y)) (wg b208 Y Y Y (fun f s => r_eql (f.ev Y) (f.ev Y)) (wv Y (fun f s => r_pickT (f.ev Y) b208 (f.ev Y)) (vm Y Y ?_)))
     by_cases b209 : (t78.2 == 0) = true
     ·replace H := if_t b209 H
      refine wg b209 Y Y Y (fun f s => r_loadA ta26 ts26 (f.ev Y) (s.blk (i := 3) Y) (Backup.d0_38 _ _) (Backup.len _ _)) (wg b209 Y Y Y (fun f s => r_loadA ta26 ts26 (f.ev Y) (s.blk (i := 6) Y) (Backup.d0_38 _ _) (Backup.len _ _)) ?_)
      obtain ⟨t210, e215, H⟩ := bnd H
      refine w_call cf18 (Wnt.of Y Y b209) Y Y (fun w s => ref36_Same.calls s t78.1 v84 h85 ({ z17 with Keys := ([] : (List Key)) } : Backup) (.slice none 0 0) RS.none _ e215) ?_
      rintro _ M212 l213 rfl
      replace h20 := h20.mono l213
      replace h75 := h75.mono l213
      replace h114 := h114.mono l213
      refine wv Y (fun f s => r_pickT (f.ev Y) b209 (f.ev Y)) (vm Y Y ?_)
      by_cases b216 : t210 = true
      ·replace H := if_t b216 H
       refine wg b216 Y Y Y (fun f s => r_move (f.ev Y)) (wg b216 Y Y Y (fun f s => r_eql (f.ev Y) (f.ev Y)) (wv Y (fun f s => r_pickT (f.ev Y) b216 (f.ev Y)) (vm Y Y ?_)))
       by_cases b217 : (t94.2 == 8) = true
       ·replace H := if_t b217 H
        refine wg b217 Y Y Y (fun f s => r_move (f.ev Y)) (wg b217 Y Y Y (fun f s => r_eql (f.ev Y) (f.ev Y)) (wv Y (fun f s => r_pickT (f.ev Y) b217 (f.ev Y)) (vm Y Y ?_)))
        by_cases b218 : (t104.2 == 1) = true
        ·replace H := if_t b218 H
         refine wg b218 Y Y Y (fun f s => r_loadA ta26 ts26 (f.ev Y) (s.blk (i := 1) Y) (Backup.d0_38 _ _) (Backup.len _ _)) ?_
         obtain ⟨t219, e224, H⟩ := bnd H
         refine w_call cf19 (Wnt.of Y Y b218) Y Y (fun w s => backup_Valid.calls s z17 v11 h20 _ e224) ?_
         rintro _ M221 l222 rfl
         replace h20 := h20.mono l222
         replace h75 := h75.mono l222
         replace h114 := h114.mono l222
         refine wv Y (fun f s => r_pickT (f.ev Y) b218 (f.ev Y)) (vm Y Y ?_)
         by_cases b225 : t219 = true
         ·replace H := if_t b225 H
          refine wg b225 Y Y Y (fun f s => r_loadA ta26 ts26 (f.ev Y) (s.blk (i := 1) Y) (Backup.d0_38 _ _) (Backup.len _ _)) (wg b225 Y Y Y (fun f s => r_loadA ta26 ts26 (f.ev Y) (s.blk (i := 2) Y) (Backup.d0_38 _ _) (Backup.len _ _)) ?_)
          obtain ⟨t226, e231, H⟩ := bnd H
          refine w_call cf21 (Wnt.of Y Y b225) Y Y (fun w s => backup_Same.calls s z17 v11 h20 t68.1 v74 h75 _ e231) ?_
          rintro _ M228 l229 rfl
          replace h20 := h20.mono l229
          replace h114 := h114.mono l229
          refine wv Y (fun f s => r_pickT (f.ev Y) b225 (f.ev Y)) (vm Y Y ?_)
          by_cases b232 : t226 = true
          ·replace H := if_t b232 H
           refine wg b232 Y Y Y (fun f s => r_loadA ta26 ts26 (f.ev Y) (s.blk (i := 1) Y) (Backup.d0_38 _ _) (Backup.len _ _)) (wg b232 Y Y Y (fun f s => r_loadA ta26 ts26 (f.ev Y) (s.blk (i := 6) Y) (Backup.d0_38 _ _) (Backup.len _ _)) ?_)
           obtain ⟨t233, e238, H⟩ := bnd H
           refine w_call cf21 (Wnt.of Y Y b232) Y Y (fun w s => backup_Same.calls s z17 v11 h20 ({ z17 with Keys := ([] : (List Key)) } : Backup) (.slice none 0 0) RS.none _ e238) ?_
           rintro _ M235 l236 rfl
           replace h20 := h20.mono l236
           replace h114 := h114.mono l236
           refine wg b232 Y Y Y (fun f s => r_not (f.ev Y)) (wv Y (fun f s => r_pickT (f.ev Y) b232 (f.ev Y)) (vm Y Y ?_))
           by_cases b239 : (!t233) = true
           ·replace H := if_t b239 H
            refine wg b239 Y Y Y (fun f s => r_loadA ta26 ts26 (f.ev Y) (s.blk (i := 1) Y) (Backup.d0_38 _ _) (Backup.len _ _)) (wg b239 Y Y Y (fun f s => r_loadA ta28 ts28 (f.ev Y) (s.blk (i := 5) Y) Y Y) ?_)
            obtain ⟨t240, e245, H⟩ := bnd H
            refine w_call cf24 (Wnt.of Y Y b239) Y Y (fun w s => backup_Complete.calls s z17 v11 h20 (⟨9, ([(⟨3, 1, t3, 8, 0, 9, 2, 0, true⟩ : Key)] : List Key)⟩ : Table) v111 h114 5 _ e245) ?_
            rintro _ M242 l243 rfl
            replace h20 := h20.mono l243
            replace h114 := h114.mono l243
            refine wv Y (fun f s => r_pickT (f.ev Y) b239 (f.ev Y)) (vm Y Y ?_)
            by_cases b246 : t240 = true
            ·replace H := if_t b246 H
             refine wg b246 Y Y Y (fun f s => r_loadA ta26 ts26 (f.ev Y) (s.blk (i := 6) Y) (Backup.d0_38 _ _) (Backup.len _ _)) (wg b246 Y Y Y (fun f s => r_loadA ta28 ts28 (f.ev Y) (s.blk (i := 5) Y) Y Y) ?_)
             obtain ⟨t247, e252, H⟩ := bnd H
             refine w_call cf24 (Wnt.of Y Y b246) Y Y (fun w s => backup_Complete.calls s ({ z17 with Keys := ([] : (List Key)) } : Backup) (.slice none 0 0) RS.none (⟨9, ([(⟨3, 1, t3, 8, 0, 9, 2, 0, true⟩ : Key)] : List Key)⟩ : Table) v111 h114 5 _ e252) ?_
             rintro _ M249 l250 rfl
             replace h20 := h20.mono l250
             replace h114 := h114.mono l250
             refine wg b246 Y Y Y (fun f s => r_not (f.ev Y)) (wv Y (fun f s => r_pickT (f.ev Y) b246 (f.ev Y)) (vm Y Y ?_))
             by_cases b253 : (!t247) = true
             ·replace H := if_t b253 H
              refine wg b253 Y Y Y (fun f s => r_loadA ta26 ts26 (f.ev Y) (s.blk (i := 6) Y) (Backup.d0_38 _ _) (Backup.len _ _)) (wg b253 Y Y Y (fun f s => r_loadA ta28 ts28 (f.ev Y) (s.blk (i := 5) Y) Y Y) ?_)
              obtain ⟨t254, e259, H⟩ := bnd H
              refine w_call cf24 (Wnt.of Y Y b253) Y Y (fun w s => backup_Complete.calls s ({ z17 with Keys := ([] : (List Key)) } : Backup) (.slice none 0 0) RS.none (⟨9, ([(⟨3, 1, t3, 8, 0, 9, 2, 0, true⟩ : Key)] : List Key)⟩ : Table) v111 h114 9 _ e259) ?_
              rintro _ M256 l257 rfl
              replace h20 := h20.mono l257
              replace h114 := h114.mono l257
              refine wv Y (fun f s => r_pickT (f.ev Y) b253 (f.ev Y)) (vm Y Y ?_)
              by_cases b260 : t254 = true
              ·replace H := if_t b260 H
               refine wg b260 Y Y Y (fun f s => r_loadA ta28 ts28 (f.ev Y) (s.blk (i := 5) Y) Y Y) ?_
               obtain ⟨t261, e266, H⟩ := bnd H
               refine w_call cf16 (Wnt.of Y Y b260) Y Y (fun w s => backup_Select.calls s (⟨9, ([(⟨3, 1, t3, 8, 0, 9, 2, 0, true⟩ : Key)] : List Key)⟩ : Table) v111 h114 5 _ e266) ?_
               rintro v276 M263 l264 ⟨v267, hv_, h268⟩
               replace hv_ := hv_.symm
               subst hv_
               replace h20 := h20.mono l264
               refine wg b260 Y Y Y (fun f s => r_lenR underlying24 h268 (f.ev Y)) (wg b260 Y Y Y (fun f s => r_eql (f.ev Y) (f.ev Y)) (wv Y (fun f s => r_pickT (f.ev Y) b260 (f.ev Y)) (vm Y Y ?_)))
               by_cases b269 : ((t261.length : Int) == 1) = true
               ·replace H := if_t b269 H
                refine wg b269 Y Y Y (fun f s => r_loadA ta26 ts26 (f.ev Y) (s.blk (i := 1) Y) (Backup.d0_38 _ _) (Backup.len _ _)) ?_
                obtain ⟨t270, e275, H⟩ := bnd H
                refine w_call cf22 (Wnt.of Y Y b269) Y Y (fun w s => backup_Header.calls s z17 v11 h20 _ e275) ?_
                rintro _ M272 l273 rfl
                refine wg b269 Y Y Y (fun f s => r_slen underlying9 (f.ev Y)) (wg b269 Y Y Y (fun f s => r_gtr (f.ev Y) (f.ev Y)) (wv Y (fun f s => r_pickT (f.ev Y) b269 (f.ev Y)) (va Y Y ?_)))
                obtain rfl := some_r H
                exact w_nil fun a w' f s => ⟨_, l205.trans (l213.trans (l222.trans (l229.trans (l236.trans (l243.trans (l250.trans (l257.trans (l264.trans l273)))))))), f.pk Y, s.sel [0, 1, 2, 3, 4, 5, 6] (by decide) Y⟩
               replace b269 := Bool.eq_false_iff.2 b269
               replace H := if_f b269 H
               exact absurd ((some_r H).trans ht_) (by decide)
              replace b260 := Bool.eq_false_iff.2 b260
              replace H := if_f b260 H
              exact absurd ((some_r H).trans ht_) (by decide)
             replace b253 := Bool.eq_false_iff.2 b253
             replace H := if_f b253 H
             exact absurd ((some_r H).trans ht_) (by decide)
            replace b246 := Bool.eq_false_iff.2 b246
            replace H := if_f b246 H
            exact absurd ((some_r H).trans ht_) (by decide)
           replace b239 := Bool.eq_false_iff.2 b239
           replace H := if_f b239 H
           exact absurd ((some_r H).trans ht_) (by decide)
          replace b232 := Bool.eq_false_iff.2 b232
          replace H := if_f b232 H
          exact absurd ((some_r H).trans ht_) (by decide)
         replace b225 := Bool.eq_false_iff.2 b225
         replace H := if_f b225 H
         exact absurd ((some_r H).trans ht_) (by decide)
        replace b218 := Bool.eq_false_iff.2 b218
        replace H := if_f b218 H
        exact absurd ((some_r H).trans ht_) (by decide)
       replace b217 := Bool.eq_false_iff.2 b217
       replace H := if_f b217 H
       exact absurd ((some_r H).trans ht_) (by decide)
      replace b216 := Bool.eq_false_iff.2 b216
      replace H := if_f b216 H
      exact absurd ((some_r H).trans ht_) (by decide)
     replace b209 := Bool.eq_false_iff.2 b209
     replace H := if_f b209 H
     exact absurd ((some_r H).trans ht_) (by decide)
    replace b208 := Bool.eq_false_iff.2 b208
    replace H := if_f b208 H
    exact absurd ((some_r H).trans ht_) (by decide)
   replace b201 := Bool.eq_false_iff.2 b201
   replace H := if_f b201 H
   exact absurd ((some_r H).trans ht_) (by decide)
  replace b200 := Bool.eq_false_iff.2 b200
  replace H := if_f b200 H
  exact absurd ((some_r H).trans ht_) (by decide)
 rintro a w' ⟨M121, l122, f, s⟩
 refine cof f s ?_
 obtain rfl := some_r H
 exact cx1 hret Y Y Y Y
theorem ref36_within.calls (hM : Sub M w) (p0 : Int) (p1 : Int) (r : Bool) (H : ref36_within p0 p1 = some r) :
  Calls prog 64 [.int .i64 p0, .int .i64 p1].toArray w (Post M w fun M' v => v = (.bool r)) := by
 refine enter 12 [(0, .int .i64 p0), (1, .int .i64 p1)] func64 Y Y Y hM ?_
 intro Q hret
 unfold ref36_within at H
 refine c_sr fun _ k1 => va Y Y (wk k1 ?_)
 obtain ⟨t2, H1, H⟩ := bnd H
 refine c_cut (fun a' w' => ∃ (M3 : Heap), HLe M M3 ∧ Fr 12 [(4, .bool t2)] a' ∧ St none' M w M3 (lt []) w') ?_ ?_
 ·replace H := H1
  refine c_reg (vm Y Y (wv Y (fun f s => r_geq (f.ev Y) (f.ev Y)) (vm Y Y ?_)))
  by_cases b5 : (decide ((0 : Int) ≤ p0)) = true
  ·replace H := if_t b5 H
   refine wg b5 Y Y Y (fun f s => r_move (f.ev Y)) (wg b5 Y Y Y (fun f s => r_move (f.ev Y)) (wg b5 Y Y Y (fun f s => r_leq (f.ev Y) (f.ev Y)) (wv Y (fun f s => r_pickT (f.ev Y) b5 (f.ev Y)) (va Y Y ?_))))
   obtain rfl := some_r H
   exact w_nil fun a w' f s => ⟨_, HLe.refl _, f.pk Y, s.sel [] (by decide) Y⟩
  replace b5 := Bool.eq_false_iff.2 b5
  replace H := if_f b5 H
  refine wq b5 Y Y Y (wq b5 Y Y Y (wq b5 Y Y Y (wv Y (fun f s => r_pickF (f.ev Y) b5 (f.ev Y)) (va Y Y ?_))))
  obtain rfl := some_r H
  exact w_nil fun a w' f s => ⟨_, HLe.refl _, f.pk Y, s.sel [] (by decide) Y⟩
 rintro a w' ⟨M3, l4, f, s⟩
 refine cof f s ?_
 obtain rfl := some_r H
 exact cx1 hret Y Y Y Y
theorem ref27_within.calls (hM : Sub M w) (p0 : Int) (p1 : Int) (p2 : Int) (r : Bool) (H : ref27_within p0 p1 p2 = some r) :
  Calls prog 127 [.int .i64 p0, .int .i64 p1, .int .i64 p2].toArray w (Post M w fun M' v => v = (.bool r)) := by
 refine enter 15 [(0, .int .i64 p0), (1, .int .i64 p1), (2, .int .i64 p2)] func127 Y Y Y hM ?_
 intro Q hret
 unfold ref27_within at H
 refine c_sr fun _ k1 => va Y Y (wk k1 ?_)
 obtain ⟨t2, H1, H⟩ := bnd H
 refine c_cut (fun a' w' => ∃ (M3 : Heap), HLe M M3 ∧ Fr 15 [(6, .bool t2)] a' ∧ St none' M w M3 (lt []) w') ?_ ?_
 ·replace H := H1
  refine c_reg (vm Y Y (vm Y Y (wv Y (fun f s => r_geq (f.ev Y) (f.ev Y)) (vm Y Y ?_))))
  by_cases b5 : (decide (p1 ≤ p0)) = true
  ·replace H := if_t b5 H
   refine wg b5 Y Y Y (fun f s => r_move (f.ev Y)) (wg b5 Y Y Y (fun f s => r_move (f.ev Y)) (wg b5 Y Y Y (fun f s => r_leq (f.ev Y) (f.ev Y)) (wv Y (fun f s => r_pickT (f.ev Y) b5 (f.ev Y)) (va Y Y ?_))))
   obtain rfl := some_r H
   exact w_nil fun a w' f s => ⟨_, HLe.refl _, f.pk Y, s.sel [] (by decide) Y⟩
  replace b5 := Bool.eq_false_iff.2 b5
  replace H := if_f b5 H
  refine wq b5 Y Y Y (wq b5 Y Y Y (wq b5 Y Y Y (wv Y (fun f s => r_pickF (f.ev Y) b5 (f.ev Y)) (va Y Y ?_))))
  obtain rfl := some_r H
  exact w_nil fun a w' f s => ⟨_, HLe.refl _, f.pk Y, s.sel [] (by decide) Y⟩
 rintro a w' ⟨M3, l4, f, s⟩
 refine cof f s ?_
 obtain rfl := some_r H
 exact cx1 hret Y Y Y Y
theorem ref27_Valid.calls (hM : Sub M w) (p0 : Key) (r : Bool) (H : ref27_Valid p0 = some r) :
  Calls prog 65 [.agg (Key.C p0).toArray].toArray w (Post M w fun M' v => v = (.bool r)) := by
 refine enter 42 [(0, .agg (Key.C p0).toArray)] func65 Y Y Y hM ?_
 intro Q hret
 unfold ref27_Valid at H
 refine c_sr fun _ k1 => w_boxM trivial Y Y Y ?_
 intro b2 M3 l4 h5
 refine va Y Y (wk k1 ?_)
 obtain ⟨t6, H1, H⟩ := bnd H
 refine c_cut (fun a' w' => ∃ (M7 : Heap), HLe M3 M7 ∧ Fr 42 [(2, .bool t6)] a' ∧ St none' M w M7 (lt []) w') ?_ ?_
 ·replace H := H1
  refine c_reg (v_fa fa97_1 Y Y (wv Y (fun f s => r_load1 ta3 (f.ev Y) (s.sub _ _ h5) Y) ?_))
  obtain ⟨t9, e14, H⟩ := bnd H
  refine w_call cf127 trivial Y Y (fun w s => ref27_within.calls s p0.Type_ 0 31 _ e14) ?_
  rintro _ M11 l12 rfl
  replace h5 := l12 _ _ h5
  refine vm Y Y ?_
  by_cases b15 : t9 = true
  ·replace H := if_t b15 H
   refine wg b15 Y Y Y (fun f s => r_fa fa97_2 (f.ev Y)) (wg b15 Y Y Y (fun f s => r_load1 ta9 (f.ev Y) (s.sub _ _ h5) Y) (wg b15 Y Y Y (fun f s => r_slen underlying9 (f.ev Y)) (wg b15 Y Y Y (fun f s => r_eql (f.ev Y) (f.ev Y)) (wv Y (fun f s => r_pickT (f.ev Y) b15 (f.ev Y)) (vm Y Y ?_)))))
   by_cases b16 : ((p0.Value.length : Int) == 32) = true
   ·replace H := if_t b16 H
    refine wg b16 Y Y Y (fun f s => r_fa fa97_3 (f.ev Y)) (wg b16 Y Y Y (fun f s => r_load1 ta3 (f.ev Y) (s.sub _ _ h5) Y) (wg b16 Y Y Y (fun f s => r_and (f.ev Y) (f.ev Y)) (wg b16 Y Y Y (fun f s => r_fa fa97_3 (f.ev Y)) (wg b16 Y Y Y (fun f s => r_load1 ta3 (f.ev Y) (s.sub _ _ h5) Y) (wg b16 Y Y Y (fun f s => r_eql (f.ev Y) (f.ev Y)) (wv Y (fun f s => r_pickT (f.ev Y) b16 (f.ev Y)) (vm Y Y ?_)))))))
    by_cases b17 : ((bits .and .i64 p0.Uses 956) == p0.Uses) = true
    ·replace H := if_t b17 H
     refine wg b17 Y Y Y (fun f s => r_fa fa97_4 (f.ev Y)) (wg b17 Y Y Y (fun f s => r_load1 ta3 (f.ev Y) (s.sub _ _ h5) Y) ?_)
     obtain ⟨t18, e23, H⟩ := bnd H
     refine w_call cf127 (Wnt.of Y Y b17) Y Y (fun w s => ref27_within.calls s p0.Start 0 1099511627776 _ e23) ?_
     rintro _ M20 l21 rfl
     replace h5 := l21 _ _ h5
     refine wv Y (fun f s => r_pickT (f.ev Y) b17 (f.ev Y)) (vm Y Y ?_)
     by_cases b24 : t18 = true
     ·replace H := if_t b24 H
      refine wg b24 Y Y Y (fun f s => r_fa fa97_5 (f.ev Y)) (wg b24 Y Y Y (fun f s => r_load1 ta3 (f.ev Y) (s.sub _ _ h5) Y) (wg b24 Y Y Y (fun f s => r_fa fa97_4 (f.ev Y)) (wg b24 Y Y Y (fun f s => r_load1 ta3 (f.ev Y) (s.sub _ _ h5) Y) ?_)))
      obtain ⟨t25, e30, H⟩ := bnd H
      refine w_call cf127 (Wnt.of Y Y b24) Y Y (fun w s => ref27_within.calls s p0.End p0.Start 1099511627776 _ e30) ?_
      rintro _ M27 l28 rfl
      replace h5 := l28 _ _ h5
      refine wv Y (fun f s => r_pickT (f.ev Y) b24 (f.ev Y)) (vm Y Y ?_)
      by_cases b31 : t25 = true
      ·replace H := if_t b31 H
       refine wg b31 Y Y Y (fun f s => r_fa fa97_6 (f.ev Y)) (wg b31 Y Y Y (fun f s => r_load1 ta3 (f.ev Y) (s.sub _ _ h5) Y) ?_)
       obtain ⟨t32, e37, H⟩ := bnd H
       refine w_call cf127 (Wnt.of Y Y b31) Y Y (fun w s => ref27_within.calls s p0.Version 1 2147483647 _ e37) ?_
       rintro _ M34 l35 rfl
       replace h5 := l35 _ _ h5
       refine wv Y (fun f s => r_pickT (f.ev Y) b31 (f.ev Y)) (vm Y Y ?_)
       by_cases b38 : t32 = true
       ·replace H := if_t b38 H
        refine wg b38 Y Y Y (fun f s => r_fa fa97_7 (f.ev Y)) (wg b38 Y Y Y (fun f s => r_load1 ta3 (f.ev Y) (s.sub _ _ h5) Y) ?_)
        obtain ⟨t39, e44, H⟩ := bnd H
        refine w_call cf127 (Wnt.of Y Y b38) Y Y (fun w s => ref27_within.calls s p0.Parent 0 2147483647 _ e44) ?_
        rintro _ M41 l42 rfl
        refine wv Y (fun f s => r_pickT (f.ev Y) b38 (f.ev Y)) (va Y Y ?_)
        obtain rfl := some_r H
        exact w_nil fun a w' f s => ⟨_, l12.trans (l21.trans (l28.trans (l35.trans l42))), f.pk Y, s.sel [] (by decide) Y⟩
       replace b38 := Bool.eq_false_iff.2 b38
       replace H := if_f b38 H
       refine wq b38 Y Y Y (wq b38 Y Y Y (wq b38 Y Y Y (wv Y (fun f s => r_pickF (f.ev Y) b38 (f.ev Y)) (va Y Y ?_))))
       obtain rfl := some_r H
       exact w_nil fun a w' f s => ⟨_, l12.trans (l21.trans (l28.trans l35)), f.pk Y, s.sel [] (by decide) Y⟩
      replace b31 := Bool.eq_false_iff.2 b31
      replace H := if_f b31 H
      refine wq b31 Y Y Y (wq b31 Y Y Y (wq b31 Y Y Y (wv Y (fun f s => r_pickF (f.ev Y) b31 (f.ev Y)) (vm Y Y (wqs 3 Y (wv Y (fun f s => r_pickF (f.ev Y) Y (f.ev Y)) (va Y Y ?_)))))))
      obtain rfl := some_r H
      exact w_nil fun a w' f s => ⟨_, l12.trans (l21.trans l28), f.pk Y, s.sel [] (by decide) Y⟩
     replace b24 := Bool.eq_false_iff.2 b24
     replace H := if_f b24 H
     refine wq b24 Y Y Y (wq b24 Y Y Y (wq b24 Y Y Y (wq b24 Y Y Y (wq b24 Y Y Y (wv Y (fun f s => r_pickF (f.ev Y) b24 (f.ev Y)) (vm Y Y (wqs 3 Y (wv Y (fun f s => r_pickF (f.ev Y) Y (f.ev Y)) (vm Y Y (wqs 3 Y (wv Y (fun f s => r_pickF (f.ev Y) Y (f.ev Y)) (va Y Y ?_))))))))))))
     obtain rfl := some_r H
     exact w_nil fun a w' f s => ⟨_, l12.trans l21, f.pk Y, s.sel [] (by decide) Y⟩
    replace b17 := Bool.eq_false_iff.2 b17
    replace H := if_f b17 H
    refine wq b17 Y Y Y (wq b17 Y Y Y (wq b17 Y Y Y (wv Y (fun f s => r_pickF (f.ev Y) b17 (f.ev Y)) (vm Y Y (wqs 5 Y (wv Y (fun f s => r_pickF (f.ev Y) Y (f.ev Y)) (vm Y Y (wqs 3 Y (wv Y (fun f s => r_pickF (f.ev Y) Y (f.ev Y)) (vm Y Y (wqs 3 Y (wv Y (fun f s => r_pickF (f.ev Y) Y (f.ev Y)) (va Y Y ?_)))))))))))))
    obtain rfl := some_r H
    exact w_nil fun a w' f s => ⟨_, l12, f.pk Y, s.sel [] (by decide) Y⟩
   replace b16 := Bool.eq_false_iff.2 b16
   replace H := if_f b16 H
   refine wq b16 Y Y Y (wq b16 Y Y Y (wq b16 Y Y Y (wq b16 Y Y Y (wq b16 Y Y Y (wq b16 Y Y Y (wv Y (fun f s => r_pickF (f.ev Y) b16 (f.ev Y)) (vm Y Y (wqs 3 Y (wv Y (fun f s => r_pickF (f.ev Y) Y (f.ev Y)) (vm Y Y (wqs 5 Y (wv Y (fun f s => r_pickF (f.ev Y) Y (f.ev Y)) (vm Y Y (wqs 3 Y (wv Y (fun f s => r_pickF (f.ev Y) Y (f.ev Y)) (vm Y Y (wqs 3 Y (wv Y (fun f s => r_pickF (f.ev Y) Y (f.ev Y)) (va Y Y ?_)))))))))))))))))))
   obtain rfl := some_r H
   exact w_nil fun a w' f s => ⟨_, l12, f.pk Y, s.sel [] (by decide) Y⟩
  replace b15 := Bool.eq_false_iff.2 b15
  replace H := if_f b15 H
  refine wq b15 Y Y Y (wq b15 Y Y Y (wq b15 Y Y Y (wq b15 Y Y Y (wv Y (fun f s => r_pickF (f.ev Y) b15 (f.ev Y)) (vm Y Y (wqs 6 Y (wv Y (fun f s => r_pickF (f.ev Y) Y (f.ev Y)) (vm Y Y (wqs 3 Y (wv Y (fun f s => r_pickF (f.ev Y) Y (f.ev Y)) (vm Y Y (wqs 5 Y (wv Y (fun f s => r_pickF (f.ev Y) Y (f.ev Y)) (vm Y Y (wqs 3 Y (wv Y (fun f s => r_pickF (f.ev Y) Y (f.ev Y)) (vm Y Y (wqs 3 Y (wv Y (fun f s => r_pickF (f.ev Y) Y (f.ev Y)) (va Y Y ?_))))))))))))))))))))
  obtain rfl := some_r H
  exact w_nil fun a w' f s => ⟨_, l12, f.pk Y, s.sel [] (by decide) Y⟩
 rintro a w' ⟨M7, l8, f, s⟩
 refine cof f s ?_
 obtain rfl := some_r H
 exact cx1 hret Y Y Y Y
theorem ref36_Valid.calls (hM : Sub M w) (p0 : Backup) (v1 : Value) (h2 : RS Key.F M v1 p0.Keys) (r : Bool) (H : ref36_Valid p0 = some r) :
  Calls prog 20 [.agg (Backup.C p0 v1).toArray].toArray w (Post M w fun M' v => v = (.bool r)) := by
 refine enter 86 [(0, .agg (Backup.C p0 v1).toArray)] func20 Y Y Y hM ?_
 intro Q hret
 unfold ref36_Valid at H
 refine c_sr fun _ k3 => w_boxM trivial Y Y Y ?_
 intro b4 M5 l6 h7
 replace h2 := h2.mono l6
 refine va Y Y (wk k3 (c_seq fun K8 k8 => ?_))
 obtain ⟨t9, H1, H⟩ := bnd H
 refine c_cut (fun a' w' => ∃ (M10 : Heap), HLe M5 M10 ∧ Fr 86 [(1, ptr b4 0), (45, .bool t9)] a' ∧ St none' M w M10 (lt []) w') ?_ ?_
 ·replace H := H1
  refine c_reg (v_fa fa26_1 Y Y (wv Y (fun f s => r_load1 ta3 (f.ev Y) (s.sub _ _ h7) (Backup.g16 _ _)) ?_))
  obtain ⟨t12, e17, H⟩ := bnd H
  refine w_call cf64 trivial Y Y (fun w s => ref36_within.calls s p0.Epoch 2147483647 _ e17) ?_
  rintro _ M14 l15 rfl
  replace h2 := h2.mono l15
  replace h7 := l15 _ _ h7
  refine wv Y (fun f s => r_not (f.ev Y)) (vm Y Y ?_)
  by_cases b18 : (!t12) = true
  ·replace H := if_t b18 H
   refine wq b18 Y Y Y (wq b18 Y Y Y (wq b18 Y Y Y (wq b18 Y Y Y (wv Y (fun f s => r_pickT (f.ev Y) b18 (f.ev Y)) (vm Y Y (wqs 4 Y (wv Y (fun f s => r_pickT (f.ev Y) Y (f.ev Y)) (vm Y Y (wqs 4 Y (wv Y (fun f s => r_pickT (f.ev Y) Y (f.ev Y)) (vm Y Y (wqs 4 Y (wv Y (fun f s => r_pickT (f.ev Y) Y (f.ev Y)) (vm Y Y (wqs 4 Y (wv Y (fun f s => r_pickT (f.ev Y) Y (f.ev Y)) (vm Y Y (wqs 4 Y (wv Y (fun f s => r_pickT (f.ev Y) Y (f.ev Y)) ?_)))))))))))))))))))
   obtain rfl := some_r H
   exact w_nil fun a w' f s => ⟨_, l15, f.pk Y, s.sel [] (by decide) Y⟩
  replace b18 := Bool.eq_false_iff.2 b18
  replace H := if_f b18 H
  refine wg b18 Y Y Y (fun f s => r_fa fa26_2 (f.ev Y)) (wg b18 Y Y Y (fun f s => r_load1 ta3 (f.ev Y) (s.sub _ _ h7) (Backup.g17 _ _)) ?_)
  obtain ⟨t19, e24, H⟩ := bnd H
  refine w_call cf64 (Wnt.of Y Y b18) Y Y (fun w s => ref36_within.calls s p0.Number 2147483647 _ e24) ?_
  rintro _ M21 l22 rfl
  replace h2 := h2.mono l22
  replace h7 := l22 _ _ h7
  refine wg b18 Y Y Y (fun f s => r_not (f.ev Y)) (wv Y (fun f s => r_pickF (f.ev Y) b18 (f.ev Y)) (vm Y Y ?_))
  by_cases b25 : (!t19) = true
  ·replace H := if_t b25 H
   refine wq b25 Y Y Y (wq b25 Y Y Y (wq b25 Y Y Y (wq b25 Y Y Y (wv Y (fun f s => r_pickT (f.ev Y) b25 (f.ev Y)) (vm Y Y (wqs 4 Y (wv Y (fun f s => r_pickT (f.ev Y) Y (f.ev Y)) (vm Y Y (wqs 4 Y (wv Y (fun f s => r_pickT (f.ev Y) Y (f.ev Y)) (vm Y Y (wqs 4 Y (wv Y (fun f s => r_pickT (f.ev Y) Y (f.ev Y)) (vm Y Y (wqs 4 Y (wv Y (fun f s => r_pickT (f.ev Y) Y (f.ev Y)) ?_))))))))))))))))
   obtain rfl := some_r H
   exact w_nil fun a w' f s => ⟨_, l15.trans l22, f.pk Y, s.sel [] (by decide) Y⟩
  replace b25 := Bool.eq_false_iff.2 b25
  replace H := if_f b25 H
  refine wg b25 Y Y Y (fun f s => r_fa fa26_3 (f.ev Y)) (wg b25 Y Y Y (fun f s => r_load1 ta3 (f.ev Y) (s.sub _ _ h7) (Backup.g18 _ _)) ?_)
  obtain ⟨t26, e31, H⟩ := bnd H
  refine w_call cf64 (Wnt.of Y Y b25) Y Y (fun w s => ref36_within.calls s p0.Firmware 2147483647 _ e31) ?_
  rintro _ M28 l29 rfl
  replace h2 := h2.mono l29
  replace h7 := l29 _ _ h7
  refine wg b25 Y Y Y (fun f s => r_not (f.ev Y)) (wv Y (fun f s => r_pickF (f.ev Y) b25 (f.ev Y)) (vm Y Y ?_))
  by_cases b32 : (!t26) = true
  ·replace H := if_t b32 H
   refine wq b32 Y Y Y (wq b32 Y Y Y (wq b32 Y Y Y (wq b32 Y Y Y (wv Y (fun f s => r_pickT (f.ev Y) b32 (f.ev Y)) (vm Y Y (wqs 4 Y (wv Y (fun f s => r_pickT (f.ev Y) Y (f.ev Y)) (vm Y Y (wqs 4 Y (wv Y (fun f s => r_pickT (f.ev Y) Y (f.ev Y)) (vm Y Y (wqs 4 Y (wv Y (fun f s => r_pickT (f.ev Y) Y (f.ev Y)) ?_)))))))))))))
   obtain rfl := some_r H
   exact w_nil fun a w' f s => ⟨_, l15.trans (l22.trans l29), f.pk Y, s.sel [] (by decide) Y⟩
  replace b32 := Bool.eq_false_iff.2 b32
  replace H := if_f b32 H
  refine wg b32 Y Y Y (fun f s => r_fa fa26_4 (f.ev Y)) (wg b32 Y Y Y (fun f s => r_load1 ta3 (f.ev Y) (s.sub _ _ h7) (Backup.g19 _ _)) ?_)
  obtain ⟨t33, e38, H⟩ := bnd H
  refine w_call cf64 (Wnt.of Y Y b32) Y Y (fun w s => ref36_within.calls s p0.Time 1099511627776 _ e38) ?_
  rintro _ M35 l36 rfl
  replace h2 := h2.mono l36
  replace h7 := l36 _ _ h7
  refine wg b32 Y Y Y (fun f s => r_not (f.ev Y)) (wv Y (fun f s => r_pickF (f.ev Y) b32 (f.ev Y)) (vm Y Y ?_))
  by_cases b39 : (!t33) = true
  ·replace H := if_t b39 H
   refine wq b39 Y Y Y (wq b39 Y Y Y (wq b39 Y Y Y (wq b39 Y Y Y (wv Y (fun f s => r_pickT (f.ev Y) b39 (f.ev Y)) (vm Y Y (wqs 4 Y (wv Y (fun f s => r_pickT (f.ev Y) Y (f.ev Y)) (vm Y Y (wqs 4 Y (wv Y (fun f s => r_pickT (f.ev Y) Y (f.ev Y)) ?_))))))))))
   obtain rfl := some_r H
   exact w_nil fun a w' f s => ⟨_, l15.trans (l22.trans (l29.trans l36)), f.pk Y, s.sel [] (by decide) Y⟩
  replace b39 := Bool.eq_false_iff.2 b39
  replace H := if_f b39 H
  refine wg b39 Y Y Y (fun f s => r_fa fa26_6 (f.ev Y)) (wg b39 Y Y Y (fun f s => r_load1 ta9 (f.ev Y) (s.sub _ _ h7) (Backup.g36 _ _)) (wg b39 Y Y Y (fun f s => r_slen underlying9 (f.ev Y)) (wg b39 Y Y Y (fun f s => r_lss (f.ev Y) (f.ev Y)) (wv Y (fun f s => r_pickF (f.ev Y) b39 (f.ev Y)) (vm Y Y ?_)))))
  by_cases b40 : (decide ((p0.Module.length : Int) < 1)) = true
  ·replace H := if_t b40 H
   refine wq b40 Y Y Y (wq b40 Y Y Y (wq b40 Y Y Y (wq b40 Y Y Y (wv Y (fun f s => r_pickT (f.ev Y) b40 (f.ev Y)) (vm Y Y (wqs 4 Y (wv Y (fun f s => r_pickT (f.ev Y) Y (f.ev Y)) ?_)))))))
   obtain rfl := some_r H
   exact w_nil fun a w' f s => ⟨_, l15.trans (l22.trans (l29.trans l36)), f.pk Y, s.sel [] (by decide) Y⟩
  replace b40 := Bool.eq_false_iff.2 b40
  replace H := if_f b40 H
  refine wg b40 Y Y Y (fun f s => r_fa fa26_6 (f.ev Y)) (wg b40 Y Y Y (fun f s => r_load1 ta9 (f.ev Y) (s.sub _ _ h7) (Backup.g36 _ _)) (wg b40 Y Y Y (fun f s => r_slen underlying9 (f.ev Y)) (wg b40 Y Y Y (fun f s => r_gtr (f.ev Y) (f.ev Y)) (wv Y (fun f s => r_pickF (f.ev Y) b40 (f.ev Y)) (vm Y Y ?_)))))
  by_cases b41 : (decide ((12 : Int) < (p0.Module.length : Int))) = true
  ·replace H := if_t b41 H
   refine wq b41 Y Y Y (wq b41 Y Y Y (wq b41 Y Y Y (wq b41 Y Y Y (wv Y (fun f s => r_pickT (f.ev Y) b41 (f.ev Y)) ?_))))
   obtain rfl := some_r H
   exact w_nil fun a w' f s => ⟨_, l15.trans (l22.trans (l29.trans l36)), f.pk Y, s.sel [] (by decide) Y⟩
  replace b41 := Bool.eq_false_iff.2 b41
  replace H := if_f b41 H
  refine wg b41 Y Y Y (fun f s => r_fa fa26_7 (f.ev Y)) (wg b41 Y Y Y (fun f s => r_load1 ta24 (f.ev Y) (s.sub _ _ h7) (Backup.g37 _ _)) (wg b41 Y Y Y (fun f s => r_lenR underlying24 h2 (f.ev Y)) (wg b41 Y Y Y (fun f s => r_gtr (f.ev Y) (f.ev Y)) (wv Y (fun f s => r_pickF (f.ev Y) b41 (f.ev Y)) ?_))))
  obtain rfl := some_r H
  exact w_nil fun a w' f s => ⟨_, l15.trans (l22.trans (l29.trans l36)), f.pk Y, s.sel [] (by decide) Y⟩
 rintro a w' ⟨M10, l11, f, s⟩
 refine cof f s ?_
 replace h2 := h2.mono l11
 replace h7 := l11 _ _ h7
 refine c_if Y (fun b42 => ?_) (fun b42 => ?_)
 ·replace H := if_t b42 H
  refine c_sr fun _ k43 => va Y Y (wk k43 ?_)
  obtain rfl := some_r H
  exact cx1 hret Y Y Y Y
 replace H := if_f b42 H
 refine cs k8 (c_sr fun _ k44 => va Y Y (wk k44 ?_))
 refine c_cut (fun a' w' => ∃ (M45 : Heap), HLe M10 M45 ∧ Fr 86 [] a' ∧ St none' M w M45 (lt []) w' ∧ ref36_Valid.j1  = some r) ?_ ?_
 ·refine c_seq ?_
  intro K48 k48
  refine c_reg (va Y Y (wk k48 (c_block ?_)))
  refine c_loop (fun (s49 : (Int × Int)) a' w' => ∃ (M50 : Heap), HLe M10 M50 ∧ Fr 86 [(1, ptr b4 0), (3, .int .i64 s49.1), (4, .int .i64 s49.2)] a' ∧ St none' M w M50 (lt []) w') (0, 0) H ?_ ?_
  ·intro a w' f s
   exact ⟨_, HLe.refl _, f.pk Y, s.selD [] (by decide) Y⟩
  intro s49 y53 H r52 a w' hJ
  obtain ⟨M50, l51, f, s⟩ := hJ
  refine cof f s ?_
  unfold ref36_Valid.l2 at H
  replace h2 := h2.mono l51
  replace h7 := l51 _ _ h7
  refine c_seq fun K54 k54 => c_sr fun _ k55 => vm Y Y (v_fa fa26_7 Y Y (wv Y (fun f s => r_load1 ta24 (f.ev Y) (s.sub _ _ h7) (Backup.g37 _ _)) (wv Y (fun f s => r_lenR underlying24 h2 (f.ev Y)) (v_lss Y Y Y (wk k55 (c_if Y (fun b56 => ?_) (fun b56 => ?_)))))))
  ·replace H := if_t b56 H
   refine cs k54 (c_seq fun K57 k57 => c_block (c_sr fun _ k58 => v_fa fa26_7 Y Y (wv Y (fun f s => r_load1 ta24 (f.ev Y) (s.sub _ _ h7) (Backup.g37 _ _)) (vm Y Y ?_))))
   obtain ⟨g59, H⟩ := grd_s H
   refine wv Y (fun f s => r_iR underlying24 ts97 h2 (f.ev Y) (f.ev Y) g59.1 g59.2) (wv Y (fun f s => r_loadEA ta97 ts97 h2 s.sub g59.1 g59.2 (f.ev Y) Y Y) ?_)
   obtain ⟨t60, e65, H⟩ := bnd H
   refine w_call cf65 trivial Y Y (fun w s => ref27_Valid.calls s (rd p0.Keys s49.2) _ e65) ?_
   rintro _ M62 l63 rfl
   replace h2 := h2.mono l63
   replace h7 := l63 _ _ h7
   refine va Y Y (wk k58 (c_seq fun K66 k66 => ?_))
   obtain ⟨t67, H1, H⟩ := bnd H
   refine c_cut (fun a' w' => ∃ (M68 : Heap), HLe M62 M68 ∧ Fr 86 [(1, ptr b4 0), (4, .int .i64 s49.2), (79, .bool t67)] a' ∧ St none' M w M68 (lt []) w') ?_ ?_
   ·replace H := H1
    refine c_reg (vm Y Y (wv Y (fun f s => r_not (f.ev Y)) (vm Y Y ?_)))
    by_cases b70 : (!t60) = true
    ·replace H := if_t b70 H
     refine wq b70 Y Y Y (wq b70 Y Y Y (wq b70 Y Y Y (wq b70 Y Y Y (wq b70 Y Y Y (wq b70 Y Y Y (wq b70 Y Y Y (wq b70 Y Y Y (wv Y (fun f s => r_pickT (f.ev Y) b70 (f.ev Y)) (vm Y Y (wqs 7 Y (wv Y (fun f s => r_pickT (f.ev Y) Y (f.ev Y)) ?_)))))))))))
     obtain rfl := some_r H
     exact w_nil fun a w' f s => ⟨_, HLe.refl _, f.pk Y, s.sel [] (by decide) Y⟩
    replace b70 := Bool.eq_false_iff.2 b70
    replace H := if_f b70 H
    refine wg b70 Y Y Y (fun f s => r_fa fa26_7 (f.ev Y)) (wg b70 Y Y Y (fun f s => r_load1 ta24 (f.ev Y) (s.sub _ _ h7) (Backup.g37 _ _)) (wg b70 Y Y Y (fun f s => r_move (f.ev Y)) ?_))
    obtain ⟨g71, H⟩ := grd_s H
    refine wg b70 Y Y Y (fun f s => r_iR underlying24 ts97 h2 (f.ev Y) (f.ev Y) g71.1 g71.2) (wg b70 Y Y Y (fun f s => r_faE fa97_0 h2 g71.1 g71.2 (f.ev Y)) (wg b70 Y Y Y (fun f s => r_loadE1 ta3 h2 s.sub g71.1 g71.2 (f.ev Y) Y) (wg b70 Y Y Y (fun f s => r_move (f.ev Y)) (wg b70 Y Y Y (fun f s => r_leq (f.ev Y) (f.ev Y)) (wv Y (fun f s => r_pickF (f.ev Y) b70 (f.ev Y)) (vm Y Y ?_))))))
    by_cases b72 : (decide (((rd p0.Keys s49.2).Id) ≤ s49.1)) = true
    ·replace H := if_t b72 H
     refine wq b72 Y Y Y (wq b72 Y Y Y (wq b72 Y Y Y (wq b72 Y Y Y (wq b72 Y Y Y (wq b72 Y Y Y (wq b72 Y Y Y (wv Y (fun f s => r_pickT (f.ev Y) b72 (f.ev Y)) ?_)))))))
     obtain rfl := some_r H
     exact w_nil fun a w' f s => ⟨_, HLe.refl _, f.pk Y, s.sel [] (by decide) Y⟩
    replace b72 := Bool.eq_false_iff.2 b72
    replace H := if_f b72 H
    refine wg b72 Y Y Y (fun f s => r_fa fa26_7 (f.ev Y)) (wg b72 Y Y Y (fun f s => r_load1 ta24 (f.ev Y) (s.sub _ _ h7) (Backup.g37 _ _)) (wg b72 Y Y Y (fun f s => r_move (f.ev Y)) ?_))
    obtain ⟨g73, H⟩ := grd_s H
    refine wg b72 Y Y Y (fun f s => r_iR underlying24 ts97 h2 (f.ev Y) (f.ev Y) g73.1 g73.2) (wg b72 Y Y Y (fun f s => r_faE fa97_0 h2 g73.1 g73.2 (f.ev Y)) (wg b72 Y Y Y (fun f s => r_loadE1 ta3 h2 s.sub g73.1 g73.2 (f.ev Y) Y) (wg b72 Y Y Y (fun f s => r_gtr (f.ev Y) (f.ev Y)) (wv Y (fun f s => r_pickF (f.ev Y) b72 (f.ev Y)) ?_))))
    obtain rfl := some_r H
    exact w_nil fun a w' f s => ⟨_, HLe.refl _, f.pk Y, s.sel [] (by decide) Y⟩
   rintro a w' ⟨M68, l69, f, s⟩
   refine cof f s ?_
   replace h2 := h2.mono l69
   replace h7 := l69 _ _ h7
   refine c_if Y (fun b74 => ?_) (fun b74 => ?_)
   ·replace H := if_t b74 H
    refine c_sr fun _ k75 => va Y Y (wk k75 ?_)
    obtain rfl := (r52 _ (Option.some.inj H).symm)
    exact cx1 hret Y Y Y Y
   replace H := if_f b74 H
   refine cs k66 (c_reg (v_fa fa26_7 Y Y (wv Y (fun f s => r_load1 ta24 (f.ev Y) (s.sub _ _ h7) (Backup.g37 _ _)) (vm Y Y ?_))))
   obtain ⟨g76, H⟩ := grd_s H
   exact wv Y (fun f s => r_iR underlying24 ts97 h2 (f.ev Y) (f.ev Y) g76.1 g76.2) (wv Y (fun f s => r_faE fa97_0 h2 g76.1 g76.2 (f.ev Y)) (wv Y (fun f s => r_loadE1 ta3 h2 s.sub g76.1 g76.2 (f.ev Y) Y) (va Y Y (wk k57 (c_reg (vm Y Y (v_add Y Y Y (va Y Y (w_nil fun a w' f s => ⟨_, (some_r H).symm, _, l51.trans (l63.trans l69), f.pk Y, s.selD [] (by decide) Y⟩)))))))))
  replace H := if_f b56 H
  replace H := map_inr H r52
  refine c_exit ?_
  intro a w' f s
  exact ⟨_, l51, f.nil, s.selD [] (by decide) Y, H⟩
 rintro a w' ⟨M45, l46, f, s, H⟩
 refine cof f s ?_
 unfold ref36_Valid.j1 at H
 refine c_sr fun _ k47 => va Y Y (wk k47 ?_)
 obtain rfl := some_r H
 exact cx1 hret Y Y Y Y
theorem ref01_Int.callsR (hM : Sub M w) (p0 : Int) (r : (List Int)) (H : ref01_Int p0 = some r) :
  Calls prog 123 [.int .i64 p0].toArray w (PostI none' M w fun M' x v => x = rowI (FI .u8) v 5 r) := by
 refine enterR 59 [(0, .int .i64 p0)] func123 Y Y Y hM ?_
 intro Q hret
 unfold ref01_Int at H
 refine c_sr fun _ k1 => va Y Y (wk k1 (c_sr fun _ k2 => vm Y Y (va Y Y (wk k2 ?_))))
 refine c_cut (fun a' w' => ∃ (x3 : Int) (M4 : Heap), HLe M M4 ∧ Fr 59 [(0, .int .i64 p0), (3, .int .i64 x3)] a' ∧ St none' M w M4 (lt []) w' ∧ ref01_Int.j7 p0 x3 = some r) ?_ ?_
 ·refine c_seq ?_
  intro K80 k80
  refine c_reg (vm Y Y (v_lss Y Y Y (wk k80 (c_if Y (fun b81 => ?_) (fun b81 => ?_)))))
  ·replace H := if_t b81 H
   exact c_reg (vm Y Y (wv Y (fun f s => r_sub (f.ev Y) (f.ev Y)) (va Y Y (w_nil fun a w' f s => ⟨i64.wrap ((-1 : Int) - p0), _, HLe.refl _, f.pk Y, s.selD [] (by decide) Y, H⟩))))
  replace H := if_f b81 H
  refine c_skip ?_
  intro a w' f s
  exact ⟨p0, _, HLe.refl _, f.pk Y, s.selD [] (by decide) Y, H⟩
 rintro a w' ⟨x3, M4, l5, f, s, H⟩
 refine cof f s ?_
 unfold ref01_Int.j7 at H
 refine c_sr fun _ k6 => va Y Y (wk k6 (c_row0 5 1 ?_))
 refine c_cut (fun a' w' => ∃ (x7 : (List Int)) (v8 : Value) (M9 : Heap), HLe M4 M9 ∧ Fr 59 [(0, .int .i64 p0), (4, v8)] a' ∧ St none' M w M9 (lt [rowI (FI .u8) v8 5 x7]) w' ∧ ref01_Int.j5 p0 x7 = some r) ?_ ?_
 ·refine c_block ?_
  refine c_loop (fun (s63 : ((List Int) × Int)) a' w' => ∃ (v64 : Value) (M65 : Heap), HLe M4 M65 ∧ Fr 59 [(0, .int .i64 p0), (3, .int .i64 s63.2), (4, v64)] a' ∧ St none' M w M65 (lt [rowI (FI .u8) v64 5 s63.1]) w') (([] : (List Int)), x3) H ?_ ?_
  ·intro a w' f s
   exact ⟨.slice none 0 0, _, HLe.refl _, f.pk Y, s.selD [some 0] (by decide) Y⟩
  intro s63 y68 H r67 a w' hJ
  obtain ⟨v64, M65, l66, f, s⟩ := hJ
  refine cof f s ?_
  unfold ref01_Int.l6 at H
  refine c_seq fun K69 k69 => c_sr fun _ k70 => vm Y Y (wv Y (fun f s => r_gtr (f.ev Y) (f.ev Y)) (wk k70 (c_if Y (fun b71 => ?_) (fun b71 => ?_))))
  ·replace H := if_t b71 H
   refine cs k69 (c_block (c_sr fun _ k72 => vm Y Y (vm Y Y (wv Y (fun f s => r_rem (f.ev Y) (f.ev Y) (by decide)) (wv Y (fun f s => r_conv underlying3 underlying5 (f.ev Y)) (w_bsl (F := (FI .u8)) (es := ([u8.wrap (Int.tmod s63.2 256)] : List Int)) (xs := [.tmp 19]) underlying91 te5 trivial Y Y Y Y Y (by decide) ?_))))))
   intro v73 M74 l75 h76 c77
   obtain ⟨g78, H⟩ := grd_s H
   refine w_app (F := (FI .u8)) (m2 := ([u8.wrap (Int.tmod s63.2 256)] : List Int)) (i := 0) underlying91 te5 underlying91 (.inl ⟨_, Y⟩) trivial Y Y Y Y (Src.rs (FI.one _) h76) g78 ?_
   intro v79
   exact va Y Y (wk k72 (c_reg (vm Y Y (wv Y (fun f s => r_quo (f.ev Y) (f.ev Y) (by decide)) (va Y Y (w_nil fun a w' f s => ⟨_, (some_r H).symm, v79, _, l66.trans l75, f.pk Y, s.selD [some 0] (by decide) Y⟩))))))
  replace H := if_f b71 H
  replace H := map_inr H r67
  refine c_exit ?_
  intro a w' f s
  exact ⟨s63.1, v64, _, l66, f.pk Y, s.selD [some 0] (by decide) Y, H⟩
 rintro a w' ⟨x7, v8, M9, l10, f, s, H⟩
 refine cof f s ?_
 unfold ref01_Int.j5 at H
 refine c_sr fun _ k11 => vm Y Y (wv Y (fun f s => r_lenW 0 s Y underlying91 (f.ev Y)) (va Y Y (wk k11 (c_sr fun _ k12 => va Y Y (wk k12 (c_row0 5 1 ?_))))))
 refine c_cut (fun a' w' => ∃ (x13 : (List Int)) (v14 : Value) (M15 : Heap), HLe M9 M15 ∧ Fr 59 [(0, .int .i64 p0), (4, v8), (5, .int .i64 (x7.length : Int)), (6, v14)] a' ∧ St none' M w M15 (lt [rowI (FI .u8) v8 5 x7, rowI (FI .u8) v14 5 x13]) w' ∧ ref01_Int.j4 x7 p0 x13 = some r) ?_ ?_
 ·refine c_seq ?_
  intro K47 k47
  refine c_reg (vm Y Y (wv Y (fun f s => r_geq (f.ev Y) (f.ev Y)) (wk k47 (c_if Y (fun b48 => ?_) (fun b48 => ?_)))))
  ·replace H := if_t b48 H
   refine c_reg (vm Y Y (vm Y Y (v_add Y Y Y (wv Y (fun f s => r_conv underlying3 underlying5 (f.ev Y)) (w_bsl (F := (FI .u8)) (es := ([u8.wrap (i64.wrap (128 + (x7.length : Int)))] : List Int)) (xs := [.tmp 31]) underlying91 te5 trivial Y Y Y Y Y (by decide) ?_)))))
   intro v49 M50 l51 h52 c53
   obtain ⟨g54, H⟩ := grd_s H
   refine w_app (F := (FI .u8)) (m2 := ([u8.wrap (i64.wrap (128 + (x7.length : Int)))] : List Int)) (i := 1) underlying91 te5 underlying91 (.inl ⟨_, Y⟩) trivial Y Y Y Y (Src.rs (FI.one _) h52) g54 ?_
   intro v55
   exact va Y Y (w_nil fun a w' f s => ⟨([] : (List Int)) ++ ([u8.wrap (i64.wrap (128 + (x7.length : Int)))] : List Int), v55, _, l51, f.pk Y, s.selD [some 0, some 1] (by decide) Y, H⟩)
  replace H := if_f b48 H
  refine c_reg (vm Y Y (vm Y Y (wv Y (fun f s => r_sub (f.ev Y) (f.ev Y)) (wv Y (fun f s => r_conv underlying3 underlying5 (f.ev Y)) (w_bsl (F := (FI .u8)) (es := ([u8.wrap (i64.wrap (127 - (x7.length : Int)))] : List Int)) (xs := [.tmp 37]) underlying91 te5 trivial Y Y Y Y Y (by decide) ?_)))))
  intro v56 M57 l58 h59 c60
  obtain ⟨g61, H⟩ := grd_s H
  refine w_app (F := (FI .u8)) (m2 := ([u8.wrap (i64.wrap (127 - (x7.length : Int)))] : List Int)) (i := 1) underlying91 te5 underlying91 (.inl ⟨_, Y⟩) trivial Y Y Y Y (Src.rs (FI.one _) h59) g61 ?_
  intro v62
  exact va Y Y (w_nil fun a w' f s => ⟨([] : (List Int)) ++ ([u8.wrap (i64.wrap (127 - (x7.length : Int)))] : List Int), v62, _, l58, f.pk Y, s.selD [some 0, some 1] (by decide) Y, H⟩)
 rintro a w' ⟨x13, v14, M15, l16, f, s, H⟩
 refine cof f s ?_
 unfold ref01_Int.j4 at H
 refine c_cut (fun a' w' => ∃ (x17 : (List Int)) (v18 : Value) (M19 : Heap), HLe M15 M19 ∧ Fr 59 [(6, v18)] a' ∧ St none' M w M19 (lt [dead, rowI (FI .u8) v18 5 x17]) w' ∧ ref01_Int.j1 x17 = some r) ?_ ?_
 ·refine c_seq ?_
  intro K22 k22
  refine c_reg (vm Y Y (wv Y (fun f s => r_sub (f.ev Y) (f.ev Y)) (va Y Y (wk k22 (c_block ?_)))))
  refine c_loop (fun (s23 : ((List Int) × Int)) a' w' => ∃ (v24 : Value) (M25 : Heap), HLe M15 M25 ∧ Fr 59 [(0, .int .i64 p0), (4, v8), (6, v24), (7, .int .i64 s23.2)] a' ∧ St none' M w M25 (lt [rowI (FI .u8) v8 5 x7, rowI (FI .u8) v24 5 s23.1]) w') (x13, i64.wrap ((x7.length : Int) - 1)) H ?_ ?_
  ·intro a w' f s
   exact ⟨v14, _, HLe.refl _, f.pk Y, s.selD [some 0, some 1] (by decide) Y⟩
  intro s23 y28 H r27 a w' hJ
  obtain ⟨v24, M25, l26, f, s⟩ := hJ
  refine cof f s ?_
  unfold ref01_Int.l3 at H
  refine c_seq fun K29 k29 => c_sr fun _ k30 => vm Y Y (wv Y (fun f s => r_geq (f.ev Y) (f.ev Y)) (wk k30 (c_if Y (fun b31 => ?_) (fun b31 => ?_))))
  ·replace H := if_t b31 H
   refine cs k29 (c_seq fun K32 k32 => c_block (c_sr fun _ k33 => vm Y Y (vm Y Y ?_)))
   obtain ⟨g34, H⟩ := grd_s H
   refine wv Y (fun f s => r_iW 0 s Y underlying91 ts5 (f.ev Y) (f.ev Y) g34.1 g34.2) (wv Y (fun f s => r_loadW1 0 ta5 s Y g34.1 g34.2 (f.ev Y) Y) (va Y Y (wk k33 ?_)))
   refine c_cut (fun a' w' => ∃ (x35 : Int) (M36 : Heap), HLe M25 M36 ∧ Fr 59 [(0, .int .i64 p0), (4, v8), (6, v24), (7, .int .i64 s23.2), (8, .int .u8 x35)] a' ∧ St none' M w M36 (lt [rowI (FI .u8) v8 5 x7, rowI (FI .u8) v24 5 s23.1]) w' ∧ ref01_Int.j2 s23 x35 = some y28) ?_ ?_
   ·refine c_seq ?_
    intro K45 k45
    refine c_reg (vm Y Y (v_lss Y Y Y (wk k45 (c_if Y (fun b46 => ?_) (fun b46 => ?_)))))
    ·replace H := if_t b46 H
     exact c_reg (vm Y Y (wv Y (fun f s => r_sub (f.ev Y) (f.ev Y)) (va Y Y (w_nil fun a w' f s => ⟨u8.wrap (255 - (rd x7 s23.2)), _, HLe.refl _, f.pk Y, s.selD [some 0, some 1] (by decide) Y, H⟩))))
    replace H := if_f b46 H
    refine c_skip ?_
    intro a w' f s
    exact ⟨rd x7 s23.2, _, HLe.refl _, f.pk Y, s.selD [some 0, some 1] (by decide) Y, H⟩
   rintro a w' ⟨x35, M36, l37, f, s, H⟩
   refine cof f s ?_
   unfold ref01_Int.j2 at H
   refine c_reg (vm Y Y (vm Y Y (w_bsl (F := (FI .u8)) (es := ([x35] : List Int)) (xs := [.tmp 55]) underlying91 te5 trivial Y Y Y Y Y (by decide) ?_)))
   intro v38 M39 l40 h41 c42
   obtain ⟨g43, H⟩ := grd_s H
   refine w_app (F := (FI .u8)) (m2 := ([x35] : List Int)) (i := 1) underlying91 te5 underlying91 (.inl ⟨_, Y⟩) trivial Y Y Y Y (Src.rs (FI.one _) h41) g43 ?_
   intro v44
   exact va Y Y (wk k32 (c_reg (vm Y Y (wv Y (fun f s => r_sub (f.ev Y) (f.ev Y)) (va Y Y (w_nil fun a w' f s => ⟨_, (some_r H).symm, v44, _, l26.trans (l37.trans l40), f.pk Y, s.selD [some 0, some 1] (by decide) Y⟩))))))
  replace H := if_f b31 H
  replace H := map_inr H r27
  refine c_exit ?_
  intro a w' f s
  exact ⟨s23.1, v24, _, l26, f.pk Y, s.selD [none, some 1] (by decide) Y, H⟩
 rintro a w' ⟨x17, v18, M19, l20, f, s, H⟩
 refine cof f s ?_
 unfold ref01_Int.j1 at H
 refine c_sr fun _ k21 => vm Y Y (va Y Y (wk k21 ?_))
 obtain rfl := some_r H
 exact cx hret Y fun f s => ⟨_, _, _, Res.of1 Y (RV.t f Y), s.sel [1] (by decide) Y, Y⟩
theorem ref01_Int.calls (hM : Sub M w) (p0 : Int) (r : (List Int)) (H : ref01_Int p0 = some r) :
  Calls prog 123 [.int .i64 p0].toArray w (Post M w fun M' v => ∃ v82, v = v82 ∧ RS (FI .u8) M' v82 r) := by
 exact postR (ref01_Int.callsR hM p0 r H)
theorem ref01_Bytes.callsR (hM : Sub M w) (p0 : (List UInt8)) (r : (List Int)) (H : ref01_Bytes p0 = some r) :
  Calls prog 60 [str p0].toArray w (PostI none' M w fun M' x v => x = rowI (FI .u8) v 5 r) := by
 refine enterR 9 [(0, str p0)] func60 Y Y Y hM ?_
 intro Q hret
 unfold ref01_Bytes at H
 refine c_sr fun _ k1 => va Y Y (wk k1 (c_sr fun _ k2 => vm Y Y (wv Y (fun f s => r_slen underlying9 (f.ev Y)) ?_)))
 obtain ⟨t3, e4, H⟩ := bnd H
 refine w_callR cf123 trivial Y Y (fun w s => ref01_Int.callsR s (p0.length : Int) _ e4) ?_
 rintro v7 M5 _ l6 rfl
 refine vm Y Y (w_s2b underlying9 underlying91 underlying5 trivial Y Y ?_)
 intro v8 M9 l10 h11
 obtain ⟨g12, H⟩ := grd_s H
 refine w_app (F := (FI .u8)) (m2 := (bytesI p0)) (i := 0) underlying91 te5 underlying91 (.inl ⟨_, Y⟩) trivial Y Y Y Y (Src.rs (FI.one _) h11) g12 ?_
 intro v13
 refine va Y Y (wk k2 ?_)
 obtain rfl := some_r H
 exact cx hret Y fun f s => ⟨_, _, _, Res.of1 Y (RV.t f Y), s.sel [0] (by decide) Y, Y⟩
theorem ref01_Bytes.calls (hM : Sub M w) (p0 : (List UInt8)) (r : (List Int)) (H : ref01_Bytes p0 = some r) :
  Calls prog 60 [str p0].toArray w (Post M w fun M' v => ∃ v14, v = v14 ∧ RS (FI .u8) M' v14 r) := by
 exact postR (ref01_Bytes.callsR hM p0 r H)
theorem ref05_Input.calls (hM : Sub M w) (p0 : (List UInt8)) (p1 : (List (List UInt8))) (v1 : Value) (h2 : RS FS M v1 p1) (r : (List UInt8)) (H : ref05_Input p0 p1 = some r) :
  Calls prog 121 [str p0, v1].toArray w (Post M w fun M' v => v = (str r)) := by
 refine enter 26 [(0, str p0), (1, v1)] func121 Y Y Y hM ?_
 intro Q hret
 unfold ref05_Input at H
 refine c_sr fun _ k3 => va Y Y (wk k3 (c_sr fun _ k4 => w_bslW (F := (FI .u8)) (es := ([] : List Int)) (xs := []) (vs := []) underlying91 te5 trivial Y Y Y Y Y (by decide) ?_))
 intro v5
 refine vm Y Y ?_
 obtain ⟨t6, e11, H⟩ := bnd H
 refine w_call cf60 trivial Y Y (fun w s => ref01_Bytes.calls s p0 _ e11) ?_
 rintro v47 M8 l9 ⟨v12, hv_, h13⟩
 replace hv_ := hv_.symm
 subst hv_
 replace h2 := h2.mono l9
 obtain ⟨g14, H⟩ := grd_s H
 refine w_app (F := (FI .u8)) (m2 := t6) (i := 0) underlying91 te5 underlying91 (.inl ⟨_, Y⟩) trivial Y Y Y Y (Src.rs (FI.one _) h13) g14 ?_
 intro v15
 refine va Y Y (wk k4 ?_)
 refine c_cut (fun a' w' => ∃ (x16 : (List Int)) (v17 : Value) (M18 : Heap), HLe M8 M18 ∧ Fr 26 [(5, v17)] a' ∧ St none' M w M18 (lt [rowI (FI .u8) v17 5 x16]) w' ∧ ref05_Input.j1 x16 = some r) ?_ ?_
 ·refine c_seq ?_
  intro K24 k24
  refine c_reg (va Y Y (wk k24 (c_block ?_)))
  refine c_loop (fun (s25 : ((List Int) × Int)) a' w' => ∃ (v26 : Value) (M27 : Heap), HLe M8 M27 ∧ Fr 26 [(1, v1), (5, v26), (6, .int .i64 s25.2)] a' ∧ St none' M w M27 (lt [rowI (FI .u8) v26 5 s25.1]) w') (([] : List Int) ++ t6, 0) H ?_ ?_
  ·intro a w' f s
   exact ⟨v15, _, HLe.refl _, f.pk Y, s.selD [some 0] (by decide) Y⟩
  intro s25 y30 H r29 a w' hJ
  obtain ⟨v26, M27, l28, f, s⟩ := hJ
  refine cof f s ?_
  unfold ref05_Input.l2 at H
  replace h2 := h2.mono l28
  refine c_seq fun K31 k31 => c_sr fun _ k32 => vm Y Y (vm Y Y (wv Y (fun f s => r_lenR underlying127 h2 (f.ev Y)) (v_lss Y Y Y (wk k32 (c_if Y (fun b33 => ?_) (fun b33 => ?_))))))
  ·replace H := if_t b33 H
   refine cs k31 (c_seq fun K34 k34 => c_block (c_reg (vm Y Y (vm Y Y (vm Y Y ?_)))))
   obtain ⟨g35, H⟩ := grd_s H
   refine wv Y (fun f s => r_iR underlying127 ts9 h2 (f.ev Y) (f.ev Y) g35.1 g35.2) (wv Y (fun f s => r_loadE1 ta9 h2 s.sub g35.1 g35.2 (f.ev Y) Y) ?_)
   obtain ⟨t36, e41, H⟩ := bnd H
   refine w_call cf60 trivial Y Y (fun w s => ref01_Bytes.calls s (rd p1 s25.2) _ e41) ?_
   rintro v46 M38 l39 ⟨v42, hv_, h43⟩
   replace hv_ := hv_.symm
   subst hv_
   obtain ⟨g44, H⟩ := grd_s H
   refine w_app (F := (FI .u8)) (m2 := t36) (i := 0) underlying91 te5 underlying91 (.inl ⟨_, Y⟩) trivial Y Y Y Y (Src.rs (FI.one _) h43) g44 ?_
   intro v45
   exact va Y Y (wk k34 (c_reg (vm Y Y (v_add Y Y Y (va Y Y (w_nil fun a w' f s => ⟨_, (some_r H).symm, v45, _, l28.trans l39, f.pk Y, s.selD [some 0] (by decide) Y⟩))))))
  replace H := if_f b33 H
  replace H := map_inr H r29
  refine c_exit ?_
  intro a w' f s
  exact ⟨s25.1, v26, _, l28, f.pk Y, s.selD [some 0] (by decide) Y, H⟩
 rintro a w' ⟨x16, v17, M18, l19, f, s, H⟩
 refine cof f s ?_
 unfold ref05_Input.j1 at H
 refine c_sr fun _ k20 => vm Y Y (w_give 0 Y (fun _ h => h) ?_)
 intro M21 l22 h23
 refine wv Y (fun f s => r_b2s underlying91 underlying5 underlying9 h23 s.sub (f.ev Y)) (va Y Y (wk k20 ?_))
 obtain rfl := some_r H
 exact cx1 hret Y Y Y Y
theorem ref02_padded.calls (hM : Sub M w) (p0 : (List Int)) (v1 : Value) (h2 : RS (FI .u8) M v1 p0) (r : (List Int)) (H : ref02_padded p0 = some r) :
  Calls prog 189 [v1].toArray w (Post M w fun M' v => ∃ v64, v = v64 ∧ RS (FI .u8) M' v64 r) := by
 refine enter 37 [(0, v1)] func189 Y Y Y hM ?_
 intro Q hret
 unfold ref02_padded at H
 refine c_sr fun _ k3 => va Y Y (wk k3 (c_sr fun _ k4 => w_bslW (F := (FI .u8)) (es := ([] : List Int)) (xs := []) (vs := []) underlying91 te5 trivial Y Y Y Y Y (by decide) ?_))
 intro v5
 refine vm Y Y ?_
 obtain ⟨g6, H⟩ := grd_s H
 refine w_app (F := (FI .u8)) (m2 := p0) (i := 0) underlying91 te5 underlying91 (.inl ⟨_, Y⟩) trivial Y Y Y Y (Src.rs (FI.one _) h2) g6 ?_
 intro v7
 refine va Y Y (wk k4 (c_sr fun _ k8 => vm Y Y (w_bsl (F := (FI .u8)) (es := ([128] : List Int)) (xs := [.const (.int .u8 128)]) underlying91 te5 trivial Y Y Y Y Y (by decide) ?_)))
 intro v9 M10 l11 h12 c13
 replace h2 := h2.mono l11
 obtain ⟨g14, H⟩ := grd_s H
 refine w_app (F := (FI .u8)) (m2 := ([128] : List Int)) (i := 0) underlying91 te5 underlying91 (.inl ⟨_, Y⟩) trivial Y Y Y Y (Src.rs (FI.one _) h12) g14 ?_
 intro v15
 refine va Y Y (wk k8 ?_)
 refine c_cut (fun a' w' => ∃ (x16 : (List Int)) (v17 : Value) (M18 : Heap), HLe M10 M18 ∧ Fr 37 [(0, v1), (3, v17)] a' ∧ St none' M w M18 (lt [rowI (FI .u8) v17 5 x16]) w' ∧ ref02_padded.j3 p0 x16 = some r) ?_ ?_
 ·refine c_block ?_
  refine c_loop (fun (s48 : (List Int)) a' w' => ∃ (v49 : Value) (M50 : Heap), HLe M10 M50 ∧ Fr 37 [(0, v1), (3, v49)] a' ∧ St none' M w M50 (lt [rowI (FI .u8) v49 5 s48]) w') ((([] : List Int) ++ p0) ++ ([128] : List Int)) H ?_ ?_
  ·intro a w' f s
   exact ⟨v15, _, HLe.refl _, f.pk Y, s.selD [some 0] (by decide) Y⟩
  intro s48 y53 H r52 a w' hJ
  obtain ⟨v49, M50, l51, f, s⟩ := hJ
  refine cof f s ?_
  unfold ref02_padded.l4 at H
  replace h2 := h2.mono l51
  refine c_seq fun K54 k54 => c_sr fun _ k55 => vm Y Y (wv Y (fun f s => r_lenW 0 s Y underlying91 (f.ev Y)) (wv Y (fun f s => r_rem (f.ev Y) (f.ev Y) (by decide)) (wv Y (fun f s => r_neq (f.ev Y) (f.ev Y)) (wk k55 (c_if Y (fun b56 => ?_) (fun b56 => ?_))))))
  ·replace H := if_t b56 H
   refine cs k54 (c_block (c_reg (vm Y Y (w_bsl (F := (FI .u8)) (es := ([0] : List Int)) (xs := [.const (.int .u8 0)]) underlying91 te5 trivial Y Y Y Y Y (by decide) ?_))))
   intro v57 M58 l59 h60 c61
   replace h2 := h2.mono l59
   obtain ⟨g62, H⟩ := grd_s H
   refine w_app (F := (FI .u8)) (m2 := ([0] : List Int)) (i := 0) underlying91 te5 underlying91 (.inl ⟨_, Y⟩) trivial Y Y Y Y (Src.rs (FI.one _) h60) g62 ?_
   intro v63
   exact va Y Y (w_nil fun a w' f s => ⟨_, (some_r H).symm, v63, _, l51.trans l59, f.pk Y, s.selD [some 0] (by decide) Y⟩)
  replace H := if_f b56 H
  replace H := map_inr H r52
  refine c_exit ?_
  intro a w' f s
  exact ⟨s48, v49, _, l51, f.pk Y, s.selD [some 0] (by decide) Y, H⟩
 rintro a w' ⟨x16, v17, M18, l19, f, s, H⟩
 refine cof f s ?_
 unfold ref02_padded.j3 at H
 replace h2 := h2.mono l19
 refine c_sr fun _ k20 => vm Y Y (wv Y (fun f s => r_lenR underlying91 h2 (f.ev Y)) (wv Y (fun f s => r_conv underlying3 underlying193 (f.ev Y)) (wv Y (fun f s => r_mul (f.ev Y) (f.ev Y)) (va Y Y (wk k20 ?_)))))
 refine c_cut (fun a' w' => ∃ (x21 : (List Int)) (v22 : Value) (M23 : Heap), HLe M18 M23 ∧ Fr 37 [(3, v22)] a' ∧ St none' M w M23 (lt [rowI (FI .u8) v22 5 x21]) w' ∧ ref02_padded.j1 x21 = some r) ?_ ?_
 ·refine c_seq ?_
  intro K29 k29
  refine c_reg (va Y Y (wk k29 (c_block ?_)))
  refine c_loop (fun (s30 : ((List Int) × Int)) a' w' => ∃ (v31 : Value) (M32 : Heap), HLe M18 M32 ∧ Fr 37 [(3, v31), (4, .int .u64 (u64.wrap (8 * (u64.wrap (p0.length : Int))))), (5, .int .i64 s30.2)] a' ∧ St none' M w M32 (lt [rowI (FI .u8) v31 5 s30.1]) w') (x16, 0) H ?_ ?_
  ·intro a w' f s
   exact ⟨v17, _, HLe.refl _, f.pk Y, s.selD [some 0] (by decide) Y⟩
  intro s30 y35 H r34 a w' hJ
  obtain ⟨v31, M32, l33, f, s⟩ := hJ
  refine cof f s ?_
  unfold ref02_padded.l2 at H
  refine c_seq fun K36 k36 => c_sr fun _ k37 => vm Y Y (v_lss Y Y Y (wk k37 (c_if Y (fun b38 => ?_) (fun b38 => ?_))))
  ·replace H := if_t b38 H
   refine cs k36 (c_seq fun K39 k39 => c_block (c_reg (vm Y Y (vm Y Y (vm Y Y (wv Y (fun f s => r_mul (f.ev Y) (f.ev Y)) (wv Y (fun f s => r_sub (f.ev Y) (f.ev Y)) ?_)))))))
   obtain ⟨g40, H⟩ := grd_s H
   refine wv Y (fun f s => r_shr (f.ev Y) (f.ev Y) g40) (wv Y (fun f s => r_conv underlying193 underlying5 (f.ev Y)) (w_bsl (F := (FI .u8)) (es := ([u8.wrap (shrI .u64 (u64.wrap (8 * (u64.wrap (p0.length : Int)))) (i64.wrap (56 - (i64.wrap (8 * s30.2)))))] : List Int)) (xs := [.tmp 33]) underlying91 te5 trivial Y Y Y Y Y (by decide) ?_))
   intro v41 M42 l43 h44 c45
   obtain ⟨g46, H⟩ := grd_s H
   refine w_app (F := (FI .u8)) (m2 := ([u8.wrap (shrI .u64 (u64.wrap (8 * (u64.wrap (p0.length : Int)))) (i64.wrap (56 - (i64.wrap (8 * s30.2)))))] : List Int)) (i := 0) underlying91 te5 underlying91 (.inl ⟨_, Y⟩) trivial Y Y Y Y (Src.rs (FI.one _) h44) g46 ?_
   intro v47
   exact va Y Y (wk k39 (c_reg (vm Y Y (v_add Y Y Y (va Y Y (w_nil fun a w' f s => ⟨_, (some_r H).symm, v47, _, l33.trans l43, f.pk Y, s.selD [some 0] (by decide) Y⟩))))))
  replace H := if_f b38 H
  replace H := map_inr H r34
  refine c_exit ?_
  intro a w' f s
  exact ⟨s30.1, v31, _, l33, f.pk Y, s.selD [some 0] (by decide) Y, H⟩
 rintro a w' ⟨x21, v22, M23, l24, f, s, H⟩
 refine cof f s ?_
 unfold ref02_padded.j1 at H
 refine c_sr fun _ k25 => vm Y Y (va Y Y (wk k25 ?_))
 obtain rfl := some_r H
 refine c_ret (n_give 0 Y (fun _ h => h) ?_)
 intro M26 l27 h28
 intro a w' f s
 exact hret _ (.inl Y) a w' f.df ⟨_, _, Res.of1 Y (RV.t f Y), s.ext, ⟨_, Y, h28⟩⟩
theorem ref02_rotr.calls (hM : Sub M w) (p0 : Int) (p1 : Int) (r : Int) (H : ref02_rotr p0 p1 = some r) :
  Calls prog 191 [.int .u32 p0, .int .i64 p1].toArray w (Post M w fun M' v => v = (.int .u32 r)) := by
 refine enter 13 [(0, .int .u32 p0), (1, .int .i64 p1)] func191 Y Y Y hM ?_
 intro Q hret
 unfold ref02_rotr at H
 refine c_sr fun _ k1 => va Y Y (wk k1 (c_seq fun K2 k2 => ?_))
 obtain ⟨g11, H⟩ := grd_s H
 obtain ⟨g23, H⟩ := grd_s H
 refine cV [([], [0]), ([], [1]), ([(0, 5), (1, 6)], []), ([], [0]), ([], [1]), ([(4, 9)], []), ([(3, 8), (5, 10)], []), ([(2, 7), (6, 11)], []), ([(7, 12)], [])] (by kernel_rfl) (aV (pz Y fun _ f s => r_move (f.ev Y)) (aV (pz Y fun _ f s => r_move (f.ev Y)) (aV (pz Y fun _ f s => r_shr (f.ev Y) (f.ev Y) g11) (aV (pz Y fun _ f s => r_move (f.ev Y)) (aV (pz Y fun _ f s => r_move (f.ev Y)) (aV (pz Y fun _ f s => r_sub (f.ev Y) (f.ev Y)) (aV (pz Y fun _ f s => r_shl (f.ev Y) (f.ev Y) g23) (aV (pz Y fun _ f s => r_or (f.ev Y) (f.ev Y)) (aV (pz Y fun _ f s => r_assign (f.ev Y)) aV0))))))))) Y fun M31 l32 => ni k2 ?_
 obtain rfl := some_r H
 exact cx1 hret Y Y Y Y
theorem ref02_words.calls (hM : Sub M w) (p0 : (List Int)) (v1 : Value) (h2 : RS (FI .u8) M v1 p0) (r : (Vector Int 64)) (H : ref02_words p0 = some r) :
  Calls prog 190 [v1].toArray w (Post M w fun M' v => v = (.agg (vI .u32 r).toArray)) := by
 refine enter 101 [(0, v1)] func190 Y Y Y hM ?_
 intro Q hret
 unfold ref02_words at H
 refine c_sr fun _ k3 => w_allocL (A := vI .u32 (replicate 64 0)) tz240 trivial Y Y ?_
 intro b4
 refine wk k3 (c_sr fun _ k5 => w_allocL (A := vI .u32 (replicate 64 0)) tz240 trivial Y Y ?_)
 intro b6
 refine wk k5 ?_
 refine c_cut (fun a' w' => ∃ (x7 : (Vector Int 64)) (M8 : Heap), HLe M M8 ∧ Fr 101 [(2, ptr b4 0), (3, ptr b6 0)] a' ∧ St none' M w M8 (lt [bk b4 (vI .u32 (replicate 64 0)) 240, bk b6 (vI .u32 x7) 240]) w' ∧ ref02_words.j3 x7 = some r) ?_ ?_
 ·refine c_seq ?_
  intro K219 k219
  refine c_reg (va Y Y (wk k219 (c_block ?_)))
  refine c_loop (fun (s220 : ((Vector Int 64) × Int)) a' w' => ∃ (M221 : Heap), HLe M M221 ∧ Fr 101 [(0, v1), (2, ptr b4 0), (3, ptr b6 0), (4, .int .i64 s220.2)] a' ∧ St none' M w M221 (lt [bk b4 (vI .u32 (replicate 64 0)) 240, bk b6 (vI .u32 s220.1) 240]) w') (replicate 64 0, 0) H ?_ ?_
  ·intro a w' f s
   exact ⟨_, HLe.refl _, f.pk Y, s.selD [some 0, some 1] (by decide) Y⟩
  intro s220 y224 H r223 a w' hJ
  obtain ⟨M221, l222, f, s⟩ := hJ
  refine cof f s ?_
  unfold ref02_words.l4 at H
  replace h2 := h2.mono l222
  refine c_seq fun K225 k225 => c_sr fun _ k226 => vm Y Y (v_lss Y Y Y (wk k226 (c_if Y (fun b227 => ?_) (fun b227 => ?_))))
  ·replace H := if_t b227 H
   refine cs k225 (c_seq fun K228 k228 => c_block (csp 34 (by kernel_rfl) ?_))
   intro K229 k229
   obtain ⟨g243, H⟩ := grd_s H
   obtain ⟨g267, H⟩ := grd_s H
   obtain ⟨g295, H⟩ := grd_s H
   obtain ⟨g323, H⟩ := grd_s H
   refine dV [([], [4]), ([], [0]), ([], [4]), ([(2, 14)], []), ([(1, 13), (3, 15)], []), ([(4, 16)], []), ([(5, 17)], []), ([(6, 18)], []), ([], [0]), ([], [4]), ([(9, 21)], []), ([(10, 22)], []), ([(8, 20), (11, 23)], []), ([(12, 24)], []), ([(13, 25)], []), ([(14, 26)], []), ([(7, 19), (15, 27)], []), ([], [0]), ([], [4]), ([(18, 30)], []), ([(19, 31)], []), ([(17, 29), (20, 32)], []), ([(21, 33)], []), ([(22, 34)], []), ([(23, 35)], []), ([(16, 28), (24, 36)], []), ([], [0]), ([], [4]), ([(27, 39)], []), ([(28, 40)], []), ([(26, 38), (29, 41)], []), ([(30, 42)], []), ([(31, 43)], []), ([(25, 37), (32, 44)], [])] (by kernel_rfl) (aV (pz Y fun _ f s => r_move (f.ev Y)) (aV (pz Y fun _ f s => r_move (f.ev Y)) (aV (pz Y fun _ f s => r_move (f.ev Y)) (aV (pz Y fun _ f s => r_mul (f.ev Y) (f.ev Y)) (aV (pz Y fun l240 f s => r_iR underlying91 ts5 (h2.mono l240) (f.ev Y) (f.ev Y) g243.1 g243.2) (aV (pz Y fun l245 f s => r_loadE1 ta5 (h2.mono l245) s.sub g243.1 g243.2 (f.ev Y) Y) (aV (pz Y fun _ f s => r_conv underlying5 underlying169 (f.ev Y)) (aV (pz Y fun _ f s => r_shl (f.ev Y) (f.ev Y) (by decide)) (aV (pz Y fun _ f s => r_move (f.ev Y)) (aV (pz Y fun _ f s => r_move (f.ev Y)) (aV (pz Y fun _ f s => r_mul (f.ev Y) (f.ev Y)) (aV (pz Y fun _ f s => r_add (f.ev Y) (f.ev Y)) (aV (pz Y fun l264 f s => r_iR underlying91 ts5 (h2.mono l264) (f.ev Y) (f.ev Y) g267.1 g267.2) (aV (pz Y fun l269 f s => r_loadE1 ta5 (h2.mono l269) s.sub g267.1 g267.2 (f.ev Y) Y) (aV (pz Y fun _ f s => r_conv underlying5 underlying169 (f.ev Y)) (aV (pz Y fun _ f s => r_shl (f.ev Y) (f.ev Y) (by decide)) (aV (pz Y fun _ f s => r_or (f.ev Y) (f.ev Y)) (aV (pz Y fun _ f s => r_move (f.ev Y)) (aV (pz Y fun _ f s => r_move (f.ev Y)) (aV (pz Y fun _ f s => r_mul (f.ev Y) (f.ev Y)) (aV (pz Y fun _ f s => r_add (f.ev Y) (f.ev Y)) (aV (pz Y fun l292 f s => r_iR underlying91 ts5 (h2.mono l292) (f.ev Y) (f.ev Y) g295.1 g295.2) (aV (pz Y fun l297 f s => r_loadE1 ta5 (h2.mono l297) s.sub g295.1 g295.2 (f.ev Y) Y) (aV (pz Y fun _ f s => r_conv underlying5 underlying169 (f.ev Y)) (aV (pz Y fun _ f s => r_shl (f.ev Y) (f.ev Y) (by decide)) (aV (pz Y fun _ f s => r_or (f.ev Y) (f.ev Y)) (aV (pz Y fun _ f s => r_move (f.ev Y)) (aV (pz Y fun _ f s => r_move (f.ev Y)) (aV (pz Y fun _ f s => r_mul (f.ev Y) (f.ev Y)) (aV (pz Y fun _ f s => r_add (f.ev Y) (f.ev Y)) (aV (pz Y fun l320 f s => r_iR underlying91 ts5 (h2.mono l320) (f.ev Y) (f.ev Y) g323.1 g323.2) (aV (pz Y fun l325 f s => r_loadE1 ta5 (h2.mono l325) s.sub g323.1 g323.2 (f.ev Y) Y) (aV (pz Y fun _ f s => r_conv underlying5 underlying169 (f.ev Y)) (aV (pz Y fun _ f s => r_or (f.ev Y) (f.ev Y)) aV0)))))))))))))))))))))))))))))))))) Y fun M334 l335 => ?_
   refine ni k229 ?_
   obtain ⟨g338, H⟩ := grd_s H
   refine wv Y (fun f s => r_iaI underlying240 ts169 (f.ev Y) (f.ev Y) g338.1 g338.2) ?_
   obtain ⟨z339, e340, H⟩ := bnd H
   have e341 := some_r e340
   refine w_store (i := 1) (A' := vI .u32 z339) trivial Y Y Y Y ts169 Y (one1 Y) (idx_le g338.1 g338.2 (vI_len _) (by decide)) (by rw [← e341]; exact (vI_set0 g338.1 g338.2)) ?_
   exact wk k228 (c_reg (vm Y Y (v_add Y Y Y (va Y Y (w_nil fun a w' f s => ⟨_, (some_r H).symm, _, l222.trans l335, f.pk Y, s.selD [some 0, some 1] (by decide) Y⟩)))))
  replace H := if_f b227 H
  replace H := map_inr H r223
  refine c_exit ?_
  intro a w' f s
  exact ⟨s220.1, _, l222, f.pk Y, s.selD [some 0, some 1] (by decide) Y, H⟩
 rintro a w' ⟨x7, M8, l9, f, s, H⟩
 refine cof f s ?_
 unfold ref02_words.j3 at H
 refine c_cut (fun a' w' => ∃ (x10 : (Vector Int 64)) (M11 : Heap), HLe M8 M11 ∧ Fr 101 [(2, ptr b4 0), (3, ptr b6 0)] a' ∧ St none' M w M11 (lt [bk b4 (vI .u32 (replicate 64 0)) 240, bk b6 (vI .u32 x10) 240]) w' ∧ ref02_words.j1 x10 = some r) ?_ ?_
 ·refine c_seq ?_
  intro K14 k14
  refine c_reg (va Y Y (wk k14 (c_block ?_)))
  refine c_loop (fun (s15 : ((Vector Int 64) × Int)) a' w' => ∃ (M16 : Heap), HLe M8 M16 ∧ Fr 101 [(2, ptr b4 0), (3, ptr b6 0), (5, .int .i64 s15.2)] a' ∧ St none' M w M16 (lt [bk b4 (vI .u32 (replicate 64 0)) 240, bk b6 (vI .u32 s15.1) 240]) w') (x7, 16) H ?_ ?_
  ·intro a w' f s
   exact ⟨_, HLe.refl _, f.pk Y, s.selD [some 0, some 1] (by decide) Y⟩
  intro s15 y19 H r18 a w' hJ
  obtain ⟨M16, l17, f, s⟩ := hJ
  refine cof f s ?_
  unfold ref02_words.l2 at H
  refine c_seq fun K20 k20 => c_sr fun _ k21 => vm Y Y (v_lss Y Y Y (wk k21 (c_if Y (fun b22 => ?_) (fun b22 => ?_))))
  ·replace H := if_t b22 H
   refine cs k20 (c_seq fun K23 k23 => c_block (c_seq fun K24 k24 => ?_))
   obtain ⟨g33, H⟩ := grd_s H
   obtain ⟨t40, e45, H⟩ := bnd H
   obtain ⟨g54, H⟩ := grd_s H
   obtain ⟨t61, e66, H⟩ := bnd H
   obtain ⟨g79, H⟩ := grd_s H
   refine cV [([], [5]), ([(0, 51)], []), ([(1, 52)], [3]), ([(2, 53)], []), ([(3, 54)], []), ([], [5]), ([(5, 56)], []), ([(6, 57)], [3]), ([(7, 58)], []), ([(8, 59)], []), ([(4, 55), (9, 60)], []), ([], [5]), ([(11, 62)], []), ([(12, 63)], [3]), ([(13, 64)], []), ([(14, 65)], []), ([(10, 61), (15, 66)], []), ([(16, 67)], [])] (by kernel_rfl) (aV (pz Y fun _ f s => r_move (f.ev Y)) (aV (pz Y fun _ f s => r_sub (f.ev Y) (f.ev Y)) (aV (pz Y fun _ f s => r_iaI underlying240 ts169 (f.ev Y) (f.ev Y) g33.1 g33.2) (aV (pz Y fun _ f s => r_load1 ta169 (f.ev Y) (s.blk (i := 1) Y) (vI_get0 g33.1 g33.2)) (aV (pzc cf191 Y Y fun _ _ w s => ref02_rotr.calls s (rd s15.1.toList (i64.wrap (s15.2 - 15))) 7 _ e45) (aV (pz Y fun _ f s => r_move (f.ev Y)) (aV (pz Y fun _ f s => r_sub (f.ev Y) (f.ev Y)) (aV (pz Y fun _ f s => r_iaI underlying240 ts169 (f.ev Y) (f.ev Y) g54.1 g54.2) (aV (pz Y fun _ f s => r_load1 ta169 (f.ev Y) (s.blk (i := 1) Y) (vI_get0 g54.1 g54.2)) (aV (pzc cf191 Y Y fun _ _ w s => ref02_rotr.calls s (rd s15.1.toList (i64.wrap (s15.2 - 15))) 18 _ e66) (aV (pz Y fun _ f s => r_xor (f.ev Y) (f.ev Y)) (aV (pz Y fun _ f s => r_move (f.ev Y)) (aV (pz Y fun _ f s => r_sub (f.ev Y) (f.ev Y)) (aV (pz Y fun _ f s => r_iaI underlying240 ts169 (f.ev Y) (f.ev Y) g79.1 g79.2) (aV (pz Y fun _ f s => r_load1 ta169 (f.ev Y) (s.blk (i := 1) Y) (vI_get0 g79.1 g79.2)) (aV (pz Y fun _ f s => r_shr (f.ev Y) (f.ev Y) (by decide)) (aV (pz Y fun _ f s => r_xor (f.ev Y) (f.ev Y)) (aV (pz Y fun _ f s => r_assign (f.ev Y)) aV0)))))))))))))))))) Y fun M93 l94 => ?_
   refine ni k24 (c_seq fun K96 k96 => ?_)
   obtain ⟨g105, H⟩ := grd_s H
   obtain ⟨t112, e117, H⟩ := bnd H
   obtain ⟨g126, H⟩ := grd_s H
   obtain ⟨t133, e138, H⟩ := bnd H
   obtain ⟨g151, H⟩ := grd_s H
   refine cV [([], [5]), ([(0, 68)], []), ([(1, 69)], [3]), ([(2, 70)], []), ([(3, 71)], []), ([], [5]), ([(5, 73)], []), ([(6, 74)], [3]), ([(7, 75)], []), ([(8, 76)], []), ([(4, 72), (9, 77)], []), ([], [5]), ([(11, 79)], []), ([(12, 80)], [3]), ([(13, 81)], []), ([(14, 82)], []), ([(10, 78), (15, 83)], []), ([(16, 84)], [])] (by kernel_rfl) (aV (pz Y fun _ f s => r_move (f.ev Y)) (aV (pz Y fun _ f s => r_sub (f.ev Y) (f.ev Y)) (aV (pz Y fun _ f s => r_iaI underlying240 ts169 (f.ev Y) (f.ev Y) g105.1 g105.2) (aV (pz Y fun _ f s => r_load1 ta169 (f.ev Y) (s.blk (i := 1) Y) (vI_get0 g105.1 g105.2)) (aV (pzc cf191 Y Y fun _ _ w s => ref02_rotr.calls s (rd s15.1.toList (i64.wrap (s15.2 - 2))) 17 _ e117) (aV (pz Y fun _ f s => r_move (f.ev Y)) (aV (pz Y fun _ f s => r_sub (f.ev Y) (f.ev Y)) (aV (pz Y fun _ f s => r_iaI underlying240 ts169 (f.ev Y) (f.ev Y) g126.1 g126.2) (aV (pz Y fun _ f s => r_load1 ta169 (f.ev Y) (s.blk (i := 1) Y) (vI_get0 g126.1 g126.2)) (aV (pzc cf191 Y Y fun _ _ w s => ref02_rotr.calls s (rd s15.1.toList (i64.wrap (s15.2 - 2))) 19 _ e138) (aV (pz Y fun _ f s => r_xor (f.ev Y) (f.ev Y)) (aV (pz Y fun _ f s => r_move (f.ev Y)) (aV (pz Y fun _ f s => r_sub (f.ev Y) (f.ev Y)) (aV (pz Y fun _ f s => r_iaI underlying240 ts169 (f.ev Y) (f.ev Y) g151.1 g151.2) (aV (pz Y fun _ f s => r_load1 ta169 (f.ev Y) (s.blk (i := 1) Y) (vI_get0 g151.1 g151.2)) (aV (pz Y fun _ f s => r_shr (f.ev Y) (f.ev Y) (by decide)) (aV (pz Y fun _ f s => r_xor (f.ev Y) (f.ev Y)) (aV (pz Y fun _ f s => r_assign (f.ev Y)) aV0)))))))))))))))))) Y fun M165 l166 => ?_
   refine ni k96 (csp 14 (by kernel_rfl) ?_)
   intro K168 k168
   obtain ⟨g179, H⟩ := grd_s H
   obtain ⟨g197, H⟩ := grd_s H
   refine dV [([], [5]), ([], [5]), ([(1, 86)], []), ([(2, 87)], [3]), ([(3, 88)], []), ([], [6]), ([(4, 89), (5, 90)], []), ([], [5]), ([(7, 92)], []), ([(8, 93)], [3]), ([(9, 94)], []), ([(6, 91), (10, 95)], []), ([], [7]), ([(11, 96), (12, 97)], [])] (by kernel_rfl) (aV (pz Y fun _ f s => r_move (f.ev Y)) (aV (pz Y fun _ f s => r_move (f.ev Y)) (aV (pz Y fun _ f s => r_sub (f.ev Y) (f.ev Y)) (aV (pz Y fun _ f s => r_iaI underlying240 ts169 (f.ev Y) (f.ev Y) g179.1 g179.2) (aV (pz Y fun _ f s => r_load1 ta169 (f.ev Y) (s.blk (i := 1) Y) (vI_get0 g179.1 g179.2)) (aV (pz Y fun _ f s => r_move (f.ev Y)) (aV (pz Y fun _ f s => r_add (f.ev Y) (f.ev Y)) (aV (pz Y fun _ f s => r_move (f.ev Y)) (aV (pz Y fun _ f s => r_sub (f.ev Y) (f.ev Y)) (aV (pz Y fun _ f s => r_iaI underlying240 ts169 (f.ev Y) (f.ev Y) g197.1 g197.2) (aV (pz Y fun _ f s => r_load1 ta169 (f.ev Y) (s.blk (i := 1) Y) (vI_get0 g197.1 g197.2)) (aV (pz Y fun _ f s => r_add (f.ev Y) (f.ev Y)) (aV (pz Y fun _ f s => r_move (f.ev Y)) (aV (pz Y fun _ f s => r_add (f.ev Y) (f.ev Y)) aV0)))))))))))))) Y fun M211 l212 => ?_
   refine ni k168 ?_
   obtain ⟨g215, H⟩ := grd_s H
   refine wv Y (fun f s => r_iaI underlying240 ts169 (f.ev Y) (f.ev Y) g215.1 g215.2) ?_
   obtain ⟨z216, e217, H⟩ := bnd H
   have e218 := some_r e217
   refine w_store (i := 1) (A' := vI .u32 z216) trivial Y Y Y Y ts169 Y (one1 Y) (idx_le g215.1 g215.2 (vI_len _) (by decide)) (by rw [← e218]; exact (vI_set0 g215.1 g215.2)) ?_
   exact wk k23 (c_reg (vm Y Y (v_add Y Y Y (va Y Y (w_nil fun a w' f s => ⟨_, (some_r H).symm, _, l17.trans (l94.trans (l166.trans l212)), f.pk Y, s.selD [some 0, some 1] (by decide) Y⟩)))))
  replace H := if_f b22 H
  replace H := map_inr H r18
  refine c_exit ?_
  intro a w' f s
  exact ⟨s15.1, _, l17, f.pk Y, s.selD [some 0, some 1] (by decide) Y, H⟩
 rintro a w' ⟨x10, M11, l12, f, s, H⟩
 refine cof f s ?_
 unfold ref02_words.j1 at H
 refine c_sr fun _ k13 => wv Y (fun f s => r_loadA ta240 ts240 (f.ev Y) (s.blk (i := 1) Y) (vI_all _) (vI_len _)) (w_store (i := 0) (A' := vI .u32 x10) trivial Y Y Y Y ts240 (vI_len _) (vI_one _) (by rw [vI_len]; decide) (vI_whole _ _) (wk k13 ?_))
 obtain rfl := some_r H
 exact cx hret Y fun f s => ⟨_, _, Res.of1 Y ⟨_, f.get _ _ Y, run_loadA (s.blk (i := 0) Y) ta240 ts240 (vI_all _) (vI_len _)⟩, s.ext, Y⟩
theorem ref02_Sum.calls (hM : Sub M w) (hG : Gl M) (p0 : (List Int)) (v1 : Value) (h2 : RS (FI .u8) M v1 p0) (r : (Vector Int 32)) (H : ref02_Sum p0 = some r) :
  Calls prog 166 [v1].toArray w (Post M w fun M' v => v = (.agg (vI .u8 r).toArray)) := by
 obtain ⟨T0_, f0_, hg0_⟩ := hG.g0
 refine enter 148 [(0, v1)] func166 Y Y Y hM ?_
 intro Q hret
 unfold ref02_Sum at H
 refine c_sr fun _ k3 => w_allocL (A := vI .u8 (replicate 32 0)) tz198 trivial Y Y ?_
 intro b4
 refine wk k3 (c_sr fun _ k5 => wv Y (fun f s => r_build (is := [0, 1, 2, 3, 4, 5, 6, 7]) (xs := [.const (.int .u32 1779033703), .const (.int .u32 3144134277), .const (.int .u32 1013904242), .const (.int .u32 2773480762), .const (.int .u32 1359893119), .const (.int .u32 2600822924), .const (.int .u32 528734635), .const (.int .u32 1541459225)]) (A := vI .u32 (#v[1779033703, 3144134277, 1013904242, 2773480762, 1359893119, 2600822924, 528734635, 1541459225] : Vector Int 8)) Y (f.evs Y) (by kernel_rfl)) (w_allocL (A := vI .u32 (replicate 8 0)) tz191 trivial Y Y ?_))
 intro b6
 refine w_store (i := 1) (A' := vI .u32 (#v[1779033703, 3144134277, 1013904242, 2773480762, 1359893119, 2600822924, 528734635, 1541459225] : Vector Int 8)) trivial Y Y Y Y ts191 (vI_len _) (vI_one _) (by rw [vI_len]; decide) (vI_whole _ _) (wk k5 (c_sr fun _ k7 => vm Y Y ?_))
 obtain ⟨t8, e13, H⟩ := bnd H
 refine w_call cf189 trivial Y Y (fun w s => ref02_padded.calls s p0 v1 h2 _ e13) ?_
 rintro v361 M10 l11 ⟨v14, hv_, h15⟩
 replace hv_ := hv_.symm
 subst hv_
 replace hg0_ := l11 _ _ hg0_
 refine va Y Y (wk k7 ?_)
 refine c_cut (fun a' w' => ∃ (x16 : (Vector Int 8)) (M17 : Heap), HLe M10 M17 ∧ Fr 148 [(2, ptr b4 0), (3, ptr b6 0)] a' ∧ St none' M w M17 (lt [bk b4 (vI .u8 (replicate 32 0)) 198, bk b6 (vI .u32 x16) 191]) w' ∧ ref02_Sum.j3 x16 = some r) ?_ ?_
 ·refine c_seq ?_
  intro K41 k41
  refine c_reg (va Y Y (wk k41 (c_block ?_)))
  refine c_loop (fun (s42 : ((Vector Int 8) × Int)) a' w' => ∃ (M43 : Heap), HLe M10 M43 ∧ Fr 148 [(2, ptr b4 0), (3, ptr b6 0), (4, v14), (5, .int .i64 s42.2)] a' ∧ St none' M w M43 (lt [bk b4 (vI .u8 (replicate 32 0)) 198, bk b6 (vI .u32 s42.1) 191]) w') ((#v[1779033703, 3144134277, 1013904242, 2773480762, 1359893119, 2600822924, 528734635, 1541459225] : Vector Int 8), 0) H ?_ ?_
  ·intro a w' f s
   exact ⟨_, HLe.refl _, f.pk Y, s.selD [some 0, some 1] (by decide) Y⟩
  intro s42 y46 H r45 a w' hJ
  obtain ⟨M43, l44, f, s⟩ := hJ
  refine cof f s ?_
  unfold ref02_Sum.l8 at H
  replace hg0_ := l44 _ _ hg0_
  replace h15 := h15.mono l44
  refine c_seq fun K47 k47 => c_sr fun _ k48 => vm Y Y (vm Y Y (wv Y (fun f s => r_lenR underlying91 h15 (f.ev Y)) (v_lss Y Y Y (wk k48 (c_if Y (fun b49 => ?_) (fun b49 => ?_))))))
  ·replace H := if_t b49 H
   refine cs k47 ?_
   refine c_cut (fun a' w' => ∃ (x50 : (Vector Int 8)) (M51 : Heap), HLe M43 M51 ∧ Fr 148 [(2, ptr b4 0), (3, ptr b6 0), (4, v14), (5, .int .i64 s42.2)] a' ∧ St none' M w M51 (lt [bk b4 (vI .u8 (replicate 32 0)) 198, bk b6 (vI .u32 x50) 191]) w' ∧ ref02_Sum.j4 x50 s42 = some y46) ?_ ?_
   ·refine c_block (c_sr fun _ k53 => vm Y Y (vm Y Y (vm Y Y (v_add Y Y Y ?_))))
    obtain ⟨g56, H⟩ := grd_s H
    refine w_ex (Φ := fun v => RS (FI .u8) M43 v ((t8.take (i64.wrap (s42.2 + (64 : Int))).toNat).drop (s42.2).toNat)) trivial Y (fun a w f s => r_slR underlying91 ts5 (f.ev Y) h15 ⟨_, f.ev Y⟩ ⟨_, f.ev Y⟩ g56.1 g56.2.1 g56.2.2) ?_
    intro v54 h55
    obtain ⟨t57, e62, H⟩ := bnd H
    refine w_call cf190 trivial Y Y (fun w s => ref02_words.calls s ((t8.take (i64.wrap (s42.2 + (64 : Int))).toNat).drop (s42.2).toNat) v54 h55 _ e62) ?_
    rintro _ M59 l60 rfl
    replace hg0_ := l60 _ _ hg0_
    refine w_allocL (A := vI .u32 (replicate 64 0)) tz240 trivial Y Y ?_
    intro b63
    refine w_store (i := 2) (A' := vI .u32 t57) trivial Y Y Y Y ts240 (vI_len _) (vI_one _) (by rw [vI_len]; decide) (vI_whole _ _) (wk k53 (c_sr fun _ k64 => wv Y (fun f s => r_loadA ta191 ts191 (f.ev Y) (s.blk (i := 1) Y) (vI_all _) (vI_len _)) (w_allocL (A := vI .u32 (replicate 8 0)) tz191 trivial Y Y ?_)))
    intro b65
    refine w_store (i := 3) (A' := vI .u32 s42.1) trivial Y Y Y Y ts191 (vI_len _) (vI_one _) (by rw [vI_len]; decide) (vI_whole _ _) (wk k64 ?_)
    refine c_cut (fun a' w' => ∃ (x66 : (Vector Int 8)) (M67 : Heap), HLe M59 M67 ∧ Fr 148 [(2, ptr b4 0), (3, ptr b6 0), (4, v14), (5, .int .i64 s42.2), (7, ptr b65 0)] a' ∧ St none' M w M67 (lt [bk b4 (vI .u8 (replicate 32 0)) 198, bk b6 (vI .u32 s42.1) 191, dead, bk b65 (vI .u32 x66) 191]) w' ∧ ref02_Sum.j6 x66 s42 = some y46) ?_ ?_
    ·refine c_seq ?_
     intro K109 k109
     refine c_reg (va Y Y (wk k109 (c_block ?_)))
     refine c_loop (fun (s110 : ((Vector Int 8) × Int)) a' w' => ∃ (M111 : Heap), HLe M59 M111 ∧ Fr 148 [(2, ptr b4 0), (3, ptr b6 0), (4, v14), (5, .int .i64 s42.2), (6, ptr b63 0), (7, ptr b65 0), (8, .int .i64 s110.2)] a' ∧ St none' M w M111 (lt [bk b4 (vI .u8 (replicate 32 0)) 198, bk b6 (vI .u32 s42.1) 191, bk b63 (vI .u32 t57) 240, bk b65 (vI .u32 s110.1) 191]) w') (s42.1, 0) H ?_ ?_
     ·intro a w' f s
      exact ⟨_, HLe.refl _, f.pk Y, s.selD [some 0, some 1, some 2, some 3] (by decide) Y⟩
     intro s110 y114 H r113 a w' hJ
     obtain ⟨M111, l112, f, s⟩ := hJ
     refine cof f s ?_
     unfold ref02_Sum.l7 at H
     replace hg0_ := l112 _ _ hg0_
     refine c_seq fun K115 k115 => c_sr fun _ k116 => vm Y Y (v_lss Y Y Y (wk k116 (c_if Y (fun b117 => ?_) (fun b117 => ?_))))
     ·replace H := if_t b117 H
      refine cs k115 (c_seq fun K118 k118 => c_block (c_seq fun K119 k119 => ?_))
      obtain ⟨t133, e138, H⟩ := bnd H
      obtain ⟨t147, e152, H⟩ := bnd H
      obtain ⟨t165, e170, H⟩ := bnd H
      obtain ⟨g223, H⟩ := grd_s H
      obtain ⟨g236, H⟩ := grd_s H
      refine cV [([], [7]), ([(0, 34)], []), ([], [7]), ([(2, 36)], []), ([(3, 37)], []), ([], [7]), ([(5, 39)], []), ([(6, 40)], []), ([(4, 38), (7, 41)], []), ([], [7]), ([(9, 43)], []), ([(10, 44)], []), ([(8, 42), (11, 45)], []), ([(1, 35), (12, 46)], []), ([], [7]), ([(14, 48)], []), ([], [7]), ([(16, 50)], []), ([(15, 49), (17, 51)], []), ([], [7]), ([(19, 53)], []), ([(20, 54)], []), ([], [7]), ([(22, 56)], []), ([(21, 55), (23, 57)], []), ([(18, 52), (24, 58)], []), ([(13, 47), (25, 59)], []), ([], [8]), ([(27, 61)], []), ([(28, 62)], []), ([(26, 60), (29, 63)], []), ([], [8]), ([(31, 65)], [6]), ([(32, 66)], []), ([(30, 64), (33, 67)], []), ([(34, 68)], [])] (by kernel_rfl) (aV (pz Y fun _ f s => r_iaI underlying191 ts169 (f.ev Y) (f.ev Y) (by decide : (0 : Int) ≤ 7) (by decide : (7 : Int) < ((8 : Nat) : Int))) (aV (pz Y fun _ f s => r_load1 ta169 (f.ev Y) (s.blk (i := 3) Y) (vI_get0 (by decide : (0 : Int) ≤ 7) (by decide : (7 : Int) < ((8 : Nat) : Int)))) (aV (pz Y fun _ f s => r_iaI underlying191 ts169 (f.ev Y) (f.ev Y) (by decide : (0 : Int) ≤ 4) (by decide : (4 : Int) < ((8 : Nat) : Int))) (aV (pz Y fun _ f s => r_load1 ta169 (f.ev Y) (s.blk (i := 3) Y) (vI_get0 (by decide : (0 : Int) ≤ 4) (by decide : (4 : Int) < ((8 : Nat) : Int)))) (aV (pzc cf191 Y Y fun _ _ w s => ref02_rotr.calls s (rd s110.1.toList 4) 6 _ e138) (aV (pz Y fun _ f s => r_iaI underlying191 ts169 (f.ev Y) (f.ev Y) (by decide : (0 : Int) ≤ 4) (by decide : (4 : Int) < ((8 : Nat) : Int))) (aV (pz Y fun _ f s => r_load1 ta169 (f.ev Y) (s.blk (i := 3) Y) (vI_get0 (by decide : (0 : Int) ≤ 4) (by decide : (4 : Int) < ((8 : Nat) : Int)))) (aV (pzc cf191 Y Y fun _ _ w s => ref02_rotr.calls s (rd s110.1.toList 4) 11 _ e152) (aV (pz Y fun _ f s => r_xor (f.ev Y) (f.ev Y)) (aV (pz Y fun _ f s => r_iaI underlying191 ts169 (f.ev Y) (f.ev Y) (by decide : (0 : Int) ≤ 4) (by decide : (4 : Int) < ((8 : Nat) : Int))) (aV (pz Y fun _ f s => r_load1 ta169 (f.ev Y) (s.blk (i := 3) Y) (vI_get0 (by decide : (0 : Int) ≤ 4) (by decide : (4 : Int) < ((8 : Nat) : Int)))) (aV (pzc cf191 Y Y fun _ _ w s => ref02_rotr.calls s (rd s110.1.toList 4) 25 _ e170) (aV (pz Y fun _ f s => r_xor (f.ev Y) (f.ev Y)) (aV (pz Y fun _ f s => r_add (f.ev Y) (f.ev Y)) (aV (pz Y fun _ f s => r_iaI underlying191 ts169 (f.ev Y) (f.ev Y) (by decide : (0 : Int) ≤ 4) (by decide : (4 : Int) < ((8 : Nat) : Int))) (aV (pz Y fun _ f s => r_load1 ta169 (f.ev Y) (s.blk (i := 3) Y) (vI_get0 (by decide : (0 : Int) ≤ 4) (by decide : (4 : Int) < ((8 : Nat) : Int)))) (aV (pz Y fun _ f s => r_iaI underlying191 ts169 (f.ev Y) (f.ev Y) (by decide : (0 : Int) ≤ 5) (by decide : (5 : Int) < ((8 : Nat) : Int))) (aV (pz Y fun _ f s => r_load1 ta169 (f.ev Y) (s.blk (i := 3) Y) (vI_get0 (by decide : (0 : Int) ≤ 5) (by decide : (5 : Int) < ((8 : Nat) : Int)))) (aV (pz Y fun _ f s => r_and (f.ev Y) (f.ev Y)) (aV (pz Y fun _ f s => r_iaI underlying191 ts169 (f.ev Y) (f.ev Y) (by decide : (0 : Int) ≤ 4) (by decide : (4 : Int) < ((8 : Nat) : Int))) (aV (pz Y fun _ f s => r_load1 ta169 (f.ev Y) (s.blk (i := 3) Y) (vI_get0 (by decide : (0 : Int) ≤ 4) (by decide : (4 : Int) < ((8 : Nat) : Int)))) (aV (pz Y fun _ f s => r_xor (f.ev Y) (f.ev Y)) (aV (pz Y fun _ f s => r_iaI underlying191 ts169 (f.ev Y) (f.ev Y) (by decide : (0 : Int) ≤ 6) (by decide : (6 : Int) < ((8 : Nat) : Int))) (aV (pz Y fun _ f s => r_load1 ta169 (f.ev Y) (s.blk (i := 3) Y) (vI_get0 (by decide : (0 : Int) ≤ 6) (by decide : (6 : Int) < ((8 : Nat) : Int)))) (aV (pz Y fun _ f s => r_and (f.ev Y) (f.ev Y)) (aV (pz Y fun _ f s => r_xor (f.ev Y) (f.ev Y)) (aV (pz Y fun _ f s => r_add (f.ev Y) (f.ev Y)) (aV (pz Y fun _ f s => r_move (f.ev Y)) (aV (pz Y fun _ f s => r_iaI underlying240 ts169 (f.ev Y) (f.ev Y) g223.1 g223.2) (aV (pz Y fun l225 f s => r_load1 ta169 (f.ev Y) (s.sub _ _ (l225 _ _ hg0_)) (vI_get0 g223.1 g223.2)) (aV (pz Y fun _ f s => r_add (f.ev Y) (f.ev Y)) (aV (pz Y fun _ f s => r_move (f.ev Y)) (aV (pz Y fun _ f s => r_iaI underlying240 ts169 (f.ev Y) (f.ev Y) g236.1 g236.2) (aV (pz Y fun _ f s => r_load1 ta169 (f.ev Y) (s.blk (i := 2) Y) (vI_get0 g236.1 g236.2)) (aV (pz Y fun _ f s => r_add (f.ev Y) (f.ev Y)) (aV (pz Y fun _ f s => r_assign (f.ev Y)) aV0)))))))))))))))))))))))))))))))))))) Y fun M247 l248 => ?_
      refine ni k119 (c_seq fun K250 k250 => ?_)
      obtain ⟨t259, e264, H⟩ := bnd H
      obtain ⟨t273, e278, H⟩ := bnd H
      obtain ⟨t291, e296, H⟩ := bnd H
      refine cV [([], [7]), ([(0, 69)], []), ([(1, 70)], []), ([], [7]), ([(3, 72)], []), ([(4, 73)], []), ([(2, 71), (5, 74)], []), ([], [7]), ([(7, 76)], []), ([(8, 77)], []), ([(6, 75), (9, 78)], []), ([], [7]), ([(11, 80)], []), ([], [7]), ([(13, 82)], []), ([(12, 81), (14, 83)], []), ([], [7]), ([(16, 85)], []), ([], [7]), ([(18, 87)], []), ([(17, 86), (19, 88)], []), ([(15, 84), (20, 89)], []), ([], [7]), ([(22, 91)], []), ([], [7]), ([(24, 93)], []), ([(23, 92), (25, 94)], []), ([(21, 90), (26, 95)], []), ([(10, 79), (27, 96)], []), ([(28, 97)], [])] (by kernel_rfl) (aV (pz Y fun _ f s => r_iaI underlying191 ts169 (f.ev Y) (f.ev Y) (by decide : (0 : Int) ≤ 0) (by decide : (0 : Int) < ((8 : Nat) : Int))) (aV (pz Y fun _ f s => r_load1 ta169 (f.ev Y) (s.blk (i := 3) Y) (vI_get0 (by decide : (0 : Int) ≤ 0) (by decide : (0 : Int) < ((8 : Nat) : Int)))) (aV (pzc cf191 Y Y fun _ _ w s => ref02_rotr.calls s (rd s110.1.toList 0) 2 _ e264) (aV (pz Y fun _ f s => r_iaI underlying191 ts169 (f.ev Y) (f.ev Y) (by decide : (0 : Int) ≤ 0) (by decide : (0 : Int) < ((8 : Nat) : Int))) (aV (pz Y fun _ f s => r_load1 ta169 (f.ev Y) (s.blk (i := 3) Y) (vI_get0 (by decide : (0 : Int) ≤ 0) (by decide : (0 : Int) < ((8 : Nat) : Int)))) (aV (pzc cf191 Y Y fun _ _ w s => ref02_rotr.calls s (rd s110.1.toList 0) 13 _ e278) (aV (pz Y fun _ f s => r_xor (f.ev Y) (f.ev Y)) (aV (pz Y fun _ f s => r_iaI underlying191 ts169 (f.ev Y) (f.ev Y) (by decide : (0 : Int) ≤ 0) (by decide : (0 : Int) < ((8 : Nat) : Int))) (aV (pz Y fun _ f s => r_load1 ta169 (f.ev Y) (s.blk (i := 3) Y) (vI_get0 (by decide : (0 : Int) ≤ 0) (by decide : (0 : Int) < ((8 : Nat) : Int)))) (aV (pzc cf191 Y Y fun _ _ w s => ref02_rotr.calls s (rd s110.1.toList 0) 22 _ e296) (aV (pz Y fun _ f s => r_xor (f.ev Y) (f.ev Y)) (aV (pz Y fun _ f s => r_iaI underlying191 ts169 (f.ev Y) (f.ev Y) (by decide : (0 : Int) ≤ 0) (by decide : (0 : Int) < ((8 : Nat) : Int))) (aV (pz Y fun _ f s => r_load1 ta169 (f.ev Y) (s.blk (i := 3) Y) (vI_get0 (by decide : (0 : Int) ≤ 0) (by decide : (0 : Int) < ((8 : Nat) : Int)))) (aV (pz Y fun _ f s => r_iaI underlying191 ts169 (f.ev Y) (f.ev Y) (by decide : (0 : Int) ≤ 1) (by decide : (1 : Int) < ((8 : Nat) : Int))) (aV (pz Y fun _ f s => r_load1 ta169 (f.ev Y) (s.blk (i := 3) Y) (vI_get0 (by decide : (0 : Int) ≤ 1) (by decide : (1 : Int) < ((8 : Nat) : Int)))) (aV (pz Y fun _ f s => r_and (f.ev Y) (f.ev Y)) (aV (pz Y fun _ f s => r_iaI underlying191 ts169 (f.ev Y) (f.ev Y) (by decide : (0 : Int) ≤ 0) (by decide : (0 : Int) < ((8 : Nat) : Int))) (aV (pz Y fun _ f s => r_load1 ta169 (f.ev Y) (s.blk (i := 3) Y) (vI_get0 (by decide : (0 : Int) ≤ 0) (by decide : (0 : Int) < ((8 : Nat) : Int)))) (aV (pz Y fun _ f s => r_iaI underlying191 ts169 (f.ev Y) (f.ev Y) (by decide : (0 : Int) ≤ 2) (by decide : (2 : Int) < ((8 : Nat) : Int))) (aV (pz Y fun _ f s => r_load1 ta169 (f.ev Y) (s.blk (i := 3) Y) (vI_get0 (by decide : (0 : Int) ≤ 2) (by decide : (2 : Int) < ((8 : Nat) : Int)))) (aV (pz Y fun _ f s => r_and (f.ev Y) (f.ev Y)) (aV (pz Y fun _ f s => r_xor (f.ev Y) (f.ev Y)) (aV (pz Y fun _ f s => r_iaI underlying191 ts169 (f.ev Y) (f.ev Y) (by decide : (0 : Int) ≤ 1) (by decide : (1 : Int) < ((8 : Nat) : Int))) (aV (pz Y fun _ f s => r_load1 ta169 (f.ev Y) (s.blk (i := 3) Y) (vI_get0 (by decide : (0 : Int) ≤ 1) (by decide : (1 : Int) < ((8 : Nat) : Int)))) (aV (pz Y fun _ f s => r_iaI underlying191 ts169 (f.ev Y) (f.ev Y) (by decide : (0 : Int) ≤ 2) (by decide : (2 : Int) < ((8 : Nat) : Int))) (aV (pz Y fun _ f s => r_load1 ta169 (f.ev Y) (s.blk (i := 3) Y) (vI_get0 (by decide : (0 : Int) ≤ 2) (by decide : (2 : Int) < ((8 : Nat) : Int)))) (aV (pz Y fun _ f s => r_and (f.ev Y) (f.ev Y)) (aV (pz Y fun _ f s => r_xor (f.ev Y) (f.ev Y)) (aV (pz Y fun _ f s => r_add (f.ev Y) (f.ev Y)) (aV (pz Y fun _ f s => r_assign (f.ev Y)) aV0)))))))))))))))))))))))))))))) Y fun M358 l359 => ?_
      refine ni k250 (c_reg (vm Y Y (vm Y Y (v_add Y Y Y (wv Y (fun f s => r_iaI underlying191 ts169 (f.ev Y) (f.ev Y) (by decide : (0 : Int) ≤ 0) (by decide : (0 : Int) < ((8 : Nat) : Int))) (wv Y (fun f s => r_load1 ta169 (f.ev Y) (s.blk (i := 3) Y) (vI_get0 (by decide : (0 : Int) ≤ 0) (by decide : (0 : Int) < ((8 : Nat) : Int)))) (wv Y (fun f s => r_iaI underlying191 ts169 (f.ev Y) (f.ev Y) (by decide : (0 : Int) ≤ 1) (by decide : (1 : Int) < ((8 : Nat) : Int))) (wv Y (fun f s => r_load1 ta169 (f.ev Y) (s.blk (i := 3) Y) (vI_get0 (by decide : (0 : Int) ≤ 1) (by decide : (1 : Int) < ((8 : Nat) : Int)))) (wv Y (fun f s => r_iaI underlying191 ts169 (f.ev Y) (f.ev Y) (by decide : (0 : Int) ≤ 2) (by decide : (2 : Int) < ((8 : Nat) : Int))) (wv Y (fun f s => r_load1 ta169 (f.ev Y) (s.blk (i := 3) Y) (vI_get0 (by decide : (0 : Int) ≤ 2) (by decide : (2 : Int) < ((8 : Nat) : Int)))) (wv Y (fun f s => r_iaI underlying191 ts169 (f.ev Y) (f.ev Y) (by decide : (0 : Int) ≤ 3) (by decide : (3 : Int) < ((8 : Nat) : Int))) ?_)))))))))))
      refine wv Y (fun f s => r_load1 ta169 (f.ev Y) (s.blk (i := 3) Y) (vI_get0 (by decide : (0 : Int) ≤ 3) (by decide : (3 : Int) < ((8 : Nat) : Int)))) (vm Y Y (v_add Y Y Y (wv Y (fun f s => r_iaI underlying191 ts169 (f.ev Y) (f.ev Y) (by decide : (0 : Int) ≤ 4) (by decide : (4 : Int) < ((8 : Nat) : Int))) (wv Y (fun f s => r_load1 ta169 (f.ev Y) (s.blk (i := 3) Y) (vI_get0 (by decide : (0 : Int) ≤ 4) (by decide : (4 : Int) < ((8 : Nat) : Int)))) (wv Y (fun f s => r_iaI underlying191 ts169 (f.ev Y) (f.ev Y) (by decide : (0 : Int) ≤ 5) (by decide : (5 : Int) < ((8 : Nat) : Int))) (wv Y (fun f s => r_load1 ta169 (f.ev Y) (s.blk (i := 3) Y) (vI_get0 (by decide : (0 : Int) ≤ 5) (by decide : (5 : Int) < ((8 : Nat) : Int)))) (wv Y (fun f s => r_iaI underlying191 ts169 (f.ev Y) (f.ev Y) (by decide : (0 : Int) ≤ 6) (by decide : (6 : Int) < ((8 : Nat) : Int))) (wv Y (fun f s => r_load1 ta169 (f.ev Y) (s.blk (i := 3) Y) (vI_get0 (by decide : (0 : Int) ≤ 6) (by decide : (6 : Int) < ((8 : Nat) : Int)))) (wv Y (fun f s => r_build (is := [0, 1, 2, 3, 4, 5, 6, 7]) (xs := [.tmp 100, .tmp 102, .tmp 104, .tmp 106, .tmp 110, .tmp 112, .tmp 114, .tmp 116]) (A := vI .u32 (#v[u32.wrap ((u32.wrap ((u32.wrap ((u32.wrap ((u32.wrap ((rd s110.1.toList 7) + (bits .xor .u32 (bits .xor .u32 t133 t147) t165))) + (bits .xor .u32 (bits .and .u32 (rd s110.1.toList 4) (rd s110.1.toList 5)) (bits .and .u32 (bits .xor .u32 (rd s110.1.toList 4) 4294967295) (rd s110.1.toList 6))))) + (rd ref02_constants.toList s110.2))) + (rd t57.toList s110.2))) + (u32.wrap ((bits .xor .u32 (bits .xor .u32 t259 t273) t291) + (bits .xor .u32 (bits .xor .u32 (bits .and .u32 (rd s110.1.toList 0) (rd s110.1.toList 1)) (bits .and .u32 (rd s110.1.toList 0) (rd s110.1.toList 2))) (bits .and .u32 (rd s110.1.toList 1) (rd s110.1.toList 2)))))), rd s110.1.toList 0, rd s110.1.toList 1, rd s110.1.toList 2, u32.wrap ((rd s110.1.toList 3) + (u32.wrap ((u32.wrap ((u32.wrap ((u32.wrap ((rd s110.1.toList 7) + (bits .xor .u32 (bits .xor .u32 t133 t147) t165))) + (bits .xor .u32 (bits .and .u32 (rd s110.1.toList 4) (rd s110.1.toList 5)) (bits .and .u32 (bits .xor .u32 (rd s110.1.toList 4) 4294967295) (rd s110.1.toList 6))))) + (rd ref02_constants.toList s110.2))) + (rd t57.toList s110.2)))), rd s110.1.toList 4, rd s110.1.toList 5, rd s110.1.toList 6] : Vector Int 8)) Y (f.evs Y) (by kernel_rfl)) ?_)))))))))
      refine w_store (i := 3) (A' := vI .u32 (#v[u32.wrap ((u32.wrap ((u32.wrap ((u32.wrap ((u32.wrap ((rd s110.1.toList 7) + (bits .xor .u32 (bits .xor .u32 t133 t147) t165))) + (bits .xor .u32 (bits .and .u32 (rd s110.1.toList 4) (rd s110.1.toList 5)) (bits .and .u32 (bits .xor .u32 (rd s110.1.toList 4) 4294967295) (rd s110.1.toList 6))))) + (rd ref02_constants.toList s110.2))) + (rd t57.toList s110.2))) + (u32.wrap ((bits .xor .u32 (bits .xor .u32 t259 t273) t291) + (bits .xor .u32 (bits .xor .u32 (bits .and .u32 (rd s110.1.toList 0) (rd s110.1.toList 1)) (bits .and .u32 (rd s110.1.toList 0) (rd s110.1.toList 2))) (bits .and .u32 (rd s110.1.toList 1) (rd s110.1.toList 2)))))), rd s110.1.toList 0, rd s110.1.toList 1, rd s110.1.toList 2, u32.wrap ((rd s110.1.toList 3) + (u32.wrap ((u32.wrap ((u32.wrap ((u32.wrap ((rd s110.1.toList 7) + (bits .xor .u32 (bits .xor .u32 t133 t147) t165))) + (bits .xor .u32 (bits .and .u32 (rd s110.1.toList 4) (rd s110.1.toList 5)) (bits .and .u32 (bits .xor .u32 (rd s110.1.toList 4) 4294967295) (rd s110.1.toList 6))))) + (rd ref02_constants.toList s110.2))) + (rd t57.toList s110.2)))), rd s110.1.toList 4, rd s110.1.toList 5, rd s110.1.toList 6] : Vector Int 8)) trivial Y Y Y Y ts191 (vI_len _) (vI_one _) (by rw [vI_len]; decide) (vI_whole _ _) ?_
      exact wk k118 (c_reg (vm Y Y (v_add Y Y Y (va Y Y (w_nil fun a w' f s => ⟨_, (some_r H).symm, _, l112.trans (l248.trans l359), f.pk Y, s.selD [some 0, some 1, some 2, some 3] (by decide) Y⟩)))))
     replace H := if_f b117 H
     replace H := map_inr H r113
     refine c_exit ?_
     intro a w' f s
     exact ⟨s110.1, _, l112, f.pk Y, s.selD [some 0, some 1, none, some 3] (by decide) Y, H⟩
    rintro a w' ⟨x66, M67, l68, f, s, H⟩
    refine cof f s ?_
    unfold ref02_Sum.j6 at H
    refine c_sr fun _ k69 => va Y Y (wk k69 (c_block ?_))
    refine c_loop (fun (s70 : ((Vector Int 8) × Int)) a' w' => ∃ (M71 : Heap), HLe M67 M71 ∧ Fr 148 [(2, ptr b4 0), (3, ptr b6 0), (4, v14), (5, .int .i64 s42.2), (7, ptr b65 0), (11, .int .i64 s70.2)] a' ∧ St none' M w M71 (lt [bk b4 (vI .u8 (replicate 32 0)) 198, bk b6 (vI .u32 s70.1) 191, dead, bk b65 (vI .u32 x66) 191]) w') (s42.1, 0) H ?_ ?_
    ·intro a w' f s
     exact ⟨_, HLe.refl _, f.pk Y, s.selD [some 0, some 1, none, some 3] (by decide) Y⟩
    intro s70 y74 H r73 a w' hJ
    obtain ⟨M71, l72, f, s⟩ := hJ
    refine cof f s ?_
    unfold ref02_Sum.l5 at H
    refine c_seq fun K75 k75 => c_sr fun _ k76 => vm Y Y (v_lss Y Y Y (wk k76 (c_if Y (fun b77 => ?_) (fun b77 => ?_))))
    ·replace H := if_t b77 H
     refine cs k75 (c_seq fun K78 k78 => c_block (csp 8 (by kernel_rfl) ?_))
     intro K79 k79
     obtain ⟨g87, H⟩ := grd_s H
     obtain ⟨g96, H⟩ := grd_s H
     refine dV [([], [11]), ([], [11]), ([(1, 123)], [3]), ([(2, 124)], []), ([], [11]), ([(4, 126)], [7]), ([(5, 127)], []), ([(3, 125), (6, 128)], [])] (by kernel_rfl) (aV (pz Y fun _ f s => r_move (f.ev Y)) (aV (pz Y fun _ f s => r_move (f.ev Y)) (aV (pz Y fun _ f s => r_iaI underlying191 ts169 (f.ev Y) (f.ev Y) g87.1 g87.2) (aV (pz Y fun _ f s => r_load1 ta169 (f.ev Y) (s.blk (i := 1) Y) (vI_get0 g87.1 g87.2)) (aV (pz Y fun _ f s => r_move (f.ev Y)) (aV (pz Y fun _ f s => r_iaI underlying191 ts169 (f.ev Y) (f.ev Y) g96.1 g96.2) (aV (pz Y fun _ f s => r_load1 ta169 (f.ev Y) (s.blk (i := 3) Y) (vI_get0 g96.1 g96.2)) (aV (pz Y fun _ f s => r_add (f.ev Y) (f.ev Y)) aV0)))))))) Y fun M104 l105 => ni k79 ?_
     obtain ⟨g108, H⟩ := grd_s H
     exact wv Y (fun f s => r_iaI underlying191 ts169 (f.ev Y) (f.ev Y) g108.1 g108.2) (w_store (i := 1) (A' := vI .u32 (vs s70.1 s70.2 (u32.wrap ((rd s70.1.toList s70.2) + (rd x66.toList s70.2))))) trivial Y Y Y Y ts169 Y (one1 Y) (idx_le g108.1 g108.2 (vI_len _) (by decide)) (vI_set0 g108.1 g108.2) (wk k78 (c_reg (vm Y Y (v_add Y Y Y (va Y Y (w_nil fun a w' f s => ⟨_, (some_r H).symm, _, l72.trans l105, f.pk Y, s.selD [some 0, some 1, none, some 3] (by decide) Y⟩)))))))
    replace H := if_f b77 H
    replace H := map_inr H r73
    refine c_exit ?_
    intro a w' f s
    exact ⟨s70.1, _, l60.trans (l68.trans l72), f.pk Y, s.selD [some 0, some 1] (by decide) Y, H⟩
   rintro a w' ⟨x50, M51, l52, f, s, H⟩
   refine cof f s ?_
   unfold ref02_Sum.j4 at H
   exact c_reg (vm Y Y (v_add Y Y Y (va Y Y (w_nil fun a w' f s => ⟨_, (some_r H).symm, _, l44.trans l52, f.pk Y, s.selD [some 0, some 1] (by decide) Y⟩))))
  replace H := if_f b49 H
  replace H := map_inr H r45
  refine c_exit ?_
  intro a w' f s
  exact ⟨s42.1, _, l44, f.pk Y, s.selD [some 0, some 1] (by decide) Y, H⟩
 rintro a w' ⟨x16, M17, l18, f, s, H⟩
 refine cof f s ?_
 unfold ref02_Sum.j3 at H
 refine c_sr fun _ k19 => w_allocL (A := vI .u8 (replicate 32 0)) tz198 trivial Y Y ?_
 intro b20
 refine wk k19 ?_
 refine c_cut (fun a' w' => ∃ (x21 : (Vector Int 32)) (M22 : Heap), HLe M17 M22 ∧ Fr 148 [(2, ptr b4 0), (12, ptr b20 0)] a' ∧ St none' M w M22 (lt [bk b4 (vI .u8 (replicate 32 0)) 198, dead, bk b20 (vI .u8 x21) 198]) w' ∧ ref02_Sum.j1 x21 = some r) ?_ ?_
 ·refine c_seq ?_
  intro K25 k25
  refine c_reg (va Y Y (wk k25 (c_block ?_)))
  refine c_loop (fun (s26 : ((Vector Int 32) × Int)) a' w' => ∃ (M27 : Heap), HLe M17 M27 ∧ Fr 148 [(2, ptr b4 0), (3, ptr b6 0), (12, ptr b20 0), (13, .int .i64 s26.2)] a' ∧ St none' M w M27 (lt [bk b4 (vI .u8 (replicate 32 0)) 198, bk b6 (vI .u32 x16) 191, bk b20 (vI .u8 s26.1) 198]) w') (replicate 32 0, 0) H ?_ ?_
  ·intro a w' f s
   exact ⟨_, HLe.refl _, f.pk Y, s.selD [some 0, some 1, some 2] (by decide) Y⟩
  intro s26 y30 H r29 a w' hJ
  obtain ⟨M27, l28, f, s⟩ := hJ
  refine cof f s ?_
  unfold ref02_Sum.l2 at H
  refine c_seq fun K31 k31 => c_sr fun _ k32 => vm Y Y (v_lss Y Y Y (wk k32 (c_if Y (fun b33 => ?_) (fun b33 => ?_))))
  ·replace H := if_t b33 H
   refine cs k31 (c_seq fun K34 k34 => c_block (c_reg (vm Y Y (vm Y Y (wv Y (fun f s => r_quo (f.ev Y) (f.ev Y) (by decide)) ?_)))))
   obtain ⟨g35, H⟩ := grd_s H
   refine wv Y (fun f s => r_iaI underlying191 ts169 (f.ev Y) (f.ev Y) g35.1 g35.2) (wv Y (fun f s => r_load1 ta169 (f.ev Y) (s.blk (i := 1) Y) (vI_get0 g35.1 g35.2)) (vm Y Y (wv Y (fun f s => r_rem (f.ev Y) (f.ev Y) (by decide)) (wv Y (fun f s => r_mul (f.ev Y) (f.ev Y)) (wv Y (fun f s => r_sub (f.ev Y) (f.ev Y)) ?_)))))
   obtain ⟨g36, H⟩ := grd_s H
   refine wv Y (fun f s => r_shr (f.ev Y) (f.ev Y) g36) (wv Y (fun f s => r_conv underlying169 underlying5 (f.ev Y)) ?_)
   obtain ⟨g37, H⟩ := grd_s H
   refine wv Y (fun f s => r_iaI underlying198 ts5 (f.ev Y) (f.ev Y) g37.1 g37.2) ?_
   obtain ⟨z38, e39, H⟩ := bnd H
   have e40 := some_r e39
   refine w_store (i := 2) (A' := vI .u8 z38) trivial Y Y Y Y ts5 Y (one1 Y) (idx_le g37.1 g37.2 (vI_len _) (by decide)) (by rw [← e40]; exact (vI_set0 g37.1 g37.2)) ?_
   exact wk k34 (c_reg (vm Y Y (v_add Y Y Y (va Y Y (w_nil fun a w' f s => ⟨_, (some_r H).symm, _, l28.trans (HLe.refl _), f.pk Y, s.selD [some 0, some 1, some 2] (by decide) Y⟩)))))
  replace H := if_f b33 H
  replace H := map_inr H r29
  refine c_exit ?_
  intro a w' f s
  exact ⟨s26.1, _, l28, f.pk Y, s.selD [some 0, none, some 2] (by decide) Y, H⟩
 rintro a w' ⟨x21, M22, l23, f, s, H⟩
 refine cof f s ?_
 unfold ref02_Sum.j1 at H
 refine c_sr fun _ k24 => wv Y (fun f s => r_loadA ta198 ts198 (f.ev Y) (s.blk (i := 2) Y) (vI_all _) (vI_len _)) (w_store (i := 0) (A' := vI .u8 x21) trivial Y Y Y Y ts198 (vI_len _) (vI_one _) (by rw [vI_len]; decide) (vI_whole _ _) (wk k24 ?_))
 obtain rfl := some_r H
 exact cx hret Y fun f s => ⟨_, _, Res.of1 Y ⟨_, f.get _ _ Y, run_loadA (s.blk (i := 0) Y) ta198 ts198 (vI_all _) (vI_len _)⟩, s.ext, Y⟩
theorem ref02_Bytes32.calls (hM : Sub M w) (p0 : (Vector Int 32)) (r : (List UInt8)) (H : ref02_Bytes32 p0 = some r) :
  Calls prog 165 [.agg (vI .u8 p0).toArray].toArray w (Post M w fun M' v => v = (str r)) := by
 refine enter 17 [(0, .agg (vI .u8 p0).toArray)] func165 Y Y Y hM ?_
 intro Q hret
 unfold ref02_Bytes32 at H
 refine c_sr fun _ k1 => w_boxM trivial Y Y Y ?_
 intro b2 M3 l4 h5
 refine va Y Y (wk k1 (c_sr fun _ k6 => va Y Y (wk k6 (c_row0 5 1 ?_))))
 refine c_cut (fun a' w' => ∃ (x7 : (List Int)) (v8 : Value) (M9 : Heap), HLe M3 M9 ∧ Fr 17 [(3, v8)] a' ∧ St none' M w M9 (lt [rowI (FI .u8) v8 5 x7]) w' ∧ ref02_Bytes32.j1 x7 = some r) ?_ ?_
 ·refine c_seq ?_
  intro K15 k15
  refine c_reg (va Y Y (wk k15 (c_block ?_)))
  refine c_loop (fun (s16 : ((List Int) × Int)) a' w' => ∃ (v17 : Value) (M18 : Heap), HLe M3 M18 ∧ Fr 17 [(1, ptr b2 0), (3, v17), (4, .int .i64 s16.2)] a' ∧ St none' M w M18 (lt [rowI (FI .u8) v17 5 s16.1]) w') (([] : (List Int)), 0) H ?_ ?_
  ·intro a w' f s
   exact ⟨.slice none 0 0, _, HLe.refl _, f.pk Y, s.selD [some 0] (by decide) Y⟩
  intro s16 y21 H r20 a w' hJ
  obtain ⟨v17, M18, l19, f, s⟩ := hJ
  refine cof f s ?_
  unfold ref02_Bytes32.l2 at H
  replace h5 := l19 _ _ h5
  refine c_seq fun K22 k22 => c_sr fun _ k23 => vm Y Y (v_lss Y Y Y (wk k23 (c_if Y (fun b24 => ?_) (fun b24 => ?_))))
  ·replace H := if_t b24 H
   refine cs k22 (c_seq fun K25 k25 => c_block (c_reg (vm Y Y (vm Y Y ?_))))
   obtain ⟨g26, H⟩ := grd_s H
   refine wv Y (fun f s => r_iaI underlying198 ts5 (f.ev Y) (f.ev Y) g26.1 g26.2) (wv Y (fun f s => r_load1 ta5 (f.ev Y) (s.sub _ _ h5) (vI_get0 g26.1 g26.2)) (w_bsl (F := (FI .u8)) (es := ([rd p0.toList s16.2] : List Int)) (xs := [.tmp 12]) underlying91 te5 trivial Y Y Y Y Y (by decide) ?_))
   intro v27 M28 l29 h30 c31
   obtain ⟨g32, H⟩ := grd_s H
   refine w_app (F := (FI .u8)) (m2 := ([rd p0.toList s16.2] : List Int)) (i := 0) underlying91 te5 underlying91 (.inl ⟨_, Y⟩) trivial Y Y Y Y (Src.rs (FI.one _) h30) g32 ?_
   intro v33
   exact va Y Y (wk k25 (c_reg (vm Y Y (v_add Y Y Y (va Y Y (w_nil fun a w' f s => ⟨_, (some_r H).symm, v33, _, l19.trans l29, f.pk Y, s.selD [some 0] (by decide) Y⟩))))))
  replace H := if_f b24 H
  replace H := map_inr H r20
  refine c_exit ?_
  intro a w' f s
  exact ⟨s16.1, v17, _, l19, f.pk Y, s.selD [some 0] (by decide) Y, H⟩
 rintro a w' ⟨x7, v8, M9, l10, f, s, H⟩
 refine cof f s ?_
 unfold ref02_Bytes32.j1 at H
 refine c_sr fun _ k11 => vm Y Y (w_give 0 Y (fun _ h => h) ?_)
 intro M12 l13 h14
 refine wv Y (fun f s => r_b2s underlying91 underlying5 underlying9 h14 s.sub (f.ev Y)) (va Y Y (wk k11 ?_))
 obtain rfl := some_r H
 exact cx1 hret Y Y Y Y
theorem ref02_padKey.callsR (hM : Sub M w) (hG : Gl M) (p0 : (List UInt8)) (p1 : Int) (r : (List Int)) (H : ref02_padKey p0 p1 = some r) :
  Calls prog 164 [str p0, .int .u8 p1].toArray w (PostI none' M w fun M' x v => x = rowI (FI .u8) v 5 r) := by
 refine enterR 35 [(0, str p0), (1, .int .u8 p1)] func164 Y Y Y hM ?_
 intro Q hret
 unfold ref02_padKey at H
 refine c_sr fun _ k1 => va Y Y (wk k1 (c_sr fun _ k2 => vm Y Y (va Y Y (wk k2 ?_))))
 refine c_cut (fun a' w' => ∃ (x3 : (List UInt8)) (M4 : Heap), HLe M M4 ∧ Fr 35 [(1, .int .u8 p1), (5, str x3)] a' ∧ St none' M w M4 (lt []) w' ∧ ref02_padKey.j4 x3 p1 = some r) ?_ ?_
 ·refine c_seq ?_
  intro K37 k37
  refine c_reg (vm Y Y (wv Y (fun f s => r_slen underlying9 (f.ev Y)) (wv Y (fun f s => r_gtr (f.ev Y) (f.ev Y)) (wk k37 (c_if Y (fun b38 => ?_) (fun b38 => ?_))))))
  ·replace H := if_t b38 H
   refine c_reg (vm Y Y (w_s2b underlying9 underlying91 underlying5 trivial Y Y ?_))
   intro v39 M40 l41 h42
   replace hG := hG.mono l41
   obtain ⟨t43, e48, H⟩ := bnd H
   refine w_call cf166 trivial Y Y (fun w s => ref02_Sum.calls s hG (bytesI p0) v39 h42 _ e48) ?_
   rintro _ M45 l46 rfl
   obtain ⟨t49, e54, H⟩ := bnd H
   refine w_call cf165 trivial Y Y (fun w s => ref02_Bytes32.calls s t43 _ e54) ?_
   rintro _ M51 l52 rfl
   exact va Y Y (w_nil fun a w' f s => ⟨t49, _, l41.trans (l46.trans l52), f.pk Y, s.selD [] (by decide) Y, H⟩)
  replace H := if_f b38 H
  refine c_skip ?_
  intro a w' f s
  exact ⟨p0, _, HLe.refl _, f.pk Y, s.selD [] (by decide) Y, H⟩
 rintro a w' ⟨x3, M4, l5, f, s, H⟩
 refine cof f s ?_
 unfold ref02_padKey.j4 at H
 refine c_sr fun _ k6 => va Y Y (wk k6 (c_row0 5 1 ?_))
 refine c_cut (fun a' w' => ∃ (x7 : (List Int)) (v8 : Value) (M9 : Heap), HLe M4 M9 ∧ Fr 35 [(6, v8)] a' ∧ St none' M w M9 (lt [rowI (FI .u8) v8 5 x7]) w' ∧ ref02_padKey.j1 x7 = some r) ?_ ?_
 ·refine c_seq ?_
  intro K12 k12
  refine c_reg (va Y Y (wk k12 (c_block ?_)))
  refine c_loop (fun (s13 : ((List Int) × Int)) a' w' => ∃ (v14 : Value) (M15 : Heap), HLe M4 M15 ∧ Fr 35 [(1, .int .u8 p1), (5, str x3), (6, v14), (7, .int .i64 s13.2)] a' ∧ St none' M w M15 (lt [rowI (FI .u8) v14 5 s13.1]) w') (([] : (List Int)), 0) H ?_ ?_
  ·intro a w' f s
   exact ⟨.slice none 0 0, _, HLe.refl _, f.pk Y, s.selD [some 0] (by decide) Y⟩
  intro s13 y18 H r17 a w' hJ
  obtain ⟨v14, M15, l16, f, s⟩ := hJ
  refine cof f s ?_
  unfold ref02_padKey.l3 at H
  refine c_seq fun K19 k19 => c_sr fun _ k20 => vm Y Y (v_lss Y Y Y (wk k20 (c_if Y (fun b21 => ?_) (fun b21 => ?_))))
  ·replace H := if_t b21 H
   refine cs k19 (c_seq fun K22 k22 => c_block (c_sr fun _ k23 => va Y Y (wk k23 ?_)))
   refine c_cut (fun a' w' => ∃ (x24 : Int) (M25 : Heap), HLe M15 M25 ∧ Fr 35 [(1, .int .u8 p1), (5, str x3), (6, v14), (7, .int .i64 s13.2), (8, .int .u8 x24)] a' ∧ St none' M w M25 (lt [rowI (FI .u8) v14 5 s13.1]) w' ∧ ref02_padKey.j2 s13 x24 p1 = some y18) ?_ ?_
   ·refine c_seq ?_
    intro K34 k34
    refine c_reg (vm Y Y (vm Y Y (wv Y (fun f s => r_slen underlying9 (f.ev Y)) (v_lss Y Y Y (wk k34 (c_if Y (fun b35 => ?_) (fun b35 => ?_)))))))
    ·replace H := if_t b35 H
     refine c_reg (vm Y Y (vm Y Y ?_))
     obtain ⟨g36, H⟩ := grd_s H
     exact wv Y (fun f s => r_sidx underlying9 (f.ev Y) (f.ev Y) g36.1 g36.2) (va Y Y (w_nil fun a w' f s => ⟨sbyte x3 s13.2, _, HLe.refl _, f.pk Y, s.selD [some 0] (by decide) Y, H⟩))
    replace H := if_f b35 H
    refine c_skip ?_
    intro a w' f s
    exact ⟨0, _, HLe.refl _, f.pk Y, s.selD [some 0] (by decide) Y, H⟩
   rintro a w' ⟨x24, M25, l26, f, s, H⟩
   refine cof f s ?_
   unfold ref02_padKey.j2 at H
   refine c_reg (vm Y Y (vm Y Y (vm Y Y (wv Y (fun f s => r_xor (f.ev Y) (f.ev Y)) (w_bsl (F := (FI .u8)) (es := ([bits .xor .u8 x24 p1] : List Int)) (xs := [.tmp 31]) underlying91 te5 trivial Y Y Y Y Y (by decide) ?_)))))
   intro v27 M28 l29 h30 c31
   obtain ⟨g32, H⟩ := grd_s H
   refine w_app (F := (FI .u8)) (m2 := ([bits .xor .u8 x24 p1] : List Int)) (i := 0) underlying91 te5 underlying91 (.inl ⟨_, Y⟩) trivial Y Y Y Y (Src.rs (FI.one _) h30) g32 ?_
   intro v33
   exact va Y Y (wk k22 (c_reg (vm Y Y (v_add Y Y Y (va Y Y (w_nil fun a w' f s => ⟨_, (some_r H).symm, v33, _, l16.trans (l26.trans l29), f.pk Y, s.selD [some 0] (by decide) Y⟩))))))
  replace H := if_f b21 H
  replace H := map_inr H r17
  refine c_exit ?_
  intro a w' f s
  exact ⟨s13.1, v14, _, l16, f.pk Y, s.selD [some 0] (by decide) Y, H⟩
 rintro a w' ⟨x7, v8, M9, l10, f, s, H⟩
 refine cof f s ?_
 unfold ref02_padKey.j1 at H
 refine c_sr fun _ k11 => vm Y Y (va Y Y (wk k11 ?_))
 obtain rfl := some_r H
 exact cx hret Y fun f s => ⟨_, _, _, Res.of1 Y (RV.t f Y), s.sel [0] (by decide) Y, Y⟩
theorem ref02_Mac.calls (hM : Sub M w) (hG : Gl M) (p0 : (List UInt8)) (p1 : (List UInt8)) (r : (List UInt8)) (H : ref02_Mac p0 p1 = some r) :
  Calls prog 120 [str p0, str p1].toArray w (Post M w fun M' v => v = (str r)) := by
 refine enter 22 [(0, str p0), (1, str p1)] func120 Y Y Y hM ?_
 intro Q hret
 unfold ref02_Mac at H
 refine c_sr fun _ k1 => va Y Y (wk k1 (c_sr fun _ k2 => vm Y Y ?_))
 obtain ⟨t3, e4, H⟩ := bnd H
 refine w_callR cf164 trivial Y Y (fun w s => ref02_padKey.callsR s hG p0 54 _ e4) ?_
 rintro v7 M5 _ l6 rfl
 replace hG := hG.mono l6
 refine va Y Y (wk k2 (c_sr fun _ k8 => vm Y Y (vm Y Y ?_)))
 obtain ⟨g9, H⟩ := grd_s H
 refine w_app (F := (FI .u8)) (m2 := (bytesI p1)) (i := 0) underlying91 te5 underlying9 (.inr Y) trivial Y Y Y Y (srcStrB _) g9 ?_
 intro v10
 refine va Y Y (wk k8 (c_sr fun _ k11 => vm Y Y ?_))
 obtain ⟨t12, e13, H⟩ := bnd H
 refine w_callR cf164 trivial Y Y (fun w s => ref02_padKey.callsR s hG p0 92 _ e13) ?_
 rintro v16 M14 _ l15 rfl
 replace hG := hG.mono l15
 refine va Y Y (wk k11 (c_sr fun _ k17 => vm Y Y (vm Y Y ?_)))
 obtain ⟨t21, e26, H⟩ := bnd H
 refine w_give 0 Y (fun _ h => h) ?_
 intro M18 l19 h20
 replace hG := hG.mono l19
 refine w_call cf166 trivial Y Y (fun w s => ref02_Sum.calls s hG (t3 ++ (bytesI p1)) v10 h20 _ e26) ?_
 rintro _ M23 l24 rfl
 replace hG := hG.mono l24
 obtain ⟨t27, e32, H⟩ := bnd H
 refine w_call cf165 trivial Y Y (fun w s => ref02_Bytes32.calls s t21 _ e32) ?_
 rintro _ M29 l30 rfl
 replace hG := hG.mono l30
 obtain ⟨g33, H⟩ := grd_s H
 refine w_app (F := (FI .u8)) (m2 := (bytesI t27)) (i := 1) underlying91 te5 underlying9 (.inr Y) trivial Y Y Y Y (srcStrB _) g33 ?_
 intro v34
 refine va Y Y (wk k17 (c_sr fun _ k35 => vm Y Y ?_))
 obtain ⟨t39, e44, H⟩ := bnd H
 refine w_give 1 Y (fun _ h => h) ?_
 intro M36 l37 h38
 replace hG := hG.mono l37
 refine w_call cf166 trivial Y Y (fun w s => ref02_Sum.calls s hG (t12 ++ (bytesI t27)) v34 h38 _ e44) ?_
 rintro _ M41 l42 rfl
 obtain ⟨t45, e50, H⟩ := bnd H
 refine w_call cf165 trivial Y Y (fun w s => ref02_Bytes32.calls s t39 _ e50) ?_
 rintro _ M47 l48 rfl
 refine va Y Y (wk k35 ?_)
 obtain rfl := some_r H
 exact cx1 hret Y Y Y Y
theorem ref05_Derive.calls (hM : Sub M w) (hG : Gl M) (p0 : (List UInt8)) (p1 : (List UInt8)) (p2 : (List (List UInt8))) (v1 : Value) (h2 : RS FS M v1 p2) (r : (List UInt8)) (H : ref05_Derive p0 p1 p2 = some r) :
  Calls prog 58 [str p0, str p1, v1].toArray w (Post M w fun M' v => v = (str r)) := by
 refine enter 12 [(0, str p0), (1, str p1), (2, v1)] func58 Y Y Y hM ?_
 intro Q hret
 unfold ref05_Derive at H
 refine c_sr fun _ k3 => va Y Y (wk k3 (c_sr fun _ k4 => vm Y Y (vm Y Y (vm Y Y ?_))))
 obtain ⟨t5, e10, H⟩ := bnd H
 refine w_call cf121 trivial Y Y (fun w s => ref05_Input.calls s p1 p2 v1 h2 _ e10) ?_
 rintro _ M7 l8 rfl
 replace hG := hG.mono l8
 obtain ⟨t11, e16, H⟩ := bnd H
 refine w_call cf120 trivial Y Y (fun w s => ref02_Mac.calls s hG p0 t5 _ e16) ?_
 rintro _ M13 l14 rfl
 refine va Y Y (wk k4 ?_)
 obtain rfl := some_r H
 exact cx1 hret Y Y Y Y
theorem ref04_Keys.calls (hM : Sub M w) (hG : Gl M) (p0 : (List UInt8)) (r : ((List UInt8) × (List UInt8) × Int)) (H : ref04_Keys p0 = some r) :
  Calls prog 116 [str p0].toArray w (Post M w fun M' v => v = .tuple #[str r.1, str r.2.1, .int .i64 r.2.2]) := by
 refine enter 12 [(0, str p0)] func116 Y Y Y hM ?_
 intro Q hret
 unfold ref04_Keys at H
 refine c_sr fun _ k1 => va Y Y (va Y Y (va Y Y (wk k1 (c_seq fun K2 k2 => c_sr fun _ k3 => vm Y Y (wv Y (fun f s => r_slen underlying9 (f.ev Y)) (wv Y (fun f s => r_neq (f.ev Y) (f.ev Y)) (wk k3 (c_if Y (fun b4 => ?_) (fun b4 => ?_)))))))))
 ·replace H := if_t b4 H
  refine c_sr fun _ k5 => va Y Y (va Y Y (va Y Y (wk k5 ?_)))
  obtain rfl := some_r H
  exact cx3 hret Y Y Y Y Y Y
 replace H := if_f b4 H
 refine cs k2 (c_sr fun _ k6 => vm Y Y ?_)
 obtain ⟨t7, e12, H⟩ := bnd H
 refine w_call cf120 trivial Y Y (fun w s => ref02_Mac.calls s hG p0 ([101, 110, 99] : List UInt8) _ e12) ?_
 rintro _ M9 l10 rfl
 replace hG := hG.mono l10
 refine vm Y Y ?_
 obtain ⟨t13, e18, H⟩ := bnd H
 refine w_call cf120 trivial Y Y (fun w s => ref02_Mac.calls s hG p0 ([109, 97, 99] : List UInt8) _ e18) ?_
 rintro _ M15 l16 rfl
 refine va Y Y (va Y Y (va Y Y (wk k6 ?_)))
 obtain rfl := some_r H
 exact cx3 hret Y Y Y Y Y Y
theorem ref04_nonce.calls (hM : Sub M w) (hG : Gl M) (p0 : (List UInt8)) (p1 : (List UInt8)) (p2 : (List UInt8)) (r : (List UInt8)) (H : ref04_nonce p0 p1 p2 = some r) :
  Calls prog 117 [str p0, str p1, str p2].toArray w (Post M w fun M' v => v = (str r)) := by
 refine enter 16 [(0, str p0), (1, str p1), (2, str p2)] func117 Y Y Y hM ?_
 intro Q hret
 unfold ref04_nonce at H
 refine c_sr fun _ k1 => va Y Y (wk k1 (c_sr fun _ k2 => vm Y Y (vm Y Y ?_)))
 obtain ⟨t3, e8, H⟩ := bnd H
 refine w_call cf60 trivial Y Y (fun w s => ref01_Bytes.calls s p1 _ e8) ?_
 rintro v20 M5 l6 ⟨v9, hv_, h10⟩
 replace hv_ := hv_.symm
 subst hv_
 replace hG := hG.mono l6
 refine wv Y (fun f s => r_b2s underlying91 underlying5 underlying9 h10 s.sub (f.ev Y)) ?_
 obtain ⟨g11, H⟩ := grd_s H
 refine wv Y (fun f s => r_sadd (f.ev Y) (f.ev Y) g11) (vm Y Y ?_)
 obtain ⟨g12, H⟩ := grd_s H
 refine wv Y (fun f s => r_sadd (f.ev Y) (f.ev Y) g12) ?_
 obtain ⟨t13, e18, H⟩ := bnd H
 refine w_call cf120 trivial Y Y (fun w s => ref02_Mac.calls s hG p0 ((([110, 111, 110, 99, 101] : List UInt8) ++ (intsB t3)) ++ p2) _ e18) ?_
 rintro _ M15 l16 rfl
 obtain ⟨g19, H⟩ := grd_s H
 refine wv Y (fun f s => r_sslice underlying9 (f.ev Y) Y ⟨_, f.ev Y⟩ g19.1 g19.2.1 g19.2.2) (va Y Y (wk k2 ?_))
 obtain rfl := some_r H
 exact cx1 hret Y Y Y Y
theorem ref03_word.calls (hM : Sub M w) (p0 : (List UInt8)) (r : Int) (H : ref03_word p0 = some r) :
  Calls prog 187 [str p0].toArray w (Post M w fun M' v => v = (.int .u32 r)) := by
 refine enter 21 [(0, str p0)] func187 Y Y Y hM ?_
 intro Q hret
 unfold ref03_word at H
 refine c_sr fun _ k1 => va Y Y (wk k1 (c_seq fun K2 k2 => ?_))
 obtain ⟨g8, H⟩ := grd_s H
 obtain ⟨g17, H⟩ := grd_s H
 obtain ⟨g33, H⟩ := grd_s H
 obtain ⟨g49, H⟩ := grd_s H
 refine cV [([], [0]), ([(0, 3)], []), ([(1, 4)], []), ([], [0]), ([(3, 6)], []), ([(4, 7)], []), ([(5, 8)], []), ([(2, 5), (6, 9)], []), ([], [0]), ([(8, 11)], []), ([(9, 12)], []), ([(10, 13)], []), ([(7, 10), (11, 14)], []), ([], [0]), ([(13, 16)], []), ([(14, 17)], []), ([(15, 18)], []), ([(12, 15), (16, 19)], []), ([(17, 20)], [])] (by kernel_rfl) (aV (pz Y fun _ f s => r_move (f.ev Y)) (aV (pz Y fun _ f s => r_sidx underlying9 (f.ev Y) (f.ev Y) g8.1 g8.2) (aV (pz Y fun _ f s => r_conv underlying5 underlying169 (f.ev Y)) (aV (pz Y fun _ f s => r_move (f.ev Y)) (aV (pz Y fun _ f s => r_sidx underlying9 (f.ev Y) (f.ev Y) g17.1 g17.2) (aV (pz Y fun _ f s => r_conv underlying5 underlying169 (f.ev Y)) (aV (pz Y fun _ f s => r_shl (f.ev Y) (f.ev Y) (by decide)) (aV (pz Y fun _ f s => r_add (f.ev Y) (f.ev Y)) (aV (pz Y fun _ f s => r_move (f.ev Y)) (aV (pz Y fun _ f s => r_sidx underlying9 (f.ev Y) (f.ev Y) g33.1 g33.2) (aV (pz Y fun _ f s => r_conv underlying5 underlying169 (f.ev Y)) (aV (pz Y fun _ f s => r_shl (f.ev Y) (f.ev Y) (by decide)) (aV (pz Y fun _ f s => r_add (f.ev Y) (f.ev Y)) (aV (pz Y fun _ f s => r_move (f.ev Y)) (aV (pz Y fun _ f s => r_sidx underlying9 (f.ev Y) (f.ev Y) g49.1 g49.2) (aV (pz Y fun _ f s => r_conv underlying5 underlying169 (f.ev Y)) (aV (pz Y fun _ f s => r_shl (f.ev Y) (f.ev Y) (by decide)) (aV (pz Y fun _ f s => r_add (f.ev Y) (f.ev Y)) (aV (pz Y fun _ f s => r_assign (f.ev Y)) aV0))))))))))))))))))) Y fun M63 l64 => ?_
 refine ni k2 ?_
 obtain rfl := some_r H
 exact cx1 hret Y Y Y Y
theorem ref03_State.calls (hM : Sub M w) (p0 : (List UInt8)) (p1 : Int) (p2 : (List UInt8)) (r : ((Vector Int 16) × Int)) (H : ref03_State p0 p1 p2 = some r) :
  Calls prog 162 [str p0, .int .u32 p1, str p2].toArray w (Post M w fun M' v => v = .tuple #[.agg (vI .u32 r.1).toArray, .int .i64 r.2]) := by
 refine enter 51 [(0, str p0), (1, .int .u32 p1), (2, str p2)] func162 Y Y Y hM ?_
 intro Q hret
 unfold ref03_State at H
 refine c_sr fun _ k1 => w_allocL (A := vI .u32 (replicate 16 0)) tz209 trivial Y Y ?_
 intro b2
 refine va Y Y (wk k1 (c_sr fun _ k3 => w_allocL (A := vI .u32 (replicate 16 0)) tz209 trivial Y Y ?_))
 intro b4
 refine wk k3 (c_seq fun K5 k5 => ?_)
 obtain ⟨t6, H1, H⟩ := bnd H
 refine c_cut (fun a' w' => ∃ (M7 : Heap), HLe M M7 ∧ Fr 51 [(0, str p0), (1, .int .u32 p1), (2, str p2), (6, ptr b2 0), (8, ptr b4 0), (18, .bool t6)] a' ∧ St none' M w M7 (lt [bk b2 (vI .u32 (replicate 16 0)) 209, bk b4 (vI .u32 (replicate 16 0)) 209]) w') ?_ ?_
 ·replace H := H1
  refine c_reg (vm Y Y (wv Y (fun f s => r_slen underlying9 (f.ev Y)) (wv Y (fun f s => r_neq (f.ev Y) (f.ev Y)) (vm Y Y ?_))))
  by_cases b9 : ((p0.length : Int) != 32) = true
  ·replace H := if_t b9 H
   refine wq b9 Y Y Y (wq b9 Y Y Y (wq b9 Y Y Y (wv Y (fun f s => r_pickT (f.ev Y) b9 (f.ev Y)) ?_)))
   obtain rfl := some_r H
   exact w_nil fun a w' f s => ⟨_, HLe.refl _, f.pk Y, s.sel [0, 1] (by decide) Y⟩
  replace b9 := Bool.eq_false_iff.2 b9
  replace H := if_f b9 H
  refine wg b9 Y Y Y (fun f s => r_move (f.ev Y)) (wg b9 Y Y Y (fun f s => r_slen underlying9 (f.ev Y)) (wg b9 Y Y Y (fun f s => r_neq (f.ev Y) (f.ev Y)) (wv Y (fun f s => r_pickF (f.ev Y) b9 (f.ev Y)) ?_)))
  obtain rfl := some_r H
  exact w_nil fun a w' f s => ⟨_, HLe.refl _, f.pk Y, s.sel [0, 1] (by decide) Y⟩
 rintro a w' ⟨M7, l8, f, s⟩
 refine cof f s ?_
 refine c_if Y (fun b10 => ?_) (fun b10 => ?_)
 ·replace H := if_t b10 H
  refine c_sr fun _ k11 => wv Y (fun f s => r_loadA ta209 ts209 (f.ev Y) (s.blk (i := 1) Y) (vI_all _) (vI_len _)) (w_store (i := 0) (A' := vI .u32 (replicate 16 0)) trivial Y Y Y Y ts209 (vI_len _) (vI_one _) (by rw [vI_len]; decide) (vI_whole _ _) (va Y Y (wk k11 ?_)))
  obtain rfl := some_r H
  exact cx hret Y fun f s => ⟨_, _, Res.of2 Y ⟨_, f.get _ _ Y, run_loadA (s.blk (i := 0) Y) ta209 ts209 (vI_all _) (vI_len _)⟩ (RV.t f Y), s.ext, Y⟩
 replace H := if_f b10 H
 refine cs k5 (c_sr fun _ k12 => wv Y (fun f s => r_iaI underlying209 ts169 (f.ev Y) (f.ev Y) (by decide : (0 : Int) ≤ 0) (by decide : (0 : Int) < ((16 : Nat) : Int))) (w_store (i := 1) (A' := vI .u32 (vs (replicate 16 0) 0 1634760805)) trivial Y Y Y Y ts169 Y (one1 Y) (idx_le (by decide : (0 : Int) ≤ 0) (by decide : (0 : Int) < ((16 : Nat) : Int)) (vI_len _) (by decide)) (vI_set0 (by decide : (0 : Int) ≤ 0) (by decide : (0 : Int) < ((16 : Nat) : Int))) (wk k12 (c_sr fun _ k13 => wv Y (fun f s => r_iaI underlying209 ts169 (f.ev Y) (f.ev Y) (by decide : (0 : Int) ≤ 1) (by decide : (1 : Int) < ((16 : Nat) : Int))) (w_store (i := 1) (A' := vI .u32 (vs (vs (replicate 16 0) 0 1634760805) 1 857760878)) trivial Y Y Y Y ts169 Y (one1 Y) (idx_le (by decide : (0 : Int) ≤ 1) (by decide : (1 : Int) < ((16 : Nat) : Int)) (vI_len _) (by decide)) (vI_set0 (by decide : (0 : Int) ≤ 1) (by decide : (1 : Int) < ((16 : Nat) : Int))) (wk k13 (c_sr fun _ k14 => wv Y (fun f s => r_iaI underlying209 ts169 (f.ev Y) (f.ev Y) (by decide : (0 : Int) ≤ 2) (by decide : (2 : Int) < ((16 : Nat) : Int))) ?_)))))))
 refine w_store (i := 1) (A' := vI .u32 (vs (vs (vs (replicate 16 0) 0 1634760805) 1 857760878) 2 2036477234)) trivial Y Y Y Y ts169 Y (one1 Y) (idx_le (by decide : (0 : Int) ≤ 2) (by decide : (2 : Int) < ((16 : Nat) : Int)) (vI_len _) (by decide)) (vI_set0 (by decide : (0 : Int) ≤ 2) (by decide : (2 : Int) < ((16 : Nat) : Int))) (wk k14 (c_sr fun _ k15 => wv Y (fun f s => r_iaI underlying209 ts169 (f.ev Y) (f.ev Y) (by decide : (0 : Int) ≤ 3) (by decide : (3 : Int) < ((16 : Nat) : Int))) ?_))
 obtain ⟨z16, e17, H⟩ := bnd H
 have e18 := some_r e17
 refine w_store (i := 1) (A' := vI .u32 z16) trivial Y Y Y Y ts169 Y (one1 Y) (idx_le (by decide : (0 : Int) ≤ 3) (by decide : (3 : Int) < ((16 : Nat) : Int)) (vI_len _) (by decide)) (by rw [← e18]; exact (vI_set0 (by decide : (0 : Int) ≤ 3) (by decide : (3 : Int) < ((16 : Nat) : Int)))) ?_
 refine wk k15 ?_
 refine c_cut (fun a' w' => ∃ (x19 : (Vector Int 16)) (M20 : Heap), HLe M7 M20 ∧ Fr 51 [(1, .int .u32 p1), (2, str p2), (6, ptr b2 0), (8, ptr b4 0)] a' ∧ St none' M w M20 (lt [bk b2 (vI .u32 (replicate 16 0)) 209, bk b4 (vI .u32 x19) 209]) w' ∧ ref03_State.j3 p2 x19 p1 = some r) ?_ ?_
 ·refine c_seq ?_
  intro K45 k45
  refine c_reg (va Y Y (wk k45 (c_block ?_)))
  refine c_loop (fun (s46 : ((Vector Int 16) × Int)) a' w' => ∃ (M47 : Heap), HLe M7 M47 ∧ Fr 51 [(0, str p0), (1, .int .u32 p1), (2, str p2), (6, ptr b2 0), (8, ptr b4 0), (9, .int .i64 s46.2)] a' ∧ St none' M w M47 (lt [bk b2 (vI .u32 (replicate 16 0)) 209, bk b4 (vI .u32 s46.1) 209]) w') (z16, 0) H ?_ ?_
  ·intro a w' f s
   exact ⟨_, HLe.refl _, f.pk Y, s.selD [some 0, some 1] (by decide) Y⟩
  intro s46 y50 H r49 a w' hJ
  obtain ⟨M47, l48, f, s⟩ := hJ
  refine cof f s ?_
  unfold ref03_State.l4 at H
  refine c_seq fun K51 k51 => c_sr fun _ k52 => vm Y Y (v_lss Y Y Y (wk k52 (c_if Y (fun b53 => ?_) (fun b53 => ?_))))
  ·replace H := if_t b53 H
   refine cs k51 (c_seq fun K54 k54 => c_block (c_reg (vm Y Y (v_add Y Y Y (vm Y Y (vm Y Y (wv Y (fun f s => r_mul (f.ev Y) (f.ev Y)) ?_)))))))
   obtain ⟨g55, H⟩ := grd_s H
   refine wv Y (fun f s => r_sslice underlying9 (f.ev Y) ⟨_, f.ev Y⟩ rfl g55.1 g55.2.1 g55.2.2) ?_
   obtain ⟨t56, e61, H⟩ := bnd H
   refine w_call cf187 trivial Y Y (fun w s => ref03_word.calls s ((p0.take ((p0.length : Int)).toNat).drop (i64.wrap (4 * s46.2)).toNat) _ e61) ?_
   rintro _ M58 l59 rfl
   obtain ⟨g62, H⟩ := grd_s H
   exact wv Y (fun f s => r_iaI underlying209 ts169 (f.ev Y) (f.ev Y) g62.1 g62.2) (w_store (i := 1) (A' := vI .u32 (vs s46.1 (i64.wrap (4 + s46.2)) t56)) trivial Y Y Y Y ts169 Y (one1 Y) (idx_le g62.1 g62.2 (vI_len _) (by decide)) (vI_set0 g62.1 g62.2) (wk k54 (c_reg (vm Y Y (v_add Y Y Y (va Y Y (w_nil fun a w' f s => ⟨_, (some_r H).symm, _, l48.trans l59, f.pk Y, s.selD [some 0, some 1] (by decide) Y⟩)))))))
  replace H := if_f b53 H
  replace H := map_inr H r49
  refine c_exit ?_
  intro a w' f s
  exact ⟨s46.1, _, l48, f.pk Y, s.selD [some 0, some 1] (by decide) Y, H⟩
 rintro a w' ⟨x19, M20, l21, f, s, H⟩
 refine cof f s ?_
 unfold ref03_State.j3 at H
 refine c_sr fun _ k22 => vm Y Y (wv Y (fun f s => r_iaI underlying209 ts169 (f.ev Y) (f.ev Y) (by decide : (0 : Int) ≤ 12) (by decide : (12 : Int) < ((16 : Nat) : Int))) (w_store (i := 1) (A' := vI .u32 (vs x19 12 p1)) trivial Y Y Y Y ts169 Y (one1 Y) (idx_le (by decide : (0 : Int) ≤ 12) (by decide : (12 : Int) < ((16 : Nat) : Int)) (vI_len _) (by decide)) (vI_set0 (by decide : (0 : Int) ≤ 12) (by decide : (12 : Int) < ((16 : Nat) : Int))) (wk k22 ?_)))
 refine c_cut (fun a' w' => ∃ (x23 : (Vector Int 16)) (M24 : Heap), HLe M20 M24 ∧ Fr 51 [(6, ptr b2 0), (8, ptr b4 0)] a' ∧ St none' M w M24 (lt [bk b2 (vI .u32 (replicate 16 0)) 209, bk b4 (vI .u32 x23) 209]) w' ∧ ref03_State.j1 x23 = some r) ?_ ?_
 ·refine c_seq ?_
  intro K27 k27
  refine c_reg (va Y Y (wk k27 (c_block ?_)))
  refine c_loop (fun (s28 : ((Vector Int 16) × Int)) a' w' => ∃ (M29 : Heap), HLe M20 M29 ∧ Fr 51 [(2, str p2), (6, ptr b2 0), (8, ptr b4 0), (10, .int .i64 s28.2)] a' ∧ St none' M w M29 (lt [bk b2 (vI .u32 (replicate 16 0)) 209, bk b4 (vI .u32 s28.1) 209]) w') (vs x19 12 p1, 0) H ?_ ?_
  ·intro a w' f s
   exact ⟨_, HLe.refl _, f.pk Y, s.selD [some 0, some 1] (by decide) Y⟩
  intro s28 y32 H r31 a w' hJ
  obtain ⟨M29, l30, f, s⟩ := hJ
  refine cof f s ?_
  unfold ref03_State.l2 at H
  refine c_seq fun K33 k33 => c_sr fun _ k34 => vm Y Y (v_lss Y Y Y (wk k34 (c_if Y (fun b35 => ?_) (fun b35 => ?_))))
  ·replace H := if_t b35 H
   refine cs k33 (c_seq fun K36 k36 => c_block (c_reg (vm Y Y (v_add Y Y Y (vm Y Y (vm Y Y (wv Y (fun f s => r_mul (f.ev Y) (f.ev Y)) ?_)))))))
   obtain ⟨g37, H⟩ := grd_s H
   refine wv Y (fun f s => r_sslice underlying9 (f.ev Y) ⟨_, f.ev Y⟩ rfl g37.1 g37.2.1 g37.2.2) ?_
   obtain ⟨t38, e43, H⟩ := bnd H
   refine w_call cf187 trivial Y Y (fun w s => ref03_word.calls s ((p2.take ((p2.length : Int)).toNat).drop (i64.wrap (4 * s28.2)).toNat) _ e43) ?_
   rintro _ M40 l41 rfl
   obtain ⟨g44, H⟩ := grd_s H
   exact wv Y (fun f s => r_iaI underlying209 ts169 (f.ev Y) (f.ev Y) g44.1 g44.2) (w_store (i := 1) (A' := vI .u32 (vs s28.1 (i64.wrap (13 + s28.2)) t38)) trivial Y Y Y Y ts169 Y (one1 Y) (idx_le g44.1 g44.2 (vI_len _) (by decide)) (vI_set0 g44.1 g44.2) (wk k36 (c_reg (vm Y Y (v_add Y Y Y (va Y Y (w_nil fun a w' f s => ⟨_, (some_r H).symm, _, l30.trans l41, f.pk Y, s.selD [some 0, some 1] (by decide) Y⟩)))))))
  replace H := if_f b35 H
  replace H := map_inr H r31
  refine c_exit ?_
  intro a w' f s
  exact ⟨s28.1, _, l30, f.pk Y, s.selD [some 0, some 1] (by decide) Y, H⟩
 rintro a w' ⟨x23, M24, l25, f, s, H⟩
 refine cof f s ?_
 unfold ref03_State.j1 at H
 refine c_sr fun _ k26 => wv Y (fun f s => r_loadA ta209 ts209 (f.ev Y) (s.blk (i := 1) Y) (vI_all _) (vI_len _)) (w_store (i := 0) (A' := vI .u32 x23) trivial Y Y Y Y ts209 (vI_len _) (vI_one _) (by rw [vI_len]; decide) (vI_whole _ _) (va Y Y (wk k26 ?_)))
 obtain rfl := some_r H
 exact cx hret Y fun f s => ⟨_, _, Res.of2 Y ⟨_, f.get _ _ Y, run_loadA (s.blk (i := 0) Y) ta209 ts209 (vI_all _) (vI_len _)⟩ (RV.t f Y), s.ext, Y⟩
theorem ref03_Order.calls (hM : Sub M w)  (r : (List (List Int))) (H : ref03_Order  = some r) :
  Calls prog 203 [].toArray w (Post M w fun M' v => ∃ v49, v = v49 ∧ RSS (FI .i64) M' v49 r) := by
 refine enter 10 [] func203 Y Y Y hM ?_
 intro Q hret
 unfold ref03_Order at H
 refine c_sr fun _ k1 => va Y Y (wk k1 (c_sr fun _ k2 => w_bsl (F := (FI .i64)) (es := ([0, 4, 8, 12] : List Int)) (xs := [.const (.int .i64 0), .const (.int .i64 4), .const (.int .i64 8), .const (.int .i64 12)]) underlying70 te3 trivial Y Y Y Y Y (by decide) ?_))
 intro v3 M4 l5 h6 c7
 refine w_bsl (F := (FI .i64)) (es := ([1, 5, 9, 13] : List Int)) (xs := [.const (.int .i64 1), .const (.int .i64 5), .const (.int .i64 9), .const (.int .i64 13)]) underlying70 te3 trivial Y Y Y Y Y (by decide) ?_
 intro v8 M9 l10 h11 c12
 replace h6 := h6.mono l10
 refine w_bsl (F := (FI .i64)) (es := ([2, 6, 10, 14] : List Int)) (xs := [.const (.int .i64 2), .const (.int .i64 6), .const (.int .i64 10), .const (.int .i64 14)]) underlying70 te3 trivial Y Y Y Y Y (by decide) ?_
 intro v13 M14 l15 h16 c17
 replace h6 := h6.mono l15
 replace h11 := h11.mono l15
 refine w_bsl (F := (FI .i64)) (es := ([3, 7, 11, 15] : List Int)) (xs := [.const (.int .i64 3), .const (.int .i64 7), .const (.int .i64 11), .const (.int .i64 15)]) underlying70 te3 trivial Y Y Y Y Y (by decide) ?_
 intro v18 M19 l20 h21 c22
 replace h6 := h6.mono l20
 replace h11 := h11.mono l20
 replace h16 := h16.mono l20
 refine w_bsl (F := (FI .i64)) (es := ([0, 5, 10, 15] : List Int)) (xs := [.const (.int .i64 0), .const (.int .i64 5), .const (.int .i64 10), .const (.int .i64 15)]) underlying70 te3 trivial Y Y Y Y Y (by decide) ?_
 intro v23 M24 l25 h26 c27
 replace h6 := h6.mono l25
 replace h11 := h11.mono l25
 replace h16 := h16.mono l25
 replace h21 := h21.mono l25
 refine w_bsl (F := (FI .i64)) (es := ([1, 6, 11, 12] : List Int)) (xs := [.const (.int .i64 1), .const (.int .i64 6), .const (.int .i64 11), .const (.int .i64 12)]) underlying70 te3 trivial Y Y Y Y Y (by decide) ?_
 intro v28 M29 l30 h31 c32
 replace h6 := h6.mono l30
 replace h11 := h11.mono l30
 replace h16 := h16.mono l30
 replace h21 := h21.mono l30
 replace h26 := h26.mono l30
 refine w_bsl (F := (FI .i64)) (es := ([2, 7, 8, 13] : List Int)) (xs := [.const (.int .i64 2), .const (.int .i64 7), .const (.int .i64 8), .const (.int .i64 13)]) underlying70 te3 trivial Y Y Y Y Y (by decide) ?_
 intro v33 M34 l35 h36 c37
 replace h6 := h6.mono l35
 replace h11 := h11.mono l35
 replace h16 := h16.mono l35
 replace h21 := h21.mono l35
 replace h26 := h26.mono l35
 replace h31 := h31.mono l35
 refine w_bsl (F := (FI .i64)) (es := ([3, 4, 9, 14] : List Int)) (xs := [.const (.int .i64 3), .const (.int .i64 4), .const (.int .i64 9), .const (.int .i64 14)]) underlying70 te3 trivial Y Y Y Y Y (by decide) ?_
 intro v38 M39 l40 h41 c42
 replace h6 := h6.mono l40
 replace h11 := h11.mono l40
 replace h16 := h16.mono l40
 replace h21 := h21.mono l40
 replace h26 := h26.mono l40
 replace h31 := h31.mono l40
 replace h36 := h36.mono l40
 refine w_bsl (F := FVl) (es := [v3, v8, v13, v18, v23, v28, v33, v38]) (xs := [.tmp 1, .tmp 2, .tmp 3, .tmp 4, .tmp 5, .tmp 6, .tmp 7, .tmp 8]) underlying254 te70 trivial Y Y Y Y (RSL.cells (F := (FI .i64)) (M := M39) (L := ([([0, 4, 8, 12] : List Int), ([1, 5, 9, 13] : List Int), ([2, 6, 10, 14] : List Int), ([3, 7, 11, 15] : List Int), ([0, 5, 10, 15] : List Int), ([1, 6, 11, 12] : List Int), ([2, 7, 8, 13] : List Int), ([3, 4, 9, 14] : List Int)] : (List (List Int)))) (.cons h6 (.cons h11 (.cons h16 (.cons h21 (.cons h26 (.cons h31 (.cons h36 (.cons h41 .nil))))))))) (by decide) ?_
 intro v43 M44 l45 h46 c47
 replace h6 := h6.mono l45
 replace h11 := h11.mono l45
 replace h16 := h16.mono l45
 replace h21 := h21.mono l45
 replace h26 := h26.mono l45
 replace h31 := h31.mono l45
 replace h36 := h36.mono l45
 replace h41 := h41.mono l45
 have h48 : RSS (FI .i64) M44 v43 ([([0, 4, 8, 12] : List Int), ([1, 5, 9, 13] : List Int), ([2, 6, 10, 14] : List Int), ([3, 7, 11, 15] : List Int), ([0, 5, 10, 15] : List Int), ([1, 6, 11, 12] : List Int), ([2, 7, 8, 13] : List Int), ([3, 4, 9, 14] : List Int)] : (List (List Int))) := RSS.of h46 (.cons h6 (.cons h11 (.cons h16 (.cons h21 (.cons h26 (.cons h31 (.cons h36 (.cons h41 .nil))))))))
 refine va Y Y (wk k2 ?_)
 obtain rfl := some_r H
 exact cx1 hret Y Y Y ⟨_, Y, h48⟩
theorem ref03_rotl.calls (hM : Sub M w) (p0 : Int) (p1 : Int) (r : Int) (H : ref03_rotl p0 p1 = some r) :
  Calls prog 213 [.int .u32 p0, .int .i64 p1].toArray w (Post M w fun M' v => v = (.int .u32 r)) := by
 refine enter 13 [(0, .int .u32 p0), (1, .int .i64 p1)] func213 Y Y Y hM ?_
 intro Q hret
 unfold ref03_rotl at H
 refine c_sr fun _ k1 => va Y Y (wk k1 (c_seq fun K2 k2 => ?_))
 obtain ⟨g11, H⟩ := grd_s H
 obtain ⟨g23, H⟩ := grd_s H
 refine cV [([], [0]), ([], [1]), ([(0, 5), (1, 6)], []), ([], [0]), ([], [1]), ([(4, 9)], []), ([(3, 8), (5, 10)], []), ([(2, 7), (6, 11)], []), ([(7, 12)], [])] (by kernel_rfl) (aV (pz Y fun _ f s => r_move (f.ev Y)) (aV (pz Y fun _ f s => r_move (f.ev Y)) (aV (pz Y fun _ f s => r_shl (f.ev Y) (f.ev Y) g11) (aV (pz Y fun _ f s => r_move (f.ev Y)) (aV (pz Y fun _ f s => r_move (f.ev Y)) (aV (pz Y fun _ f s => r_sub (f.ev Y) (f.ev Y)) (aV (pz Y fun _ f s => r_shr (f.ev Y) (f.ev Y) g23) (aV (pz Y fun _ f s => r_or (f.ev Y) (f.ev Y)) (aV (pz Y fun _ f s => r_assign (f.ev Y)) aV0))))))))) Y fun M31 l32 => ni k2 ?_
 obtain rfl := some_r H
 exact cx1 hret Y Y Y Y
end Go.Cu
