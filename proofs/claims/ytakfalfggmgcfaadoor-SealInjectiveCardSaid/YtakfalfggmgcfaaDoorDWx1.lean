/- Each Go function comes to its pure function; condition: that one is defined there. -/
import Derived.Test.YtakfalfggmgcfaaDoorDWx0
import Derived.Test.YtakfalfggmgcfaaDoorDP
import Derived.Test.YtakfalfggmgcfaaDoorDS
import Derived.Shelf.Strings.Repeat
import Derived.Shelf.Strings.OnBuilder
import Derived.Ground.NamesProg
import Derived.Lib.Agree
import Derived.Test.YtakfalfggmgcfaaDoorProg
import Derived.KernelRfl
import Derived.Test.YtakfalfggmgcfaaDoorCu25
set_option linter.unusedVariables false
set_option linter.unusedSimpArgs false
set_option maxHeartbeats 4000000
/-! The walks. -/
namespace Go.Cu
open Go.Proofs Go.Proofs.Tryd Go.Shelf
set_option maxRecDepth 20000 in
theorem cipher_quarter.calls {X : Nat → Prop} {M : Heap} {w : World} {b : Nat} {p : (Vector Int 16)} {i0 : Int} {i1 : Int} {i2 : Int} {i3 : Int} (hs : St X M w M (lt [.blk b (.cells (vI .u32 p).toArray 131 (0, 0))]) w) (h00 : 0 ≤ i0) (h01 : i0 < (16 : Int)) (h10 : 0 ≤ i1) (h11 : i1 < (16 : Int)) (h20 : 0 ≤ i2) (h21 : i2 < (16 : Int)) (h30 : 0 ≤ i3) (h31 : i3 < (16 : Int)) (r : (Vector Int 16)) (H : cipher_quarter p i0 i1 i2 i3 = some r) :
    Calls Tryd.prog 134 [(ptr b (0 + (i0).toNat)), (ptr b (0 + (i1).toNat)), (ptr b (0 + (i2).toNat)), (ptr b (0 + (i3).toNat))].toArray w (PostI X M w fun M' x v => v = .tuple #[] ∧ x = .blk b (.cells (vI .u32 r).toArray 131 (0, 0))) := by
  refine enterI 80 [(0, (ptr b (0 + (i0).toNat))), (1, (ptr b (0 + (i1).toNat))), (2, (ptr b (0 + (i2).toNat))), (3, (ptr b (0 + (i3).toNat)))] Tryd.func134 rfl rfl rfl hs ?_
  clear hs
  intro Q hret
  unfold cipher_quarter at H
  refine c_seq ?_
  intro K1 hK1
  refine c_split2 6 (by kernel_rfl) (by kernel_rfl) (by kernel_rfl) (by kernel_rfl) rfl ?_
  intro K2 hK2
  refine d_drawP [([], [0]), ([(0, 8)], []), ([(1, 9)], []), ([], [1]), ([(3, 11)], []), ([(4, 12)], [])] [fun v M => v = (ptr b (0 + (i0).toNat)), fun v M => v = (ptr b (0 + (i0).toNat)), fun v M => v = (.int .u32 (rd p.toList i0)), fun v M => v = (ptr b (0 + (i1).toNat)), fun v M => v = (ptr b (0 + (i1).toNat)), fun v M => v = (.int .u32 (rd p.toList i1))] (by kernel_rfl) (by kernel_rfl) ?_ (AllT.cons ?_ (AllT.cons ?_ (AllT.cons ?_ (AllT.cons ?_ (AllT.cons ?_ (AllT.cons ?_ AllT.nil)))))) ?_
  · exact (MonoA.cons (fun _ _ _ _ h => h) (MonoA.cons (fun _ _ _ _ h => h) (MonoA.cons (fun _ _ _ _ h => h) (MonoA.cons (fun _ _ _ _ h => h) (MonoA.cons (fun _ _ _ _ h => h) (MonoA.cons (fun _ _ _ _ h => h) MonoA.nil))))))
  · intro a w' M3 l4 hd hs
    refine OP.ofW (l := [(0, (ptr b (0 + (i0).toNat)))]) (hd.fr.add (hd.base 0 _ rfl rfl)) hs rfl ?_
    refine w_val trivial rfl (fun a w hf hs => r_move (hf.ev rfl)) ?_
    refine w_nil ?_
    intro a w' hf hs
    exact ⟨rfl, hf.df, _, (HLe.refl _), hs, hf.get _ _ rfl⟩
  · intro a w' M5 l6 hd hs
    have e7 := hd.val 0 8 _ rfl rfl
    refine OP.ofW (l := [(8, (ptr b (0 + (i0).toNat)))]) (hd.fr.add e7) hs rfl ?_
    refine w_val trivial rfl (fun a w hf hs => r_nilCheck (hf.ev rfl)) ?_
    refine w_nil ?_
    intro a w' hf hs
    exact ⟨rfl, hf.df, _, (HLe.refl _), hs, hf.get _ _ rfl⟩
  · intro a w' M8 l9 hd hs
    have e10 := hd.val 1 9 _ rfl rfl
    refine OP.ofW (l := [(9, (ptr b (0 + (i0).toNat)))]) (hd.fr.add e10) hs rfl ?_
    refine w_val trivial rfl (fun a w hf hs => r_load1 ta70 (hf.ev rfl) (hs.blk (i := 0) rfl) (vI_get0 h00 h01)) ?_
    refine w_nil ?_
    intro a w' hf hs
    exact ⟨rfl, hf.df, _, (HLe.refl _), hs, hf.get _ _ rfl⟩
  · intro a w' M11 l12 hd hs
    refine OP.ofW (l := [(1, (ptr b (0 + (i1).toNat)))]) (hd.fr.add (hd.base 1 _ rfl rfl)) hs rfl ?_
    refine w_val trivial rfl (fun a w hf hs => r_move (hf.ev rfl)) ?_
    refine w_nil ?_
    intro a w' hf hs
    exact ⟨rfl, hf.df, _, (HLe.refl _), hs, hf.get _ _ rfl⟩
  · intro a w' M13 l14 hd hs
    have e15 := hd.val 3 11 _ rfl rfl
    refine OP.ofW (l := [(11, (ptr b (0 + (i1).toNat)))]) (hd.fr.add e15) hs rfl ?_
    refine w_val trivial rfl (fun a w hf hs => r_nilCheck (hf.ev rfl)) ?_
    refine w_nil ?_
    intro a w' hf hs
    exact ⟨rfl, hf.df, _, (HLe.refl _), hs, hf.get _ _ rfl⟩
  · intro a w' M16 l17 hd hs
    have e18 := hd.val 4 12 _ rfl rfl
    refine OP.ofW (l := [(12, (ptr b (0 + (i1).toNat)))]) (hd.fr.add e18) hs rfl ?_
    refine w_val trivial rfl (fun a w hf hs => r_load1 ta70 (hf.ev rfl) (hs.blk (i := 0) rfl) (vI_get0 h10 h11)) ?_
    refine w_nil ?_
    intro a w' hf hs
    exact ⟨rfl, hf.df, _, (HLe.refl _), hs, hf.get _ _ rfl⟩
  intro a w' M19 l20 hdf hsz hb hv hs
  have e21 := hv 0 8 _ rfl rfl
  have e22 := hv 2 10 _ rfl rfl
  have e23 := hv 5 13 _ rfl rfl
  refine n_of (c := (Cx.mk Tryd.prog 80 X M w)) (l := [(0, (ptr b (0 + (i0).toNat))), (1, (ptr b (0 + (i1).toNat))), (2, (ptr b (0 + (i2).toNat))), (3, (ptr b (0 + (i3).toNat))), (8, (ptr b (0 + (i0).toNat))), (10, (.int .u32 (rd p.toList i0))), (13, (.int .u32 (rd p.toList i1)))]) ?_ ((((((((Fr.start hdf hsz).add e23).add e22).add e21).add (hb 3 _ rfl rfl)).add (hb 2 _ rfl rfl)).add (hb 1 _ rfl rfl)).add (hb 0 _ rfl rfl)) hs
  clear hdf hsz hb hv hs e21 e22 e23
  refine n_id (hK2 _ _ _ ?_)
  refine w_val trivial rfl (fun a w hf hs => r_add (hf.ev rfl) (hf.ev rfl)) ?_
  refine w_val trivial rfl (fun a w hf hs => r_nilCheck (hf.ev rfl)) ?_
  refine w_store (i := 0) (vs := [(.int .u32 (IntKind.u32.wrap ((rd p.toList i0) + (rd p.toList i1))))]) (A' := vI .u32 (vs p i0 (IntKind.u32.wrap ((rd p.toList i0) + (rd p.toList i1))))) trivial rfl rfl rfl rfl ts70 rfl (one1 rfl) (idx_le h00 h01 (vI_len _) (by decide)) (vI_set0 h00 h01) ?_
  refine w_nil (hK1 _ _ _ ?_)
  refine c_seq ?_
  intro K24 hK24
  refine c_split2 9 (by kernel_rfl) (by kernel_rfl) (by kernel_rfl) (by kernel_rfl) rfl ?_
  intro K25 hK25
  obtain ⟨t51, e56, H⟩ := bnd H
  refine d_drawP [([], [3]), ([], [3]), ([(1, 17)], []), ([(2, 18)], []), ([], [0]), ([(4, 20)], []), ([(5, 21)], []), ([(3, 19), (6, 22)], []), ([(7, 23)], [])] [fun v M => v = (ptr b (0 + (i3).toNat)), fun v M => v = (ptr b (0 + (i3).toNat)), fun v M => v = (ptr b (0 + (i3).toNat)), fun v M => v = (.int .u32 (rd (vs p i0 (IntKind.u32.wrap ((rd p.toList i0) + (rd p.toList i1)))).toList i3)), fun v M => v = (ptr b (0 + (i0).toNat)), fun v M => v = (ptr b (0 + (i0).toNat)), fun v M => v = (.int .u32 (rd (vs p i0 (IntKind.u32.wrap ((rd p.toList i0) + (rd p.toList i1)))).toList i0)), fun v M => v = (.int .u32 (bits .xor .u32 (rd (vs p i0 (IntKind.u32.wrap ((rd p.toList i0) + (rd p.toList i1)))).toList i3) (rd (vs p i0 (IntKind.u32.wrap ((rd p.toList i0) + (rd p.toList i1)))).toList i0))), fun v M => v = (.int .u32 t51)] (by kernel_rfl) (by kernel_rfl) ?_ (AllT.cons ?_ (AllT.cons ?_ (AllT.cons ?_ (AllT.cons ?_ (AllT.cons ?_ (AllT.cons ?_ (AllT.cons ?_ (AllT.cons ?_ (AllT.cons ?_ AllT.nil))))))))) ?_
  · exact (MonoA.cons (fun _ _ _ _ h => h) (MonoA.cons (fun _ _ _ _ h => h) (MonoA.cons (fun _ _ _ _ h => h) (MonoA.cons (fun _ _ _ _ h => h) (MonoA.cons (fun _ _ _ _ h => h) (MonoA.cons (fun _ _ _ _ h => h) (MonoA.cons (fun _ _ _ _ h => h) (MonoA.cons (fun _ _ _ _ h => h) (MonoA.cons (fun _ _ _ _ h => h) MonoA.nil)))))))))
  · intro a w' M26 l27 hd hs
    refine OP.ofW (l := [(3, (ptr b (0 + (i3).toNat)))]) (hd.fr.add (hd.base 3 _ rfl rfl)) hs rfl ?_
    refine w_val trivial rfl (fun a w hf hs => r_move (hf.ev rfl)) ?_
    refine w_nil ?_
    intro a w' hf hs
    exact ⟨rfl, hf.df, _, (HLe.refl _), hs, hf.get _ _ rfl⟩
  · intro a w' M28 l29 hd hs
    refine OP.ofW (l := [(3, (ptr b (0 + (i3).toNat)))]) (hd.fr.add (hd.base 3 _ rfl rfl)) hs rfl ?_
    refine w_val trivial rfl (fun a w hf hs => r_move (hf.ev rfl)) ?_
    refine w_nil ?_
    intro a w' hf hs
    exact ⟨rfl, hf.df, _, (HLe.refl _), hs, hf.get _ _ rfl⟩
  · intro a w' M30 l31 hd hs
    have e32 := hd.val 1 17 _ rfl rfl
    refine OP.ofW (l := [(17, (ptr b (0 + (i3).toNat)))]) (hd.fr.add e32) hs rfl ?_
    refine w_val trivial rfl (fun a w hf hs => r_nilCheck (hf.ev rfl)) ?_
    refine w_nil ?_
    intro a w' hf hs
    exact ⟨rfl, hf.df, _, (HLe.refl _), hs, hf.get _ _ rfl⟩
  · intro a w' M33 l34 hd hs
    have e35 := hd.val 2 18 _ rfl rfl
    refine OP.ofW (l := [(18, (ptr b (0 + (i3).toNat)))]) (hd.fr.add e35) hs rfl ?_
    refine w_val trivial rfl (fun a w hf hs => r_load1 ta70 (hf.ev rfl) (hs.blk (i := 0) rfl) (vI_get0 h30 h31)) ?_
    refine w_nil ?_
    intro a w' hf hs
    exact ⟨rfl, hf.df, _, (HLe.refl _), hs, hf.get _ _ rfl⟩
  · intro a w' M36 l37 hd hs
    refine OP.ofW (l := [(0, (ptr b (0 + (i0).toNat)))]) (hd.fr.add (hd.base 0 _ rfl rfl)) hs rfl ?_
    refine w_val trivial rfl (fun a w hf hs => r_move (hf.ev rfl)) ?_
    refine w_nil ?_
    intro a w' hf hs
    exact ⟨rfl, hf.df, _, (HLe.refl _), hs, hf.get _ _ rfl⟩
  · intro a w' M38 l39 hd hs
    have e40 := hd.val 4 20 _ rfl rfl
    refine OP.ofW (l := [(20, (ptr b (0 + (i0).toNat)))]) (hd.fr.add e40) hs rfl ?_
    refine w_val trivial rfl (fun a w hf hs => r_nilCheck (hf.ev rfl)) ?_
    refine w_nil ?_
    intro a w' hf hs
    exact ⟨rfl, hf.df, _, (HLe.refl _), hs, hf.get _ _ rfl⟩
  · intro a w' M41 l42 hd hs
    have e43 := hd.val 5 21 _ rfl rfl
    refine OP.ofW (l := [(21, (ptr b (0 + (i0).toNat)))]) (hd.fr.add e43) hs rfl ?_
    refine w_val trivial rfl (fun a w hf hs => r_load1 ta70 (hf.ev rfl) (hs.blk (i := 0) rfl) (vI_get0 h00 h01)) ?_
    refine w_nil ?_
    intro a w' hf hs
    exact ⟨rfl, hf.df, _, (HLe.refl _), hs, hf.get _ _ rfl⟩
  · intro a w' M44 l45 hd hs
    have e46 := hd.val 3 19 _ rfl rfl
    have e47 := hd.val 6 22 _ rfl rfl
    refine OP.ofW (l := [(19, (.int .u32 (rd (vs p i0 (IntKind.u32.wrap ((rd p.toList i0) + (rd p.toList i1)))).toList i3))), (22, (.int .u32 (rd (vs p i0 (IntKind.u32.wrap ((rd p.toList i0) + (rd p.toList i1)))).toList i0)))]) ((hd.fr.add e47).add e46) hs rfl ?_
    refine w_val trivial rfl (fun a w hf hs => r_xor (hf.ev rfl) (hf.ev rfl)) ?_
    refine w_nil ?_
    intro a w' hf hs
    exact ⟨rfl, hf.df, _, (HLe.refl _), hs, hf.get _ _ rfl⟩
  · intro a w' M48 l49 hd hs
    have e50 := hd.val 7 23 _ rfl rfl
    refine OP.ofW (l := [(23, (.int .u32 (bits .xor .u32 (rd (vs p i0 (IntKind.u32.wrap ((rd p.toList i0) + (rd p.toList i1)))).toList i3) (rd (vs p i0 (IntKind.u32.wrap ((rd p.toList i0) + (rd p.toList i1)))).toList i0))))]) (hd.fr.add e50) hs rfl ?_
    refine w_call cf139 trivial rfl rfl (fun w hs => bits_RotateLeft32.calls hs (bits .xor .u32 (rd (vs p i0 (IntKind.u32.wrap ((rd p.toList i0) + (rd p.toList i1)))).toList i3) (rd (vs p i0 (IntKind.u32.wrap ((rd p.toList i0) + (rd p.toList i1)))).toList i0)) (16 : Int) _ e56) ?_
    rintro _ M53 l54 rfl
    refine w_nil ?_
    intro a w' hf hs
    exact ⟨rfl, hf.df, _, l54, hs, hf.get _ _ rfl⟩
  intro a w' M57 l58 hdf hsz hb hv hs
  have e59 := hv 0 16 _ rfl rfl
  have e60 := hv 8 24 _ rfl rfl
  refine n_of (c := (Cx.mk Tryd.prog 80 X M w)) (l := [(0, (ptr b (0 + (i0).toNat))), (1, (ptr b (0 + (i1).toNat))), (2, (ptr b (0 + (i2).toNat))), (3, (ptr b (0 + (i3).toNat))), (16, (ptr b (0 + (i3).toNat))), (24, (.int .u32 t51))]) ?_ (((((((Fr.start hdf hsz).add e60).add e59).add (hb 3 _ rfl rfl)).add (hb 2 _ rfl rfl)).add (hb 1 _ rfl rfl)).add (hb 0 _ rfl rfl)) hs
  clear hdf hsz hb hv hs e59 e60
  refine n_id (hK25 _ _ _ ?_)
  refine w_val trivial rfl (fun a w hf hs => r_nilCheck (hf.ev rfl)) ?_
  refine w_store (i := 0) (vs := [(.int .u32 t51)]) (A' := vI .u32 (vs (vs p i0 (IntKind.u32.wrap ((rd p.toList i0) + (rd p.toList i1)))) i3 t51)) trivial rfl rfl rfl rfl ts70 rfl (one1 rfl) (idx_le h30 h31 (vI_len _) (by decide)) (vI_set0 h30 h31) ?_
  refine w_nil (hK24 _ _ _ ?_)
  refine c_seq ?_
  intro K61 hK61
  refine c_split2 6 (by kernel_rfl) (by kernel_rfl) (by kernel_rfl) (by kernel_rfl) rfl ?_
  intro K62 hK62
  refine d_drawP [([], [2]), ([(0, 26)], []), ([(1, 27)], []), ([], [3]), ([(3, 29)], []), ([(4, 30)], [])] [fun v M => v = (ptr b (0 + (i2).toNat)), fun v M => v = (ptr b (0 + (i2).toNat)), fun v M => v = (.int .u32 (rd (vs (vs p i0 (IntKind.u32.wrap ((rd p.toList i0) + (rd p.toList i1)))) i3 t51).toList i2)), fun v M => v = (ptr b (0 + (i3).toNat)), fun v M => v = (ptr b (0 + (i3).toNat)), fun v M => v = (.int .u32 (rd (vs (vs p i0 (IntKind.u32.wrap ((rd p.toList i0) + (rd p.toList i1)))) i3 t51).toList i3))] (by kernel_rfl) (by kernel_rfl) ?_ (AllT.cons ?_ (AllT.cons ?_ (AllT.cons ?_ (AllT.cons ?_ (AllT.cons ?_ (AllT.cons ?_ AllT.nil)))))) ?_
  · exact (MonoA.cons (fun _ _ _ _ h => h) (MonoA.cons (fun _ _ _ _ h => h) (MonoA.cons (fun _ _ _ _ h => h) (MonoA.cons (fun _ _ _ _ h => h) (MonoA.cons (fun _ _ _ _ h => h) (MonoA.cons (fun _ _ _ _ h => h) MonoA.nil))))))
  · intro a w' M63 l64 hd hs
    refine OP.ofW (l := [(2, (ptr b (0 + (i2).toNat)))]) (hd.fr.add (hd.base 2 _ rfl rfl)) hs rfl ?_
    refine w_val trivial rfl (fun a w hf hs => r_move (hf.ev rfl)) ?_
    refine w_nil ?_
    intro a w' hf hs
    exact ⟨rfl, hf.df, _, (HLe.refl _), hs, hf.get _ _ rfl⟩
  · intro a w' M65 l66 hd hs
    have e67 := hd.val 0 26 _ rfl rfl
    refine OP.ofW (l := [(26, (ptr b (0 + (i2).toNat)))]) (hd.fr.add e67) hs rfl ?_
    refine w_val trivial rfl (fun a w hf hs => r_nilCheck (hf.ev rfl)) ?_
    refine w_nil ?_
    intro a w' hf hs
    exact ⟨rfl, hf.df, _, (HLe.refl _), hs, hf.get _ _ rfl⟩
  · intro a w' M68 l69 hd hs
    have e70 := hd.val 1 27 _ rfl rfl
    refine OP.ofW (l := [(27, (ptr b (0 + (i2).toNat)))]) (hd.fr.add e70) hs rfl ?_
    refine w_val trivial rfl (fun a w hf hs => r_load1 ta70 (hf.ev rfl) (hs.blk (i := 0) rfl) (vI_get0 h20 h21)) ?_
    refine w_nil ?_
    intro a w' hf hs
    exact ⟨rfl, hf.df, _, (HLe.refl _), hs, hf.get _ _ rfl⟩
  · intro a w' M71 l72 hd hs
    refine OP.ofW (l := [(3, (ptr b (0 + (i3).toNat)))]) (hd.fr.add (hd.base 3 _ rfl rfl)) hs rfl ?_
    refine w_val trivial rfl (fun a w hf hs => r_move (hf.ev rfl)) ?_
    refine w_nil ?_
    intro a w' hf hs
    exact ⟨rfl, hf.df, _, (HLe.refl _), hs, hf.get _ _ rfl⟩
  · intro a w' M73 l74 hd hs
    have e75 := hd.val 3 29 _ rfl rfl
    refine OP.ofW (l := [(29, (ptr b (0 + (i3).toNat)))]) (hd.fr.add e75) hs rfl ?_
    refine w_val trivial rfl (fun a w hf hs => r_nilCheck (hf.ev rfl)) ?_
    refine w_nil ?_
    intro a w' hf hs
    exact ⟨rfl, hf.df, _, (HLe.refl _), hs, hf.get _ _ rfl⟩
  · intro a w' M76 l77 hd hs
    have e78 := hd.val 4 30 _ rfl rfl
    refine OP.ofW (l := [(30, (ptr b (0 + (i3).toNat)))]) (hd.fr.add e78) hs rfl ?_
    refine w_val trivial rfl (fun a w hf hs => r_load1 ta70 (hf.ev rfl) (hs.blk (i := 0) rfl) (vI_get0 h30 h31)) ?_
    refine w_nil ?_
    intro a w' hf hs
    exact ⟨rfl, hf.df, _, (HLe.refl _), hs, hf.get _ _ rfl⟩
  intro a w' M79 l80 hdf hsz hb hv hs
  have e81 := hv 0 26 _ rfl rfl
  have e82 := hv 2 28 _ rfl rfl
  have e83 := hv 5 31 _ rfl rfl
  refine n_of (c := (Cx.mk Tryd.prog 80 X M w)) (l := [(0, (ptr b (0 + (i0).toNat))), (1, (ptr b (0 + (i1).toNat))), (2, (ptr b (0 + (i2).toNat))), (3, (ptr b (0 + (i3).toNat))), (26, (ptr b (0 + (i2).toNat))), (28, (.int .u32 (rd (vs (vs p i0 (IntKind.u32.wrap ((rd p.toList i0) + (rd p.toList i1)))) i3 t51).toList i2))), (31, (.int .u32 (rd (vs (vs p i0 (IntKind.u32.wrap ((rd p.toList i0) + (rd p.toList i1)))) i3 t51).toList i3)))]) ?_ ((((((((Fr.start hdf hsz).add e83).add e82).add e81).add (hb 3 _ rfl rfl)).add (hb 2 _ rfl rfl)).add (hb 1 _ rfl rfl)).add (hb 0 _ rfl rfl)) hs
  clear hdf hsz hb hv hs e81 e82 e83
  refine n_id (hK62 _ _ _ ?_)
  refine w_val trivial rfl (fun a w hf hs => r_add (hf.ev rfl) (hf.ev rfl)) ?_
  refine w_val trivial rfl (fun a w hf hs => r_nilCheck (hf.ev rfl)) ?_
  obtain ⟨z84, e85, H⟩ := bnd H
  have e86 := some_r e85
  refine w_store (i := 0) (vs := [(.int .u32 (IntKind.u32.wrap ((rd (vs (vs p i0 (IntKind.u32.wrap ((rd p.toList i0) + (rd p.toList i1)))) i3 t51).toList i2) + (rd (vs (vs p i0 (IntKind.u32.wrap ((rd p.toList i0) + (rd p.toList i1)))) i3 t51).toList i3))))]) (A' := vI .u32 z84) trivial rfl rfl rfl rfl ts70 rfl (one1 rfl) (idx_le h20 h21 (vI_len _) (by decide)) (by rw [← e86]; exact (vI_set0 h20 h21)) ?_
  clear e85 e86
  refine w_nil (hK61 _ _ _ ?_)
  refine c_seq ?_
  intro K87 hK87
  refine c_split2 9 (by kernel_rfl) (by kernel_rfl) (by kernel_rfl) (by kernel_rfl) rfl ?_
  intro K88 hK88
  obtain ⟨t114, e119, H⟩ := bnd H
  refine d_drawP [([], [1]), ([], [1]), ([(1, 35)], []), ([(2, 36)], []), ([], [2]), ([(4, 38)], []), ([(5, 39)], []), ([(3, 37), (6, 40)], []), ([(7, 41)], [])] [fun v M => v = (ptr b (0 + (i1).toNat)), fun v M => v = (ptr b (0 + (i1).toNat)), fun v M => v = (ptr b (0 + (i1).toNat)), fun v M => v = (.int .u32 (rd z84.toList i1)), fun v M => v = (ptr b (0 + (i2).toNat)), fun v M => v = (ptr b (0 + (i2).toNat)), fun v M => v = (.int .u32 (rd z84.toList i2)), fun v M => v = (.int .u32 (bits .xor .u32 (rd z84.toList i1) (rd z84.toList i2))), fun v M => v = (.int .u32 t114)] (by kernel_rfl) (by kernel_rfl) ?_ (AllT.cons ?_ (AllT.cons ?_ (AllT.cons ?_ (AllT.cons ?_ (AllT.cons ?_ (AllT.cons ?_ (AllT.cons ?_ (AllT.cons ?_ (AllT.cons ?_ AllT.nil))))))))) ?_
  · exact (MonoA.cons (fun _ _ _ _ h => h) (MonoA.cons (fun _ _ _ _ h => h) (MonoA.cons (fun _ _ _ _ h => h) (MonoA.cons (fun _ _ _ _ h => h) (MonoA.cons (fun _ _ _ _ h => h) (MonoA.cons (fun _ _ _ _ h => h) (MonoA.cons (fun _ _ _ _ h => h) (MonoA.cons (fun _ _ _ _ h => h) (MonoA.cons (fun _ _ _ _ h => h) MonoA.nil)))))))))
  · intro a w' M89 l90 hd hs
    refine OP.ofW (l := [(1, (ptr b (0 + (i1).toNat)))]) (hd.fr.add (hd.base 1 _ rfl rfl)) hs rfl ?_
    refine w_val trivial rfl (fun a w hf hs => r_move (hf.ev rfl)) ?_
    refine w_nil ?_
    intro a w' hf hs
    exact ⟨rfl, hf.df, _, (HLe.refl _), hs, hf.get _ _ rfl⟩
  · intro a w' M91 l92 hd hs
    refine OP.ofW (l := [(1, (ptr b (0 + (i1).toNat)))]) (hd.fr.add (hd.base 1 _ rfl rfl)) hs rfl ?_
    refine w_val trivial rfl (fun a w hf hs => r_move (hf.ev rfl)) ?_
    refine w_nil ?_
    intro a w' hf hs
    exact ⟨rfl, hf.df, _, (HLe.refl _), hs, hf.get _ _ rfl⟩
  · intro a w' M93 l94 hd hs
    have e95 := hd.val 1 35 _ rfl rfl
    refine OP.ofW (l := [(35, (ptr b (0 + (i1).toNat)))]) (hd.fr.add e95) hs rfl ?_
    refine w_val trivial rfl (fun a w hf hs => r_nilCheck (hf.ev rfl)) ?_
    refine w_nil ?_
    intro a w' hf hs
    exact ⟨rfl, hf.df, _, (HLe.refl _), hs, hf.get _ _ rfl⟩
  · intro a w' M96 l97 hd hs
    have e98 := hd.val 2 36 _ rfl rfl
    refine OP.ofW (l := [(36, (ptr b (0 + (i1).toNat)))]) (hd.fr.add e98) hs rfl ?_
    refine w_val trivial rfl (fun a w hf hs => r_load1 ta70 (hf.ev rfl) (hs.blk (i := 0) rfl) (vI_get0 h10 h11)) ?_
    refine w_nil ?_
    intro a w' hf hs
    exact ⟨rfl, hf.df, _, (HLe.refl _), hs, hf.get _ _ rfl⟩
  · intro a w' M99 l100 hd hs
    refine OP.ofW (l := [(2, (ptr b (0 + (i2).toNat)))]) (hd.fr.add (hd.base 2 _ rfl rfl)) hs rfl ?_
    refine w_val trivial rfl (fun a w hf hs => r_move (hf.ev rfl)) ?_
    refine w_nil ?_
    intro a w' hf hs
    exact ⟨rfl, hf.df, _, (HLe.refl _), hs, hf.get _ _ rfl⟩
  · intro a w' M101 l102 hd hs
    have e103 := hd.val 4 38 _ rfl rfl
    refine OP.ofW (l := [(38, (ptr b (0 + (i2).toNat)))]) (hd.fr.add e103) hs rfl ?_
    refine w_val trivial rfl (fun a w hf hs => r_nilCheck (hf.ev rfl)) ?_
    refine w_nil ?_
    intro a w' hf hs
    exact ⟨rfl, hf.df, _, (HLe.refl _), hs, hf.get _ _ rfl⟩
  · intro a w' M104 l105 hd hs
    have e106 := hd.val 5 39 _ rfl rfl
    refine OP.ofW (l := [(39, (ptr b (0 + (i2).toNat)))]) (hd.fr.add e106) hs rfl ?_
    refine w_val trivial rfl (fun a w hf hs => r_load1 ta70 (hf.ev rfl) (hs.blk (i := 0) rfl) (vI_get0 h20 h21)) ?_
    refine w_nil ?_
    intro a w' hf hs
    exact ⟨rfl, hf.df, _, (HLe.refl _), hs, hf.get _ _ rfl⟩
  · intro a w' M107 l108 hd hs
    have e109 := hd.val 3 37 _ rfl rfl
    have e110 := hd.val 6 40 _ rfl rfl
    refine OP.ofW (l := [(37, (.int .u32 (rd z84.toList i1))), (40, (.int .u32 (rd z84.toList i2)))]) ((hd.fr.add e110).add e109) hs rfl ?_
    refine w_val trivial rfl (fun a w hf hs => r_xor (hf.ev rfl) (hf.ev rfl)) ?_
    refine w_nil ?_
    intro a w' hf hs
    exact ⟨rfl, hf.df, _, (HLe.refl _), hs, hf.get _ _ rfl⟩
  · intro a w' M111 l112 hd hs
    have e113 := hd.val 7 41 _ rfl rfl
    refine OP.ofW (l := [(41, (.int .u32 (bits .xor .u32 (rd z84.toList i1) (rd z84.toList i2))))]) (hd.fr.add e113) hs rfl ?_
    refine w_call cf139 trivial rfl rfl (fun w hs => bits_RotateLeft32.calls hs (bits .xor .u32 (rd z84.toList i1) (rd z84.toList i2)) (12 : Int) _ e119) ?_
    rintro _ M116 l117 rfl
    refine w_nil ?_
    intro a w' hf hs
    exact ⟨rfl, hf.df, _, l117, hs, hf.get _ _ rfl⟩
  intro a w' M120 l121 hdf hsz hb hv hs
  have e122 := hv 0 34 _ rfl rfl
  have e123 := hv 8 42 _ rfl rfl
  refine n_of (c := (Cx.mk Tryd.prog 80 X M w)) (l := [(0, (ptr b (0 + (i0).toNat))), (1, (ptr b (0 + (i1).toNat))), (2, (ptr b (0 + (i2).toNat))), (3, (ptr b (0 + (i3).toNat))), (34, (ptr b (0 + (i1).toNat))), (42, (.int .u32 t114))]) ?_ (((((((Fr.start hdf hsz).add e123).add e122).add (hb 3 _ rfl rfl)).add (hb 2 _ rfl rfl)).add (hb 1 _ rfl rfl)).add (hb 0 _ rfl rfl)) hs
  clear hdf hsz hb hv hs e122 e123
  refine n_id (hK88 _ _ _ ?_)
  refine w_val trivial rfl (fun a w hf hs => r_nilCheck (hf.ev rfl)) ?_
  refine w_store (i := 0) (vs := [(.int .u32 t114)]) (A' := vI .u32 (vs z84 i1 t114)) trivial rfl rfl rfl rfl ts70 rfl (one1 rfl) (idx_le h10 h11 (vI_len _) (by decide)) (vI_set0 h10 h11) ?_
  refine w_nil (hK87 _ _ _ ?_)
  refine c_seq ?_
  intro K124 hK124
  refine c_split2 6 (by kernel_rfl) (by kernel_rfl) (by kernel_rfl) (by kernel_rfl) rfl ?_
  intro K125 hK125
  refine d_drawP [([], [0]), ([(0, 44)], []), ([(1, 45)], []), ([], [1]), ([(3, 47)], []), ([(4, 48)], [])] [fun v M => v = (ptr b (0 + (i0).toNat)), fun v M => v = (ptr b (0 + (i0).toNat)), fun v M => v = (.int .u32 (rd (vs z84 i1 t114).toList i0)), fun v M => v = (ptr b (0 + (i1).toNat)), fun v M => v = (ptr b (0 + (i1).toNat)), fun v M => v = (.int .u32 (rd (vs z84 i1 t114).toList i1))] (by kernel_rfl) (by kernel_rfl) ?_ (AllT.cons ?_ (AllT.cons ?_ (AllT.cons ?_ (AllT.cons ?_ (AllT.cons ?_ (AllT.cons ?_ AllT.nil)))))) ?_
  · exact (MonoA.cons (fun _ _ _ _ h => h) (MonoA.cons (fun _ _ _ _ h => h) (MonoA.cons (fun _ _ _ _ h => h) (MonoA.cons (fun _ _ _ _ h => h) (MonoA.cons (fun _ _ _ _ h => h) (MonoA.cons (fun _ _ _ _ h => h) MonoA.nil))))))
  · intro a w' M126 l127 hd hs
    refine OP.ofW (l := [(0, (ptr b (0 + (i0).toNat)))]) (hd.fr.add (hd.base 0 _ rfl rfl)) hs rfl ?_
    refine w_val trivial rfl (fun a w hf hs => r_move (hf.ev rfl)) ?_
    refine w_nil ?_
    intro a w' hf hs
    exact ⟨rfl, hf.df, _, (HLe.refl _), hs, hf.get _ _ rfl⟩
  · intro a w' M128 l129 hd hs
    have e130 := hd.val 0 44 _ rfl rfl
    refine OP.ofW (l := [(44, (ptr b (0 + (i0).toNat)))]) (hd.fr.add e130) hs rfl ?_
    refine w_val trivial rfl (fun a w hf hs => r_nilCheck (hf.ev rfl)) ?_
    refine w_nil ?_
    intro a w' hf hs
    exact ⟨rfl, hf.df, _, (HLe.refl _), hs, hf.get _ _ rfl⟩
  · intro a w' M131 l132 hd hs
    have e133 := hd.val 1 45 _ rfl rfl
    refine OP.ofW (l := [(45, (ptr b (0 + (i0).toNat)))]) (hd.fr.add e133) hs rfl ?_
    refine w_val trivial rfl (fun a w hf hs => r_load1 ta70 (hf.ev rfl) (hs.blk (i := 0) rfl) (vI_get0 h00 h01)) ?_
    refine w_nil ?_
    intro a w' hf hs
    exact ⟨rfl, hf.df, _, (HLe.refl _), hs, hf.get _ _ rfl⟩
  · intro a w' M134 l135 hd hs
    refine OP.ofW (l := [(1, (ptr b (0 + (i1).toNat)))]) (hd.fr.add (hd.base 1 _ rfl rfl)) hs rfl ?_
    refine w_val trivial rfl (fun a w hf hs => r_move (hf.ev rfl)) ?_
    refine w_nil ?_
    intro a w' hf hs
    exact ⟨rfl, hf.df, _, (HLe.refl _), hs, hf.get _ _ rfl⟩
  · intro a w' M136 l137 hd hs
    have e138 := hd.val 3 47 _ rfl rfl
    refine OP.ofW (l := [(47, (ptr b (0 + (i1).toNat)))]) (hd.fr.add e138) hs rfl ?_
    refine w_val trivial rfl (fun a w hf hs => r_nilCheck (hf.ev rfl)) ?_
    refine w_nil ?_
    intro a w' hf hs
    exact ⟨rfl, hf.df, _, (HLe.refl _), hs, hf.get _ _ rfl⟩
  · intro a w' M139 l140 hd hs
    have e141 := hd.val 4 48 _ rfl rfl
    refine OP.ofW (l := [(48, (ptr b (0 + (i1).toNat)))]) (hd.fr.add e141) hs rfl ?_
    refine w_val trivial rfl (fun a w hf hs => r_load1 ta70 (hf.ev rfl) (hs.blk (i := 0) rfl) (vI_get0 h10 h11)) ?_
    refine w_nil ?_
    intro a w' hf hs
    exact ⟨rfl, hf.df, _, (HLe.refl _), hs, hf.get _ _ rfl⟩
  intro a w' M142 l143 hdf hsz hb hv hs
  have e144 := hv 0 44 _ rfl rfl
  have e145 := hv 2 46 _ rfl rfl
  have e146 := hv 5 49 _ rfl rfl
  refine n_of (c := (Cx.mk Tryd.prog 80 X M w)) (l := [(0, (ptr b (0 + (i0).toNat))), (1, (ptr b (0 + (i1).toNat))), (2, (ptr b (0 + (i2).toNat))), (3, (ptr b (0 + (i3).toNat))), (44, (ptr b (0 + (i0).toNat))), (46, (.int .u32 (rd (vs z84 i1 t114).toList i0))), (49, (.int .u32 (rd (vs z84 i1 t114).toList i1)))]) ?_ ((((((((Fr.start hdf hsz).add e146).add e145).add e144).add (hb 3 _ rfl rfl)).add (hb 2 _ rfl rfl)).add (hb 1 _ rfl rfl)).add (hb 0 _ rfl rfl)) hs
  clear hdf hsz hb hv hs e144 e145 e146
  refine n_id (hK125 _ _ _ ?_)
  refine w_val trivial rfl (fun a w hf hs => r_add (hf.ev rfl) (hf.ev rfl)) ?_
  refine w_val trivial rfl (fun a w hf hs => r_nilCheck (hf.ev rfl)) ?_
  refine w_store (i := 0) (vs := [(.int .u32 (IntKind.u32.wrap ((rd (vs z84 i1 t114).toList i0) + (rd (vs z84 i1 t114).toList i1))))]) (A' := vI .u32 (vs (vs z84 i1 t114) i0 (IntKind.u32.wrap ((rd (vs z84 i1 t114).toList i0) + (rd (vs z84 i1 t114).toList i1))))) trivial rfl rfl rfl rfl ts70 rfl (one1 rfl) (idx_le h00 h01 (vI_len _) (by decide)) (vI_set0 h00 h01) ?_
  refine w_nil (hK124 _ _ _ ?_)
  refine c_seq ?_
  intro K147 hK147
  refine c_split2 9 (by kernel_rfl) (by kernel_rfl) (by kernel_rfl) (by kernel_rfl) rfl ?_
  intro K148 hK148
  obtain ⟨t174, e179, H⟩ := bnd H
  refine d_drawP [([], [3]), ([], [3]), ([(1, 53)], []), ([(2, 54)], []), ([], [0]), ([(4, 56)], []), ([(5, 57)], []), ([(3, 55), (6, 58)], []), ([(7, 59)], [])] [fun v M => v = (ptr b (0 + (i3).toNat)), fun v M => v = (ptr b (0 + (i3).toNat)), fun v M => v = (ptr b (0 + (i3).toNat)), fun v M => v = (.int .u32 (rd (vs (vs z84 i1 t114) i0 (IntKind.u32.wrap ((rd (vs z84 i1 t114).toList i0) + (rd (vs z84 i1 t114).toList i1)))).toList i3)), fun v M => v = (ptr b (0 + (i0).toNat)), fun v M => v = (ptr b (0 + (i0).toNat)), fun v M => v = (.int .u32 (rd (vs (vs z84 i1 t114) i0 (IntKind.u32.wrap ((rd (vs z84 i1 t114).toList i0) + (rd (vs z84 i1 t114).toList i1)))).toList i0)), fun v M => v = (.int .u32 (bits .xor .u32 (rd (vs (vs z84 i1 t114) i0 (IntKind.u32.wrap ((rd (vs z84 i1 t114).toList i0) + (rd (vs z84 i1 t114).toList i1)))).toList i3) (rd (vs (vs z84 i1 t114) i0 (IntKind.u32.wrap ((rd (vs z84 i1 t114).toList i0) + (rd (vs z84 i1 t114).toList i1)))).toList i0))), fun v M => v = (.int .u32 t174)] (by kernel_rfl) (by kernel_rfl) ?_ (AllT.cons ?_ (AllT.cons ?_ (AllT.cons ?_ (AllT.cons ?_ (AllT.cons ?_ (AllT.cons ?_ (AllT.cons ?_ (AllT.cons ?_ (AllT.cons ?_ AllT.nil))))))))) ?_
  · exact (MonoA.cons (fun _ _ _ _ h => h) (MonoA.cons (fun _ _ _ _ h => h) (MonoA.cons (fun _ _ _ _ h => h) (MonoA.cons (fun _ _ _ _ h => h) (MonoA.cons (fun _ _ _ _ h => h) (MonoA.cons (fun _ _ _ _ h => h) (MonoA.cons (fun _ _ _ _ h => h) (MonoA.cons (fun _ _ _ _ h => h) (MonoA.cons (fun _ _ _ _ h => h) MonoA.nil)))))))))
  · intro a w' M149 l150 hd hs
    refine OP.ofW (l := [(3, (ptr b (0 + (i3).toNat)))]) (hd.fr.add (hd.base 3 _ rfl rfl)) hs rfl ?_
    refine w_val trivial rfl (fun a w hf hs => r_move (hf.ev rfl)) ?_
    refine w_nil ?_
    intro a w' hf hs
    exact ⟨rfl, hf.df, _, (HLe.refl _), hs, hf.get _ _ rfl⟩
  · intro a w' M151 l152 hd hs
    refine OP.ofW (l := [(3, (ptr b (0 + (i3).toNat)))]) (hd.fr.add (hd.base 3 _ rfl rfl)) hs rfl ?_
    refine w_val trivial rfl (fun a w hf hs => r_move (hf.ev rfl)) ?_
    refine w_nil ?_
    intro a w' hf hs
    exact ⟨rfl, hf.df, _, (HLe.refl _), hs, hf.get _ _ rfl⟩
  · intro a w' M153 l154 hd hs
    have e155 := hd.val 1 53 _ rfl rfl
    refine OP.ofW (l := [(53, (ptr b (0 + (i3).toNat)))]) (hd.fr.add e155) hs rfl ?_
    refine w_val trivial rfl (fun a w hf hs => r_nilCheck (hf.ev rfl)) ?_
    refine w_nil ?_
    intro a w' hf hs
    exact ⟨rfl, hf.df, _, (HLe.refl _), hs, hf.get _ _ rfl⟩
  · intro a w' M156 l157 hd hs
    have e158 := hd.val 2 54 _ rfl rfl
    refine OP.ofW (l := [(54, (ptr b (0 + (i3).toNat)))]) (hd.fr.add e158) hs rfl ?_
    refine w_val trivial rfl (fun a w hf hs => r_load1 ta70 (hf.ev rfl) (hs.blk (i := 0) rfl) (vI_get0 h30 h31)) ?_
    refine w_nil ?_
    intro a w' hf hs
    exact ⟨rfl, hf.df, _, (HLe.refl _), hs, hf.get _ _ rfl⟩
  · intro a w' M159 l160 hd hs
    refine OP.ofW (l := [(0, (ptr b (0 + (i0).toNat)))]) (hd.fr.add (hd.base 0 _ rfl rfl)) hs rfl ?_
    refine w_val trivial rfl (fun a w hf hs => r_move (hf.ev rfl)) ?_
    refine w_nil ?_
    intro a w' hf hs
    exact ⟨rfl, hf.df, _, (HLe.refl _), hs, hf.get _ _ rfl⟩
  · intro a w' M161 l162 hd hs
    have e163 := hd.val 4 56 _ rfl rfl
    refine OP.ofW (l := [(56, (ptr b (0 + (i0).toNat)))]) (hd.fr.add e163) hs rfl ?_
    refine w_val trivial rfl (fun a w hf hs => r_nilCheck (hf.ev rfl)) ?_
    refine w_nil ?_
    intro a w' hf hs
    exact ⟨rfl, hf.df, _, (HLe.refl _), hs, hf.get _ _ rfl⟩
  · intro a w' M164 l165 hd hs
    have e166 := hd.val 5 57 _ rfl rfl
    refine OP.ofW (l := [(57, (ptr b (0 + (i0).toNat)))]) (hd.fr.add e166) hs rfl ?_
    refine w_val trivial rfl (fun a w hf hs => r_load1 ta70 (hf.ev rfl) (hs.blk (i := 0) rfl) (vI_get0 h00 h01)) ?_
    refine w_nil ?_
    intro a w' hf hs
    exact ⟨rfl, hf.df, _, (HLe.refl _), hs, hf.get _ _ rfl⟩
  · intro a w' M167 l168 hd hs
    have e169 := hd.val 3 55 _ rfl rfl
    have e170 := hd.val 6 58 _ rfl rfl
    refine OP.ofW (l := [(55, (.int .u32 (rd (vs (vs z84 i1 t114) i0 (IntKind.u32.wrap ((rd (vs z84 i1 t114).toList i0) + (rd (vs z84 i1 t114).toList i1)))).toList i3))), (58, (.int .u32 (rd (vs (vs z84 i1 t114) i0 (IntKind.u32.wrap ((rd (vs z84 i1 t114).toList i0) + (rd (vs z84 i1 t114).toList i1)))).toList i0)))]) ((hd.fr.add e170).add e169) hs rfl ?_
    refine w_val trivial rfl (fun a w hf hs => r_xor (hf.ev rfl) (hf.ev rfl)) ?_
    refine w_nil ?_
    intro a w' hf hs
    exact ⟨rfl, hf.df, _, (HLe.refl _), hs, hf.get _ _ rfl⟩
  · intro a w' M171 l172 hd hs
    have e173 := hd.val 7 59 _ rfl rfl
    refine OP.ofW (l := [(59, (.int .u32 (bits .xor .u32 (rd (vs (vs z84 i1 t114) i0 (IntKind.u32.wrap ((rd (vs z84 i1 t114).toList i0) + (rd (vs z84 i1 t114).toList i1)))).toList i3) (rd (vs (vs z84 i1 t114) i0 (IntKind.u32.wrap ((rd (vs z84 i1 t114).toList i0) + (rd (vs z84 i1 t114).toList i1)))).toList i0))))]) (hd.fr.add e173) hs rfl ?_
    refine w_call cf139 trivial rfl rfl (fun w hs => bits_RotateLeft32.calls hs (bits .xor .u32 (rd (vs (vs z84 i1 t114) i0 (IntKind.u32.wrap ((rd (vs z84 i1 t114).toList i0) + (rd (vs z84 i1 t114).toList i1)))).toList i3) (rd (vs (vs z84 i1 t114) i0 (IntKind.u32.wrap ((rd (vs z84 i1 t114).toList i0) + (rd (vs z84 i1 t114).toList i1)))).toList i0)) (8 : Int) _ e179) ?_
    rintro _ M176 l177 rfl
    refine w_nil ?_
    intro a w' hf hs
    exact ⟨rfl, hf.df, _, l177, hs, hf.get _ _ rfl⟩
  intro a w' M180 l181 hdf hsz hb hv hs
  have e182 := hv 0 52 _ rfl rfl
  have e183 := hv 8 60 _ rfl rfl
  refine n_of (c := (Cx.mk Tryd.prog 80 X M w)) (l := [(1, (ptr b (0 + (i1).toNat))), (2, (ptr b (0 + (i2).toNat))), (3, (ptr b (0 + (i3).toNat))), (52, (ptr b (0 + (i3).toNat))), (60, (.int .u32 t174))]) ?_ ((((((Fr.start hdf hsz).add e183).add e182).add (hb 3 _ rfl rfl)).add (hb 2 _ rfl rfl)).add (hb 1 _ rfl rfl)) hs
  clear hdf hsz hb hv hs e182 e183
  refine n_id (hK148 _ _ _ ?_)
  refine w_val trivial rfl (fun a w hf hs => r_nilCheck (hf.ev rfl)) ?_
  refine w_store (i := 0) (vs := [(.int .u32 t174)]) (A' := vI .u32 (vs (vs (vs z84 i1 t114) i0 (IntKind.u32.wrap ((rd (vs z84 i1 t114).toList i0) + (rd (vs z84 i1 t114).toList i1)))) i3 t174)) trivial rfl rfl rfl rfl ts70 rfl (one1 rfl) (idx_le h30 h31 (vI_len _) (by decide)) (vI_set0 h30 h31) ?_
  refine w_nil (hK147 _ _ _ ?_)
  refine c_seq ?_
  intro K184 hK184
  refine c_split2 6 (by kernel_rfl) (by kernel_rfl) (by kernel_rfl) (by kernel_rfl) rfl ?_
  intro K185 hK185
  refine d_drawP [([], [2]), ([(0, 62)], []), ([(1, 63)], []), ([], [3]), ([(3, 65)], []), ([(4, 66)], [])] [fun v M => v = (ptr b (0 + (i2).toNat)), fun v M => v = (ptr b (0 + (i2).toNat)), fun v M => v = (.int .u32 (rd (vs (vs (vs z84 i1 t114) i0 (IntKind.u32.wrap ((rd (vs z84 i1 t114).toList i0) + (rd (vs z84 i1 t114).toList i1)))) i3 t174).toList i2)), fun v M => v = (ptr b (0 + (i3).toNat)), fun v M => v = (ptr b (0 + (i3).toNat)), fun v M => v = (.int .u32 (rd (vs (vs (vs z84 i1 t114) i0 (IntKind.u32.wrap ((rd (vs z84 i1 t114).toList i0) + (rd (vs z84 i1 t114).toList i1)))) i3 t174).toList i3))] (by kernel_rfl) (by kernel_rfl) ?_ (AllT.cons ?_ (AllT.cons ?_ (AllT.cons ?_ (AllT.cons ?_ (AllT.cons ?_ (AllT.cons ?_ AllT.nil)))))) ?_
  · exact (MonoA.cons (fun _ _ _ _ h => h) (MonoA.cons (fun _ _ _ _ h => h) (MonoA.cons (fun _ _ _ _ h => h) (MonoA.cons (fun _ _ _ _ h => h) (MonoA.cons (fun _ _ _ _ h => h) (MonoA.cons (fun _ _ _ _ h => h) MonoA.nil))))))
  · intro a w' M186 l187 hd hs
    refine OP.ofW (l := [(2, (ptr b (0 + (i2).toNat)))]) (hd.fr.add (hd.base 2 _ rfl rfl)) hs rfl ?_
    refine w_val trivial rfl (fun a w hf hs => r_move (hf.ev rfl)) ?_
    refine w_nil ?_
    intro a w' hf hs
    exact ⟨rfl, hf.df, _, (HLe.refl _), hs, hf.get _ _ rfl⟩
  · intro a w' M188 l189 hd hs
    have e190 := hd.val 0 62 _ rfl rfl
    refine OP.ofW (l := [(62, (ptr b (0 + (i2).toNat)))]) (hd.fr.add e190) hs rfl ?_
    refine w_val trivial rfl (fun a w hf hs => r_nilCheck (hf.ev rfl)) ?_
    refine w_nil ?_
    intro a w' hf hs
    exact ⟨rfl, hf.df, _, (HLe.refl _), hs, hf.get _ _ rfl⟩
  · intro a w' M191 l192 hd hs
    have e193 := hd.val 1 63 _ rfl rfl
    refine OP.ofW (l := [(63, (ptr b (0 + (i2).toNat)))]) (hd.fr.add e193) hs rfl ?_
    refine w_val trivial rfl (fun a w hf hs => r_load1 ta70 (hf.ev rfl) (hs.blk (i := 0) rfl) (vI_get0 h20 h21)) ?_
    refine w_nil ?_
    intro a w' hf hs
    exact ⟨rfl, hf.df, _, (HLe.refl _), hs, hf.get _ _ rfl⟩
  · intro a w' M194 l195 hd hs
    refine OP.ofW (l := [(3, (ptr b (0 + (i3).toNat)))]) (hd.fr.add (hd.base 3 _ rfl rfl)) hs rfl ?_
    refine w_val trivial rfl (fun a w hf hs => r_move (hf.ev rfl)) ?_
    refine w_nil ?_
    intro a w' hf hs
    exact ⟨rfl, hf.df, _, (HLe.refl _), hs, hf.get _ _ rfl⟩
  · intro a w' M196 l197 hd hs
    have e198 := hd.val 3 65 _ rfl rfl
    refine OP.ofW (l := [(65, (ptr b (0 + (i3).toNat)))]) (hd.fr.add e198) hs rfl ?_
    refine w_val trivial rfl (fun a w hf hs => r_nilCheck (hf.ev rfl)) ?_
    refine w_nil ?_
    intro a w' hf hs
    exact ⟨rfl, hf.df, _, (HLe.refl _), hs, hf.get _ _ rfl⟩
  · intro a w' M199 l200 hd hs
    have e201 := hd.val 4 66 _ rfl rfl
    refine OP.ofW (l := [(66, (ptr b (0 + (i3).toNat)))]) (hd.fr.add e201) hs rfl ?_
    refine w_val trivial rfl (fun a w hf hs => r_load1 ta70 (hf.ev rfl) (hs.blk (i := 0) rfl) (vI_get0 h30 h31)) ?_
    refine w_nil ?_
    intro a w' hf hs
    exact ⟨rfl, hf.df, _, (HLe.refl _), hs, hf.get _ _ rfl⟩
  intro a w' M202 l203 hdf hsz hb hv hs
  have e204 := hv 0 62 _ rfl rfl
  have e205 := hv 2 64 _ rfl rfl
  have e206 := hv 5 67 _ rfl rfl
  refine n_of (c := (Cx.mk Tryd.prog 80 X M w)) (l := [(1, (ptr b (0 + (i1).toNat))), (2, (ptr b (0 + (i2).toNat))), (62, (ptr b (0 + (i2).toNat))), (64, (.int .u32 (rd (vs (vs (vs z84 i1 t114) i0 (IntKind.u32.wrap ((rd (vs z84 i1 t114).toList i0) + (rd (vs z84 i1 t114).toList i1)))) i3 t174).toList i2))), (67, (.int .u32 (rd (vs (vs (vs z84 i1 t114) i0 (IntKind.u32.wrap ((rd (vs z84 i1 t114).toList i0) + (rd (vs z84 i1 t114).toList i1)))) i3 t174).toList i3)))]) ?_ ((((((Fr.start hdf hsz).add e206).add e205).add e204).add (hb 2 _ rfl rfl)).add (hb 1 _ rfl rfl)) hs
  clear hdf hsz hb hv hs e204 e205 e206
  refine n_id (hK185 _ _ _ ?_)
  refine w_val trivial rfl (fun a w hf hs => r_add (hf.ev rfl) (hf.ev rfl)) ?_
  refine w_val trivial rfl (fun a w hf hs => r_nilCheck (hf.ev rfl)) ?_
  obtain ⟨z207, e208, H⟩ := bnd H
  have e209 := some_r e208
  refine w_store (i := 0) (vs := [(.int .u32 (IntKind.u32.wrap ((rd (vs (vs (vs z84 i1 t114) i0 (IntKind.u32.wrap ((rd (vs z84 i1 t114).toList i0) + (rd (vs z84 i1 t114).toList i1)))) i3 t174).toList i2) + (rd (vs (vs (vs z84 i1 t114) i0 (IntKind.u32.wrap ((rd (vs z84 i1 t114).toList i0) + (rd (vs z84 i1 t114).toList i1)))) i3 t174).toList i3))))]) (A' := vI .u32 z207) trivial rfl rfl rfl rfl ts70 rfl (one1 rfl) (idx_le h20 h21 (vI_len _) (by decide)) (by rw [← e209]; exact (vI_set0 h20 h21)) ?_
  clear e208 e209
  refine w_nil (hK184 _ _ _ ?_)
  refine c_split2 9 (by kernel_rfl) (by kernel_rfl) (by kernel_rfl) (by kernel_rfl) rfl ?_
  intro K210 hK210
  obtain ⟨t236, e241, H⟩ := bnd H
  refine d_drawP [([], [1]), ([], [1]), ([(1, 71)], []), ([(2, 72)], []), ([], [2]), ([(4, 74)], []), ([(5, 75)], []), ([(3, 73), (6, 76)], []), ([(7, 77)], [])] [fun v M => v = (ptr b (0 + (i1).toNat)), fun v M => v = (ptr b (0 + (i1).toNat)), fun v M => v = (ptr b (0 + (i1).toNat)), fun v M => v = (.int .u32 (rd z207.toList i1)), fun v M => v = (ptr b (0 + (i2).toNat)), fun v M => v = (ptr b (0 + (i2).toNat)), fun v M => v = (.int .u32 (rd z207.toList i2)), fun v M => v = (.int .u32 (bits .xor .u32 (rd z207.toList i1) (rd z207.toList i2))), fun v M => v = (.int .u32 t236)] (by kernel_rfl) (by kernel_rfl) ?_ (AllT.cons ?_ (AllT.cons ?_ (AllT.cons ?_ (AllT.cons ?_ (AllT.cons ?_ (AllT.cons ?_ (AllT.cons ?_ (AllT.cons ?_ (AllT.cons ?_ AllT.nil))))))))) ?_
  · exact (MonoA.cons (fun _ _ _ _ h => h) (MonoA.cons (fun _ _ _ _ h => h) (MonoA.cons (fun _ _ _ _ h => h) (MonoA.cons (fun _ _ _ _ h => h) (MonoA.cons (fun _ _ _ _ h => h) (MonoA.cons (fun _ _ _ _ h => h) (MonoA.cons (fun _ _ _ _ h => h) (MonoA.cons (fun _ _ _ _ h => h) (MonoA.cons (fun _ _ _ _ h => h) MonoA.nil)))))))))
  · intro a w' M211 l212 hd hs
    refine OP.ofW (l := [(1, (ptr b (0 + (i1).toNat)))]) (hd.fr.add (hd.base 1 _ rfl rfl)) hs rfl ?_
    refine w_val trivial rfl (fun a w hf hs => r_move (hf.ev rfl)) ?_
    refine w_nil ?_
    intro a w' hf hs
    exact ⟨rfl, hf.df, _, (HLe.refl _), hs, hf.get _ _ rfl⟩
  · intro a w' M213 l214 hd hs
    refine OP.ofW (l := [(1, (ptr b (0 + (i1).toNat)))]) (hd.fr.add (hd.base 1 _ rfl rfl)) hs rfl ?_
    refine w_val trivial rfl (fun a w hf hs => r_move (hf.ev rfl)) ?_
    refine w_nil ?_
    intro a w' hf hs
    exact ⟨rfl, hf.df, _, (HLe.refl _), hs, hf.get _ _ rfl⟩
  · intro a w' M215 l216 hd hs
    have e217 := hd.val 1 71 _ rfl rfl
    refine OP.ofW (l := [(71, (ptr b (0 + (i1).toNat)))]) (hd.fr.add e217) hs rfl ?_
    refine w_val trivial rfl (fun a w hf hs => r_nilCheck (hf.ev rfl)) ?_
    refine w_nil ?_
    intro a w' hf hs
    exact ⟨rfl, hf.df, _, (HLe.refl _), hs, hf.get _ _ rfl⟩
  · intro a w' M218 l219 hd hs
    have e220 := hd.val 2 72 _ rfl rfl
    refine OP.ofW (l := [(72, (ptr b (0 + (i1).toNat)))]) (hd.fr.add e220) hs rfl ?_
    refine w_val trivial rfl (fun a w hf hs => r_load1 ta70 (hf.ev rfl) (hs.blk (i := 0) rfl) (vI_get0 h10 h11)) ?_
    refine w_nil ?_
    intro a w' hf hs
    exact ⟨rfl, hf.df, _, (HLe.refl _), hs, hf.get _ _ rfl⟩
  · intro a w' M221 l222 hd hs
    refine OP.ofW (l := [(2, (ptr b (0 + (i2).toNat)))]) (hd.fr.add (hd.base 2 _ rfl rfl)) hs rfl ?_
    refine w_val trivial rfl (fun a w hf hs => r_move (hf.ev rfl)) ?_
    refine w_nil ?_
    intro a w' hf hs
    exact ⟨rfl, hf.df, _, (HLe.refl _), hs, hf.get _ _ rfl⟩
  · intro a w' M223 l224 hd hs
    have e225 := hd.val 4 74 _ rfl rfl
    refine OP.ofW (l := [(74, (ptr b (0 + (i2).toNat)))]) (hd.fr.add e225) hs rfl ?_
    refine w_val trivial rfl (fun a w hf hs => r_nilCheck (hf.ev rfl)) ?_
    refine w_nil ?_
    intro a w' hf hs
    exact ⟨rfl, hf.df, _, (HLe.refl _), hs, hf.get _ _ rfl⟩
  · intro a w' M226 l227 hd hs
    have e228 := hd.val 5 75 _ rfl rfl
    refine OP.ofW (l := [(75, (ptr b (0 + (i2).toNat)))]) (hd.fr.add e228) hs rfl ?_
    refine w_val trivial rfl (fun a w hf hs => r_load1 ta70 (hf.ev rfl) (hs.blk (i := 0) rfl) (vI_get0 h20 h21)) ?_
    refine w_nil ?_
    intro a w' hf hs
    exact ⟨rfl, hf.df, _, (HLe.refl _), hs, hf.get _ _ rfl⟩
  · intro a w' M229 l230 hd hs
    have e231 := hd.val 3 73 _ rfl rfl
    have e232 := hd.val 6 76 _ rfl rfl
    refine OP.ofW (l := [(73, (.int .u32 (rd z207.toList i1))), (76, (.int .u32 (rd z207.toList i2)))]) ((hd.fr.add e232).add e231) hs rfl ?_
    refine w_val trivial rfl (fun a w hf hs => r_xor (hf.ev rfl) (hf.ev rfl)) ?_
    refine w_nil ?_
    intro a w' hf hs
    exact ⟨rfl, hf.df, _, (HLe.refl _), hs, hf.get _ _ rfl⟩
  · intro a w' M233 l234 hd hs
    have e235 := hd.val 7 77 _ rfl rfl
    refine OP.ofW (l := [(77, (.int .u32 (bits .xor .u32 (rd z207.toList i1) (rd z207.toList i2))))]) (hd.fr.add e235) hs rfl ?_
    refine w_call cf139 trivial rfl rfl (fun w hs => bits_RotateLeft32.calls hs (bits .xor .u32 (rd z207.toList i1) (rd z207.toList i2)) (7 : Int) _ e241) ?_
    rintro _ M238 l239 rfl
    refine w_nil ?_
    intro a w' hf hs
    exact ⟨rfl, hf.df, _, l239, hs, hf.get _ _ rfl⟩
  intro a w' M242 l243 hdf hsz hb hv hs
  have e244 := hv 0 70 _ rfl rfl
  have e245 := hv 8 78 _ rfl rfl
  refine n_of (c := (Cx.mk Tryd.prog 80 X M w)) (l := [(70, (ptr b (0 + (i1).toNat))), (78, (.int .u32 t236))]) ?_ (((Fr.start hdf hsz).add e245).add e244) hs
  clear hdf hsz hb hv hs e244 e245
  refine n_id (hK210 _ _ _ ?_)
  refine w_val trivial rfl (fun a w hf hs => r_nilCheck (hf.ev rfl)) ?_
  refine w_store (i := 0) (vs := [(.int .u32 t236)]) (A' := vI .u32 (vs z207 i1 t236)) trivial rfl rfl rfl rfl ts70 rfl (one1 rfl) (idx_le h10 h11 (vI_len _) (by decide)) (vI_set0 h10 h11) ?_
  obtain rfl := some_r H
  refine w_nil ?_
  intro a w' hf hs
  exact hret _ (.inr rfl) a w' hf.df ⟨_, _, _, Res.of0 rfl, hs.sel [0] (by decide) rfl, rfl, rfl⟩
set_option maxRecDepth 20000 in
theorem cipher_Rounds.calls {M : Heap} {w : World} (hM : Sub M w) (p0 : (Vector Int 16)) (r : (Vector Int 16)) (H : cipher_Rounds p0 = some r) :
    Calls Tryd.prog 119 [(.agg (vI .u32 p0).toArray)].toArray w (Post M w fun M' v => v = (.agg (vI .u32 r).toArray)) := by
  refine enter 47 [(0, (.agg (vI .u32 p0).toArray))] Tryd.func119 rfl rfl rfl hM ?_
  intro Q hret
  unfold cipher_Rounds at H
  refine c_seq ?_
  intro K1 hK1
  refine c_reg ?_
  refine w_boxL trivial rfl rfl rfl ?_
  intro b2
  refine w_allocL (A := vI .u32 (Vector.replicate 16 (0 : Int))) tz131 trivial rfl rfl ?_
  intro b3
  refine w_nil (hK1 _ _ _ ?_)
  refine c_cut (fun a' w' => ∃ (x4 : (Vector Int 16)) (M5 : Heap), HLe M M5 ∧ Fr 47 [(1, (ptr b2 0)), (2, (ptr b3 0))] a' ∧ St none' M w M5 (lt [.blk b2 (.cells (vI .u32 x4).toArray 131 (0, 0)), .blk b3 (.cells (vI .u32 (Vector.replicate 16 (0 : Int))).toArray 131 (0, 0))]) w' ∧ cipher_Rounds.j1 x4 = some r) ?_ ?_
  · refine c_seq ?_
    intro K8 hK8
    refine c_reg ?_
    refine w_val trivial rfl (fun a w hf hs => r_move (hf.ev rfl)) ?_
    refine w_nil (hK8 _ _ _ ?_)
    refine c_block ?_
    refine c_loop (fun (s9 : ((Vector Int 16) × Int)) a' w' => ∃ (M10 : Heap), HLe M M10 ∧ Fr 47 [(1, (ptr b2 0)), (2, (ptr b3 0)), (5, (.int .i64 s9.2))] a' ∧ St none' M w M10 (lt [.blk b2 (.cells (vI .u32 s9.1).toArray 131 (0, 0)), .blk b3 (.cells (vI .u32 (Vector.replicate 16 (0 : Int))).toArray 131 (0, 0))]) w') (p0, (0 : Int)) H ?_ ?_
    · intro a w' hf hs
      exact ⟨_, HLe.refl _, (((hf.nil.add (hf.get _ _ rfl)).add (hf.get _ _ rfl)).add (hf.get _ _ rfl)), hs.selD [some 0, some 1] (by decide) rfl⟩
    · clear H
      intro s9 y13 H r12 a w' hJ
      obtain ⟨M10, l11, hf, hs⟩ := hJ
      refine c_of (c := (Cx.mk Tryd.prog 47 none' M w)) ?_ hf hs
      unfold cipher_Rounds.l6 at H
      clear hf hs
      refine c_seq ?_
      intro K14 hK14
      refine c_reg ?_
      refine w_val trivial rfl (fun a w hf hs => r_lss (hf.ev rfl) (hf.ev rfl)) ?_
      refine w_nil (hK14 _ _ _ ?_)
      refine c_seq ?_
      intro K15 hK15
      refine c_if rfl (fun b16 => ?_) (fun b16 => ?_)
      · replace H := if_t b16 H
        refine c_skip (hK15 _ _ _ ?_)
        refine c_cut (fun a' w' => ∃ (x17 : (Vector Int 16)) (M18 : Heap), HLe M10 M18 ∧ Fr 47 [(1, (ptr b2 0)), (2, (ptr b3 0)), (5, (.int .i64 s9.2))] a' ∧ St none' M w M18 (lt [.blk b2 (.cells (vI .u32 x17).toArray 131 (0, 0)), .blk b3 (.cells (vI .u32 (Vector.replicate 16 (0 : Int))).toArray 131 (0, 0))]) w' ∧ cipher_Rounds.j2 x17 s9 = some y13) ?_ ?_
        · refine c_block ?_
          refine c_cut (fun a' w' => ∃ (x20 : (Vector Int 16)) (M21 : Heap), HLe M10 M21 ∧ Fr 47 [(1, (ptr b2 0)), (2, (ptr b3 0)), (5, (.int .i64 s9.2))] a' ∧ St none' M w M21 (lt [.blk b2 (.cells (vI .u32 x20).toArray 131 (0, 0)), .blk b3 (.cells (vI .u32 (Vector.replicate 16 (0 : Int))).toArray 131 (0, 0))]) w' ∧ cipher_Rounds.j4 s9 x20 = some y13) ?_ ?_
          · refine c_seq ?_
            intro K96 hK96
            refine c_reg ?_
            refine w_val trivial rfl (fun a w hf hs => r_move (hf.ev rfl)) ?_
            refine w_nil (hK96 _ _ _ ?_)
            refine c_block ?_
            refine c_loop (fun (s97 : ((Vector Int 16) × Int)) a' w' => ∃ (M98 : Heap), HLe M10 M98 ∧ Fr 47 [(1, (ptr b2 0)), (2, (ptr b3 0)), (5, (.int .i64 s9.2)), (7, (.int .i64 s97.2))] a' ∧ St none' M w M98 (lt [.blk b2 (.cells (vI .u32 s97.1).toArray 131 (0, 0)), .blk b3 (.cells (vI .u32 (Vector.replicate 16 (0 : Int))).toArray 131 (0, 0))]) w') (s9.1, (0 : Int)) H ?_ ?_
            · intro a w' hf hs
              exact ⟨_, HLe.refl _, ((((hf.nil.add (hf.get _ _ rfl)).add (hf.get _ _ rfl)).add (hf.get _ _ rfl)).add (hf.get _ _ rfl)), hs.selD [some 0, some 1] (by decide) rfl⟩
            · clear H
              intro s97 y101 H r100 a w' hJ
              obtain ⟨M98, l99, hf, hs⟩ := hJ
              refine c_of (c := (Cx.mk Tryd.prog 47 none' M w)) ?_ hf hs
              unfold cipher_Rounds.l5 at H
              clear hf hs
              refine c_seq ?_
              intro K102 hK102
              refine c_reg ?_
              refine w_val trivial rfl (fun a w hf hs => r_lss (hf.ev rfl) (hf.ev rfl)) ?_
              refine w_nil (hK102 _ _ _ ?_)
              refine c_seq ?_
              intro K103 hK103
              refine c_if rfl (fun b104 => ?_) (fun b104 => ?_)
              · replace H := if_t b104 H
                refine c_skip (hK103 _ _ _ ?_)
                refine c_seq ?_
                intro K105 hK105
                refine c_block ?_
                refine c_seq ?_
                intro K106 hK106
                refine c_reg ?_
                refine w_val trivial rfl (fun a w hf hs => r_move (hf.ev rfl)) ?_
                refine w_val trivial rfl (fun a w hf hs => r_assign (hf.ev rfl)) ?_
                refine w_nil (hK106 _ _ _ ?_)
                refine c_split2 11 (by kernel_rfl) (by kernel_rfl) (by kernel_rfl) (by kernel_rfl) rfl ?_
                intro K107 hK107
                obtain ⟨g113, H⟩ := grd_s H
                obtain ⟨g122, H⟩ := grd_s H
                obtain ⟨g131, H⟩ := grd_s H
                obtain ⟨g140, H⟩ := grd_s H
                refine d_drawP [([], [3]), ([(0, 10)], [1]), ([], [3]), ([(2, 12)], []), ([(3, 13)], [1]), ([], [3]), ([(5, 15)], []), ([(6, 16)], [1]), ([], [3]), ([(8, 18)], []), ([(9, 19)], [1])] [fun v M => v = (.int .i64 s97.2), fun v M => v = (ptr b2 (0 + (s97.2).toNat)), fun v M => v = (.int .i64 s97.2), fun v M => v = (.int .i64 (IntKind.i64.wrap ((4 : Int) + s97.2))), fun v M => v = (ptr b2 (0 + ((IntKind.i64.wrap ((4 : Int) + s97.2))).toNat)), fun v M => v = (.int .i64 s97.2), fun v M => v = (.int .i64 (IntKind.i64.wrap ((8 : Int) + s97.2))), fun v M => v = (ptr b2 (0 + ((IntKind.i64.wrap ((8 : Int) + s97.2))).toNat)), fun v M => v = (.int .i64 s97.2), fun v M => v = (.int .i64 (IntKind.i64.wrap ((12 : Int) + s97.2))), fun v M => v = (ptr b2 (0 + ((IntKind.i64.wrap ((12 : Int) + s97.2))).toNat))] (by kernel_rfl) (by kernel_rfl) ?_ (AllT.cons ?_ (AllT.cons ?_ (AllT.cons ?_ (AllT.cons ?_ (AllT.cons ?_ (AllT.cons ?_ (AllT.cons ?_ (AllT.cons ?_ (AllT.cons ?_ (AllT.cons ?_ (AllT.cons ?_ AllT.nil))))))))))) ?_
                · exact (MonoA.cons (fun _ _ _ _ h => h) (MonoA.cons (fun _ _ _ _ h => h) (MonoA.cons (fun _ _ _ _ h => h) (MonoA.cons (fun _ _ _ _ h => h) (MonoA.cons (fun _ _ _ _ h => h) (MonoA.cons (fun _ _ _ _ h => h) (MonoA.cons (fun _ _ _ _ h => h) (MonoA.cons (fun _ _ _ _ h => h) (MonoA.cons (fun _ _ _ _ h => h) (MonoA.cons (fun _ _ _ _ h => h) (MonoA.cons (fun _ _ _ _ h => h) MonoA.nil)))))))))))
                · intro a w' M108 l109 hd hs
                  refine OP.ofW (l := [(3, (.int .i64 s97.2))]) (hd.fr.add (hd.base 3 _ rfl rfl)) hs rfl ?_
                  refine w_val trivial rfl (fun a w hf hs => r_move (hf.ev rfl)) ?_
                  refine w_nil ?_
                  intro a w' hf hs
                  exact ⟨rfl, hf.df, _, (HLe.refl _), hs, hf.get _ _ rfl⟩
                · intro a w' M110 l111 hd hs
                  have e112 := hd.val 0 10 _ rfl rfl
                  refine OP.ofW (l := [(1, (ptr b2 0)), (10, (.int .i64 s97.2))]) ((hd.fr.add e112).add (hd.base 1 _ rfl rfl)) hs rfl ?_
                  refine w_val trivial rfl (fun a w hf hs => r_iaI Tryd.underlying131 ts70 (hf.ev rfl) (hf.ev rfl) g113.1 g113.2) ?_
                  refine w_nil ?_
                  intro a w' hf hs
                  exact ⟨rfl, hf.df, _, (HLe.refl _), hs, hf.get _ _ rfl⟩
                · intro a w' M114 l115 hd hs
                  refine OP.ofW (l := [(3, (.int .i64 s97.2))]) (hd.fr.add (hd.base 3 _ rfl rfl)) hs rfl ?_
                  refine w_val trivial rfl (fun a w hf hs => r_move (hf.ev rfl)) ?_
                  refine w_nil ?_
                  intro a w' hf hs
                  exact ⟨rfl, hf.df, _, (HLe.refl _), hs, hf.get _ _ rfl⟩
                · intro a w' M116 l117 hd hs
                  have e118 := hd.val 2 12 _ rfl rfl
                  refine OP.ofW (l := [(12, (.int .i64 s97.2))]) (hd.fr.add e118) hs rfl ?_
                  refine w_val trivial rfl (fun a w hf hs => r_add (hf.ev rfl) (hf.ev rfl)) ?_
                  refine w_nil ?_
                  intro a w' hf hs
                  exact ⟨rfl, hf.df, _, (HLe.refl _), hs, hf.get _ _ rfl⟩
                · intro a w' M119 l120 hd hs
                  have e121 := hd.val 3 13 _ rfl rfl
                  refine OP.ofW (l := [(1, (ptr b2 0)), (13, (.int .i64 (IntKind.i64.wrap ((4 : Int) + s97.2))))]) ((hd.fr.add e121).add (hd.base 1 _ rfl rfl)) hs rfl ?_
                  refine w_val trivial rfl (fun a w hf hs => r_iaI Tryd.underlying131 ts70 (hf.ev rfl) (hf.ev rfl) g122.1 g122.2) ?_
                  refine w_nil ?_
                  intro a w' hf hs
                  exact ⟨rfl, hf.df, _, (HLe.refl _), hs, hf.get _ _ rfl⟩
                · intro a w' M123 l124 hd hs
                  refine OP.ofW (l := [(3, (.int .i64 s97.2))]) (hd.fr.add (hd.base 3 _ rfl rfl)) hs rfl ?_
                  refine w_val trivial rfl (fun a w hf hs => r_move (hf.ev rfl)) ?_
                  refine w_nil ?_
                  intro a w' hf hs
                  exact ⟨rfl, hf.df, _, (HLe.refl _), hs, hf.get _ _ rfl⟩
                · intro a w' M125 l126 hd hs
                  have e127 := hd.val 5 15 _ rfl rfl
                  refine OP.ofW (l := [(15, (.int .i64 s97.2))]) (hd.fr.add e127) hs rfl ?_
                  refine w_val trivial rfl (fun a w hf hs => r_add (hf.ev rfl) (hf.ev rfl)) ?_
                  refine w_nil ?_
                  intro a w' hf hs
                  exact ⟨rfl, hf.df, _, (HLe.refl _), hs, hf.get _ _ rfl⟩
                · intro a w' M128 l129 hd hs
                  have e130 := hd.val 6 16 _ rfl rfl
                  refine OP.ofW (l := [(1, (ptr b2 0)), (16, (.int .i64 (IntKind.i64.wrap ((8 : Int) + s97.2))))]) ((hd.fr.add e130).add (hd.base 1 _ rfl rfl)) hs rfl ?_
                  refine w_val trivial rfl (fun a w hf hs => r_iaI Tryd.underlying131 ts70 (hf.ev rfl) (hf.ev rfl) g131.1 g131.2) ?_
                  refine w_nil ?_
                  intro a w' hf hs
                  exact ⟨rfl, hf.df, _, (HLe.refl _), hs, hf.get _ _ rfl⟩
                · intro a w' M132 l133 hd hs
                  refine OP.ofW (l := [(3, (.int .i64 s97.2))]) (hd.fr.add (hd.base 3 _ rfl rfl)) hs rfl ?_
                  refine w_val trivial rfl (fun a w hf hs => r_move (hf.ev rfl)) ?_
                  refine w_nil ?_
                  intro a w' hf hs
                  exact ⟨rfl, hf.df, _, (HLe.refl _), hs, hf.get _ _ rfl⟩
                · intro a w' M134 l135 hd hs
                  have e136 := hd.val 8 18 _ rfl rfl
                  refine OP.ofW (l := [(18, (.int .i64 s97.2))]) (hd.fr.add e136) hs rfl ?_
                  refine w_val trivial rfl (fun a w hf hs => r_add (hf.ev rfl) (hf.ev rfl)) ?_
                  refine w_nil ?_
                  intro a w' hf hs
                  exact ⟨rfl, hf.df, _, (HLe.refl _), hs, hf.get _ _ rfl⟩
                · intro a w' M137 l138 hd hs
                  have e139 := hd.val 9 19 _ rfl rfl
                  refine OP.ofW (l := [(1, (ptr b2 0)), (19, (.int .i64 (IntKind.i64.wrap ((12 : Int) + s97.2))))]) ((hd.fr.add e139).add (hd.base 1 _ rfl rfl)) hs rfl ?_
                  refine w_val trivial rfl (fun a w hf hs => r_iaI Tryd.underlying131 ts70 (hf.ev rfl) (hf.ev rfl) g140.1 g140.2) ?_
                  refine w_nil ?_
                  intro a w' hf hs
                  exact ⟨rfl, hf.df, _, (HLe.refl _), hs, hf.get _ _ rfl⟩
                intro a w' M141 l142 hdf hsz hb hv hs
                have e143 := hv 1 11 _ rfl rfl
                have e144 := hv 4 14 _ rfl rfl
                have e145 := hv 7 17 _ rfl rfl
                have e146 := hv 10 20 _ rfl rfl
                refine n_of (c := (Cx.mk Tryd.prog 47 none' M w)) (l := [(1, (ptr b2 0)), (2, (ptr b3 0)), (5, (.int .i64 s9.2)), (7, (.int .i64 s97.2)), (11, (ptr b2 (0 + (s97.2).toNat))), (14, (ptr b2 (0 + ((IntKind.i64.wrap ((4 : Int) + s97.2))).toNat))), (17, (ptr b2 (0 + ((IntKind.i64.wrap ((8 : Int) + s97.2))).toNat))), (20, (ptr b2 (0 + ((IntKind.i64.wrap ((12 : Int) + s97.2))).toNat)))]) ?_ (((((((((Fr.start hdf hsz).add e146).add e145).add e144).add e143).add (hb 7 _ rfl rfl)).add (hb 5 _ rfl rfl)).add (hb 2 _ rfl rfl)).add (hb 1 _ rfl rfl)) hs
                clear hdf hsz hb hv hs e143 e144 e145 e146
                refine n_id (hK107 _ _ _ ?_)
                obtain ⟨t147, e148, H⟩ := bnd H
                refine w_callI 0 cf134 trivial rfl rfl rfl (fun X' w hs => cipher_quarter.calls hs g113.1 g113.2 g122.1 g122.2 g131.1 g131.2 g140.1 g140.2 _ e148) ?_
                rintro _ M149 _ l150 ⟨rfl, rfl⟩
                refine w_nil (hK105 _ _ _ ?_)
                refine c_reg ?_
                refine w_val trivial rfl (fun a w hf hs => r_add (hf.ev rfl) (hf.ev rfl)) ?_
                refine w_val trivial rfl (fun a w hf hs => r_move (hf.ev rfl)) ?_
                refine w_nil ?_
                intro a w' hf hs
                exact ⟨_, (some_r H).symm, _, l99.trans (l142.trans l150), ((((hf.nil.add (hf.get _ _ rfl)).add (hf.get _ _ rfl)).add (hf.get _ _ rfl)).add (hf.get _ _ rfl)), hs.selD [some 0, some 1] (by decide) rfl⟩
              · replace H := if_f b104 H
                replace H := map_inr H r100
                refine c_exit ?_
                intro a w' hf hs
                exact ⟨s97.1, _, l99, (((hf.nil.add (hf.get _ _ rfl)).add (hf.get _ _ rfl)).add (hf.get _ _ rfl)), hs.selD [some 0, some 1] (by decide) rfl, H⟩
          · rintro a w' ⟨x20, M21, l22, hf, hs, H⟩
            refine c_of (c := (Cx.mk Tryd.prog 47 none' M w)) ?_ hf hs
            unfold cipher_Rounds.j4 at H
            clear hf hs
            refine c_seq ?_
            intro K23 hK23
            refine c_reg ?_
            refine w_val trivial rfl (fun a w hf hs => r_move (hf.ev rfl)) ?_
            refine w_nil (hK23 _ _ _ ?_)
            refine c_block ?_
            refine c_loop (fun (s24 : ((Vector Int 16) × Int)) a' w' => ∃ (M25 : Heap), HLe M21 M25 ∧ Fr 47 [(1, (ptr b2 0)), (2, (ptr b3 0)), (5, (.int .i64 s9.2)), (23, (.int .i64 s24.2))] a' ∧ St none' M w M25 (lt [.blk b2 (.cells (vI .u32 s24.1).toArray 131 (0, 0)), .blk b3 (.cells (vI .u32 (Vector.replicate 16 (0 : Int))).toArray 131 (0, 0))]) w') (x20, (0 : Int)) H ?_ ?_
            · intro a w' hf hs
              exact ⟨_, HLe.refl _, ((((hf.nil.add (hf.get _ _ rfl)).add (hf.get _ _ rfl)).add (hf.get _ _ rfl)).add (hf.get _ _ rfl)), hs.selD [some 0, some 1] (by decide) rfl⟩
            · clear H
              intro s24 y28 H r27 a w' hJ
              obtain ⟨M25, l26, hf, hs⟩ := hJ
              refine c_of (c := (Cx.mk Tryd.prog 47 none' M w)) ?_ hf hs
              unfold cipher_Rounds.l3 at H
              clear hf hs
              refine c_seq ?_
              intro K29 hK29
              refine c_reg ?_
              refine w_val trivial rfl (fun a w hf hs => r_lss (hf.ev rfl) (hf.ev rfl)) ?_
              refine w_nil (hK29 _ _ _ ?_)
              refine c_seq ?_
              intro K30 hK30
              refine c_if rfl (fun b31 => ?_) (fun b31 => ?_)
              · replace H := if_t b31 H
                refine c_skip (hK30 _ _ _ ?_)
                refine c_seq ?_
                intro K32 hK32
                refine c_block ?_
                refine c_seq ?_
                intro K33 hK33
                refine c_reg ?_
                refine w_val trivial rfl (fun a w hf hs => r_move (hf.ev rfl)) ?_
                refine w_val trivial rfl (fun a w hf hs => r_assign (hf.ev rfl)) ?_
                refine w_nil (hK33 _ _ _ ?_)
                refine c_split2 17 (by kernel_rfl) (by kernel_rfl) (by kernel_rfl) (by kernel_rfl) rfl ?_
                intro K34 hK34
                obtain ⟨g40, H⟩ := grd_s H
                obtain ⟨g55, H⟩ := grd_s H
                obtain ⟨g70, H⟩ := grd_s H
                obtain ⟨g85, H⟩ := grd_s H
                refine d_drawP [([], [4]), ([(0, 26)], [1]), ([], [4]), ([(2, 28)], []), ([(3, 29)], []), ([(4, 30)], []), ([(5, 31)], [1]), ([], [4]), ([(7, 33)], []), ([(8, 34)], []), ([(9, 35)], []), ([(10, 36)], [1]), ([], [4]), ([(12, 38)], []), ([(13, 39)], []), ([(14, 40)], []), ([(15, 41)], [1])] [fun v M => v = (.int .i64 s24.2), fun v M => v = (ptr b2 (0 + (s24.2).toNat)), fun v M => v = (.int .i64 s24.2), fun v M => v = (.int .i64 (IntKind.i64.wrap (s24.2 + (1 : Int)))), fun v M => v = (.int .i64 (Int.tmod (IntKind.i64.wrap (s24.2 + (1 : Int))) (4 : Int))), fun v M => v = (.int .i64 (IntKind.i64.wrap ((4 : Int) + (Int.tmod (IntKind.i64.wrap (s24.2 + (1 : Int))) (4 : Int))))), fun v M => v = (ptr b2 (0 + ((IntKind.i64.wrap ((4 : Int) + (Int.tmod (IntKind.i64.wrap (s24.2 + (1 : Int))) (4 : Int))))).toNat)), fun v M => v = (.int .i64 s24.2), fun v M => v = (.int .i64 (IntKind.i64.wrap (s24.2 + (2 : Int)))), fun v M => v = (.int .i64 (Int.tmod (IntKind.i64.wrap (s24.2 + (2 : Int))) (4 : Int))), fun v M => v = (.int .i64 (IntKind.i64.wrap ((8 : Int) + (Int.tmod (IntKind.i64.wrap (s24.2 + (2 : Int))) (4 : Int))))), fun v M => v = (ptr b2 (0 + ((IntKind.i64.wrap ((8 : Int) + (Int.tmod (IntKind.i64.wrap (s24.2 + (2 : Int))) (4 : Int))))).toNat)), fun v M => v = (.int .i64 s24.2), fun v M => v = (.int .i64 (IntKind.i64.wrap (s24.2 + (3 : Int)))), fun v M => v = (.int .i64 (Int.tmod (IntKind.i64.wrap (s24.2 + (3 : Int))) (4 : Int))), fun v M => v = (.int .i64 (IntKind.i64.wrap ((12 : Int) + (Int.tmod (IntKind.i64.wrap (s24.2 + (3 : Int))) (4 : Int))))), fun v M => v = (ptr b2 (0 + ((IntKind.i64.wrap ((12 : Int) + (Int.tmod (IntKind.i64.wrap (s24.2 + (3 : Int))) (4 : Int))))).toNat))] (by kernel_rfl) (by kernel_rfl) ?_ (AllT.cons ?_ (AllT.cons ?_ (AllT.cons ?_ (AllT.cons ?_ (AllT.cons ?_ (AllT.cons ?_ (AllT.cons ?_ (AllT.cons ?_ (AllT.cons ?_ (AllT.cons ?_ (AllT.cons ?_ (AllT.cons ?_ (AllT.cons ?_ (AllT.cons ?_ (AllT.cons ?_ (AllT.cons ?_ (AllT.cons ?_ AllT.nil))))))))))))))))) ?_
                · exact (MonoA.cons (fun _ _ _ _ h => h) (MonoA.cons (fun _ _ _ _ h => h) (MonoA.cons (fun _ _ _ _ h => h) (MonoA.cons (fun _ _ _ _ h => h) (MonoA.cons (fun _ _ _ _ h => h) (MonoA.cons (fun _ _ _ _ h => h) (MonoA.cons (fun _ _ _ _ h => h) (MonoA.cons (fun _ _ _ _ h => h) (MonoA.cons (fun _ _ _ _ h => h) (MonoA.cons (fun _ _ _ _ h => h) (MonoA.cons (fun _ _ _ _ h => h) (MonoA.cons (fun _ _ _ _ h => h) (MonoA.cons (fun _ _ _ _ h => h) (MonoA.cons (fun _ _ _ _ h => h) (MonoA.cons (fun _ _ _ _ h => h) (MonoA.cons (fun _ _ _ _ h => h) (MonoA.cons (fun _ _ _ _ h => h) MonoA.nil)))))))))))))))))
                · intro a w' M35 l36 hd hs
                  refine OP.ofW (l := [(4, (.int .i64 s24.2))]) (hd.fr.add (hd.base 4 _ rfl rfl)) hs rfl ?_
                  refine w_val trivial rfl (fun a w hf hs => r_move (hf.ev rfl)) ?_
                  refine w_nil ?_
                  intro a w' hf hs
                  exact ⟨rfl, hf.df, _, (HLe.refl _), hs, hf.get _ _ rfl⟩
                · intro a w' M37 l38 hd hs
                  have e39 := hd.val 0 26 _ rfl rfl
                  refine OP.ofW (l := [(1, (ptr b2 0)), (26, (.int .i64 s24.2))]) ((hd.fr.add e39).add (hd.base 1 _ rfl rfl)) hs rfl ?_
                  refine w_val trivial rfl (fun a w hf hs => r_iaI Tryd.underlying131 ts70 (hf.ev rfl) (hf.ev rfl) g40.1 g40.2) ?_
                  refine w_nil ?_
                  intro a w' hf hs
                  exact ⟨rfl, hf.df, _, (HLe.refl _), hs, hf.get _ _ rfl⟩
                · intro a w' M41 l42 hd hs
                  refine OP.ofW (l := [(4, (.int .i64 s24.2))]) (hd.fr.add (hd.base 4 _ rfl rfl)) hs rfl ?_
                  refine w_val trivial rfl (fun a w hf hs => r_move (hf.ev rfl)) ?_
                  refine w_nil ?_
                  intro a w' hf hs
                  exact ⟨rfl, hf.df, _, (HLe.refl _), hs, hf.get _ _ rfl⟩
                · intro a w' M43 l44 hd hs
                  have e45 := hd.val 2 28 _ rfl rfl
                  refine OP.ofW (l := [(28, (.int .i64 s24.2))]) (hd.fr.add e45) hs rfl ?_
                  refine w_val trivial rfl (fun a w hf hs => r_add (hf.ev rfl) (hf.ev rfl)) ?_
                  refine w_nil ?_
                  intro a w' hf hs
                  exact ⟨rfl, hf.df, _, (HLe.refl _), hs, hf.get _ _ rfl⟩
                · intro a w' M46 l47 hd hs
                  have e48 := hd.val 3 29 _ rfl rfl
                  refine OP.ofW (l := [(29, (.int .i64 (IntKind.i64.wrap (s24.2 + (1 : Int)))))]) (hd.fr.add e48) hs rfl ?_
                  refine w_val trivial rfl (fun a w hf hs => r_rem (hf.ev rfl) (hf.ev rfl) (by decide)) ?_
                  refine w_nil ?_
                  intro a w' hf hs
                  exact ⟨rfl, hf.df, _, (HLe.refl _), hs, hf.get _ _ rfl⟩
                · intro a w' M49 l50 hd hs
                  have e51 := hd.val 4 30 _ rfl rfl
                  refine OP.ofW (l := [(30, (.int .i64 (Int.tmod (IntKind.i64.wrap (s24.2 + (1 : Int))) (4 : Int))))]) (hd.fr.add e51) hs rfl ?_
                  refine w_val trivial rfl (fun a w hf hs => r_add (hf.ev rfl) (hf.ev rfl)) ?_
                  refine w_nil ?_
                  intro a w' hf hs
                  exact ⟨rfl, hf.df, _, (HLe.refl _), hs, hf.get _ _ rfl⟩
                · intro a w' M52 l53 hd hs
                  have e54 := hd.val 5 31 _ rfl rfl
                  refine OP.ofW (l := [(1, (ptr b2 0)), (31, (.int .i64 (IntKind.i64.wrap ((4 : Int) + (Int.tmod (IntKind.i64.wrap (s24.2 + (1 : Int))) (4 : Int))))))]) ((hd.fr.add e54).add (hd.base 1 _ rfl rfl)) hs rfl ?_
                  refine w_val trivial rfl (fun a w hf hs => r_iaI Tryd.underlying131 ts70 (hf.ev rfl) (hf.ev rfl) g55.1 g55.2) ?_
                  refine w_nil ?_
                  intro a w' hf hs
                  exact ⟨rfl, hf.df, _, (HLe.refl _), hs, hf.get _ _ rfl⟩
                · intro a w' M56 l57 hd hs
                  refine OP.ofW (l := [(4, (.int .i64 s24.2))]) (hd.fr.add (hd.base 4 _ rfl rfl)) hs rfl ?_
                  refine w_val trivial rfl (fun a w hf hs => r_move (hf.ev rfl)) ?_
                  refine w_nil ?_
                  intro a w' hf hs
                  exact ⟨rfl, hf.df, _, (HLe.refl _), hs, hf.get _ _ rfl⟩
                · intro a w' M58 l59 hd hs
                  have e60 := hd.val 7 33 _ rfl rfl
                  refine OP.ofW (l := [(33, (.int .i64 s24.2))]) (hd.fr.add e60) hs rfl ?_
                  refine w_val trivial rfl (fun a w hf hs => r_add (hf.ev rfl) (hf.ev rfl)) ?_
                  refine w_nil ?_
                  intro a w' hf hs
                  exact ⟨rfl, hf.df, _, (HLe.refl _), hs, hf.get _ _ rfl⟩
                · intro a w' M61 l62 hd hs
                  have e63 := hd.val 8 34 _ rfl rfl
                  refine OP.ofW (l := [(34, (.int .i64 (IntKind.i64.wrap (s24.2 + (2 : Int)))))]) (hd.fr.add e63) hs rfl ?_
                  refine w_val trivial rfl (fun a w hf hs => r_rem (hf.ev rfl) (hf.ev rfl) (by decide)) ?_
                  refine w_nil ?_
                  intro a w' hf hs
                  exact ⟨rfl, hf.df, _, (HLe.refl _), hs, hf.get _ _ rfl⟩
                · intro a w' M64 l65 hd hs
                  have e66 := hd.val 9 35 _ rfl rfl
                  refine OP.ofW (l := [(35, (.int .i64 (Int.tmod (IntKind.i64.wrap (s24.2 + (2 : Int))) (4 : Int))))]) (hd.fr.add e66) hs rfl ?_
                  refine w_val trivial rfl (fun a w hf hs => r_add (hf.ev rfl) (hf.ev rfl)) ?_
                  refine w_nil ?_
                  intro a w' hf hs
                  exact ⟨rfl, hf.df, _, (HLe.refl _), hs, hf.get _ _ rfl⟩
                · intro a w' M67 l68 hd hs
                  have e69 := hd.val 10 36 _ rfl rfl
                  refine OP.ofW (l := [(1, (ptr b2 0)), (36, (.int .i64 (IntKind.i64.wrap ((8 : Int) + (Int.tmod (IntKind.i64.wrap (s24.2 + (2 : Int))) (4 : Int))))))]) ((hd.fr.add e69).add (hd.base 1 _ rfl rfl)) hs rfl ?_
                  refine w_val trivial rfl (fun a w hf hs => r_iaI Tryd.underlying131 ts70 (hf.ev rfl) (hf.ev rfl) g70.1 g70.2) ?_
                  refine w_nil ?_
                  intro a w' hf hs
                  exact ⟨rfl, hf.df, _, (HLe.refl _), hs, hf.get _ _ rfl⟩
                · intro a w' M71 l72 hd hs
                  refine OP.ofW (l := [(4, (.int .i64 s24.2))]) (hd.fr.add (hd.base 4 _ rfl rfl)) hs rfl ?_
                  refine w_val trivial rfl (fun a w hf hs => r_move (hf.ev rfl)) ?_
                  refine w_nil ?_
                  intro a w' hf hs
                  exact ⟨rfl, hf.df, _, (HLe.refl _), hs, hf.get _ _ rfl⟩
                · intro a w' M73 l74 hd hs
                  have e75 := hd.val 12 38 _ rfl rfl
                  refine OP.ofW (l := [(38, (.int .i64 s24.2))]) (hd.fr.add e75) hs rfl ?_
                  refine w_val trivial rfl (fun a w hf hs => r_add (hf.ev rfl) (hf.ev rfl)) ?_
                  refine w_nil ?_
                  intro a w' hf hs
                  exact ⟨rfl, hf.df, _, (HLe.refl _), hs, hf.get _ _ rfl⟩
                · intro a w' M76 l77 hd hs
                  have e78 := hd.val 13 39 _ rfl rfl
                  refine OP.ofW (l := [(39, (.int .i64 (IntKind.i64.wrap (s24.2 + (3 : Int)))))]) (hd.fr.add e78) hs rfl ?_
                  refine w_val trivial rfl (fun a w hf hs => r_rem (hf.ev rfl) (hf.ev rfl) (by decide)) ?_
                  refine w_nil ?_
                  intro a w' hf hs
                  exact ⟨rfl, hf.df, _, (HLe.refl _), hs, hf.get _ _ rfl⟩
                · intro a w' M79 l80 hd hs
                  have e81 := hd.val 14 40 _ rfl rfl
                  refine OP.ofW (l := [(40, (.int .i64 (Int.tmod (IntKind.i64.wrap (s24.2 + (3 : Int))) (4 : Int))))]) (hd.fr.add e81) hs rfl ?_
                  refine w_val trivial rfl (fun a w hf hs => r_add (hf.ev rfl) (hf.ev rfl)) ?_
                  refine w_nil ?_
                  intro a w' hf hs
                  exact ⟨rfl, hf.df, _, (HLe.refl _), hs, hf.get _ _ rfl⟩
                · intro a w' M82 l83 hd hs
                  have e84 := hd.val 15 41 _ rfl rfl
                  refine OP.ofW (l := [(1, (ptr b2 0)), (41, (.int .i64 (IntKind.i64.wrap ((12 : Int) + (Int.tmod (IntKind.i64.wrap (s24.2 + (3 : Int))) (4 : Int))))))]) ((hd.fr.add e84).add (hd.base 1 _ rfl rfl)) hs rfl ?_
                  refine w_val trivial rfl (fun a w hf hs => r_iaI Tryd.underlying131 ts70 (hf.ev rfl) (hf.ev rfl) g85.1 g85.2) ?_
                  refine w_nil ?_
                  intro a w' hf hs
                  exact ⟨rfl, hf.df, _, (HLe.refl _), hs, hf.get _ _ rfl⟩
                intro a w' M86 l87 hdf hsz hb hv hs
                have e88 := hv 1 27 _ rfl rfl
                have e89 := hv 6 32 _ rfl rfl
                have e90 := hv 11 37 _ rfl rfl
                have e91 := hv 16 42 _ rfl rfl
                refine n_of (c := (Cx.mk Tryd.prog 47 none' M w)) (l := [(1, (ptr b2 0)), (2, (ptr b3 0)), (5, (.int .i64 s9.2)), (23, (.int .i64 s24.2)), (27, (ptr b2 (0 + (s24.2).toNat))), (32, (ptr b2 (0 + ((IntKind.i64.wrap ((4 : Int) + (Int.tmod (IntKind.i64.wrap (s24.2 + (1 : Int))) (4 : Int))))).toNat))), (37, (ptr b2 (0 + ((IntKind.i64.wrap ((8 : Int) + (Int.tmod (IntKind.i64.wrap (s24.2 + (2 : Int))) (4 : Int))))).toNat))), (42, (ptr b2 (0 + ((IntKind.i64.wrap ((12 : Int) + (Int.tmod (IntKind.i64.wrap (s24.2 + (3 : Int))) (4 : Int))))).toNat)))]) ?_ (((((((((Fr.start hdf hsz).add e91).add e90).add e89).add e88).add (hb 23 _ rfl rfl)).add (hb 5 _ rfl rfl)).add (hb 2 _ rfl rfl)).add (hb 1 _ rfl rfl)) hs
                clear hdf hsz hb hv hs e88 e89 e90 e91
                refine n_id (hK34 _ _ _ ?_)
                obtain ⟨t92, e93, H⟩ := bnd H
                refine w_callI 0 cf134 trivial rfl rfl rfl (fun X' w hs => cipher_quarter.calls hs g40.1 g40.2 g55.1 g55.2 g70.1 g70.2 g85.1 g85.2 _ e93) ?_
                rintro _ M94 _ l95 ⟨rfl, rfl⟩
                refine w_nil (hK32 _ _ _ ?_)
                refine c_reg ?_
                refine w_val trivial rfl (fun a w hf hs => r_add (hf.ev rfl) (hf.ev rfl)) ?_
                refine w_val trivial rfl (fun a w hf hs => r_move (hf.ev rfl)) ?_
                refine w_nil ?_
                intro a w' hf hs
                exact ⟨_, (some_r H).symm, _, l26.trans (l87.trans l95), ((((hf.nil.add (hf.get _ _ rfl)).add (hf.get _ _ rfl)).add (hf.get _ _ rfl)).add (hf.get _ _ rfl)), hs.selD [some 0, some 1] (by decide) rfl⟩
              · replace H := if_f b31 H
                replace H := map_inr H r27
                refine c_exit ?_
                intro a w' hf hs
                exact ⟨s24.1, _, (l22.trans l26), (((hf.nil.add (hf.get _ _ rfl)).add (hf.get _ _ rfl)).add (hf.get _ _ rfl)), hs.selD [some 0, some 1] (by decide) rfl, H⟩
        · rintro a w' ⟨x17, M18, l19, hf, hs, H⟩
          refine c_of (c := (Cx.mk Tryd.prog 47 none' M w)) ?_ hf hs
          unfold cipher_Rounds.j2 at H
          clear hf hs
          refine c_reg ?_
          refine w_val trivial rfl (fun a w hf hs => r_add (hf.ev rfl) (hf.ev rfl)) ?_
          refine w_val trivial rfl (fun a w hf hs => r_move (hf.ev rfl)) ?_
          refine w_nil ?_
          intro a w' hf hs
          exact ⟨_, (some_r H).symm, _, l11.trans l19, (((hf.nil.add (hf.get _ _ rfl)).add (hf.get _ _ rfl)).add (hf.get _ _ rfl)), hs.selD [some 0, some 1] (by decide) rfl⟩
      · replace H := if_f b16 H
        replace H := map_inr H r12
        refine c_exit ?_
        intro a w' hf hs
        exact ⟨s9.1, _, l11, ((hf.nil.add (hf.get _ _ rfl)).add (hf.get _ _ rfl)), hs.selD [some 0, some 1] (by decide) rfl, H⟩
  · rintro a w' ⟨x4, M5, l6, hf, hs, H⟩
    refine c_of (c := (Cx.mk Tryd.prog 47 none' M w)) ?_ hf hs
    unfold cipher_Rounds.j1 at H
    clear hf hs
    refine c_seq ?_
    intro K7 hK7
    refine c_reg ?_
    refine w_val trivial rfl (fun a w hf hs => r_loadA ta131 ts131 (hf.ev rfl) (hs.blk (i := 0) rfl) (vI_all _) (vI_len _)) ?_
    refine w_store (i := 1) (vs := vI .u32 x4) (A' := vI .u32 x4) trivial rfl rfl rfl rfl ts131 (vI_len _) (vI_one _) (by rw [vI_len]; decide) (vI_whole _ _) ?_
    refine w_nil (hK7 _ _ _ ?_)
    obtain rfl := some_r H
    refine c_ret ?_
    intro a w' hf hs
    exact hret _ (.inl rfl) a w' hf.df ⟨_, _, Res.of1 rfl ⟨_, hf.get _ _ rfl, run_loadA (hs.blk (i := 1) rfl) ta131 ts131 (vI_all _) (vI_len _)⟩, hs.ext, rfl⟩
set_option maxRecDepth 20000 in
theorem cipher_put.calls {X : Nat → Prop} {M : Heap} {w : World} {v0 : Value} {p0 : (List Int)} (hs : St X M w M (lt [rowI (FI .u8) v0 5 p0]) w) (p1 : Int) (r : (List Int)) (H : cipher_put p0 p1 = some r) :
    Calls Tryd.prog 120 [v0, (.int .u32 p1)].toArray w (PostI X M w fun M' x v => x = rowI (FI .u8) v 5 r) := by
  refine enterI 19 [(0, v0), (1, (.int .u32 p1))] Tryd.func120 rfl rfl rfl hs ?_
  clear hs
  intro Q hret
  unfold cipher_put at H
  refine c_seq ?_
  intro K1 hK1
  refine c_reg ?_
  refine w_val trivial rfl (fun a w hf hs => r_assign (hf.ev rfl)) ?_
  refine w_nil (hK1 _ _ _ ?_)
  refine c_seq ?_
  intro K2 hK2
  refine c_reg ?_
  refine w_val trivial rfl (fun a w hf hs => r_move (hf.ev rfl)) ?_
  refine w_val trivial rfl (fun a w hf hs => r_move (hf.ev rfl)) ?_
  refine w_val trivial rfl (fun a w hf hs => r_conv Tryd.underlying70 Tryd.underlying5 (hf.ev rfl)) ?_
  refine w_val trivial rfl (fun a w hf hs => r_move (hf.ev rfl)) ?_
  refine w_val trivial rfl (fun a w hf hs => r_shr (hf.ev rfl) (hf.ev rfl) (by decide)) ?_
  refine w_val trivial rfl (fun a w hf hs => r_conv Tryd.underlying70 Tryd.underlying5 (hf.ev rfl)) ?_
  refine w_val trivial rfl (fun a w hf hs => r_move (hf.ev rfl)) ?_
  refine w_val trivial rfl (fun a w hf hs => r_shr (hf.ev rfl) (hf.ev rfl) (by decide)) ?_
  refine w_val trivial rfl (fun a w hf hs => r_conv Tryd.underlying70 Tryd.underlying5 (hf.ev rfl)) ?_
  refine w_val trivial rfl (fun a w hf hs => r_move (hf.ev rfl)) ?_
  refine w_val trivial rfl (fun a w hf hs => r_shr (hf.ev rfl) (hf.ev rfl) (by decide)) ?_
  refine w_val trivial rfl (fun a w hf hs => r_conv Tryd.underlying70 Tryd.underlying5 (hf.ev rfl)) ?_
  refine w_bsl (F := (FI .u8)) (es := ([(IntKind.u8.wrap p1), (IntKind.u8.wrap (shrI .u32 p1 (8 : Int))), (IntKind.u8.wrap (shrI .u32 p1 (16 : Int))), (IntKind.u8.wrap (shrI .u32 p1 (24 : Int)))] : List Int)) (xs := [.tmp 7, .tmp 10, .tmp 13, .tmp 16]) (vs := [(.int .u8 (IntKind.u8.wrap p1)), (.int .u8 (IntKind.u8.wrap (shrI .u32 p1 (8 : Int)))), (.int .u8 (IntKind.u8.wrap (shrI .u32 p1 (16 : Int)))), (.int .u8 (IntKind.u8.wrap (shrI .u32 p1 (24 : Int))))]) Tryd.underlying66 te5 trivial rfl rfl rfl rfl rfl (by decide) ?_
  intro v3 M4 l5 h6 c7
  obtain ⟨g8, H⟩ := grd_s H
  refine w_app (F := (FI .u8)) (m2 := ([(IntKind.u8.wrap p1), (IntKind.u8.wrap (shrI .u32 p1 (8 : Int))), (IntKind.u8.wrap (shrI .u32 p1 (16 : Int))), (IntKind.u8.wrap (shrI .u32 p1 (24 : Int)))] : List Int)) (i := 0) Tryd.underlying66 te5 Tryd.underlying66 (.inl ⟨_, rfl⟩) trivial rfl rfl rfl rfl (Src.rs (FI.one _) h6) g8 ?_
  intro v9
  refine w_val trivial rfl (fun a w hf hs => r_assign (hf.ev rfl)) ?_
  refine w_nil (hK2 _ _ _ ?_)
  obtain rfl := some_r H
  refine c_ret ?_
  intro a w' hf hs
  exact hret _ (.inl rfl) a w' hf.df ⟨_, _, _, Res.of1 rfl (RV.t hf rfl), hs.sel [0] (by decide) rfl, rfl⟩
set_option maxRecDepth 20000 in
theorem cipher_Block.calls {M : Heap} {w : World} (hM : Sub M w) (p0 : (List UInt8)) (p1 : Int) (p2 : (List UInt8)) (r : ((List UInt8) × Int)) (H : cipher_Block p0 p1 p2 = some r) :
    Calls Tryd.prog 87 [(str p0), (.int .u32 p1), (str p2)].toArray w (Post M w fun M' v => v = .tuple #[(str r.1), (.int .i64 r.2)]) := by
  refine enter 40 [(0, (str p0)), (1, (.int .u32 p1)), (2, (str p2))] Tryd.func87 rfl rfl rfl hM ?_
  intro Q hret
  unfold cipher_Block at H
  refine c_seq ?_
  intro K1 hK1
  refine c_reg ?_
  refine w_val trivial rfl (fun a w hf hs => r_assign (hf.ev rfl)) ?_
  refine w_val trivial rfl (fun a w hf hs => r_assign (hf.ev rfl)) ?_
  refine w_nil (hK1 _ _ _ ?_)
  refine c_seq ?_
  intro K2 hK2
  refine c_reg ?_
  refine w_val trivial rfl (fun a w hf hs => r_move (hf.ev rfl)) ?_
  refine w_val trivial rfl (fun a w hf hs => r_move (hf.ev rfl)) ?_
  refine w_val trivial rfl (fun a w hf hs => r_move (hf.ev rfl)) ?_
  obtain ⟨t3, e8, H⟩ := bnd H
  refine w_call cf86 trivial rfl rfl (fun w hs => cipher_State.calls hs p0 p1 p2 _ e8) ?_
  rintro _ M5 l6 rfl
  refine w_val trivial rfl (fun a w hf hs => r_move (hf.ev rfl)) ?_
  refine w_val trivial rfl (fun a w hf hs => r_extract (hf.ev rfl) rfl) ?_
  refine w_val trivial rfl (fun a w hf hs => r_extract (hf.ev rfl) rfl) ?_
  refine w_allocL (A := vI .u32 (Vector.replicate 16 (0 : Int))) tz131 trivial rfl rfl ?_
  intro b9
  refine w_store (i := 0) (vs := vI .u32 t3.1) (A' := vI .u32 t3.1) trivial rfl rfl rfl rfl ts131 (vI_len _) (vI_one _) (by rw [vI_len]; decide) (vI_whole _ _) ?_
  refine w_val trivial rfl (fun a w hf hs => r_assign (hf.ev rfl)) ?_
  refine w_nil (hK2 _ _ _ ?_)
  refine c_seq ?_
  intro K10 hK10
  refine c_seq ?_
  intro K11 hK11
  refine c_reg ?_
  refine w_val trivial rfl (fun a w hf hs => r_move (hf.ev rfl)) ?_
  refine w_val trivial rfl (fun a w hf hs => r_neq (hf.ev rfl) (hf.ev rfl)) ?_
  refine w_nil (hK11 _ _ _ ?_)
  refine c_if rfl (fun b12 => ?_) (fun b12 => ?_)
  · replace H := if_t b12 H
    refine c_seq ?_
    intro K13 hK13
    refine c_reg ?_
    refine w_val trivial rfl (fun a w hf hs => r_move (hf.ev rfl)) ?_
    refine w_val trivial rfl (fun a w hf hs => r_assign (hf.ev rfl)) ?_
    refine w_val trivial rfl (fun a w hf hs => r_assign (hf.ev rfl)) ?_
    refine w_nil (hK13 _ _ _ ?_)
    obtain rfl := some_r H
    refine c_ret ?_
    intro a w' hf hs
    exact hret _ (.inl rfl) a w' hf.df ⟨_, _, Res.of2 rfl (RV.t hf rfl) (RV.t hf rfl), hs.ext, rfl⟩
  · replace H := if_f b12 H
    refine c_skip (hK10 _ _ _ ?_)
    refine c_seq ?_
    intro K14 hK14
    refine c_reg ?_
    obtain ⟨g16, H⟩ := grd_s H
    refine w_mk (F := (FI .u8)) Tryd.underlying66 fz5 trivial rfl rfl rfl g16.1 g16.2.1 g16.2.2 ?_
    intro v15
    refine w_val trivial rfl (fun a w hf hs => r_assign (hf.ev rfl)) ?_
    refine w_nil (hK14 _ _ _ ?_)
    refine c_cut (fun a' w' => ∃ (x17 : (List Int)) (v18 : Value) (M19 : Heap), HLe M5 M19 ∧ Fr 40 [(10, v18)] a' ∧ St none' M w M19 (lt [dead, rowI (FI .u8) v18 5 x17]) w' ∧ cipher_Block.j1 x17 = some r) ?_ ?_
    · refine c_seq ?_
      intro K25 hK25
      refine c_reg ?_
      refine w_val trivial rfl (fun a w hf hs => r_loadA ta131 ts131 (hf.ev rfl) (hs.blk (i := 0) rfl) (vI_all _) (vI_len _)) ?_
      obtain ⟨t26, e31, H⟩ := bnd H
      refine w_call cf119 trivial rfl rfl (fun w hs => cipher_Rounds.calls hs t3.1 _ e31) ?_
      rintro _ M28 l29 rfl
      refine w_val trivial rfl (fun a w hf hs => r_move (hf.ev rfl)) ?_
      refine w_nil (hK25 _ _ _ ?_)
      refine c_block ?_
      refine c_loop (fun (s32 : ((List Int) × Int)) a' w' => ∃ (v33 : Value) (M34 : Heap), HLe M28 M34 ∧ Fr 40 [(8, (ptr b9 0)), (10, v33), (25, (.agg (vI .u32 t26).toArray)), (26, (.int .i64 s32.2))] a' ∧ St none' M w M34 (lt [.blk b9 (.cells (vI .u32 t3.1).toArray 131 (0, 0)), rowI (FI .u8) v33 5 s32.1]) w') ((List.replicate ((0 : Int)).toNat (0 : Int)), (0 : Int)) H ?_ ?_
      · intro a w' hf hs
        exact ⟨v15, _, HLe.refl _, ((((hf.nil.add (hf.get _ _ rfl)).add (hf.get _ _ rfl)).add (hf.get _ _ rfl)).add (hf.get _ _ rfl)), hs.selD [some 0, some 1] (by decide) rfl⟩
      · clear H
        intro s32 y37 H r36 a w' hJ
        obtain ⟨v33, M34, l35, hf, hs⟩ := hJ
        refine c_of (c := (Cx.mk Tryd.prog 40 none' M w)) ?_ hf hs
        unfold cipher_Block.l2 at H
        clear hf hs
        refine c_seq ?_
        intro K38 hK38
        refine c_reg ?_
        refine w_val trivial rfl (fun a w hf hs => r_lss (hf.ev rfl) (hf.ev rfl)) ?_
        refine w_nil (hK38 _ _ _ ?_)
        refine c_seq ?_
        intro K39 hK39
        refine c_if rfl (fun b40 => ?_) (fun b40 => ?_)
        · replace H := if_t b40 H
          refine c_skip (hK39 _ _ _ ?_)
          refine c_seq ?_
          intro K41 hK41
          refine c_block ?_
          refine c_seq ?_
          intro K42 hK42
          refine c_reg ?_
          refine w_val trivial rfl (fun a w hf hs => r_move (hf.ev rfl)) ?_
          obtain ⟨g43, H⟩ := grd_s H
          refine w_val trivial rfl (fun a w hf hs => r_index Tryd.underlying131 ta70 ts70 (hf.ev rfl) (hf.ev rfl) g43.1 g43.2 (vI_get g43.1 g43.2)) ?_
          refine w_val trivial rfl (fun a w hf hs => r_assign (hf.ev rfl)) ?_
          refine w_val trivial rfl (fun a w hf hs => r_assign (hf.ev rfl)) ?_
          refine w_nil (hK42 _ _ _ ?_)
          refine c_reg ?_
          refine w_val trivial rfl (fun a w hf hs => r_move (hf.ev rfl)) ?_
          refine w_val trivial rfl (fun a w hf hs => r_move (hf.ev rfl)) ?_
          refine w_val trivial rfl (fun a w hf hs => r_move (hf.ev rfl)) ?_
          obtain ⟨g44, H⟩ := grd_s H
          refine w_val trivial rfl (fun a w hf hs => r_iaI Tryd.underlying131 ts70 (hf.ev rfl) (hf.ev rfl) g44.1 g44.2) ?_
          refine w_val trivial rfl (fun a w hf hs => r_load1 ta70 (hf.ev rfl) (hs.blk (i := 0) rfl) (vI_get0 g44.1 g44.2)) ?_
          refine w_val trivial rfl (fun a w hf hs => r_add (hf.ev rfl) (hf.ev rfl)) ?_
          obtain ⟨t45, e46, H⟩ := bnd H
          refine w_callI 1 cf120 trivial rfl rfl rfl (fun X' w hs => cipher_put.calls hs (IntKind.u32.wrap ((rd t26.toList s32.2) + (rd t3.1.toList s32.2))) _ e46) ?_
          rintro v49 M47 _ l48 rfl
          refine w_val trivial rfl (fun a w hf hs => r_assign (hf.ev rfl)) ?_
          refine w_nil (hK41 _ _ _ ?_)
          refine c_reg ?_
          refine w_val trivial rfl (fun a w hf hs => r_add (hf.ev rfl) (hf.ev rfl)) ?_
          refine w_val trivial rfl (fun a w hf hs => r_move (hf.ev rfl)) ?_
          refine w_nil ?_
          intro a w' hf hs
          exact ⟨_, (some_r H).symm, v49, _, l35.trans l48, ((((hf.nil.add (hf.get _ _ rfl)).add (hf.get _ _ rfl)).add (hf.get _ _ rfl)).add (hf.get _ _ rfl)), hs.selD [some 0, some 1] (by decide) rfl⟩
        · replace H := if_f b40 H
          replace H := map_inr H r36
          refine c_exit ?_
          intro a w' hf hs
          exact ⟨s32.1, v33, _, (l29.trans l35), (hf.nil.add (hf.get _ _ rfl)), hs.selD [none, some 1] (by decide) rfl, H⟩
    · rintro a w' ⟨x17, v18, M19, l20, hf, hs, H⟩
      refine c_of (c := (Cx.mk Tryd.prog 40 none' M w)) ?_ hf hs
      unfold cipher_Block.j1 at H
      clear hf hs
      refine c_seq ?_
      intro K21 hK21
      refine c_reg ?_
      refine w_val trivial rfl (fun a w hf hs => r_move (hf.ev rfl)) ?_
      refine w_give 1 rfl (fun _ h => h) ?_
      intro M22 l23 h24
      refine w_val trivial rfl (fun a w hf hs => r_b2s Tryd.underlying66 Tryd.underlying5 Tryd.underlying9 h24 hs.sub (hf.ev rfl)) ?_
      refine w_val trivial rfl (fun a w hf hs => r_assign (hf.ev rfl)) ?_
      refine w_val trivial rfl (fun a w hf hs => r_assign (hf.ev rfl)) ?_
      refine w_nil (hK21 _ _ _ ?_)
      obtain rfl := some_r H
      refine c_ret ?_
      intro a w' hf hs
      exact hret _ (.inl rfl) a w' hf.df ⟨_, _, Res.of2 rfl (RV.t hf rfl) (RV.t hf rfl), hs.ext, rfl⟩
set_option maxRecDepth 20000 in
theorem cipher_Xor.calls {M : Heap} {w : World} (hM : Sub M w) (p0 : (List UInt8)) (p1 : Int) (p2 : (List UInt8)) (p3 : (List UInt8)) (r : ((List UInt8) × Int)) (H : cipher_Xor p0 p1 p2 p3 = some r) :
    Calls Tryd.prog 40 [(str p0), (.int .u32 p1), (str p2), (str p3)].toArray w (Post M w fun M' v => v = .tuple #[(str r.1), (.int .i64 r.2)]) := by
  refine enter 57 [(0, (str p0)), (1, (.int .u32 p1)), (2, (str p2)), (3, (str p3))] Tryd.func40 rfl rfl rfl hM ?_
  intro Q hret
  unfold cipher_Xor at H
  refine c_seq ?_
  intro K1 hK1
  refine c_reg ?_
  refine w_val trivial rfl (fun a w hf hs => r_assign (hf.ev rfl)) ?_
  refine w_val trivial rfl (fun a w hf hs => r_assign (hf.ev rfl)) ?_
  refine w_nil (hK1 _ _ _ ?_)
  refine c_seq ?_
  intro K2 hK2
  refine c_seq ?_
  intro K3 hK3
  refine c_reg ?_
  refine w_val trivial rfl (fun a w hf hs => r_move (hf.ev rfl)) ?_
  refine w_val trivial rfl (fun a w hf hs => r_move (hf.ev rfl)) ?_
  refine w_val trivial rfl (fun a w hf hs => r_move (hf.ev rfl)) ?_
  obtain ⟨t4, e9, H⟩ := bnd H
  refine w_call cf86 trivial rfl rfl (fun w hs => cipher_State.calls hs p0 p1 p2 _ e9) ?_
  rintro _ M6 l7 rfl
  refine w_val trivial rfl (fun a w hf hs => r_move (hf.ev rfl)) ?_
  refine w_val trivial rfl (fun a w hf hs => r_extract (hf.ev rfl) rfl) ?_
  refine w_val trivial rfl (fun a w hf hs => r_extract (hf.ev rfl) rfl) ?_
  refine w_allocL (A := vI .u32 (Vector.replicate 16 (0 : Int))) tz131 trivial rfl rfl ?_
  intro b10
  refine w_store (i := 0) (vs := vI .u32 t4.1) (A' := vI .u32 t4.1) trivial rfl rfl rfl rfl ts131 (vI_len _) (vI_one _) (by rw [vI_len]; decide) (vI_whole _ _) ?_
  refine w_val trivial rfl (fun a w hf hs => r_assign (hf.ev rfl)) ?_
  refine w_nil (hK3 _ _ _ ?_)
  refine c_seq ?_
  intro K11 hK11
  refine c_reg ?_
  refine w_val trivial rfl (fun a w hf hs => r_move (hf.ev rfl)) ?_
  refine w_val trivial rfl (fun a w hf hs => r_neq (hf.ev rfl) (hf.ev rfl)) ?_
  refine w_nil (hK11 _ _ _ ?_)
  refine c_if rfl (fun b12 => ?_) (fun b12 => ?_)
  · replace H := if_t b12 H
    refine c_seq ?_
    intro K13 hK13
    refine c_reg ?_
    refine w_val trivial rfl (fun a w hf hs => r_move (hf.ev rfl)) ?_
    refine w_val trivial rfl (fun a w hf hs => r_assign (hf.ev rfl)) ?_
    refine w_val trivial rfl (fun a w hf hs => r_assign (hf.ev rfl)) ?_
    refine w_nil (hK13 _ _ _ ?_)
    obtain rfl := some_r H
    refine c_ret ?_
    intro a w' hf hs
    exact hret _ (.inl rfl) a w' hf.df ⟨_, _, Res.of2 rfl (RV.t hf rfl) (RV.t hf rfl), hs.ext, rfl⟩
  · replace H := if_f b12 H
    refine c_skip (hK2 _ _ _ ?_)
    refine c_seq ?_
    intro K14 hK14
    refine c_reg ?_
    refine w_val trivial rfl (fun a w hf hs => r_move (hf.ev rfl)) ?_
    refine w_s2bW Tryd.underlying9 Tryd.underlying66 Tryd.underlying5 trivial rfl rfl ?_
    intro v15
    refine w_val trivial rfl (fun a w hf hs => r_assign (hf.ev rfl)) ?_
    refine w_val trivial rfl (fun a w hf hs => r_assign (hf.ev rfl)) ?_
    refine w_nil (hK14 _ _ _ ?_)
    refine c_cut (fun a' w' => ∃ (x16 : (List Int)) (v17 : Value) (M18 : Heap), HLe M6 M18 ∧ Fr 57 [(12, v17)] a' ∧ St none' M w M18 (lt [dead, rowI (FI .u8) v17 5 x16]) w' ∧ cipher_Xor.j1 x16 = some r) ?_ ?_
    · refine c_seq ?_
      intro K24 hK24
      refine c_reg ?_
      refine w_val trivial rfl (fun a w hf hs => r_move (hf.ev rfl)) ?_
      refine w_val trivial rfl (fun a w hf hs => r_lenW 1 hs rfl Tryd.underlying66 (hf.ev rfl)) ?_
      refine w_val trivial rfl (fun a w hf hs => r_move (hf.ev rfl)) ?_
      refine w_nil (hK24 _ _ _ ?_)
      refine c_block ?_
      refine c_loop (fun (s25 : ((List Int) × Int × (List UInt8) × Int)) a' w' => ∃ (v26 : Value) (M27 : Heap), HLe M6 M27 ∧ Fr 57 [(0, (str p0)), (1, (.int .u32 s25.2.1)), (2, (str p2)), (12, v26), (13, (str s25.2.2.1)), (28, (.int .i64 ((bytesI p3).length : Int))), (29, (.int .i64 s25.2.2.2))] a' ∧ St none' M w M27 (lt [dead, rowI (FI .u8) v26 5 s25.1]) w') ((bytesI p3), p1, ([] : List UInt8), (0 : Int)) H ?_ ?_
      · intro a w' hf hs
        exact ⟨v15, _, HLe.refl _, (((((((hf.nil.add (hf.get _ _ rfl)).add (hf.get _ _ rfl)).add (hf.get _ _ rfl)).add (hf.get _ _ rfl)).add (hf.get _ _ rfl)).add (hf.get _ _ rfl)).add (hf.get _ _ rfl)), hs.selD [none, some 1] (by decide) rfl⟩
      · clear H
        intro s25 y30 H r29 a w' hJ
        obtain ⟨v26, M27, l28, hf, hs⟩ := hJ
        refine c_of (c := (Cx.mk Tryd.prog 57 none' M w)) ?_ hf hs
        unfold cipher_Xor.l3 at H
        clear hf hs
        refine c_seq ?_
        intro K31 hK31
        refine c_reg ?_
        refine w_val trivial rfl (fun a w hf hs => r_lss (hf.ev rfl) (hf.ev rfl)) ?_
        refine w_nil (hK31 _ _ _ ?_)
        refine c_seq ?_
        intro K32 hK32
        refine c_if rfl (fun b33 => ?_) (fun b33 => ?_)
        · replace H := if_t b33 H
          refine c_skip (hK32 _ _ _ ?_)
          refine c_seq ?_
          intro K34 hK34
          refine c_block ?_
          refine c_seq ?_
          intro K35 hK35
          refine c_reg ?_
          refine w_val trivial rfl (fun a w hf hs => r_move (hf.ev rfl)) ?_
          refine w_val trivial rfl (fun a w hf hs => r_assign (hf.ev rfl)) ?_
          refine w_nil (hK35 _ _ _ ?_)
          refine c_cut (fun a' w' => ∃ (x36 : Int) (x37 : (List UInt8)) (M38 : Heap), HLe M27 M38 ∧ Fr 57 [(0, (str p0)), (1, (.int .u32 x36)), (2, (str p2)), (12, v26), (13, (str x37)), (14, (.int .i64 s25.2.2.2)), (28, (.int .i64 ((bytesI p3).length : Int))), (29, (.int .i64 s25.2.2.2))] a' ∧ St none' M w M38 (lt [dead, rowI (FI .u8) v26 5 s25.1]) w' ∧ cipher_Xor.j2 s25 x37 x36 = some y30) ?_ ?_
          · refine c_seq ?_
            intro K72 hK72
            refine c_reg ?_
            refine w_val trivial rfl (fun a w hf hs => r_move (hf.ev rfl)) ?_
            refine w_val trivial rfl (fun a w hf hs => r_rem (hf.ev rfl) (hf.ev rfl) (by decide)) ?_
            refine w_val trivial rfl (fun a w hf hs => r_eql (hf.ev rfl) (hf.ev rfl)) ?_
            refine w_nil (hK72 _ _ _ ?_)
            refine c_if rfl (fun b73 => ?_) (fun b73 => ?_)
            · replace H := if_t b73 H
              refine c_seq ?_
              intro K74 hK74
              refine c_reg ?_
              refine w_val trivial rfl (fun a w hf hs => r_move (hf.ev rfl)) ?_
              refine w_val trivial rfl (fun a w hf hs => r_move (hf.ev rfl)) ?_
              refine w_val trivial rfl (fun a w hf hs => r_move (hf.ev rfl)) ?_
              obtain ⟨t75, e80, H⟩ := bnd H
              refine w_call cf87 trivial rfl rfl (fun w hs => cipher_Block.calls hs p0 s25.2.1 p2 _ e80) ?_
              rintro _ M77 l78 rfl
              refine w_val trivial rfl (fun a w hf hs => r_move (hf.ev rfl)) ?_
              refine w_val trivial rfl (fun a w hf hs => r_extract (hf.ev rfl) rfl) ?_
              refine w_val trivial rfl (fun a w hf hs => r_extract (hf.ev rfl) rfl) ?_
              refine w_val trivial rfl (fun a w hf hs => r_assign (hf.ev rfl)) ?_
              refine w_nil (hK74 _ _ _ ?_)
              refine c_reg ?_
              refine w_val trivial rfl (fun a w hf hs => r_move (hf.ev rfl)) ?_
              refine w_val trivial rfl (fun a w hf hs => r_add (hf.ev rfl) (hf.ev rfl)) ?_
              refine w_val trivial rfl (fun a w hf hs => r_assign (hf.ev rfl)) ?_
              refine w_nil ?_
              intro a w' hf hs
              exact ⟨(IntKind.u32.wrap (s25.2.1 + (1 : Int))), t75.1, _, l78, ((((((((hf.nil.add (hf.get _ _ rfl)).add (hf.get _ _ rfl)).add (hf.get _ _ rfl)).add (hf.get _ _ rfl)).add (hf.get _ _ rfl)).add (hf.get _ _ rfl)).add (hf.get _ _ rfl)).add (hf.get _ _ rfl)), hs.selD [none, some 1] (by decide) rfl, H⟩
            · replace H := if_f b73 H
              refine c_skip ?_
              intro a w' hf hs
              exact ⟨s25.2.1, s25.2.2.1, _, (HLe.refl _), ((((((((hf.nil.add (hf.get _ _ rfl)).add (hf.get _ _ rfl)).add (hf.get _ _ rfl)).add (hf.get _ _ rfl)).add (hf.get _ _ rfl)).add (hf.get _ _ rfl)).add (hf.get _ _ rfl)).add (hf.get _ _ rfl)), hs.selD [none, some 1] (by decide) rfl, H⟩
          · rintro a w' ⟨x36, x37, M38, l39, hf, hs, H⟩
            refine c_of (c := (Cx.mk Tryd.prog 57 none' M w)) ?_ hf hs
            unfold cipher_Xor.j2 at H
            clear hf hs
            refine c_split2 8 (by kernel_rfl) (by kernel_rfl) (by kernel_rfl) (by kernel_rfl) rfl ?_
            intro K40 hK40
            obtain ⟨g49, H⟩ := grd_s H
            obtain ⟨g64, H⟩ := grd_s H
            refine d_drawP [([], [12]), ([], [14]), ([(0, 44), (1, 45)], []), ([(2, 46)], []), ([], [13]), ([], [14]), ([(5, 49)], []), ([(4, 48), (6, 50)], [])] [fun v M => v = v26, fun v M => v = (.int .i64 s25.2.2.2), fun v M => v = (eP v26 s25.2.2.2 1 0), fun v M => v = (.int .u8 (rd s25.1 s25.2.2.2)), fun v M => v = (str x37), fun v M => v = (.int .i64 s25.2.2.2), fun v M => v = (.int .i64 (Int.tmod s25.2.2.2 (64 : Int))), fun v M => v = (.int .u8 (sbyte x37 (Int.tmod s25.2.2.2 (64 : Int))))] (by kernel_rfl) (by kernel_rfl) ?_ (AllT.cons ?_ (AllT.cons ?_ (AllT.cons ?_ (AllT.cons ?_ (AllT.cons ?_ (AllT.cons ?_ (AllT.cons ?_ (AllT.cons ?_ AllT.nil)))))))) ?_
            · exact (MonoA.cons (fun _ _ _ _ h => h) (MonoA.cons (fun _ _ _ _ h => h) (MonoA.cons (fun _ _ _ _ h => h) (MonoA.cons (fun _ _ _ _ h => h) (MonoA.cons (fun _ _ _ _ h => h) (MonoA.cons (fun _ _ _ _ h => h) (MonoA.cons (fun _ _ _ _ h => h) (MonoA.cons (fun _ _ _ _ h => h) MonoA.nil))))))))
            · intro a w' M41 l42 hd hs
              refine OP.ofW (l := [(12, v26)]) (hd.fr.add (hd.base 12 _ rfl rfl)) hs rfl ?_
              refine w_val trivial rfl (fun a w hf hs => r_move (hf.ev rfl)) ?_
              refine w_nil ?_
              intro a w' hf hs
              exact ⟨rfl, hf.df, _, (HLe.refl _), hs, hf.get _ _ rfl⟩
            · intro a w' M43 l44 hd hs
              refine OP.ofW (l := [(14, (.int .i64 s25.2.2.2))]) (hd.fr.add (hd.base 14 _ rfl rfl)) hs rfl ?_
              refine w_val trivial rfl (fun a w hf hs => r_move (hf.ev rfl)) ?_
              refine w_nil ?_
              intro a w' hf hs
              exact ⟨rfl, hf.df, _, (HLe.refl _), hs, hf.get _ _ rfl⟩
            · intro a w' M45 l46 hd hs
              have e47 := hd.val 0 44 _ rfl rfl
              have e48 := hd.val 1 45 _ rfl rfl
              refine OP.ofW (l := [(44, v26), (45, (.int .i64 s25.2.2.2))]) ((hd.fr.add e48).add e47) hs rfl ?_
              refine w_val trivial rfl (fun a w hf hs => r_iW 1 hs rfl Tryd.underlying66 ts5 (hf.ev rfl) (hf.ev rfl) g49.1 g49.2) ?_
              refine w_nil ?_
              intro a w' hf hs
              exact ⟨rfl, hf.df, _, (HLe.refl _), hs, hf.get _ _ rfl⟩
            · intro a w' M50 l51 hd hs
              have e52 := hd.val 2 46 _ rfl rfl
              refine OP.ofW (l := [(46, (eP v26 s25.2.2.2 1 0))]) (hd.fr.add e52) hs rfl ?_
              refine w_val trivial rfl (fun a w hf hs => r_loadW1 1 ta5 hs rfl g49.1 g49.2 (hf.ev rfl) rfl) ?_
              refine w_nil ?_
              intro a w' hf hs
              exact ⟨rfl, hf.df, _, (HLe.refl _), hs, hf.get _ _ rfl⟩
            · intro a w' M53 l54 hd hs
              refine OP.ofW (l := [(13, (str x37))]) (hd.fr.add (hd.base 13 _ rfl rfl)) hs rfl ?_
              refine w_val trivial rfl (fun a w hf hs => r_move (hf.ev rfl)) ?_
              refine w_nil ?_
              intro a w' hf hs
              exact ⟨rfl, hf.df, _, (HLe.refl _), hs, hf.get _ _ rfl⟩
            · intro a w' M55 l56 hd hs
              refine OP.ofW (l := [(14, (.int .i64 s25.2.2.2))]) (hd.fr.add (hd.base 14 _ rfl rfl)) hs rfl ?_
              refine w_val trivial rfl (fun a w hf hs => r_move (hf.ev rfl)) ?_
              refine w_nil ?_
              intro a w' hf hs
              exact ⟨rfl, hf.df, _, (HLe.refl _), hs, hf.get _ _ rfl⟩
            · intro a w' M57 l58 hd hs
              have e59 := hd.val 5 49 _ rfl rfl
              refine OP.ofW (l := [(49, (.int .i64 s25.2.2.2))]) (hd.fr.add e59) hs rfl ?_
              refine w_val trivial rfl (fun a w hf hs => r_rem (hf.ev rfl) (hf.ev rfl) (by decide)) ?_
              refine w_nil ?_
              intro a w' hf hs
              exact ⟨rfl, hf.df, _, (HLe.refl _), hs, hf.get _ _ rfl⟩
            · intro a w' M60 l61 hd hs
              have e62 := hd.val 4 48 _ rfl rfl
              have e63 := hd.val 6 50 _ rfl rfl
              refine OP.ofW (l := [(48, (str x37)), (50, (.int .i64 (Int.tmod s25.2.2.2 (64 : Int))))]) ((hd.fr.add e63).add e62) hs rfl ?_
              refine w_val trivial rfl (fun a w hf hs => r_sidx Tryd.underlying9 (hf.ev rfl) (hf.ev rfl) g64.1 g64.2) ?_
              refine w_nil ?_
              intro a w' hf hs
              exact ⟨rfl, hf.df, _, (HLe.refl _), hs, hf.get _ _ rfl⟩
            intro a w' M65 l66 hdf hsz hb hv hs
            have e67 := hv 0 44 _ rfl rfl
            have e68 := hv 1 45 _ rfl rfl
            have e69 := hv 3 47 _ rfl rfl
            have e70 := hv 7 51 _ rfl rfl
            refine n_of (c := (Cx.mk Tryd.prog 57 none' M w)) (l := [(0, (str p0)), (1, (.int .u32 x36)), (2, (str p2)), (12, v26), (13, (str x37)), (28, (.int .i64 ((bytesI p3).length : Int))), (29, (.int .i64 s25.2.2.2)), (44, v26), (45, (.int .i64 s25.2.2.2)), (47, (.int .u8 (rd s25.1 s25.2.2.2))), (51, (.int .u8 (sbyte x37 (Int.tmod s25.2.2.2 (64 : Int)))))]) ?_ ((((((((((((Fr.start hdf hsz).add e70).add e69).add e68).add e67).add (hb 29 _ rfl rfl)).add (hb 28 _ rfl rfl)).add (hb 13 _ rfl rfl)).add (hb 12 _ rfl rfl)).add (hb 2 _ rfl rfl)).add (hb 1 _ rfl rfl)).add (hb 0 _ rfl rfl)) hs
            clear hdf hsz hb hv hs e67 e68 e69 e70
            refine n_id (hK40 _ _ _ ?_)
            refine w_val trivial rfl (fun a w hf hs => r_xor (hf.ev rfl) (hf.ev rfl)) ?_
            obtain ⟨g71, H⟩ := grd_s H
            refine w_val trivial rfl (fun a w hf hs => r_iW 1 hs rfl Tryd.underlying66 ts5 (hf.ev rfl) (hf.ev rfl) g71.1 g71.2) ?_
            refine w_storeW (e := (bits .xor .u8 (rd s25.1 s25.2.2.2) (sbyte x37 (Int.tmod s25.2.2.2 (64 : Int))))) 1 (FI.one _) trivial rfl rfl rfl rfl ts5 g71.1 g71.2 ?_
            refine w_nil (hK34 _ _ _ ?_)
            refine c_reg ?_
            refine w_val trivial rfl (fun a w hf hs => r_add (hf.ev rfl) (hf.ev rfl)) ?_
            refine w_val trivial rfl (fun a w hf hs => r_move (hf.ev rfl)) ?_
            refine w_nil ?_
            intro a w' hf hs
            exact ⟨_, (some_r H).symm, v26, _, l28.trans (l39.trans l66), (((((((hf.nil.add (hf.get _ _ rfl)).add (hf.get _ _ rfl)).add (hf.get _ _ rfl)).add (hf.get _ _ rfl)).add (hf.get _ _ rfl)).add (hf.get _ _ rfl)).add (hf.get _ _ rfl)), hs.selD [none, some 1] (by decide) rfl⟩
        · replace H := if_f b33 H
          replace H := map_inr H r29
          refine c_exit ?_
          intro a w' hf hs
          exact ⟨s25.1, v26, _, l28, (hf.nil.add (hf.get _ _ rfl)), hs.selD [none, some 1] (by decide) rfl, H⟩
    · rintro a w' ⟨x16, v17, M18, l19, hf, hs, H⟩
      refine c_of (c := (Cx.mk Tryd.prog 57 none' M w)) ?_ hf hs
      unfold cipher_Xor.j1 at H
      clear hf hs
      refine c_seq ?_
      intro K20 hK20
      refine c_reg ?_
      refine w_val trivial rfl (fun a w hf hs => r_move (hf.ev rfl)) ?_
      refine w_give 1 rfl (fun _ h => h) ?_
      intro M21 l22 h23
      refine w_val trivial rfl (fun a w hf hs => r_b2s Tryd.underlying66 Tryd.underlying5 Tryd.underlying9 h23 hs.sub (hf.ev rfl)) ?_
      refine w_val trivial rfl (fun a w hf hs => r_assign (hf.ev rfl)) ?_
      refine w_val trivial rfl (fun a w hf hs => r_assign (hf.ev rfl)) ?_
      refine w_nil (hK20 _ _ _ ?_)
      obtain rfl := some_r H
      refine c_ret ?_
      intro a w' hf hs
      exact hret _ (.inl rfl) a w' hf.df ⟨_, _, Res.of2 rfl (RV.t hf rfl) (RV.t hf rfl), hs.ext, rfl⟩
set_option maxRecDepth 20000 in
theorem seal_Seal.calls {M : Heap} {w : World} (hM : Sub M w) (hG : Gl M) (p0 : (List UInt8)) (p1 : (List UInt8)) (p2 : (List UInt8)) (r : ((List UInt8) × Int)) (H : seal_Seal p0 p1 p2 = some r) :
    Calls Tryd.prog 15 [(str p0), (str p1), (str p2)].toArray w (Post M w fun M' v => v = .tuple #[(str r.1), (.int .i64 r.2)]) := by
  refine enter 58 [(0, (str p0)), (1, (str p1)), (2, (str p2))] Tryd.func15 rfl rfl rfl hM ?_
  intro Q hret
  unfold seal_Seal at H
  refine c_seq ?_
  intro K1 hK1
  refine c_reg ?_
  refine w_val trivial rfl (fun a w hf hs => r_assign (hf.ev rfl)) ?_
  refine w_val trivial rfl (fun a w hf hs => r_assign (hf.ev rfl)) ?_
  refine w_nil (hK1 _ _ _ ?_)
  refine c_seq ?_
  intro K2 hK2
  refine c_reg ?_
  refine w_val trivial rfl (fun a w hf hs => r_move (hf.ev rfl)) ?_
  obtain ⟨t3, e8, H⟩ := bnd H
  refine w_call cf13 trivial rfl rfl (fun w hs => seal_Keys.calls hs hG p0 _ e8) ?_
  rintro _ M5 l6 rfl
  replace hG := hG.mono l6
  refine w_val trivial rfl (fun a w hf hs => r_move (hf.ev rfl)) ?_
  refine w_val trivial rfl (fun a w hf hs => r_extract (hf.ev rfl) rfl) ?_
  refine w_val trivial rfl (fun a w hf hs => r_extract (hf.ev rfl) rfl) ?_
  refine w_val trivial rfl (fun a w hf hs => r_extract (hf.ev rfl) rfl) ?_
  refine w_val trivial rfl (fun a w hf hs => r_assign (hf.ev rfl)) ?_
  refine w_val trivial rfl (fun a w hf hs => r_assign (hf.ev rfl)) ?_
  refine w_val trivial rfl (fun a w hf hs => r_assign (hf.ev rfl)) ?_
  refine w_nil (hK2 _ _ _ ?_)
  refine c_seq ?_
  intro K9 hK9
  refine c_block ?_
  refine c_seq ?_
  intro K10 hK10
  refine c_reg ?_
  refine w_val trivial rfl (fun a w hf hs => r_move (hf.ev rfl)) ?_
  refine w_val trivial rfl (fun a w hf hs => r_neq (hf.ev rfl) (hf.ev rfl)) ?_
  refine w_val trivial rfl (fun a w hf hs => r_assign (hf.ev rfl)) ?_
  refine w_nil (hK10 _ _ _ ?_)
  refine c_if rfl (fun b11 => ?_) (fun b11 => ?_)
  · replace H := if_t b11 H
    refine c_seq ?_
    intro K12 hK12
    refine c_reg ?_
    refine w_val trivial rfl (fun a w hf hs => r_move (hf.ev rfl)) ?_
    refine w_val trivial rfl (fun a w hf hs => r_assign (hf.ev rfl)) ?_
    refine w_val trivial rfl (fun a w hf hs => r_assign (hf.ev rfl)) ?_
    refine w_nil (hK12 _ _ _ ?_)
    obtain rfl := some_r H
    refine c_ret ?_
    intro a w' hf hs
    exact hret _ (.inl rfl) a w' hf.df ⟨_, _, Res.of2 rfl (RV.t hf rfl) (RV.t hf rfl), hs.ext, rfl⟩
  · replace H := if_f b11 H
    obtain ⟨t13, H1, H⟩ := bnd H
    refine c_cut (fun a' w' => ∃ (M14 : Heap), HLe M5 M14 ∧ Fr 58 [(1, (str p1)), (2, (str p2)), (8, (str t3.1)), (9, (str t3.2.1)), (24, (.bool t13))] a' ∧ St none' M w M14 (lt []) w') ?_ ?_
    · replace H := H1
      clear H1
      refine c_reg ?_
      refine w_val trivial rfl (fun a w hf hs => r_move (hf.ev rfl)) ?_
      refine w_val trivial rfl (fun a w hf hs => r_slen Tryd.underlying9 (hf.ev rfl)) ?_
      refine w_val trivial rfl (fun a w hf hs => r_gtr (hf.ev rfl) (hf.ev rfl)) ?_
      refine w_val trivial rfl (fun a w hf hs => r_move (hf.ev rfl)) ?_
      by_cases b16 : (decide ((1048576 : Int) < (p1.length : Int))) = true
      · replace H := if_t b16 H
        refine w_not (Nwt.of rfl rfl b16) rfl ?_
        refine w_not (Nwt.of rfl rfl b16) rfl ?_
        refine w_not (Nwt.of rfl rfl b16) rfl ?_
        refine w_val trivial rfl (fun a w hf hs => r_pickT (hf.ev rfl) b16 (hf.ev rfl)) ?_
        refine w_val trivial rfl (fun a w hf hs => r_assign (hf.ev rfl)) ?_
        obtain rfl := some_r H
        refine w_nil ?_
        intro a w' hf hs
        exact ⟨_, (HLe.refl _), (((((hf.nil.add (hf.get _ _ rfl)).add (hf.get _ _ rfl)).add (hf.get _ _ rfl)).add (hf.get _ _ rfl)).add (hf.get _ _ rfl)), hs.sel [] (by decide) rfl⟩
      · replace b16 := Bool.eq_false_iff.2 b16
        replace H := if_f b16 H
        refine w_val (Wnt.of rfl rfl b16) rfl (fun a w hf hs => r_move (hf.ev rfl)) ?_
        refine w_val (Wnt.of rfl rfl b16) rfl (fun a w hf hs => r_slen Tryd.underlying9 (hf.ev rfl)) ?_
        refine w_val (Wnt.of rfl rfl b16) rfl (fun a w hf hs => r_gtr (hf.ev rfl) (hf.ev rfl)) ?_
        refine w_val trivial rfl (fun a w hf hs => r_pickF (hf.ev rfl) b16 (hf.ev rfl)) ?_
        refine w_val trivial rfl (fun a w hf hs => r_assign (hf.ev rfl)) ?_
        obtain rfl := some_r H
        refine w_nil ?_
        intro a w' hf hs
        exact ⟨_, (HLe.refl _), (((((hf.nil.add (hf.get _ _ rfl)).add (hf.get _ _ rfl)).add (hf.get _ _ rfl)).add (hf.get _ _ rfl)).add (hf.get _ _ rfl)), hs.sel [] (by decide) rfl⟩
    · clear H1
      rintro a w' ⟨M14, l15, hf, hs⟩
      refine c_of (c := (Cx.mk Tryd.prog 58 none' M w)) ?_ hf hs
      clear hf hs
      replace hG := hG.mono l15
      refine c_if rfl (fun b17 => ?_) (fun b17 => ?_)
      · replace H := if_t b17 H
        refine c_seq ?_
        intro K18 hK18
        refine c_reg ?_
        refine w_val trivial rfl (fun a w hf hs => r_assign (hf.ev rfl)) ?_
        refine w_val trivial rfl (fun a w hf hs => r_assign (hf.ev rfl)) ?_
        refine w_nil (hK18 _ _ _ ?_)
        obtain rfl := some_r H
        refine c_ret ?_
        intro a w' hf hs
        exact hret _ (.inl rfl) a w' hf.df ⟨_, _, Res.of2 rfl (RV.t hf rfl) (RV.t hf rfl), hs.ext, rfl⟩
      · replace H := if_f b17 H
        refine c_skip (hK9 _ _ _ ?_)
        refine c_seq ?_
        intro K19 hK19
        refine c_reg ?_
        refine w_val trivial rfl (fun a w hf hs => r_move (hf.ev rfl)) ?_
        obtain ⟨t20, e25, H⟩ := bnd H
        refine w_call cf38 trivial rfl rfl (fun w hs => wire_Bytes.calls hs p1 _ e25) ?_
        rintro v61 M22 l23 ⟨v26, hv_, h27⟩
        replace hv_ := hv_.symm
        subst hv_
        replace hG := hG.mono l23
        refine w_val trivial rfl (fun a w hf hs => r_b2s Tryd.underlying66 Tryd.underlying5 Tryd.underlying9 h27 hs.sub (hf.ev rfl)) ?_
        refine w_val trivial rfl (fun a w hf hs => r_assign (hf.ev rfl)) ?_
        refine w_nil (hK19 _ _ _ ?_)
        refine c_seq ?_
        intro K28 hK28
        refine c_reg ?_
        refine w_val trivial rfl (fun a w hf hs => r_move (hf.ev rfl)) ?_
        refine w_val trivial rfl (fun a w hf hs => r_move (hf.ev rfl)) ?_
        refine w_val trivial rfl (fun a w hf hs => r_move (hf.ev rfl)) ?_
        refine w_bsl (F := FS) (es := ([([110, 111, 110, 99, 101] : List UInt8), (intsB t20), p2] : List (List UInt8))) (xs := [.const (str ([110, 111, 110, 99, 101] : List UInt8)), .tmp 37, .tmp 38]) (vs := [(str ([110, 111, 110, 99, 101] : List UInt8)), (str (intsB t20)), (str p2)]) Tryd.underlying63 te9 trivial rfl rfl rfl rfl rfl (by decide) ?_
        intro v29 M30 l31 h32 c33
        replace hG := hG.mono l31
        replace h27 := h27.mono l31
        obtain ⟨t34, e39, H⟩ := bnd H
        refine w_call cf39 trivial rfl rfl (fun w hs => seal_code.calls hs hG t3.2.1 (12 : Int) ([([110, 111, 110, 99, 101] : List UInt8), (intsB t20), p2] : List (List UInt8)) v29 h32 _ e39) ?_
        rintro _ M36 l37 rfl
        replace hG := hG.mono l37
        replace h27 := h27.mono l37
        replace h32 := h32.mono l37
        refine w_val trivial rfl (fun a w hf hs => r_assign (hf.ev rfl)) ?_
        refine w_nil (hK28 _ _ _ ?_)
        refine c_seq ?_
        intro K40 hK40
        refine c_reg ?_
        refine w_val trivial rfl (fun a w hf hs => r_move (hf.ev rfl)) ?_
        refine w_val trivial rfl (fun a w hf hs => r_move (hf.ev rfl)) ?_
        refine w_val trivial rfl (fun a w hf hs => r_move (hf.ev rfl)) ?_
        obtain ⟨t41, e46, H⟩ := bnd H
        refine w_call cf40 trivial rfl rfl (fun w hs => cipher_Xor.calls hs t3.1 (1 : Int) t34 p2 _ e46) ?_
        rintro _ M43 l44 rfl
        replace hG := hG.mono l44
        replace h27 := h27.mono l44
        replace h32 := h32.mono l44
        refine w_val trivial rfl (fun a w hf hs => r_move (hf.ev rfl)) ?_
        refine w_val trivial rfl (fun a w hf hs => r_extract (hf.ev rfl) rfl) ?_
        refine w_val trivial rfl (fun a w hf hs => r_extract (hf.ev rfl) rfl) ?_
        refine w_val trivial rfl (fun a w hf hs => r_assign (hf.ev rfl)) ?_
        refine w_val trivial rfl (fun a w hf hs => r_assign (hf.ev rfl)) ?_
        refine w_nil (hK40 _ _ _ ?_)
        refine c_seq ?_
        intro K47 hK47
        refine c_reg ?_
        refine w_val trivial rfl (fun a w hf hs => r_move (hf.ev rfl)) ?_
        refine w_val trivial rfl (fun a w hf hs => r_move (hf.ev rfl)) ?_
        obtain ⟨g48, H⟩ := grd_s H
        refine w_val trivial rfl (fun a w hf hs => r_sadd (hf.ev rfl) (hf.ev rfl) g48) ?_
        refine w_val trivial rfl (fun a w hf hs => r_move (hf.ev rfl)) ?_
        refine w_val trivial rfl (fun a w hf hs => r_move (hf.ev rfl)) ?_
        refine w_val trivial rfl (fun a w hf hs => r_move (hf.ev rfl)) ?_
        refine w_val trivial rfl (fun a w hf hs => r_move (hf.ev rfl)) ?_
        refine w_bsl (F := FS) (es := ([([116, 97, 103] : List UInt8), t34, (intsB t20), t41.1] : List (List UInt8))) (xs := [.const (str ([116, 97, 103] : List UInt8)), .tmp 52, .tmp 53, .tmp 54]) (vs := [(str ([116, 97, 103] : List UInt8)), (str t34), (str (intsB t20)), (str t41.1)]) Tryd.underlying63 te9 trivial rfl rfl rfl rfl rfl (by decide) ?_
        intro v49 M50 l51 h52 c53
        replace hG := hG.mono l51
        replace h27 := h27.mono l51
        replace h32 := h32.mono l51
        obtain ⟨t54, e59, H⟩ := bnd H
        refine w_call cf39 trivial rfl rfl (fun w hs => seal_code.calls hs hG t3.2.1 (16 : Int) ([([116, 97, 103] : List UInt8), t34, (intsB t20), t41.1] : List (List UInt8)) v49 h52 _ e59) ?_
        rintro _ M56 l57 rfl
        replace hG := hG.mono l57
        replace h27 := h27.mono l57
        replace h32 := h32.mono l57
        replace h52 := h52.mono l57
        obtain ⟨g60, H⟩ := grd_s H
        refine w_val trivial rfl (fun a w hf hs => r_sadd (hf.ev rfl) (hf.ev rfl) g60) ?_
        refine w_val trivial rfl (fun a w hf hs => r_assign (hf.ev rfl)) ?_
        refine w_val trivial rfl (fun a w hf hs => r_assign (hf.ev rfl)) ?_
        refine w_nil (hK47 _ _ _ ?_)
        obtain rfl := some_r H
        refine c_ret ?_
        intro a w' hf hs
        exact hret _ (.inl rfl) a w' hf.df ⟨_, _, Res.of2 rfl (RV.t hf rfl) (RV.t hf rfl), hs.ext, rfl⟩
set_option maxRecDepth 20000 in
theorem seal_Open.calls {M : Heap} {w : World} (hM : Sub M w) (hG : Gl M) (p0 : (List UInt8)) (p1 : (List UInt8)) (p2 : (List UInt8)) (r : ((List UInt8) × Int)) (H : seal_Open p0 p1 p2 = some r) :
    Calls Tryd.prog 17 [(str p0), (str p1), (str p2)].toArray w (Post M w fun M' v => v = .tuple #[(str r.1), (.int .i64 r.2)]) := by
  refine enter 73 [(0, (str p0)), (1, (str p1)), (2, (str p2))] Tryd.func17 rfl rfl rfl hM ?_
  intro Q hret
  unfold seal_Open at H
  refine c_seq ?_
  intro K1 hK1
  refine c_reg ?_
  refine w_val trivial rfl (fun a w hf hs => r_assign (hf.ev rfl)) ?_
  refine w_val trivial rfl (fun a w hf hs => r_assign (hf.ev rfl)) ?_
  refine w_nil (hK1 _ _ _ ?_)
  refine c_seq ?_
  intro K2 hK2
  refine c_reg ?_
  refine w_val trivial rfl (fun a w hf hs => r_move (hf.ev rfl)) ?_
  obtain ⟨t3, e8, H⟩ := bnd H
  refine w_call cf13 trivial rfl rfl (fun w hs => seal_Keys.calls hs hG p0 _ e8) ?_
  rintro _ M5 l6 rfl
  replace hG := hG.mono l6
  refine w_val trivial rfl (fun a w hf hs => r_move (hf.ev rfl)) ?_
  refine w_val trivial rfl (fun a w hf hs => r_extract (hf.ev rfl) rfl) ?_
  refine w_val trivial rfl (fun a w hf hs => r_extract (hf.ev rfl) rfl) ?_
  refine w_val trivial rfl (fun a w hf hs => r_extract (hf.ev rfl) rfl) ?_
  refine w_val trivial rfl (fun a w hf hs => r_assign (hf.ev rfl)) ?_
  refine w_val trivial rfl (fun a w hf hs => r_assign (hf.ev rfl)) ?_
  refine w_val trivial rfl (fun a w hf hs => r_assign (hf.ev rfl)) ?_
  refine w_nil (hK2 _ _ _ ?_)
  refine c_seq ?_
  intro K9 hK9
  refine c_block ?_
  refine c_seq ?_
  intro K10 hK10
  refine c_reg ?_
  refine w_val trivial rfl (fun a w hf hs => r_move (hf.ev rfl)) ?_
  refine w_val trivial rfl (fun a w hf hs => r_neq (hf.ev rfl) (hf.ev rfl)) ?_
  refine w_val trivial rfl (fun a w hf hs => r_assign (hf.ev rfl)) ?_
  refine w_nil (hK10 _ _ _ ?_)
  refine c_if rfl (fun b11 => ?_) (fun b11 => ?_)
  · replace H := if_t b11 H
    refine c_seq ?_
    intro K12 hK12
    refine c_reg ?_
    refine w_val trivial rfl (fun a w hf hs => r_move (hf.ev rfl)) ?_
    refine w_val trivial rfl (fun a w hf hs => r_assign (hf.ev rfl)) ?_
    refine w_val trivial rfl (fun a w hf hs => r_assign (hf.ev rfl)) ?_
    refine w_nil (hK12 _ _ _ ?_)
    obtain rfl := some_r H
    refine c_ret ?_
    intro a w' hf hs
    exact hret _ (.inl rfl) a w' hf.df ⟨_, _, Res.of2 rfl (RV.t hf rfl) (RV.t hf rfl), hs.ext, rfl⟩
  · replace H := if_f b11 H
    obtain ⟨t13, H1, H⟩ := bnd H
    refine c_cut (fun a' w' => ∃ (M14 : Heap), HLe M5 M14 ∧ Fr 73 [(1, (str p1)), (2, (str p2)), (8, (str t3.1)), (9, (str t3.2.1)), (24, (.bool t13))] a' ∧ St none' M w M14 (lt []) w') ?_ ?_
    · replace H := H1
      clear H1
      refine c_reg ?_
      refine w_val trivial rfl (fun a w hf hs => r_move (hf.ev rfl)) ?_
      refine w_val trivial rfl (fun a w hf hs => r_slen Tryd.underlying9 (hf.ev rfl)) ?_
      refine w_val trivial rfl (fun a w hf hs => r_gtr (hf.ev rfl) (hf.ev rfl)) ?_
      refine w_val trivial rfl (fun a w hf hs => r_move (hf.ev rfl)) ?_
      by_cases b16 : (decide ((1048576 : Int) < (p1.length : Int))) = true
      · replace H := if_t b16 H
        refine w_not (Nwt.of rfl rfl b16) rfl ?_
        refine w_not (Nwt.of rfl rfl b16) rfl ?_
        refine w_not (Nwt.of rfl rfl b16) rfl ?_
        refine w_val trivial rfl (fun a w hf hs => r_pickT (hf.ev rfl) b16 (hf.ev rfl)) ?_
        refine w_val trivial rfl (fun a w hf hs => r_assign (hf.ev rfl)) ?_
        obtain rfl := some_r H
        refine w_nil ?_
        intro a w' hf hs
        exact ⟨_, (HLe.refl _), (((((hf.nil.add (hf.get _ _ rfl)).add (hf.get _ _ rfl)).add (hf.get _ _ rfl)).add (hf.get _ _ rfl)).add (hf.get _ _ rfl)), hs.sel [] (by decide) rfl⟩
      · replace b16 := Bool.eq_false_iff.2 b16
        replace H := if_f b16 H
        refine w_val (Wnt.of rfl rfl b16) rfl (fun a w hf hs => r_move (hf.ev rfl)) ?_
        refine w_val (Wnt.of rfl rfl b16) rfl (fun a w hf hs => r_slen Tryd.underlying9 (hf.ev rfl)) ?_
        refine w_val (Wnt.of rfl rfl b16) rfl (fun a w hf hs => r_gtr (hf.ev rfl) (hf.ev rfl)) ?_
        refine w_val trivial rfl (fun a w hf hs => r_pickF (hf.ev rfl) b16 (hf.ev rfl)) ?_
        refine w_val trivial rfl (fun a w hf hs => r_assign (hf.ev rfl)) ?_
        obtain rfl := some_r H
        refine w_nil ?_
        intro a w' hf hs
        exact ⟨_, (HLe.refl _), (((((hf.nil.add (hf.get _ _ rfl)).add (hf.get _ _ rfl)).add (hf.get _ _ rfl)).add (hf.get _ _ rfl)).add (hf.get _ _ rfl)), hs.sel [] (by decide) rfl⟩
    · clear H1
      rintro a w' ⟨M14, l15, hf, hs⟩
      refine c_of (c := (Cx.mk Tryd.prog 73 none' M w)) ?_ hf hs
      clear hf hs
      replace hG := hG.mono l15
      refine c_if rfl (fun b17 => ?_) (fun b17 => ?_)
      · replace H := if_t b17 H
        refine c_seq ?_
        intro K18 hK18
        refine c_reg ?_
        refine w_val trivial rfl (fun a w hf hs => r_assign (hf.ev rfl)) ?_
        refine w_val trivial rfl (fun a w hf hs => r_assign (hf.ev rfl)) ?_
        refine w_nil (hK18 _ _ _ ?_)
        obtain rfl := some_r H
        refine c_ret ?_
        intro a w' hf hs
        exact hret _ (.inl rfl) a w' hf.df ⟨_, _, Res.of2 rfl (RV.t hf rfl) (RV.t hf rfl), hs.ext, rfl⟩
      · replace H := if_f b17 H
        refine c_seq ?_
        intro K19 hK19
        refine c_reg ?_
        refine w_val trivial rfl (fun a w hf hs => r_move (hf.ev rfl)) ?_
        refine w_val trivial rfl (fun a w hf hs => r_slen Tryd.underlying9 (hf.ev rfl)) ?_
        refine w_val trivial rfl (fun a w hf hs => r_lss (hf.ev rfl) (hf.ev rfl)) ?_
        refine w_val trivial rfl (fun a w hf hs => r_assign (hf.ev rfl)) ?_
        refine w_nil (hK19 _ _ _ ?_)
        refine c_if rfl (fun b20 => ?_) (fun b20 => ?_)
        · replace H := if_t b20 H
          refine c_seq ?_
          intro K21 hK21
          refine c_reg ?_
          refine w_val trivial rfl (fun a w hf hs => r_assign (hf.ev rfl)) ?_
          refine w_val trivial rfl (fun a w hf hs => r_assign (hf.ev rfl)) ?_
          refine w_nil (hK21 _ _ _ ?_)
          obtain rfl := some_r H
          refine c_ret ?_
          intro a w' hf hs
          exact hret _ (.inl rfl) a w' hf.df ⟨_, _, Res.of2 rfl (RV.t hf rfl) (RV.t hf rfl), hs.ext, rfl⟩
        · replace H := if_f b20 H
          refine c_skip (hK9 _ _ _ ?_)
          refine c_seq ?_
          intro K22 hK22
          refine c_reg ?_
          refine w_val trivial rfl (fun a w hf hs => r_move (hf.ev rfl)) ?_
          obtain ⟨t23, e28, H⟩ := bnd H
          refine w_call cf38 trivial rfl rfl (fun w hs => wire_Bytes.calls hs p1 _ e28) ?_
          rintro v132 M25 l26 ⟨v29, hv_, h30⟩
          replace hv_ := hv_.symm
          subst hv_
          replace hG := hG.mono l26
          refine w_val trivial rfl (fun a w hf hs => r_b2s Tryd.underlying66 Tryd.underlying5 Tryd.underlying9 h30 hs.sub (hf.ev rfl)) ?_
          refine w_val trivial rfl (fun a w hf hs => r_move (hf.ev rfl)) ?_
          refine w_val trivial rfl (fun a w hf hs => r_slen Tryd.underlying9 (hf.ev rfl)) ?_
          refine w_val trivial rfl (fun a w hf hs => r_sub (hf.ev rfl) (hf.ev rfl)) ?_
          refine w_val trivial rfl (fun a w hf hs => r_assign (hf.ev rfl)) ?_
          refine w_val trivial rfl (fun a w hf hs => r_assign (hf.ev rfl)) ?_
          refine w_nil (hK22 _ _ _ ?_)
          refine c_seq ?_
          intro K31 hK31
          obtain ⟨g37, H⟩ := grd_s H
          obtain ⟨g46, H⟩ := grd_s H
          refine c_drawP [([], [2]), ([(0, 43)], []), ([], [2]), ([], [11]), ([(2, 45), (3, 46)], []), ([(1, 44)], []), ([(4, 47)], [])] [fun v M => v = (str p2), fun v M => v = (str ((p2.take ((12 : Int)).toNat).drop ((0 : Int)).toNat)), fun v M => v = (str p2), fun v M => v = (.int .i64 (IntKind.i64.wrap ((p2.length : Int) - (16 : Int)))), fun v M => v = (str ((p2.take ((IntKind.i64.wrap ((p2.length : Int) - (16 : Int)))).toNat).drop ((12 : Int)).toNat)), fun v M => v = (str ((p2.take ((12 : Int)).toNat).drop ((0 : Int)).toNat)), fun v M => v = (str ((p2.take ((IntKind.i64.wrap ((p2.length : Int) - (16 : Int)))).toNat).drop ((12 : Int)).toNat))] (by kernel_rfl) (by kernel_rfl) ?_ (AllT.cons ?_ (AllT.cons ?_ (AllT.cons ?_ (AllT.cons ?_ (AllT.cons ?_ (AllT.cons ?_ (AllT.cons ?_ AllT.nil))))))) ?_
          · exact (MonoA.cons (fun _ _ _ _ h => h) (MonoA.cons (fun _ _ _ _ h => h) (MonoA.cons (fun _ _ _ _ h => h) (MonoA.cons (fun _ _ _ _ h => h) (MonoA.cons (fun _ _ _ _ h => h) (MonoA.cons (fun _ _ _ _ h => h) (MonoA.cons (fun _ _ _ _ h => h) MonoA.nil)))))))
          · intro a w' M32 l33 hd hs
            refine OP.ofW (l := [(2, (str p2))]) (hd.fr.add (hd.base 2 _ rfl rfl)) hs rfl ?_
            refine w_val trivial rfl (fun a w hf hs => r_move (hf.ev rfl)) ?_
            refine w_nil ?_
            intro a w' hf hs
            exact ⟨rfl, hf.df, _, (HLe.refl _), hs, hf.get _ _ rfl⟩
          · intro a w' M34 l35 hd hs
            have e36 := hd.val 0 43 _ rfl rfl
            refine OP.ofW (l := [(43, (str p2))]) (hd.fr.add e36) hs rfl ?_
            refine w_val trivial rfl (fun a w hf hs => r_sslice Tryd.underlying9 (hf.ev rfl) rfl ⟨_, (hf.ev rfl)⟩ g37.1 g37.2.1 g37.2.2) ?_
            refine w_nil ?_
            intro a w' hf hs
            exact ⟨rfl, hf.df, _, (HLe.refl _), hs, hf.get _ _ rfl⟩
          · intro a w' M38 l39 hd hs
            refine OP.ofW (l := [(2, (str p2))]) (hd.fr.add (hd.base 2 _ rfl rfl)) hs rfl ?_
            refine w_val trivial rfl (fun a w hf hs => r_move (hf.ev rfl)) ?_
            refine w_nil ?_
            intro a w' hf hs
            exact ⟨rfl, hf.df, _, (HLe.refl _), hs, hf.get _ _ rfl⟩
          · intro a w' M40 l41 hd hs
            refine OP.ofW (l := [(11, (.int .i64 (IntKind.i64.wrap ((p2.length : Int) - (16 : Int)))))]) (hd.fr.add (hd.base 11 _ rfl rfl)) hs rfl ?_
            refine w_val trivial rfl (fun a w hf hs => r_move (hf.ev rfl)) ?_
            refine w_nil ?_
            intro a w' hf hs
            exact ⟨rfl, hf.df, _, (HLe.refl _), hs, hf.get _ _ rfl⟩
          · intro a w' M42 l43 hd hs
            have e44 := hd.val 2 45 _ rfl rfl
            have e45 := hd.val 3 46 _ rfl rfl
            refine OP.ofW (l := [(45, (str p2)), (46, (.int .i64 (IntKind.i64.wrap ((p2.length : Int) - (16 : Int)))))]) ((hd.fr.add e45).add e44) hs rfl ?_
            refine w_val trivial rfl (fun a w hf hs => r_sslice Tryd.underlying9 (hf.ev rfl) ⟨_, (hf.ev rfl)⟩ ⟨_, (hf.ev rfl)⟩ g46.1 g46.2.1 g46.2.2) ?_
            refine w_nil ?_
            intro a w' hf hs
            exact ⟨rfl, hf.df, _, (HLe.refl _), hs, hf.get _ _ rfl⟩
          · intro a w' M47 l48 hd hs
            have e49 := hd.val 1 44 _ rfl rfl
            refine OP.ofW (l := [(44, (str ((p2.take ((12 : Int)).toNat).drop ((0 : Int)).toNat)))]) (hd.fr.add e49) hs rfl ?_
            refine w_val trivial rfl (fun a w hf hs => r_assign (hf.ev rfl)) ?_
            refine w_nil ?_
            intro a w' hf hs
            exact ⟨rfl, hf.df, _, (HLe.refl _), hs, hf.get _ _ rfl⟩
          · intro a w' M50 l51 hd hs
            have e52 := hd.val 4 47 _ rfl rfl
            refine OP.ofW (l := [(47, (str ((p2.take ((IntKind.i64.wrap ((p2.length : Int) - (16 : Int)))).toNat).drop ((12 : Int)).toNat)))]) (hd.fr.add e52) hs rfl ?_
            refine w_val trivial rfl (fun a w hf hs => r_assign (hf.ev rfl)) ?_
            refine w_nil ?_
            intro a w' hf hs
            exact ⟨rfl, hf.df, _, (HLe.refl _), hs, hf.get _ _ rfl⟩
          intro a w' M53 l54 hdf hsz hb hv hs
          replace hG := hG.mono l54
          replace h30 := h30.mono l54
          have e55 := hv 5 12 _ rfl rfl
          have e56 := hv 6 13 _ rfl rfl
          refine n_of (c := (Cx.mk Tryd.prog 73 none' M w)) (l := [(2, (str p2)), (8, (str t3.1)), (9, (str t3.2.1)), (10, (str (intsB t23))), (11, (.int .i64 (IntKind.i64.wrap ((p2.length : Int) - (16 : Int))))), (12, (str ((p2.take ((12 : Int)).toNat).drop ((0 : Int)).toNat))), (13, (str ((p2.take ((IntKind.i64.wrap ((p2.length : Int) - (16 : Int)))).toNat).drop ((12 : Int)).toNat)))]) ?_ ((((((((Fr.start hdf hsz).add e56).add e55).add (hb 11 _ rfl rfl)).add (hb 10 _ rfl rfl)).add (hb 9 _ rfl rfl)).add (hb 8 _ rfl rfl)).add (hb 2 _ rfl rfl)) hs
          clear hdf hsz hb hv hs e55 e56
          refine n_id (hK31 _ _ _ ?_)
          refine c_seq ?_
          intro K57 hK57
          refine c_seq ?_
          intro K58 hK58
          obtain ⟨t85, e90, H⟩ := bnd H
          obtain ⟨g99, H⟩ := grd_s H
          refine c_drawP [([], [9]), ([], [12]), ([], [10]), ([], [13]), ([(1, 49), (2, 50), (3, 51)], []), ([(0, 48), (4, 52)], []), ([], [2]), ([], [11]), ([(6, 54), (7, 55)], []), ([(5, 53), (8, 56)], [])] [fun v M => v = (str t3.2.1), fun v M => v = (str ((p2.take ((12 : Int)).toNat).drop ((0 : Int)).toNat)), fun v M => v = (str (intsB t23)), fun v M => v = (str ((p2.take ((IntKind.i64.wrap ((p2.length : Int) - (16 : Int)))).toNat).drop ((12 : Int)).toNat)), fun v M => ∃ (v72 : Value), v = v72 ∧ RS FS M v72 ([([116, 97, 103] : List UInt8), ((p2.take ((12 : Int)).toNat).drop ((0 : Int)).toNat), (intsB t23), ((p2.take ((IntKind.i64.wrap ((p2.length : Int) - (16 : Int)))).toNat).drop ((12 : Int)).toNat)] : List (List UInt8)) ∧ ∃ A, v72 = .slice A ([([116, 97, 103] : List UInt8), ((p2.take ((12 : Int)).toNat).drop ((0 : Int)).toNat), (intsB t23), ((p2.take ((IntKind.i64.wrap ((p2.length : Int) - (16 : Int)))).toNat).drop ((12 : Int)).toNat)] : List (List UInt8)).length ([([116, 97, 103] : List UInt8), ((p2.take ((12 : Int)).toNat).drop ((0 : Int)).toNat), (intsB t23), ((p2.take ((IntKind.i64.wrap ((p2.length : Int) - (16 : Int)))).toNat).drop ((12 : Int)).toNat)] : List (List UInt8)).length, fun v M => v = (str t85), fun v M => v = (str p2), fun v M => v = (.int .i64 (IntKind.i64.wrap ((p2.length : Int) - (16 : Int)))), fun v M => v = (str ((p2.take ((p2.length : Int)).toNat).drop ((IntKind.i64.wrap ((p2.length : Int) - (16 : Int)))).toNat)), fun v M => v = (.bool (!(t85 == ((p2.take ((p2.length : Int)).toNat).drop ((IntKind.i64.wrap ((p2.length : Int) - (16 : Int)))).toNat))))] (by kernel_rfl) (by kernel_rfl) ?_ (AllT.cons ?_ (AllT.cons ?_ (AllT.cons ?_ (AllT.cons ?_ (AllT.cons ?_ (AllT.cons ?_ (AllT.cons ?_ (AllT.cons ?_ (AllT.cons ?_ (AllT.cons ?_ AllT.nil)))))))))) ?_
          · exact (MonoA.cons (fun _ _ _ _ h => h) (MonoA.cons (fun _ _ _ _ h => h) (MonoA.cons (fun _ _ _ _ h => h) (MonoA.cons (fun _ _ _ _ h => h) (MonoA.cons (fun _ _ _ hM h => by obtain ⟨v72, e_, q0, q1⟩ := h; exact ⟨v72, e_, q0.mono hM, q1⟩) (MonoA.cons (fun _ _ _ _ h => h) (MonoA.cons (fun _ _ _ _ h => h) (MonoA.cons (fun _ _ _ _ h => h) (MonoA.cons (fun _ _ _ _ h => h) (MonoA.cons (fun _ _ _ _ h => h) MonoA.nil))))))))))
          · intro a w' M59 l60 hd hs
            refine OP.ofW (l := [(9, (str t3.2.1))]) (hd.fr.add (hd.base 9 _ rfl rfl)) hs rfl ?_
            refine w_val trivial rfl (fun a w hf hs => r_move (hf.ev rfl)) ?_
            refine w_nil ?_
            intro a w' hf hs
            exact ⟨rfl, hf.df, _, (HLe.refl _), hs, hf.get _ _ rfl⟩
          · intro a w' M61 l62 hd hs
            refine OP.ofW (l := [(12, (str ((p2.take ((12 : Int)).toNat).drop ((0 : Int)).toNat)))]) (hd.fr.add (hd.base 12 _ rfl rfl)) hs rfl ?_
            refine w_val trivial rfl (fun a w hf hs => r_move (hf.ev rfl)) ?_
            refine w_nil ?_
            intro a w' hf hs
            exact ⟨rfl, hf.df, _, (HLe.refl _), hs, hf.get _ _ rfl⟩
          · intro a w' M63 l64 hd hs
            refine OP.ofW (l := [(10, (str (intsB t23)))]) (hd.fr.add (hd.base 10 _ rfl rfl)) hs rfl ?_
            refine w_val trivial rfl (fun a w hf hs => r_move (hf.ev rfl)) ?_
            refine w_nil ?_
            intro a w' hf hs
            exact ⟨rfl, hf.df, _, (HLe.refl _), hs, hf.get _ _ rfl⟩
          · intro a w' M65 l66 hd hs
            refine OP.ofW (l := [(13, (str ((p2.take ((IntKind.i64.wrap ((p2.length : Int) - (16 : Int)))).toNat).drop ((12 : Int)).toNat)))]) (hd.fr.add (hd.base 13 _ rfl rfl)) hs rfl ?_
            refine w_val trivial rfl (fun a w hf hs => r_move (hf.ev rfl)) ?_
            refine w_nil ?_
            intro a w' hf hs
            exact ⟨rfl, hf.df, _, (HLe.refl _), hs, hf.get _ _ rfl⟩
          · intro a w' M67 l68 hd hs
            have e69 := hd.val 1 49 _ rfl rfl
            have e70 := hd.val 2 50 _ rfl rfl
            have e71 := hd.val 3 51 _ rfl rfl
            refine OP.ofW (l := [(49, (str ((p2.take ((12 : Int)).toNat).drop ((0 : Int)).toNat))), (50, (str (intsB t23))), (51, (str ((p2.take ((IntKind.i64.wrap ((p2.length : Int) - (16 : Int)))).toNat).drop ((12 : Int)).toNat)))]) (((hd.fr.add e71).add e70).add e69) hs rfl ?_
            refine w_bsl (F := FS) (es := ([([116, 97, 103] : List UInt8), ((p2.take ((12 : Int)).toNat).drop ((0 : Int)).toNat), (intsB t23), ((p2.take ((IntKind.i64.wrap ((p2.length : Int) - (16 : Int)))).toNat).drop ((12 : Int)).toNat)] : List (List UInt8))) (xs := [.const (str ([116, 97, 103] : List UInt8)), .tmp 49, .tmp 50, .tmp 51]) (vs := [(str ([116, 97, 103] : List UInt8)), (str ((p2.take ((12 : Int)).toNat).drop ((0 : Int)).toNat)), (str (intsB t23)), (str ((p2.take ((IntKind.i64.wrap ((p2.length : Int) - (16 : Int)))).toNat).drop ((12 : Int)).toNat))]) Tryd.underlying63 te9 trivial rfl rfl rfl rfl rfl (by decide) ?_
            intro v72 M73 l74 h75 c76
            refine w_nil ?_
            intro a w' hf hs
            exact ⟨rfl, hf.df, _, l74, hs, ⟨v72, hf.get _ _ rfl, h75, c76⟩⟩
          · intro a w' M77 l78 hd hs
            have e79 := hd.val 0 48 _ rfl rfl
            obtain ⟨v80, e84, h81, h83⟩ := hd.val 4 52 _ rfl rfl
            replace hG := hG.mono l78
            refine OP.ofW (l := [(48, (str t3.2.1)), (52, v80)]) ((hd.fr.add e84).add e79) hs rfl ?_
            refine w_call cf39 trivial rfl rfl (fun w hs => seal_code.calls hs hG t3.2.1 (16 : Int) ([([116, 97, 103] : List UInt8), ((p2.take ((12 : Int)).toNat).drop ((0 : Int)).toNat), (intsB t23), ((p2.take ((IntKind.i64.wrap ((p2.length : Int) - (16 : Int)))).toNat).drop ((12 : Int)).toNat)] : List (List UInt8)) v80 h81 _ e90) ?_
            rintro _ M87 l88 rfl
            replace h81 := h81.mono l88
            refine w_nil ?_
            intro a w' hf hs
            exact ⟨rfl, hf.df, _, l88, hs, hf.get _ _ rfl⟩
          · intro a w' M91 l92 hd hs
            refine OP.ofW (l := [(2, (str p2))]) (hd.fr.add (hd.base 2 _ rfl rfl)) hs rfl ?_
            refine w_val trivial rfl (fun a w hf hs => r_move (hf.ev rfl)) ?_
            refine w_nil ?_
            intro a w' hf hs
            exact ⟨rfl, hf.df, _, (HLe.refl _), hs, hf.get _ _ rfl⟩
          · intro a w' M93 l94 hd hs
            refine OP.ofW (l := [(11, (.int .i64 (IntKind.i64.wrap ((p2.length : Int) - (16 : Int)))))]) (hd.fr.add (hd.base 11 _ rfl rfl)) hs rfl ?_
            refine w_val trivial rfl (fun a w hf hs => r_move (hf.ev rfl)) ?_
            refine w_nil ?_
            intro a w' hf hs
            exact ⟨rfl, hf.df, _, (HLe.refl _), hs, hf.get _ _ rfl⟩
          · intro a w' M95 l96 hd hs
            have e97 := hd.val 6 54 _ rfl rfl
            have e98 := hd.val 7 55 _ rfl rfl
            refine OP.ofW (l := [(54, (str p2)), (55, (.int .i64 (IntKind.i64.wrap ((p2.length : Int) - (16 : Int)))))]) ((hd.fr.add e98).add e97) hs rfl ?_
            refine w_val trivial rfl (fun a w hf hs => r_sslice Tryd.underlying9 (hf.ev rfl) ⟨_, (hf.ev rfl)⟩ rfl g99.1 g99.2.1 g99.2.2) ?_
            refine w_nil ?_
            intro a w' hf hs
            exact ⟨rfl, hf.df, _, (HLe.refl _), hs, hf.get _ _ rfl⟩
          · intro a w' M100 l101 hd hs
            have e102 := hd.val 5 53 _ rfl rfl
            have e103 := hd.val 8 56 _ rfl rfl
            refine OP.ofW (l := [(53, (str t85)), (56, (str ((p2.take ((p2.length : Int)).toNat).drop ((IntKind.i64.wrap ((p2.length : Int) - (16 : Int)))).toNat)))]) ((hd.fr.add e103).add e102) hs rfl ?_
            refine w_val trivial rfl (fun a w hf hs => r_sneq (hf.ev rfl) (hf.ev rfl)) ?_
            refine w_nil ?_
            intro a w' hf hs
            exact ⟨rfl, hf.df, _, (HLe.refl _), hs, hf.get _ _ rfl⟩
          intro a w' M104 l105 hdf hsz hb hv hs
          replace hG := hG.mono l105
          replace h30 := h30.mono l105
          have e106 := hv 9 57 _ rfl rfl
          refine n_of (c := (Cx.mk Tryd.prog 73 none' M w)) (l := [(8, (str t3.1)), (9, (str t3.2.1)), (10, (str (intsB t23))), (12, (str ((p2.take ((12 : Int)).toNat).drop ((0 : Int)).toNat))), (13, (str ((p2.take ((IntKind.i64.wrap ((p2.length : Int) - (16 : Int)))).toNat).drop ((12 : Int)).toNat))), (57, (.bool (!(t85 == ((p2.take ((p2.length : Int)).toNat).drop ((IntKind.i64.wrap ((p2.length : Int) - (16 : Int)))).toNat)))))]) ?_ (((((((Fr.start hdf hsz).add e106).add (hb 13 _ rfl rfl)).add (hb 12 _ rfl rfl)).add (hb 10 _ rfl rfl)).add (hb 9 _ rfl rfl)).add (hb 8 _ rfl rfl)) hs
          clear hdf hsz hb hv hs e106
          refine n_id (hK58 _ _ _ ?_)
          refine c_if rfl (fun b107 => ?_) (fun b107 => ?_)
          · replace H := if_t b107 H
            refine c_seq ?_
            intro K108 hK108
            refine c_reg ?_
            refine w_val trivial rfl (fun a w hf hs => r_assign (hf.ev rfl)) ?_
            refine w_val trivial rfl (fun a w hf hs => r_assign (hf.ev rfl)) ?_
            refine w_nil (hK108 _ _ _ ?_)
            obtain rfl := some_r H
            refine c_ret ?_
            intro a w' hf hs
            exact hret _ (.inl rfl) a w' hf.df ⟨_, _, Res.of2 rfl (RV.t hf rfl) (RV.t hf rfl), hs.ext, rfl⟩
          · replace H := if_f b107 H
            refine c_skip (hK57 _ _ _ ?_)
            refine c_seq ?_
            intro K109 hK109
            refine c_reg ?_
            refine w_val trivial rfl (fun a w hf hs => r_move (hf.ev rfl)) ?_
            refine w_val trivial rfl (fun a w hf hs => r_move (hf.ev rfl)) ?_
            refine w_val trivial rfl (fun a w hf hs => r_move (hf.ev rfl)) ?_
            obtain ⟨t110, e115, H⟩ := bnd H
            refine w_call cf40 trivial rfl rfl (fun w hs => cipher_Xor.calls hs t3.1 (1 : Int) ((p2.take ((12 : Int)).toNat).drop ((0 : Int)).toNat) ((p2.take ((IntKind.i64.wrap ((p2.length : Int) - (16 : Int)))).toNat).drop ((12 : Int)).toNat) _ e115) ?_
            rintro _ M112 l113 rfl
            replace hG := hG.mono l113
            replace h30 := h30.mono l113
            refine w_val trivial rfl (fun a w hf hs => r_move (hf.ev rfl)) ?_
            refine w_val trivial rfl (fun a w hf hs => r_extract (hf.ev rfl) rfl) ?_
            refine w_val trivial rfl (fun a w hf hs => r_extract (hf.ev rfl) rfl) ?_
            refine w_val trivial rfl (fun a w hf hs => r_assign (hf.ev rfl)) ?_
            refine w_nil (hK109 _ _ _ ?_)
            refine c_seq ?_
            intro K116 hK116
            refine c_seq ?_
            intro K117 hK117
            refine c_reg ?_
            refine w_val trivial rfl (fun a w hf hs => r_move (hf.ev rfl)) ?_
            refine w_val trivial rfl (fun a w hf hs => r_move (hf.ev rfl)) ?_
            refine w_val trivial rfl (fun a w hf hs => r_move (hf.ev rfl)) ?_
            refine w_bsl (F := FS) (es := ([([110, 111, 110, 99, 101] : List UInt8), (intsB t23), t110.1] : List (List UInt8))) (xs := [.const (str ([110, 111, 110, 99, 101] : List UInt8)), .tmp 66, .tmp 67]) (vs := [(str ([110, 111, 110, 99, 101] : List UInt8)), (str (intsB t23)), (str t110.1)]) Tryd.underlying63 te9 trivial rfl rfl rfl rfl rfl (by decide) ?_
            intro v118 M119 l120 h121 c122
            replace hG := hG.mono l120
            replace h30 := h30.mono l120
            obtain ⟨t123, e128, H⟩ := bnd H
            refine w_call cf39 trivial rfl rfl (fun w hs => seal_code.calls hs hG t3.2.1 (12 : Int) ([([110, 111, 110, 99, 101] : List UInt8), (intsB t23), t110.1] : List (List UInt8)) v118 h121 _ e128) ?_
            rintro _ M125 l126 rfl
            replace hG := hG.mono l126
            replace h30 := h30.mono l126
            replace h121 := h121.mono l126
            refine w_val trivial rfl (fun a w hf hs => r_move (hf.ev rfl)) ?_
            refine w_val trivial rfl (fun a w hf hs => r_sneq (hf.ev rfl) (hf.ev rfl)) ?_
            refine w_nil (hK117 _ _ _ ?_)
            refine c_if rfl (fun b129 => ?_) (fun b129 => ?_)
            · replace H := if_t b129 H
              refine c_seq ?_
              intro K130 hK130
              refine c_reg ?_
              refine w_val trivial rfl (fun a w hf hs => r_assign (hf.ev rfl)) ?_
              refine w_val trivial rfl (fun a w hf hs => r_assign (hf.ev rfl)) ?_
              refine w_nil (hK130 _ _ _ ?_)
              obtain rfl := some_r H
              refine c_ret ?_
              intro a w' hf hs
              exact hret _ (.inl rfl) a w' hf.df ⟨_, _, Res.of2 rfl (RV.t hf rfl) (RV.t hf rfl), hs.ext, rfl⟩
            · replace H := if_f b129 H
              refine c_skip (hK116 _ _ _ ?_)
              refine c_seq ?_
              intro K131 hK131
              refine c_reg ?_
              refine w_val trivial rfl (fun a w hf hs => r_move (hf.ev rfl)) ?_
              refine w_val trivial rfl (fun a w hf hs => r_assign (hf.ev rfl)) ?_
              refine w_val trivial rfl (fun a w hf hs => r_assign (hf.ev rfl)) ?_
              refine w_nil (hK131 _ _ _ ?_)
              obtain rfl := some_r H
              refine c_ret ?_
              intro a w' hf hs
              exact hret _ (.inl rfl) a w' hf.df ⟨_, _, Res.of2 rfl (RV.t hf rfl) (RV.t hf rfl), hs.ext, rfl⟩
set_option maxRecDepth 20000 in
theorem ref02_padded.calls {M : Heap} {w : World} (hM : Sub M w) (p0 : (List Int)) (v1 : Value) (h2 : RS (FI .u8) M v1 p0) (r : (List Int)) (H : ref02_padded p0 = some r) :
    Calls Tryd.prog 115 [v1].toArray w (Post M w fun M' v => ∃ v64, v = v64 ∧ RS (FI .u8) M' v64 r) := by
  refine enter 37 [(0, v1)] Tryd.func115 rfl rfl rfl hM ?_
  intro Q hret
  unfold ref02_padded at H
  refine c_seq ?_
  intro K3 hK3
  refine c_reg ?_
  refine w_val trivial rfl (fun a w hf hs => r_assign (hf.ev rfl)) ?_
  refine w_nil (hK3 _ _ _ ?_)
  refine c_seq ?_
  intro K4 hK4
  refine c_reg ?_
  refine w_bslW (F := (FI .u8)) (es := ([] : List Int)) (xs := []) (vs := []) Tryd.underlying66 te5 trivial rfl rfl rfl rfl rfl (by decide) ?_
  intro v5
  refine w_val trivial rfl (fun a w hf hs => r_move (hf.ev rfl)) ?_
  obtain ⟨g6, H⟩ := grd_s H
  refine w_app (F := (FI .u8)) (m2 := p0) (i := 0) Tryd.underlying66 te5 Tryd.underlying66 (.inl ⟨_, rfl⟩) trivial rfl rfl rfl rfl (Src.rs (FI.one _) h2) g6 ?_
  intro v7
  refine w_val trivial rfl (fun a w hf hs => r_assign (hf.ev rfl)) ?_
  refine w_nil (hK4 _ _ _ ?_)
  refine c_seq ?_
  intro K8 hK8
  refine c_reg ?_
  refine w_val trivial rfl (fun a w hf hs => r_move (hf.ev rfl)) ?_
  refine w_bsl (F := (FI .u8)) (es := ([(128 : Int)] : List Int)) (xs := [.const (.int .u8 (128 : Int))]) (vs := [(.int .u8 (128 : Int))]) Tryd.underlying66 te5 trivial rfl rfl rfl rfl rfl (by decide) ?_
  intro v9 M10 l11 h12 c13
  replace h2 := h2.mono l11
  obtain ⟨g14, H⟩ := grd_s H
  refine w_app (F := (FI .u8)) (m2 := ([(128 : Int)] : List Int)) (i := 0) Tryd.underlying66 te5 Tryd.underlying66 (.inl ⟨_, rfl⟩) trivial rfl rfl rfl rfl (Src.rs (FI.one _) h12) g14 ?_
  intro v15
  refine w_val trivial rfl (fun a w hf hs => r_assign (hf.ev rfl)) ?_
  refine w_nil (hK8 _ _ _ ?_)
  refine c_cut (fun a' w' => ∃ (x16 : (List Int)) (v17 : Value) (M18 : Heap), HLe M10 M18 ∧ Fr 37 [(0, v1), (3, v17)] a' ∧ St none' M w M18 (lt [rowI (FI .u8) v17 5 x16]) w' ∧ ref02_padded.j3 p0 x16 = some r) ?_ ?_
  · refine c_block ?_
    refine c_loop (fun (s48 : (List Int)) a' w' => ∃ (v49 : Value) (M50 : Heap), HLe M10 M50 ∧ Fr 37 [(0, v1), (3, v49)] a' ∧ St none' M w M50 (lt [rowI (FI .u8) v49 5 s48]) w') ((([] : List Int) ++ p0) ++ ([(128 : Int)] : List Int)) H ?_ ?_
    · intro a w' hf hs
      exact ⟨v15, _, HLe.refl _, ((hf.nil.add (hf.get _ _ rfl)).add (hf.get _ _ rfl)), hs.selD [some 0] (by decide) rfl⟩
    · clear H
      intro s48 y53 H r52 a w' hJ
      obtain ⟨v49, M50, l51, hf, hs⟩ := hJ
      refine c_of (c := (Cx.mk Tryd.prog 37 none' M w)) ?_ hf hs
      unfold ref02_padded.l4 at H
      clear hf hs
      replace h2 := h2.mono l51
      replace h12 := h12.mono l51
      refine c_seq ?_
      intro K54 hK54
      refine c_seq ?_
      intro K55 hK55
      refine c_reg ?_
      refine w_val trivial rfl (fun a w hf hs => r_move (hf.ev rfl)) ?_
      refine w_val trivial rfl (fun a w hf hs => r_lenW 0 hs rfl Tryd.underlying66 (hf.ev rfl)) ?_
      refine w_val trivial rfl (fun a w hf hs => r_rem (hf.ev rfl) (hf.ev rfl) (by decide)) ?_
      refine w_val trivial rfl (fun a w hf hs => r_neq (hf.ev rfl) (hf.ev rfl)) ?_
      refine w_nil (hK55 _ _ _ ?_)
      refine c_if rfl (fun b56 => ?_) (fun b56 => ?_)
      · replace H := if_t b56 H
        refine c_skip (hK54 _ _ _ ?_)
        refine c_block ?_
        refine c_reg ?_
        refine w_val trivial rfl (fun a w hf hs => r_move (hf.ev rfl)) ?_
        refine w_bsl (F := (FI .u8)) (es := ([(0 : Int)] : List Int)) (xs := [.const (.int .u8 (0 : Int))]) (vs := [(.int .u8 (0 : Int))]) Tryd.underlying66 te5 trivial rfl rfl rfl rfl rfl (by decide) ?_
        intro v57 M58 l59 h60 c61
        replace h2 := h2.mono l59
        replace h12 := h12.mono l59
        obtain ⟨g62, H⟩ := grd_s H
        refine w_app (F := (FI .u8)) (m2 := ([(0 : Int)] : List Int)) (i := 0) Tryd.underlying66 te5 Tryd.underlying66 (.inl ⟨_, rfl⟩) trivial rfl rfl rfl rfl (Src.rs (FI.one _) h60) g62 ?_
        intro v63
        refine w_val trivial rfl (fun a w hf hs => r_assign (hf.ev rfl)) ?_
        refine w_nil ?_
        intro a w' hf hs
        exact ⟨_, (some_r H).symm, v63, _, l51.trans l59, ((hf.nil.add (hf.get _ _ rfl)).add (hf.get _ _ rfl)), hs.selD [some 0] (by decide) rfl⟩
      · replace H := if_f b56 H
        replace H := map_inr H r52
        refine c_exit ?_
        intro a w' hf hs
        exact ⟨s48, v49, _, l51, ((hf.nil.add (hf.get _ _ rfl)).add (hf.get _ _ rfl)), hs.selD [some 0] (by decide) rfl, H⟩
  · rintro a w' ⟨x16, v17, M18, l19, hf, hs, H⟩
    refine c_of (c := (Cx.mk Tryd.prog 37 none' M w)) ?_ hf hs
    unfold ref02_padded.j3 at H
    clear hf hs
    replace h2 := h2.mono l19
    replace h12 := h12.mono l19
    refine c_seq ?_
    intro K20 hK20
    refine c_reg ?_
    refine w_val trivial rfl (fun a w hf hs => r_move (hf.ev rfl)) ?_
    refine w_val trivial rfl (fun a w hf hs => r_lenR Tryd.underlying66 h2 (hf.ev rfl)) ?_
    refine w_val trivial rfl (fun a w hf hs => r_conv Tryd.underlying3 Tryd.underlying121 (hf.ev rfl)) ?_
    refine w_val trivial rfl (fun a w hf hs => r_mul (hf.ev rfl) (hf.ev rfl)) ?_
    refine w_val trivial rfl (fun a w hf hs => r_assign (hf.ev rfl)) ?_
    refine w_nil (hK20 _ _ _ ?_)
    refine c_cut (fun a' w' => ∃ (x21 : (List Int)) (v22 : Value) (M23 : Heap), HLe M18 M23 ∧ Fr 37 [(3, v22)] a' ∧ St none' M w M23 (lt [rowI (FI .u8) v22 5 x21]) w' ∧ ref02_padded.j1 x21 = some r) ?_ ?_
    · refine c_seq ?_
      intro K29 hK29
      refine c_reg ?_
      refine w_val trivial rfl (fun a w hf hs => r_assign (hf.ev rfl)) ?_
      refine w_nil (hK29 _ _ _ ?_)
      refine c_block ?_
      refine c_loop (fun (s30 : ((List Int) × Int)) a' w' => ∃ (v31 : Value) (M32 : Heap), HLe M18 M32 ∧ Fr 37 [(3, v31), (4, (.int .u64 (IntKind.u64.wrap ((8 : Int) * (IntKind.u64.wrap (p0.length : Int)))))), (5, (.int .i64 s30.2))] a' ∧ St none' M w M32 (lt [rowI (FI .u8) v31 5 s30.1]) w') (x16, (0 : Int)) H ?_ ?_
      · intro a w' hf hs
        exact ⟨v17, _, HLe.refl _, (((hf.nil.add (hf.get _ _ rfl)).add (hf.get _ _ rfl)).add (hf.get _ _ rfl)), hs.selD [some 0] (by decide) rfl⟩
      · clear H
        intro s30 y35 H r34 a w' hJ
        obtain ⟨v31, M32, l33, hf, hs⟩ := hJ
        refine c_of (c := (Cx.mk Tryd.prog 37 none' M w)) ?_ hf hs
        unfold ref02_padded.l2 at H
        clear hf hs
        replace h2 := h2.mono l33
        replace h12 := h12.mono l33
        refine c_seq ?_
        intro K36 hK36
        refine c_seq ?_
        intro K37 hK37
        refine c_reg ?_
        refine w_val trivial rfl (fun a w hf hs => r_move (hf.ev rfl)) ?_
        refine w_val trivial rfl (fun a w hf hs => r_lss (hf.ev rfl) (hf.ev rfl)) ?_
        refine w_nil (hK37 _ _ _ ?_)
        refine c_if rfl (fun b38 => ?_) (fun b38 => ?_)
        · replace H := if_t b38 H
          refine c_skip (hK36 _ _ _ ?_)
          refine c_seq ?_
          intro K39 hK39
          refine c_block ?_
          refine c_reg ?_
          refine w_val trivial rfl (fun a w hf hs => r_move (hf.ev rfl)) ?_
          refine w_val trivial rfl (fun a w hf hs => r_move (hf.ev rfl)) ?_
          refine w_val trivial rfl (fun a w hf hs => r_move (hf.ev rfl)) ?_
          refine w_val trivial rfl (fun a w hf hs => r_mul (hf.ev rfl) (hf.ev rfl)) ?_
          refine w_val trivial rfl (fun a w hf hs => r_sub (hf.ev rfl) (hf.ev rfl)) ?_
          obtain ⟨g40, H⟩ := grd_s H
          refine w_val trivial rfl (fun a w hf hs => r_shr (hf.ev rfl) (hf.ev rfl) g40) ?_
          refine w_val trivial rfl (fun a w hf hs => r_conv Tryd.underlying121 Tryd.underlying5 (hf.ev rfl)) ?_
          refine w_bsl (F := (FI .u8)) (es := ([(IntKind.u8.wrap (shrI .u64 (IntKind.u64.wrap ((8 : Int) * (IntKind.u64.wrap (p0.length : Int)))) (IntKind.i64.wrap ((56 : Int) - (IntKind.i64.wrap ((8 : Int) * s30.2))))))] : List Int)) (xs := [.tmp 33]) (vs := [(.int .u8 (IntKind.u8.wrap (shrI .u64 (IntKind.u64.wrap ((8 : Int) * (IntKind.u64.wrap (p0.length : Int)))) (IntKind.i64.wrap ((56 : Int) - (IntKind.i64.wrap ((8 : Int) * s30.2)))))))]) Tryd.underlying66 te5 trivial rfl rfl rfl rfl rfl (by decide) ?_
          intro v41 M42 l43 h44 c45
          replace h2 := h2.mono l43
          replace h12 := h12.mono l43
          obtain ⟨g46, H⟩ := grd_s H
          refine w_app (F := (FI .u8)) (m2 := ([(IntKind.u8.wrap (shrI .u64 (IntKind.u64.wrap ((8 : Int) * (IntKind.u64.wrap (p0.length : Int)))) (IntKind.i64.wrap ((56 : Int) - (IntKind.i64.wrap ((8 : Int) * s30.2))))))] : List Int)) (i := 0) Tryd.underlying66 te5 Tryd.underlying66 (.inl ⟨_, rfl⟩) trivial rfl rfl rfl rfl (Src.rs (FI.one _) h44) g46 ?_
          intro v47
          refine w_val trivial rfl (fun a w hf hs => r_assign (hf.ev rfl)) ?_
          refine w_nil (hK39 _ _ _ ?_)
          refine c_reg ?_
          refine w_val trivial rfl (fun a w hf hs => r_move (hf.ev rfl)) ?_
          refine w_val trivial rfl (fun a w hf hs => r_add (hf.ev rfl) (hf.ev rfl)) ?_
          refine w_val trivial rfl (fun a w hf hs => r_assign (hf.ev rfl)) ?_
          refine w_nil ?_
          intro a w' hf hs
          exact ⟨_, (some_r H).symm, v47, _, l33.trans l43, (((hf.nil.add (hf.get _ _ rfl)).add (hf.get _ _ rfl)).add (hf.get _ _ rfl)), hs.selD [some 0] (by decide) rfl⟩
        · replace H := if_f b38 H
          replace H := map_inr H r34
          refine c_exit ?_
          intro a w' hf hs
          exact ⟨s30.1, v31, _, l33, (hf.nil.add (hf.get _ _ rfl)), hs.selD [some 0] (by decide) rfl, H⟩
    · rintro a w' ⟨x21, v22, M23, l24, hf, hs, H⟩
      refine c_of (c := (Cx.mk Tryd.prog 37 none' M w)) ?_ hf hs
      unfold ref02_padded.j1 at H
      clear hf hs
      replace h2 := h2.mono l24
      replace h12 := h12.mono l24
      refine c_seq ?_
      intro K25 hK25
      refine c_reg ?_
      refine w_val trivial rfl (fun a w hf hs => r_move (hf.ev rfl)) ?_
      refine w_val trivial rfl (fun a w hf hs => r_assign (hf.ev rfl)) ?_
      refine w_nil (hK25 _ _ _ ?_)
      obtain rfl := some_r H
      refine c_ret ?_
      refine n_give 0 rfl (fun _ h => h) ?_
      intro M26 l27 h28
      replace h2 := h2.mono l27
      replace h12 := h12.mono l27
      intro a w' hf hs
      exact hret _ (.inl rfl) a w' hf.df ⟨_, _, Res.of1 rfl (RV.t hf rfl), hs.ext, ⟨_, rfl, h28⟩⟩
set_option maxRecDepth 20000 in
theorem ref02_rotr.calls {M : Heap} {w : World} (hM : Sub M w) (p0 : Int) (p1 : Int) (r : Int) (H : ref02_rotr p0 p1 = some r) :
    Calls Tryd.prog 117 [(.int .u32 p0), (.int .i64 p1)].toArray w (Post M w fun M' v => v = (.int .u32 r)) := by
  refine enter 13 [(0, (.int .u32 p0)), (1, (.int .i64 p1))] Tryd.func117 rfl rfl rfl hM ?_
  intro Q hret
  unfold ref02_rotr at H
  refine c_seq ?_
  intro K1 hK1
  refine c_reg ?_
  refine w_val trivial rfl (fun a w hf hs => r_assign (hf.ev rfl)) ?_
  refine w_nil (hK1 _ _ _ ?_)
  refine c_seq ?_
  intro K2 hK2
  obtain ⟨g11, H⟩ := grd_s H
  obtain ⟨g23, H⟩ := grd_s H
  refine c_drawP [([], [0]), ([], [1]), ([(0, 5), (1, 6)], []), ([], [0]), ([], [1]), ([(4, 9)], []), ([(3, 8), (5, 10)], []), ([(2, 7), (6, 11)], []), ([(7, 12)], [])] [fun v M => v = (.int .u32 p0), fun v M => v = (.int .i64 p1), fun v M => v = (.int .u32 (shrI .u32 p0 p1)), fun v M => v = (.int .u32 p0), fun v M => v = (.int .i64 p1), fun v M => v = (.int .i64 (IntKind.i64.wrap ((32 : Int) - p1))), fun v M => v = (.int .u32 (shlI .u32 p0 (IntKind.i64.wrap ((32 : Int) - p1)))), fun v M => v = (.int .u32 (bits .or .u32 (shrI .u32 p0 p1) (shlI .u32 p0 (IntKind.i64.wrap ((32 : Int) - p1))))), fun v M => v = (.int .u32 (bits .or .u32 (shrI .u32 p0 p1) (shlI .u32 p0 (IntKind.i64.wrap ((32 : Int) - p1)))))] (by kernel_rfl) (by kernel_rfl) ?_ (AllT.cons ?_ (AllT.cons ?_ (AllT.cons ?_ (AllT.cons ?_ (AllT.cons ?_ (AllT.cons ?_ (AllT.cons ?_ (AllT.cons ?_ (AllT.cons ?_ AllT.nil))))))))) ?_
  · exact (MonoA.cons (fun _ _ _ _ h => h) (MonoA.cons (fun _ _ _ _ h => h) (MonoA.cons (fun _ _ _ _ h => h) (MonoA.cons (fun _ _ _ _ h => h) (MonoA.cons (fun _ _ _ _ h => h) (MonoA.cons (fun _ _ _ _ h => h) (MonoA.cons (fun _ _ _ _ h => h) (MonoA.cons (fun _ _ _ _ h => h) (MonoA.cons (fun _ _ _ _ h => h) MonoA.nil)))))))))
  · intro a w' M3 l4 hd hs
    refine OP.ofW (l := [(0, (.int .u32 p0))]) (hd.fr.add (hd.base 0 _ rfl rfl)) hs rfl ?_
    refine w_val trivial rfl (fun a w hf hs => r_move (hf.ev rfl)) ?_
    refine w_nil ?_
    intro a w' hf hs
    exact ⟨rfl, hf.df, _, (HLe.refl _), hs, hf.get _ _ rfl⟩
  · intro a w' M5 l6 hd hs
    refine OP.ofW (l := [(1, (.int .i64 p1))]) (hd.fr.add (hd.base 1 _ rfl rfl)) hs rfl ?_
    refine w_val trivial rfl (fun a w hf hs => r_move (hf.ev rfl)) ?_
    refine w_nil ?_
    intro a w' hf hs
    exact ⟨rfl, hf.df, _, (HLe.refl _), hs, hf.get _ _ rfl⟩
  · intro a w' M7 l8 hd hs
    have e9 := hd.val 0 5 _ rfl rfl
    have e10 := hd.val 1 6 _ rfl rfl
    refine OP.ofW (l := [(5, (.int .u32 p0)), (6, (.int .i64 p1))]) ((hd.fr.add e10).add e9) hs rfl ?_
    refine w_val trivial rfl (fun a w hf hs => r_shr (hf.ev rfl) (hf.ev rfl) g11) ?_
    refine w_nil ?_
    intro a w' hf hs
    exact ⟨rfl, hf.df, _, (HLe.refl _), hs, hf.get _ _ rfl⟩
  · intro a w' M12 l13 hd hs
    refine OP.ofW (l := [(0, (.int .u32 p0))]) (hd.fr.add (hd.base 0 _ rfl rfl)) hs rfl ?_
    refine w_val trivial rfl (fun a w hf hs => r_move (hf.ev rfl)) ?_
    refine w_nil ?_
    intro a w' hf hs
    exact ⟨rfl, hf.df, _, (HLe.refl _), hs, hf.get _ _ rfl⟩
  · intro a w' M14 l15 hd hs
    refine OP.ofW (l := [(1, (.int .i64 p1))]) (hd.fr.add (hd.base 1 _ rfl rfl)) hs rfl ?_
    refine w_val trivial rfl (fun a w hf hs => r_move (hf.ev rfl)) ?_
    refine w_nil ?_
    intro a w' hf hs
    exact ⟨rfl, hf.df, _, (HLe.refl _), hs, hf.get _ _ rfl⟩
  · intro a w' M16 l17 hd hs
    have e18 := hd.val 4 9 _ rfl rfl
    refine OP.ofW (l := [(9, (.int .i64 p1))]) (hd.fr.add e18) hs rfl ?_
    refine w_val trivial rfl (fun a w hf hs => r_sub (hf.ev rfl) (hf.ev rfl)) ?_
    refine w_nil ?_
    intro a w' hf hs
    exact ⟨rfl, hf.df, _, (HLe.refl _), hs, hf.get _ _ rfl⟩
  · intro a w' M19 l20 hd hs
    have e21 := hd.val 3 8 _ rfl rfl
    have e22 := hd.val 5 10 _ rfl rfl
    refine OP.ofW (l := [(8, (.int .u32 p0)), (10, (.int .i64 (IntKind.i64.wrap ((32 : Int) - p1))))]) ((hd.fr.add e22).add e21) hs rfl ?_
    refine w_val trivial rfl (fun a w hf hs => r_shl (hf.ev rfl) (hf.ev rfl) g23) ?_
    refine w_nil ?_
    intro a w' hf hs
    exact ⟨rfl, hf.df, _, (HLe.refl _), hs, hf.get _ _ rfl⟩
  · intro a w' M24 l25 hd hs
    have e26 := hd.val 2 7 _ rfl rfl
    have e27 := hd.val 6 11 _ rfl rfl
    refine OP.ofW (l := [(7, (.int .u32 (shrI .u32 p0 p1))), (11, (.int .u32 (shlI .u32 p0 (IntKind.i64.wrap ((32 : Int) - p1)))))]) ((hd.fr.add e27).add e26) hs rfl ?_
    refine w_val trivial rfl (fun a w hf hs => r_or (hf.ev rfl) (hf.ev rfl)) ?_
    refine w_nil ?_
    intro a w' hf hs
    exact ⟨rfl, hf.df, _, (HLe.refl _), hs, hf.get _ _ rfl⟩
  · intro a w' M28 l29 hd hs
    have e30 := hd.val 7 12 _ rfl rfl
    refine OP.ofW (l := [(12, (.int .u32 (bits .or .u32 (shrI .u32 p0 p1) (shlI .u32 p0 (IntKind.i64.wrap ((32 : Int) - p1))))))]) (hd.fr.add e30) hs rfl ?_
    refine w_val trivial rfl (fun a w hf hs => r_assign (hf.ev rfl)) ?_
    refine w_nil ?_
    intro a w' hf hs
    exact ⟨rfl, hf.df, _, (HLe.refl _), hs, hf.get _ _ rfl⟩
  intro a w' M31 l32 hdf hsz hb hv hs
  have e33 := hv 8 4 _ rfl rfl
  refine n_of (c := (Cx.mk Tryd.prog 13 none' M w)) (l := [(4, (.int .u32 (bits .or .u32 (shrI .u32 p0 p1) (shlI .u32 p0 (IntKind.i64.wrap ((32 : Int) - p1))))))]) ?_ ((Fr.start hdf hsz).add e33) hs
  clear hdf hsz hb hv hs e33
  refine n_id (hK2 _ _ _ ?_)
  obtain rfl := some_r H
  refine c_ret ?_
  intro a w' hf hs
  exact hret _ (.inl rfl) a w' hf.df ⟨_, _, Res.of1 rfl (RV.t hf rfl), hs.ext, rfl⟩
set_option maxRecDepth 20000 in
theorem ref02_words.calls {M : Heap} {w : World} (hM : Sub M w) (p0 : (List Int)) (v1 : Value) (h2 : RS (FI .u8) M v1 p0) (r : (Vector Int 64)) (H : ref02_words p0 = some r) :
    Calls Tryd.prog 116 [v1].toArray w (Post M w fun M' v => v = (.agg (vI .u32 r).toArray)) := by
  refine enter 101 [(0, v1)] Tryd.func116 rfl rfl rfl hM ?_
  intro Q hret
  unfold ref02_words at H
  refine c_seq ?_
  intro K3 hK3
  refine c_reg ?_
  refine w_allocL (A := vI .u32 (Vector.replicate 64 (0 : Int))) tz157 trivial rfl rfl ?_
  intro b4
  refine w_nil (hK3 _ _ _ ?_)
  refine c_seq ?_
  intro K5 hK5
  refine c_reg ?_
  refine w_allocL (A := vI .u32 (Vector.replicate 64 (0 : Int))) tz157 trivial rfl rfl ?_
  intro b6
  refine w_nil (hK5 _ _ _ ?_)
  refine c_cut (fun a' w' => ∃ (x7 : (Vector Int 64)) (M8 : Heap), HLe M M8 ∧ Fr 101 [(2, (ptr b4 0)), (3, (ptr b6 0))] a' ∧ St none' M w M8 (lt [.blk b4 (.cells (vI .u32 (Vector.replicate 64 (0 : Int))).toArray 157 (0, 0)), .blk b6 (.cells (vI .u32 x7).toArray 157 (0, 0))]) w' ∧ ref02_words.j3 x7 = some r) ?_ ?_
  · refine c_seq ?_
    intro K219 hK219
    refine c_reg ?_
    refine w_val trivial rfl (fun a w hf hs => r_assign (hf.ev rfl)) ?_
    refine w_nil (hK219 _ _ _ ?_)
    refine c_block ?_
    refine c_loop (fun (s220 : ((Vector Int 64) × Int)) a' w' => ∃ (M221 : Heap), HLe M M221 ∧ Fr 101 [(0, v1), (2, (ptr b4 0)), (3, (ptr b6 0)), (4, (.int .i64 s220.2))] a' ∧ St none' M w M221 (lt [.blk b4 (.cells (vI .u32 (Vector.replicate 64 (0 : Int))).toArray 157 (0, 0)), .blk b6 (.cells (vI .u32 s220.1).toArray 157 (0, 0))]) w') ((Vector.replicate 64 (0 : Int)), (0 : Int)) H ?_ ?_
    · intro a w' hf hs
      exact ⟨_, HLe.refl _, ((((hf.nil.add (hf.get _ _ rfl)).add (hf.get _ _ rfl)).add (hf.get _ _ rfl)).add (hf.get _ _ rfl)), hs.selD [some 0, some 1] (by decide) rfl⟩
    · clear H
      intro s220 y224 H r223 a w' hJ
      obtain ⟨M221, l222, hf, hs⟩ := hJ
      refine c_of (c := (Cx.mk Tryd.prog 101 none' M w)) ?_ hf hs
      unfold ref02_words.l4 at H
      clear hf hs
      replace h2 := h2.mono l222
      refine c_seq ?_
      intro K225 hK225
      refine c_seq ?_
      intro K226 hK226
      refine c_reg ?_
      refine w_val trivial rfl (fun a w hf hs => r_move (hf.ev rfl)) ?_
      refine w_val trivial rfl (fun a w hf hs => r_lss (hf.ev rfl) (hf.ev rfl)) ?_
      refine w_nil (hK226 _ _ _ ?_)
      refine c_if rfl (fun b227 => ?_) (fun b227 => ?_)
      · replace H := if_t b227 H
        refine c_skip (hK225 _ _ _ ?_)
        refine c_seq ?_
        intro K228 hK228
        refine c_block ?_
        refine c_split2 34 (by kernel_rfl) (by kernel_rfl) (by kernel_rfl) (by kernel_rfl) rfl ?_
        intro K229 hK229
        obtain ⟨g243, H⟩ := grd_s H
        obtain ⟨g267, H⟩ := grd_s H
        obtain ⟨g295, H⟩ := grd_s H
        obtain ⟨g323, H⟩ := grd_s H
        refine d_drawP [([], [4]), ([], [0]), ([], [4]), ([(2, 14)], []), ([(1, 13), (3, 15)], []), ([(4, 16)], []), ([(5, 17)], []), ([(6, 18)], []), ([], [0]), ([], [4]), ([(9, 21)], []), ([(10, 22)], []), ([(8, 20), (11, 23)], []), ([(12, 24)], []), ([(13, 25)], []), ([(14, 26)], []), ([(7, 19), (15, 27)], []), ([], [0]), ([], [4]), ([(18, 30)], []), ([(19, 31)], []), ([(17, 29), (20, 32)], []), ([(21, 33)], []), ([(22, 34)], []), ([(23, 35)], []), ([(16, 28), (24, 36)], []), ([], [0]), ([], [4]), ([(27, 39)], []), ([(28, 40)], []), ([(26, 38), (29, 41)], []), ([(30, 42)], []), ([(31, 43)], []), ([(25, 37), (32, 44)], [])] [fun v M => v = (.int .i64 s220.2), fun v M => v = v1, fun v M => v = (.int .i64 s220.2), fun v M => v = (.int .i64 (IntKind.i64.wrap ((4 : Int) * s220.2))), fun v M => v = (eP v1 (IntKind.i64.wrap ((4 : Int) * s220.2)) 1 0), fun v M => v = (.int .u8 (rd p0 (IntKind.i64.wrap ((4 : Int) * s220.2)))), fun v M => v = (.int .u32 (IntKind.u32.wrap (rd p0 (IntKind.i64.wrap ((4 : Int) * s220.2))))), fun v M => v = (.int .u32 (shlI .u32 (IntKind.u32.wrap (rd p0 (IntKind.i64.wrap ((4 : Int) * s220.2)))) (24 : Int))), fun v M => v = v1, fun v M => v = (.int .i64 s220.2), fun v M => v = (.int .i64 (IntKind.i64.wrap ((4 : Int) * s220.2))), fun v M => v = (.int .i64 (IntKind.i64.wrap ((IntKind.i64.wrap ((4 : Int) * s220.2)) + (1 : Int)))), fun v M => v = (eP v1 (IntKind.i64.wrap ((IntKind.i64.wrap ((4 : Int) * s220.2)) + (1 : Int))) 1 0), fun v M => v = (.int .u8 (rd p0 (IntKind.i64.wrap ((IntKind.i64.wrap ((4 : Int) * s220.2)) + (1 : Int))))), fun v M => v = (.int .u32 (IntKind.u32.wrap (rd p0 (IntKind.i64.wrap ((IntKind.i64.wrap ((4 : Int) * s220.2)) + (1 : Int)))))), fun v M => v = (.int .u32 (shlI .u32 (IntKind.u32.wrap (rd p0 (IntKind.i64.wrap ((IntKind.i64.wrap ((4 : Int) * s220.2)) + (1 : Int))))) (16 : Int))), fun v M => v = (.int .u32 (bits .or .u32 (shlI .u32 (IntKind.u32.wrap (rd p0 (IntKind.i64.wrap ((4 : Int) * s220.2)))) (24 : Int)) (shlI .u32 (IntKind.u32.wrap (rd p0 (IntKind.i64.wrap ((IntKind.i64.wrap ((4 : Int) * s220.2)) + (1 : Int))))) (16 : Int)))), fun v M => v = v1, fun v M => v = (.int .i64 s220.2), fun v M => v = (.int .i64 (IntKind.i64.wrap ((4 : Int) * s220.2))), fun v M => v = (.int .i64 (IntKind.i64.wrap ((IntKind.i64.wrap ((4 : Int) * s220.2)) + (2 : Int)))), fun v M => v = (eP v1 (IntKind.i64.wrap ((IntKind.i64.wrap ((4 : Int) * s220.2)) + (2 : Int))) 1 0), fun v M => v = (.int .u8 (rd p0 (IntKind.i64.wrap ((IntKind.i64.wrap ((4 : Int) * s220.2)) + (2 : Int))))), fun v M => v = (.int .u32 (IntKind.u32.wrap (rd p0 (IntKind.i64.wrap ((IntKind.i64.wrap ((4 : Int) * s220.2)) + (2 : Int)))))), fun v M => v = (.int .u32 (shlI .u32 (IntKind.u32.wrap (rd p0 (IntKind.i64.wrap ((IntKind.i64.wrap ((4 : Int) * s220.2)) + (2 : Int))))) (8 : Int))), fun v M => v = (.int .u32 (bits .or .u32 (bits .or .u32 (shlI .u32 (IntKind.u32.wrap (rd p0 (IntKind.i64.wrap ((4 : Int) * s220.2)))) (24 : Int)) (shlI .u32 (IntKind.u32.wrap (rd p0 (IntKind.i64.wrap ((IntKind.i64.wrap ((4 : Int) * s220.2)) + (1 : Int))))) (16 : Int))) (shlI .u32 (IntKind.u32.wrap (rd p0 (IntKind.i64.wrap ((IntKind.i64.wrap ((4 : Int) * s220.2)) + (2 : Int))))) (8 : Int)))), fun v M => v = v1, fun v M => v = (.int .i64 s220.2), fun v M => v = (.int .i64 (IntKind.i64.wrap ((4 : Int) * s220.2))), fun v M => v = (.int .i64 (IntKind.i64.wrap ((IntKind.i64.wrap ((4 : Int) * s220.2)) + (3 : Int)))), fun v M => v = (eP v1 (IntKind.i64.wrap ((IntKind.i64.wrap ((4 : Int) * s220.2)) + (3 : Int))) 1 0), fun v M => v = (.int .u8 (rd p0 (IntKind.i64.wrap ((IntKind.i64.wrap ((4 : Int) * s220.2)) + (3 : Int))))), fun v M => v = (.int .u32 (IntKind.u32.wrap (rd p0 (IntKind.i64.wrap ((IntKind.i64.wrap ((4 : Int) * s220.2)) + (3 : Int)))))), fun v M => v = (.int .u32 (bits .or .u32 (bits .or .u32 (bits .or .u32 (shlI .u32 (IntKind.u32.wrap (rd p0 (IntKind.i64.wrap ((4 : Int) * s220.2)))) (24 : Int)) (shlI .u32 (IntKind.u32.wrap (rd p0 (IntKind.i64.wrap ((IntKind.i64.wrap ((4 : Int) * s220.2)) + (1 : Int))))) (16 : Int))) (shlI .u32 (IntKind.u32.wrap (rd p0 (IntKind.i64.wrap ((IntKind.i64.wrap ((4 : Int) * s220.2)) + (2 : Int))))) (8 : Int))) (IntKind.u32.wrap (rd p0 (IntKind.i64.wrap ((IntKind.i64.wrap ((4 : Int) * s220.2)) + (3 : Int)))))))] (by kernel_rfl) (by kernel_rfl) ?_ (AllT.cons ?_ (AllT.cons ?_ (AllT.cons ?_ (AllT.cons ?_ (AllT.cons ?_ (AllT.cons ?_ (AllT.cons ?_ (AllT.cons ?_ (AllT.cons ?_ (AllT.cons ?_ (AllT.cons ?_ (AllT.cons ?_ (AllT.cons ?_ (AllT.cons ?_ (AllT.cons ?_ (AllT.cons ?_ (AllT.cons ?_ (AllT.cons ?_ (AllT.cons ?_ (AllT.cons ?_ (AllT.cons ?_ (AllT.cons ?_ (AllT.cons ?_ (AllT.cons ?_ (AllT.cons ?_ (AllT.cons ?_ (AllT.cons ?_ (AllT.cons ?_ (AllT.cons ?_ (AllT.cons ?_ (AllT.cons ?_ (AllT.cons ?_ (AllT.cons ?_ (AllT.cons ?_ AllT.nil)))))))))))))))))))))))))))))))))) ?_
        · exact (MonoA.cons (fun _ _ _ _ h => h) (MonoA.cons (fun _ _ _ _ h => h) (MonoA.cons (fun _ _ _ _ h => h) (MonoA.cons (fun _ _ _ _ h => h) (MonoA.cons (fun _ _ _ _ h => h) (MonoA.cons (fun _ _ _ _ h => h) (MonoA.cons (fun _ _ _ _ h => h) (MonoA.cons (fun _ _ _ _ h => h) (MonoA.cons (fun _ _ _ _ h => h) (MonoA.cons (fun _ _ _ _ h => h) (MonoA.cons (fun _ _ _ _ h => h) (MonoA.cons (fun _ _ _ _ h => h) (MonoA.cons (fun _ _ _ _ h => h) (MonoA.cons (fun _ _ _ _ h => h) (MonoA.cons (fun _ _ _ _ h => h) (MonoA.cons (fun _ _ _ _ h => h) (MonoA.cons (fun _ _ _ _ h => h) (MonoA.cons (fun _ _ _ _ h => h) (MonoA.cons (fun _ _ _ _ h => h) (MonoA.cons (fun _ _ _ _ h => h) (MonoA.cons (fun _ _ _ _ h => h) (MonoA.cons (fun _ _ _ _ h => h) (MonoA.cons (fun _ _ _ _ h => h) (MonoA.cons (fun _ _ _ _ h => h) (MonoA.cons (fun _ _ _ _ h => h) (MonoA.cons (fun _ _ _ _ h => h) (MonoA.cons (fun _ _ _ _ h => h) (MonoA.cons (fun _ _ _ _ h => h) (MonoA.cons (fun _ _ _ _ h => h) (MonoA.cons (fun _ _ _ _ h => h) (MonoA.cons (fun _ _ _ _ h => h) (MonoA.cons (fun _ _ _ _ h => h) (MonoA.cons (fun _ _ _ _ h => h) (MonoA.cons (fun _ _ _ _ h => h) MonoA.nil))))))))))))))))))))))))))))))))))
        · intro a w' M230 l231 hd hs
          refine OP.ofW (l := [(4, (.int .i64 s220.2))]) (hd.fr.add (hd.base 4 _ rfl rfl)) hs rfl ?_
          refine w_val trivial rfl (fun a w hf hs => r_move (hf.ev rfl)) ?_
          refine w_nil ?_
          intro a w' hf hs
          exact ⟨rfl, hf.df, _, (HLe.refl _), hs, hf.get _ _ rfl⟩
        · intro a w' M232 l233 hd hs
          replace h2 := h2.mono l233
          refine OP.ofW (l := [(0, v1)]) (hd.fr.add (hd.base 0 _ rfl rfl)) hs rfl ?_
          refine w_val trivial rfl (fun a w hf hs => r_move (hf.ev rfl)) ?_
          refine w_nil ?_
          intro a w' hf hs
          exact ⟨rfl, hf.df, _, (HLe.refl _), hs, hf.get _ _ rfl⟩
        · intro a w' M234 l235 hd hs
          refine OP.ofW (l := [(4, (.int .i64 s220.2))]) (hd.fr.add (hd.base 4 _ rfl rfl)) hs rfl ?_
          refine w_val trivial rfl (fun a w hf hs => r_move (hf.ev rfl)) ?_
          refine w_nil ?_
          intro a w' hf hs
          exact ⟨rfl, hf.df, _, (HLe.refl _), hs, hf.get _ _ rfl⟩
        · intro a w' M236 l237 hd hs
          have e238 := hd.val 2 14 _ rfl rfl
          refine OP.ofW (l := [(14, (.int .i64 s220.2))]) (hd.fr.add e238) hs rfl ?_
          refine w_val trivial rfl (fun a w hf hs => r_mul (hf.ev rfl) (hf.ev rfl)) ?_
          refine w_nil ?_
          intro a w' hf hs
          exact ⟨rfl, hf.df, _, (HLe.refl _), hs, hf.get _ _ rfl⟩
        · intro a w' M239 l240 hd hs
          have e241 := hd.val 1 13 _ rfl rfl
          replace h2 := h2.mono l240
          have e242 := hd.val 3 15 _ rfl rfl
          refine OP.ofW (l := [(13, v1), (15, (.int .i64 (IntKind.i64.wrap ((4 : Int) * s220.2))))]) ((hd.fr.add e242).add e241) hs rfl ?_
          refine w_val trivial rfl (fun a w hf hs => r_iR Tryd.underlying66 ts5 h2 (hf.ev rfl) (hf.ev rfl) g243.1 g243.2) ?_
          refine w_nil ?_
          intro a w' hf hs
          exact ⟨rfl, hf.df, _, (HLe.refl _), hs, hf.get _ _ rfl⟩
        · intro a w' M244 l245 hd hs
          have e246 := hd.val 4 16 _ rfl rfl
          replace h2 := h2.mono l245
          refine OP.ofW (l := [(16, (eP v1 (IntKind.i64.wrap ((4 : Int) * s220.2)) 1 0))]) (hd.fr.add e246) hs rfl ?_
          refine w_val trivial rfl (fun a w hf hs => r_loadE1 ta5 h2 hs.sub g243.1 g243.2 (hf.ev rfl) rfl) ?_
          refine w_nil ?_
          intro a w' hf hs
          exact ⟨rfl, hf.df, _, (HLe.refl _), hs, hf.get _ _ rfl⟩
        · intro a w' M247 l248 hd hs
          have e249 := hd.val 5 17 _ rfl rfl
          refine OP.ofW (l := [(17, (.int .u8 (rd p0 (IntKind.i64.wrap ((4 : Int) * s220.2)))))]) (hd.fr.add e249) hs rfl ?_
          refine w_val trivial rfl (fun a w hf hs => r_conv Tryd.underlying5 Tryd.underlying70 (hf.ev rfl)) ?_
          refine w_nil ?_
          intro a w' hf hs
          exact ⟨rfl, hf.df, _, (HLe.refl _), hs, hf.get _ _ rfl⟩
        · intro a w' M250 l251 hd hs
          have e252 := hd.val 6 18 _ rfl rfl
          refine OP.ofW (l := [(18, (.int .u32 (IntKind.u32.wrap (rd p0 (IntKind.i64.wrap ((4 : Int) * s220.2))))))]) (hd.fr.add e252) hs rfl ?_
          refine w_val trivial rfl (fun a w hf hs => r_shl (hf.ev rfl) (hf.ev rfl) (by decide)) ?_
          refine w_nil ?_
          intro a w' hf hs
          exact ⟨rfl, hf.df, _, (HLe.refl _), hs, hf.get _ _ rfl⟩
        · intro a w' M253 l254 hd hs
          replace h2 := h2.mono l254
          refine OP.ofW (l := [(0, v1)]) (hd.fr.add (hd.base 0 _ rfl rfl)) hs rfl ?_
          refine w_val trivial rfl (fun a w hf hs => r_move (hf.ev rfl)) ?_
          refine w_nil ?_
          intro a w' hf hs
          exact ⟨rfl, hf.df, _, (HLe.refl _), hs, hf.get _ _ rfl⟩
        · intro a w' M255 l256 hd hs
          refine OP.ofW (l := [(4, (.int .i64 s220.2))]) (hd.fr.add (hd.base 4 _ rfl rfl)) hs rfl ?_
          refine w_val trivial rfl (fun a w hf hs => r_move (hf.ev rfl)) ?_
          refine w_nil ?_
          intro a w' hf hs
          exact ⟨rfl, hf.df, _, (HLe.refl _), hs, hf.get _ _ rfl⟩
        · intro a w' M257 l258 hd hs
          have e259 := hd.val 9 21 _ rfl rfl
          refine OP.ofW (l := [(21, (.int .i64 s220.2))]) (hd.fr.add e259) hs rfl ?_
          refine w_val trivial rfl (fun a w hf hs => r_mul (hf.ev rfl) (hf.ev rfl)) ?_
          refine w_nil ?_
          intro a w' hf hs
          exact ⟨rfl, hf.df, _, (HLe.refl _), hs, hf.get _ _ rfl⟩
        · intro a w' M260 l261 hd hs
          have e262 := hd.val 10 22 _ rfl rfl
          refine OP.ofW (l := [(22, (.int .i64 (IntKind.i64.wrap ((4 : Int) * s220.2))))]) (hd.fr.add e262) hs rfl ?_
          refine w_val trivial rfl (fun a w hf hs => r_add (hf.ev rfl) (hf.ev rfl)) ?_
          refine w_nil ?_
          intro a w' hf hs
          exact ⟨rfl, hf.df, _, (HLe.refl _), hs, hf.get _ _ rfl⟩
        · intro a w' M263 l264 hd hs
          have e265 := hd.val 8 20 _ rfl rfl
          replace h2 := h2.mono l264
          have e266 := hd.val 11 23 _ rfl rfl
          refine OP.ofW (l := [(20, v1), (23, (.int .i64 (IntKind.i64.wrap ((IntKind.i64.wrap ((4 : Int) * s220.2)) + (1 : Int)))))]) ((hd.fr.add e266).add e265) hs rfl ?_
          refine w_val trivial rfl (fun a w hf hs => r_iR Tryd.underlying66 ts5 h2 (hf.ev rfl) (hf.ev rfl) g267.1 g267.2) ?_
          refine w_nil ?_
          intro a w' hf hs
          exact ⟨rfl, hf.df, _, (HLe.refl _), hs, hf.get _ _ rfl⟩
        · intro a w' M268 l269 hd hs
          have e270 := hd.val 12 24 _ rfl rfl
          replace h2 := h2.mono l269
          refine OP.ofW (l := [(24, (eP v1 (IntKind.i64.wrap ((IntKind.i64.wrap ((4 : Int) * s220.2)) + (1 : Int))) 1 0))]) (hd.fr.add e270) hs rfl ?_
          refine w_val trivial rfl (fun a w hf hs => r_loadE1 ta5 h2 hs.sub g267.1 g267.2 (hf.ev rfl) rfl) ?_
          refine w_nil ?_
          intro a w' hf hs
          exact ⟨rfl, hf.df, _, (HLe.refl _), hs, hf.get _ _ rfl⟩
        · intro a w' M271 l272 hd hs
          have e273 := hd.val 13 25 _ rfl rfl
          refine OP.ofW (l := [(25, (.int .u8 (rd p0 (IntKind.i64.wrap ((IntKind.i64.wrap ((4 : Int) * s220.2)) + (1 : Int))))))]) (hd.fr.add e273) hs rfl ?_
          refine w_val trivial rfl (fun a w hf hs => r_conv Tryd.underlying5 Tryd.underlying70 (hf.ev rfl)) ?_
          refine w_nil ?_
          intro a w' hf hs
          exact ⟨rfl, hf.df, _, (HLe.refl _), hs, hf.get _ _ rfl⟩
        · intro a w' M274 l275 hd hs
          have e276 := hd.val 14 26 _ rfl rfl
          refine OP.ofW (l := [(26, (.int .u32 (IntKind.u32.wrap (rd p0 (IntKind.i64.wrap ((IntKind.i64.wrap ((4 : Int) * s220.2)) + (1 : Int)))))))]) (hd.fr.add e276) hs rfl ?_
          refine w_val trivial rfl (fun a w hf hs => r_shl (hf.ev rfl) (hf.ev rfl) (by decide)) ?_
          refine w_nil ?_
          intro a w' hf hs
          exact ⟨rfl, hf.df, _, (HLe.refl _), hs, hf.get _ _ rfl⟩
        · intro a w' M277 l278 hd hs
          have e279 := hd.val 7 19 _ rfl rfl
          have e280 := hd.val 15 27 _ rfl rfl
          refine OP.ofW (l := [(19, (.int .u32 (shlI .u32 (IntKind.u32.wrap (rd p0 (IntKind.i64.wrap ((4 : Int) * s220.2)))) (24 : Int)))), (27, (.int .u32 (shlI .u32 (IntKind.u32.wrap (rd p0 (IntKind.i64.wrap ((IntKind.i64.wrap ((4 : Int) * s220.2)) + (1 : Int))))) (16 : Int))))]) ((hd.fr.add e280).add e279) hs rfl ?_
          refine w_val trivial rfl (fun a w hf hs => r_or (hf.ev rfl) (hf.ev rfl)) ?_
          refine w_nil ?_
          intro a w' hf hs
          exact ⟨rfl, hf.df, _, (HLe.refl _), hs, hf.get _ _ rfl⟩
        · intro a w' M281 l282 hd hs
          replace h2 := h2.mono l282
          refine OP.ofW (l := [(0, v1)]) (hd.fr.add (hd.base 0 _ rfl rfl)) hs rfl ?_
          refine w_val trivial rfl (fun a w hf hs => r_move (hf.ev rfl)) ?_
          refine w_nil ?_
          intro a w' hf hs
          exact ⟨rfl, hf.df, _, (HLe.refl _), hs, hf.get _ _ rfl⟩
        · intro a w' M283 l284 hd hs
          refine OP.ofW (l := [(4, (.int .i64 s220.2))]) (hd.fr.add (hd.base 4 _ rfl rfl)) hs rfl ?_
          refine w_val trivial rfl (fun a w hf hs => r_move (hf.ev rfl)) ?_
          refine w_nil ?_
          intro a w' hf hs
          exact ⟨rfl, hf.df, _, (HLe.refl _), hs, hf.get _ _ rfl⟩
        · intro a w' M285 l286 hd hs
          have e287 := hd.val 18 30 _ rfl rfl
          refine OP.ofW (l := [(30, (.int .i64 s220.2))]) (hd.fr.add e287) hs rfl ?_
          refine w_val trivial rfl (fun a w hf hs => r_mul (hf.ev rfl) (hf.ev rfl)) ?_
          refine w_nil ?_
          intro a w' hf hs
          exact ⟨rfl, hf.df, _, (HLe.refl _), hs, hf.get _ _ rfl⟩
        · intro a w' M288 l289 hd hs
          have e290 := hd.val 19 31 _ rfl rfl
          refine OP.ofW (l := [(31, (.int .i64 (IntKind.i64.wrap ((4 : Int) * s220.2))))]) (hd.fr.add e290) hs rfl ?_
          refine w_val trivial rfl (fun a w hf hs => r_add (hf.ev rfl) (hf.ev rfl)) ?_
          refine w_nil ?_
          intro a w' hf hs
          exact ⟨rfl, hf.df, _, (HLe.refl _), hs, hf.get _ _ rfl⟩
        · intro a w' M291 l292 hd hs
          have e293 := hd.val 17 29 _ rfl rfl
          replace h2 := h2.mono l292
          have e294 := hd.val 20 32 _ rfl rfl
          refine OP.ofW (l := [(29, v1), (32, (.int .i64 (IntKind.i64.wrap ((IntKind.i64.wrap ((4 : Int) * s220.2)) + (2 : Int)))))]) ((hd.fr.add e294).add e293) hs rfl ?_
          refine w_val trivial rfl (fun a w hf hs => r_iR Tryd.underlying66 ts5 h2 (hf.ev rfl) (hf.ev rfl) g295.1 g295.2) ?_
          refine w_nil ?_
          intro a w' hf hs
          exact ⟨rfl, hf.df, _, (HLe.refl _), hs, hf.get _ _ rfl⟩
        · intro a w' M296 l297 hd hs
          have e298 := hd.val 21 33 _ rfl rfl
          replace h2 := h2.mono l297
          refine OP.ofW (l := [(33, (eP v1 (IntKind.i64.wrap ((IntKind.i64.wrap ((4 : Int) * s220.2)) + (2 : Int))) 1 0))]) (hd.fr.add e298) hs rfl ?_
          refine w_val trivial rfl (fun a w hf hs => r_loadE1 ta5 h2 hs.sub g295.1 g295.2 (hf.ev rfl) rfl) ?_
          refine w_nil ?_
          intro a w' hf hs
          exact ⟨rfl, hf.df, _, (HLe.refl _), hs, hf.get _ _ rfl⟩
        · intro a w' M299 l300 hd hs
          have e301 := hd.val 22 34 _ rfl rfl
          refine OP.ofW (l := [(34, (.int .u8 (rd p0 (IntKind.i64.wrap ((IntKind.i64.wrap ((4 : Int) * s220.2)) + (2 : Int))))))]) (hd.fr.add e301) hs rfl ?_
          refine w_val trivial rfl (fun a w hf hs => r_conv Tryd.underlying5 Tryd.underlying70 (hf.ev rfl)) ?_
          refine w_nil ?_
          intro a w' hf hs
          exact ⟨rfl, hf.df, _, (HLe.refl _), hs, hf.get _ _ rfl⟩
        · intro a w' M302 l303 hd hs
          have e304 := hd.val 23 35 _ rfl rfl
          refine OP.ofW (l := [(35, (.int .u32 (IntKind.u32.wrap (rd p0 (IntKind.i64.wrap ((IntKind.i64.wrap ((4 : Int) * s220.2)) + (2 : Int)))))))]) (hd.fr.add e304) hs rfl ?_
          refine w_val trivial rfl (fun a w hf hs => r_shl (hf.ev rfl) (hf.ev rfl) (by decide)) ?_
          refine w_nil ?_
          intro a w' hf hs
          exact ⟨rfl, hf.df, _, (HLe.refl _), hs, hf.get _ _ rfl⟩
        · intro a w' M305 l306 hd hs
          have e307 := hd.val 16 28 _ rfl rfl
          have e308 := hd.val 24 36 _ rfl rfl
          refine OP.ofW (l := [(28, (.int .u32 (bits .or .u32 (shlI .u32 (IntKind.u32.wrap (rd p0 (IntKind.i64.wrap ((4 : Int) * s220.2)))) (24 : Int)) (shlI .u32 (IntKind.u32.wrap (rd p0 (IntKind.i64.wrap ((IntKind.i64.wrap ((4 : Int) * s220.2)) + (1 : Int))))) (16 : Int))))), (36, (.int .u32 (shlI .u32 (IntKind.u32.wrap (rd p0 (IntKind.i64.wrap ((IntKind.i64.wrap ((4 : Int) * s220.2)) + (2 : Int))))) (8 : Int))))]) ((hd.fr.add e308).add e307) hs rfl ?_
          refine w_val trivial rfl (fun a w hf hs => r_or (hf.ev rfl) (hf.ev rfl)) ?_
          refine w_nil ?_
          intro a w' hf hs
          exact ⟨rfl, hf.df, _, (HLe.refl _), hs, hf.get _ _ rfl⟩
        · intro a w' M309 l310 hd hs
          replace h2 := h2.mono l310
          refine OP.ofW (l := [(0, v1)]) (hd.fr.add (hd.base 0 _ rfl rfl)) hs rfl ?_
          refine w_val trivial rfl (fun a w hf hs => r_move (hf.ev rfl)) ?_
          refine w_nil ?_
          intro a w' hf hs
          exact ⟨rfl, hf.df, _, (HLe.refl _), hs, hf.get _ _ rfl⟩
        · intro a w' M311 l312 hd hs
          refine OP.ofW (l := [(4, (.int .i64 s220.2))]) (hd.fr.add (hd.base 4 _ rfl rfl)) hs rfl ?_
          refine w_val trivial rfl (fun a w hf hs => r_move (hf.ev rfl)) ?_
          refine w_nil ?_
          intro a w' hf hs
          exact ⟨rfl, hf.df, _, (HLe.refl _), hs, hf.get _ _ rfl⟩
        · intro a w' M313 l314 hd hs
          have e315 := hd.val 27 39 _ rfl rfl
          refine OP.ofW (l := [(39, (.int .i64 s220.2))]) (hd.fr.add e315) hs rfl ?_
          refine w_val trivial rfl (fun a w hf hs => r_mul (hf.ev rfl) (hf.ev rfl)) ?_
          refine w_nil ?_
          intro a w' hf hs
          exact ⟨rfl, hf.df, _, (HLe.refl _), hs, hf.get _ _ rfl⟩
        · intro a w' M316 l317 hd hs
          have e318 := hd.val 28 40 _ rfl rfl
          refine OP.ofW (l := [(40, (.int .i64 (IntKind.i64.wrap ((4 : Int) * s220.2))))]) (hd.fr.add e318) hs rfl ?_
          refine w_val trivial rfl (fun a w hf hs => r_add (hf.ev rfl) (hf.ev rfl)) ?_
          refine w_nil ?_
          intro a w' hf hs
          exact ⟨rfl, hf.df, _, (HLe.refl _), hs, hf.get _ _ rfl⟩
        · intro a w' M319 l320 hd hs
          have e321 := hd.val 26 38 _ rfl rfl
          replace h2 := h2.mono l320
          have e322 := hd.val 29 41 _ rfl rfl
          refine OP.ofW (l := [(38, v1), (41, (.int .i64 (IntKind.i64.wrap ((IntKind.i64.wrap ((4 : Int) * s220.2)) + (3 : Int)))))]) ((hd.fr.add e322).add e321) hs rfl ?_
          refine w_val trivial rfl (fun a w hf hs => r_iR Tryd.underlying66 ts5 h2 (hf.ev rfl) (hf.ev rfl) g323.1 g323.2) ?_
          refine w_nil ?_
          intro a w' hf hs
          exact ⟨rfl, hf.df, _, (HLe.refl _), hs, hf.get _ _ rfl⟩
        · intro a w' M324 l325 hd hs
          have e326 := hd.val 30 42 _ rfl rfl
          replace h2 := h2.mono l325
          refine OP.ofW (l := [(42, (eP v1 (IntKind.i64.wrap ((IntKind.i64.wrap ((4 : Int) * s220.2)) + (3 : Int))) 1 0))]) (hd.fr.add e326) hs rfl ?_
          refine w_val trivial rfl (fun a w hf hs => r_loadE1 ta5 h2 hs.sub g323.1 g323.2 (hf.ev rfl) rfl) ?_
          refine w_nil ?_
          intro a w' hf hs
          exact ⟨rfl, hf.df, _, (HLe.refl _), hs, hf.get _ _ rfl⟩
        · intro a w' M327 l328 hd hs
          have e329 := hd.val 31 43 _ rfl rfl
          refine OP.ofW (l := [(43, (.int .u8 (rd p0 (IntKind.i64.wrap ((IntKind.i64.wrap ((4 : Int) * s220.2)) + (3 : Int))))))]) (hd.fr.add e329) hs rfl ?_
          refine w_val trivial rfl (fun a w hf hs => r_conv Tryd.underlying5 Tryd.underlying70 (hf.ev rfl)) ?_
          refine w_nil ?_
          intro a w' hf hs
          exact ⟨rfl, hf.df, _, (HLe.refl _), hs, hf.get _ _ rfl⟩
        · intro a w' M330 l331 hd hs
          have e332 := hd.val 25 37 _ rfl rfl
          have e333 := hd.val 32 44 _ rfl rfl
          refine OP.ofW (l := [(37, (.int .u32 (bits .or .u32 (bits .or .u32 (shlI .u32 (IntKind.u32.wrap (rd p0 (IntKind.i64.wrap ((4 : Int) * s220.2)))) (24 : Int)) (shlI .u32 (IntKind.u32.wrap (rd p0 (IntKind.i64.wrap ((IntKind.i64.wrap ((4 : Int) * s220.2)) + (1 : Int))))) (16 : Int))) (shlI .u32 (IntKind.u32.wrap (rd p0 (IntKind.i64.wrap ((IntKind.i64.wrap ((4 : Int) * s220.2)) + (2 : Int))))) (8 : Int))))), (44, (.int .u32 (IntKind.u32.wrap (rd p0 (IntKind.i64.wrap ((IntKind.i64.wrap ((4 : Int) * s220.2)) + (3 : Int)))))))]) ((hd.fr.add e333).add e332) hs rfl ?_
          refine w_val trivial rfl (fun a w hf hs => r_or (hf.ev rfl) (hf.ev rfl)) ?_
          refine w_nil ?_
          intro a w' hf hs
          exact ⟨rfl, hf.df, _, (HLe.refl _), hs, hf.get _ _ rfl⟩
        intro a w' M334 l335 hdf hsz hb hv hs
        replace h2 := h2.mono l335
        have e336 := hv 0 12 _ rfl rfl
        have e337 := hv 33 45 _ rfl rfl
        refine n_of (c := (Cx.mk Tryd.prog 101 none' M w)) (l := [(0, v1), (2, (ptr b4 0)), (3, (ptr b6 0)), (4, (.int .i64 s220.2)), (12, (.int .i64 s220.2)), (45, (.int .u32 (bits .or .u32 (bits .or .u32 (bits .or .u32 (shlI .u32 (IntKind.u32.wrap (rd p0 (IntKind.i64.wrap ((4 : Int) * s220.2)))) (24 : Int)) (shlI .u32 (IntKind.u32.wrap (rd p0 (IntKind.i64.wrap ((IntKind.i64.wrap ((4 : Int) * s220.2)) + (1 : Int))))) (16 : Int))) (shlI .u32 (IntKind.u32.wrap (rd p0 (IntKind.i64.wrap ((IntKind.i64.wrap ((4 : Int) * s220.2)) + (2 : Int))))) (8 : Int))) (IntKind.u32.wrap (rd p0 (IntKind.i64.wrap ((IntKind.i64.wrap ((4 : Int) * s220.2)) + (3 : Int))))))))]) ?_ (((((((Fr.start hdf hsz).add e337).add e336).add (hb 4 _ rfl rfl)).add (hb 3 _ rfl rfl)).add (hb 2 _ rfl rfl)).add (hb 0 _ rfl rfl)) hs
        clear hdf hsz hb hv hs e336 e337
        refine n_id (hK229 _ _ _ ?_)
        obtain ⟨g338, H⟩ := grd_s H
        refine w_val trivial rfl (fun a w hf hs => r_iaI Tryd.underlying157 ts70 (hf.ev rfl) (hf.ev rfl) g338.1 g338.2) ?_
        obtain ⟨z339, e340, H⟩ := bnd H
        have e341 := some_r e340
        refine w_store (i := 1) (vs := [(.int .u32 (bits .or .u32 (bits .or .u32 (bits .or .u32 (shlI .u32 (IntKind.u32.wrap (rd p0 (IntKind.i64.wrap ((4 : Int) * s220.2)))) (24 : Int)) (shlI .u32 (IntKind.u32.wrap (rd p0 (IntKind.i64.wrap ((IntKind.i64.wrap ((4 : Int) * s220.2)) + (1 : Int))))) (16 : Int))) (shlI .u32 (IntKind.u32.wrap (rd p0 (IntKind.i64.wrap ((IntKind.i64.wrap ((4 : Int) * s220.2)) + (2 : Int))))) (8 : Int))) (IntKind.u32.wrap (rd p0 (IntKind.i64.wrap ((IntKind.i64.wrap ((4 : Int) * s220.2)) + (3 : Int)))))))]) (A' := vI .u32 z339) trivial rfl rfl rfl rfl ts70 rfl (one1 rfl) (idx_le g338.1 g338.2 (vI_len _) (by decide)) (by rw [← e341]; exact (vI_set0 g338.1 g338.2)) ?_
        clear e340 e341
        refine w_nil (hK228 _ _ _ ?_)
        refine c_reg ?_
        refine w_val trivial rfl (fun a w hf hs => r_move (hf.ev rfl)) ?_
        refine w_val trivial rfl (fun a w hf hs => r_add (hf.ev rfl) (hf.ev rfl)) ?_
        refine w_val trivial rfl (fun a w hf hs => r_assign (hf.ev rfl)) ?_
        refine w_nil ?_
        intro a w' hf hs
        exact ⟨_, (some_r H).symm, _, l222.trans l335, ((((hf.nil.add (hf.get _ _ rfl)).add (hf.get _ _ rfl)).add (hf.get _ _ rfl)).add (hf.get _ _ rfl)), hs.selD [some 0, some 1] (by decide) rfl⟩
      · replace H := if_f b227 H
        replace H := map_inr H r223
        refine c_exit ?_
        intro a w' hf hs
        exact ⟨s220.1, _, l222, ((hf.nil.add (hf.get _ _ rfl)).add (hf.get _ _ rfl)), hs.selD [some 0, some 1] (by decide) rfl, H⟩
  · rintro a w' ⟨x7, M8, l9, hf, hs, H⟩
    refine c_of (c := (Cx.mk Tryd.prog 101 none' M w)) ?_ hf hs
    unfold ref02_words.j3 at H
    clear hf hs
    replace h2 := h2.mono l9
    refine c_cut (fun a' w' => ∃ (x10 : (Vector Int 64)) (M11 : Heap), HLe M8 M11 ∧ Fr 101 [(2, (ptr b4 0)), (3, (ptr b6 0))] a' ∧ St none' M w M11 (lt [.blk b4 (.cells (vI .u32 (Vector.replicate 64 (0 : Int))).toArray 157 (0, 0)), .blk b6 (.cells (vI .u32 x10).toArray 157 (0, 0))]) w' ∧ ref02_words.j1 x10 = some r) ?_ ?_
    · refine c_seq ?_
      intro K14 hK14
      refine c_reg ?_
      refine w_val trivial rfl (fun a w hf hs => r_assign (hf.ev rfl)) ?_
      refine w_nil (hK14 _ _ _ ?_)
      refine c_block ?_
      refine c_loop (fun (s15 : ((Vector Int 64) × Int)) a' w' => ∃ (M16 : Heap), HLe M8 M16 ∧ Fr 101 [(2, (ptr b4 0)), (3, (ptr b6 0)), (5, (.int .i64 s15.2))] a' ∧ St none' M w M16 (lt [.blk b4 (.cells (vI .u32 (Vector.replicate 64 (0 : Int))).toArray 157 (0, 0)), .blk b6 (.cells (vI .u32 s15.1).toArray 157 (0, 0))]) w') (x7, (16 : Int)) H ?_ ?_
      · intro a w' hf hs
        exact ⟨_, HLe.refl _, (((hf.nil.add (hf.get _ _ rfl)).add (hf.get _ _ rfl)).add (hf.get _ _ rfl)), hs.selD [some 0, some 1] (by decide) rfl⟩
      · clear H
        intro s15 y19 H r18 a w' hJ
        obtain ⟨M16, l17, hf, hs⟩ := hJ
        refine c_of (c := (Cx.mk Tryd.prog 101 none' M w)) ?_ hf hs
        unfold ref02_words.l2 at H
        clear hf hs
        replace h2 := h2.mono l17
        refine c_seq ?_
        intro K20 hK20
        refine c_seq ?_
        intro K21 hK21
        refine c_reg ?_
        refine w_val trivial rfl (fun a w hf hs => r_move (hf.ev rfl)) ?_
        refine w_val trivial rfl (fun a w hf hs => r_lss (hf.ev rfl) (hf.ev rfl)) ?_
        refine w_nil (hK21 _ _ _ ?_)
        refine c_if rfl (fun b22 => ?_) (fun b22 => ?_)
        · replace H := if_t b22 H
          refine c_skip (hK20 _ _ _ ?_)
          refine c_seq ?_
          intro K23 hK23
          refine c_block ?_
          refine c_seq ?_
          intro K24 hK24
          obtain ⟨g33, H⟩ := grd_s H
          obtain ⟨t40, e45, H⟩ := bnd H
          obtain ⟨g54, H⟩ := grd_s H
          obtain ⟨t61, e66, H⟩ := bnd H
          obtain ⟨g79, H⟩ := grd_s H
          refine c_drawP [([], [5]), ([(0, 51)], []), ([(1, 52)], [3]), ([(2, 53)], []), ([(3, 54)], []), ([], [5]), ([(5, 56)], []), ([(6, 57)], [3]), ([(7, 58)], []), ([(8, 59)], []), ([(4, 55), (9, 60)], []), ([], [5]), ([(11, 62)], []), ([(12, 63)], [3]), ([(13, 64)], []), ([(14, 65)], []), ([(10, 61), (15, 66)], []), ([(16, 67)], [])] [fun v M => v = (.int .i64 s15.2), fun v M => v = (.int .i64 (IntKind.i64.wrap (s15.2 - (15 : Int)))), fun v M => v = (ptr b6 (0 + ((IntKind.i64.wrap (s15.2 - (15 : Int)))).toNat)), fun v M => v = (.int .u32 (rd s15.1.toList (IntKind.i64.wrap (s15.2 - (15 : Int))))), fun v M => v = (.int .u32 t40), fun v M => v = (.int .i64 s15.2), fun v M => v = (.int .i64 (IntKind.i64.wrap (s15.2 - (15 : Int)))), fun v M => v = (ptr b6 (0 + ((IntKind.i64.wrap (s15.2 - (15 : Int)))).toNat)), fun v M => v = (.int .u32 (rd s15.1.toList (IntKind.i64.wrap (s15.2 - (15 : Int))))), fun v M => v = (.int .u32 t61), fun v M => v = (.int .u32 (bits .xor .u32 t40 t61)), fun v M => v = (.int .i64 s15.2), fun v M => v = (.int .i64 (IntKind.i64.wrap (s15.2 - (15 : Int)))), fun v M => v = (ptr b6 (0 + ((IntKind.i64.wrap (s15.2 - (15 : Int)))).toNat)), fun v M => v = (.int .u32 (rd s15.1.toList (IntKind.i64.wrap (s15.2 - (15 : Int))))), fun v M => v = (.int .u32 (shrI .u32 (rd s15.1.toList (IntKind.i64.wrap (s15.2 - (15 : Int)))) (3 : Int))), fun v M => v = (.int .u32 (bits .xor .u32 (bits .xor .u32 t40 t61) (shrI .u32 (rd s15.1.toList (IntKind.i64.wrap (s15.2 - (15 : Int)))) (3 : Int)))), fun v M => v = (.int .u32 (bits .xor .u32 (bits .xor .u32 t40 t61) (shrI .u32 (rd s15.1.toList (IntKind.i64.wrap (s15.2 - (15 : Int)))) (3 : Int))))] (by kernel_rfl) (by kernel_rfl) ?_ (AllT.cons ?_ (AllT.cons ?_ (AllT.cons ?_ (AllT.cons ?_ (AllT.cons ?_ (AllT.cons ?_ (AllT.cons ?_ (AllT.cons ?_ (AllT.cons ?_ (AllT.cons ?_ (AllT.cons ?_ (AllT.cons ?_ (AllT.cons ?_ (AllT.cons ?_ (AllT.cons ?_ (AllT.cons ?_ (AllT.cons ?_ (AllT.cons ?_ AllT.nil)))))))))))))))))) ?_
          · exact (MonoA.cons (fun _ _ _ _ h => h) (MonoA.cons (fun _ _ _ _ h => h) (MonoA.cons (fun _ _ _ _ h => h) (MonoA.cons (fun _ _ _ _ h => h) (MonoA.cons (fun _ _ _ _ h => h) (MonoA.cons (fun _ _ _ _ h => h) (MonoA.cons (fun _ _ _ _ h => h) (MonoA.cons (fun _ _ _ _ h => h) (MonoA.cons (fun _ _ _ _ h => h) (MonoA.cons (fun _ _ _ _ h => h) (MonoA.cons (fun _ _ _ _ h => h) (MonoA.cons (fun _ _ _ _ h => h) (MonoA.cons (fun _ _ _ _ h => h) (MonoA.cons (fun _ _ _ _ h => h) (MonoA.cons (fun _ _ _ _ h => h) (MonoA.cons (fun _ _ _ _ h => h) (MonoA.cons (fun _ _ _ _ h => h) (MonoA.cons (fun _ _ _ _ h => h) MonoA.nil))))))))))))))))))
          · intro a w' M25 l26 hd hs
            refine OP.ofW (l := [(5, (.int .i64 s15.2))]) (hd.fr.add (hd.base 5 _ rfl rfl)) hs rfl ?_
            refine w_val trivial rfl (fun a w hf hs => r_move (hf.ev rfl)) ?_
            refine w_nil ?_
            intro a w' hf hs
            exact ⟨rfl, hf.df, _, (HLe.refl _), hs, hf.get _ _ rfl⟩
          · intro a w' M27 l28 hd hs
            have e29 := hd.val 0 51 _ rfl rfl
            refine OP.ofW (l := [(51, (.int .i64 s15.2))]) (hd.fr.add e29) hs rfl ?_
            refine w_val trivial rfl (fun a w hf hs => r_sub (hf.ev rfl) (hf.ev rfl)) ?_
            refine w_nil ?_
            intro a w' hf hs
            exact ⟨rfl, hf.df, _, (HLe.refl _), hs, hf.get _ _ rfl⟩
          · intro a w' M30 l31 hd hs
            have e32 := hd.val 1 52 _ rfl rfl
            refine OP.ofW (l := [(3, (ptr b6 0)), (52, (.int .i64 (IntKind.i64.wrap (s15.2 - (15 : Int)))))]) ((hd.fr.add e32).add (hd.base 3 _ rfl rfl)) hs rfl ?_
            refine w_val trivial rfl (fun a w hf hs => r_iaI Tryd.underlying157 ts70 (hf.ev rfl) (hf.ev rfl) g33.1 g33.2) ?_
            refine w_nil ?_
            intro a w' hf hs
            exact ⟨rfl, hf.df, _, (HLe.refl _), hs, hf.get _ _ rfl⟩
          · intro a w' M34 l35 hd hs
            have e36 := hd.val 2 53 _ rfl rfl
            refine OP.ofW (l := [(53, (ptr b6 (0 + ((IntKind.i64.wrap (s15.2 - (15 : Int)))).toNat)))]) (hd.fr.add e36) hs rfl ?_
            refine w_val trivial rfl (fun a w hf hs => r_load1 ta70 (hf.ev rfl) (hs.blk (i := 1) rfl) (vI_get0 g33.1 g33.2)) ?_
            refine w_nil ?_
            intro a w' hf hs
            exact ⟨rfl, hf.df, _, (HLe.refl _), hs, hf.get _ _ rfl⟩
          · intro a w' M37 l38 hd hs
            have e39 := hd.val 3 54 _ rfl rfl
            refine OP.ofW (l := [(54, (.int .u32 (rd s15.1.toList (IntKind.i64.wrap (s15.2 - (15 : Int))))))]) (hd.fr.add e39) hs rfl ?_
            refine w_call cf117 trivial rfl rfl (fun w hs => ref02_rotr.calls hs (rd s15.1.toList (IntKind.i64.wrap (s15.2 - (15 : Int)))) (7 : Int) _ e45) ?_
            rintro _ M42 l43 rfl
            refine w_nil ?_
            intro a w' hf hs
            exact ⟨rfl, hf.df, _, l43, hs, hf.get _ _ rfl⟩
          · intro a w' M46 l47 hd hs
            refine OP.ofW (l := [(5, (.int .i64 s15.2))]) (hd.fr.add (hd.base 5 _ rfl rfl)) hs rfl ?_
            refine w_val trivial rfl (fun a w hf hs => r_move (hf.ev rfl)) ?_
            refine w_nil ?_
            intro a w' hf hs
            exact ⟨rfl, hf.df, _, (HLe.refl _), hs, hf.get _ _ rfl⟩
          · intro a w' M48 l49 hd hs
            have e50 := hd.val 5 56 _ rfl rfl
            refine OP.ofW (l := [(56, (.int .i64 s15.2))]) (hd.fr.add e50) hs rfl ?_
            refine w_val trivial rfl (fun a w hf hs => r_sub (hf.ev rfl) (hf.ev rfl)) ?_
            refine w_nil ?_
            intro a w' hf hs
            exact ⟨rfl, hf.df, _, (HLe.refl _), hs, hf.get _ _ rfl⟩
          · intro a w' M51 l52 hd hs
            have e53 := hd.val 6 57 _ rfl rfl
            refine OP.ofW (l := [(3, (ptr b6 0)), (57, (.int .i64 (IntKind.i64.wrap (s15.2 - (15 : Int)))))]) ((hd.fr.add e53).add (hd.base 3 _ rfl rfl)) hs rfl ?_
            refine w_val trivial rfl (fun a w hf hs => r_iaI Tryd.underlying157 ts70 (hf.ev rfl) (hf.ev rfl) g54.1 g54.2) ?_
            refine w_nil ?_
            intro a w' hf hs
            exact ⟨rfl, hf.df, _, (HLe.refl _), hs, hf.get _ _ rfl⟩
          · intro a w' M55 l56 hd hs
            have e57 := hd.val 7 58 _ rfl rfl
            refine OP.ofW (l := [(58, (ptr b6 (0 + ((IntKind.i64.wrap (s15.2 - (15 : Int)))).toNat)))]) (hd.fr.add e57) hs rfl ?_
            refine w_val trivial rfl (fun a w hf hs => r_load1 ta70 (hf.ev rfl) (hs.blk (i := 1) rfl) (vI_get0 g54.1 g54.2)) ?_
            refine w_nil ?_
            intro a w' hf hs
            exact ⟨rfl, hf.df, _, (HLe.refl _), hs, hf.get _ _ rfl⟩
          · intro a w' M58 l59 hd hs
            have e60 := hd.val 8 59 _ rfl rfl
            refine OP.ofW (l := [(59, (.int .u32 (rd s15.1.toList (IntKind.i64.wrap (s15.2 - (15 : Int))))))]) (hd.fr.add e60) hs rfl ?_
            refine w_call cf117 trivial rfl rfl (fun w hs => ref02_rotr.calls hs (rd s15.1.toList (IntKind.i64.wrap (s15.2 - (15 : Int)))) (18 : Int) _ e66) ?_
            rintro _ M63 l64 rfl
            refine w_nil ?_
            intro a w' hf hs
            exact ⟨rfl, hf.df, _, l64, hs, hf.get _ _ rfl⟩
          · intro a w' M67 l68 hd hs
            have e69 := hd.val 4 55 _ rfl rfl
            have e70 := hd.val 9 60 _ rfl rfl
            refine OP.ofW (l := [(55, (.int .u32 t40)), (60, (.int .u32 t61))]) ((hd.fr.add e70).add e69) hs rfl ?_
            refine w_val trivial rfl (fun a w hf hs => r_xor (hf.ev rfl) (hf.ev rfl)) ?_
            refine w_nil ?_
            intro a w' hf hs
            exact ⟨rfl, hf.df, _, (HLe.refl _), hs, hf.get _ _ rfl⟩
          · intro a w' M71 l72 hd hs
            refine OP.ofW (l := [(5, (.int .i64 s15.2))]) (hd.fr.add (hd.base 5 _ rfl rfl)) hs rfl ?_
            refine w_val trivial rfl (fun a w hf hs => r_move (hf.ev rfl)) ?_
            refine w_nil ?_
            intro a w' hf hs
            exact ⟨rfl, hf.df, _, (HLe.refl _), hs, hf.get _ _ rfl⟩
          · intro a w' M73 l74 hd hs
            have e75 := hd.val 11 62 _ rfl rfl
            refine OP.ofW (l := [(62, (.int .i64 s15.2))]) (hd.fr.add e75) hs rfl ?_
            refine w_val trivial rfl (fun a w hf hs => r_sub (hf.ev rfl) (hf.ev rfl)) ?_
            refine w_nil ?_
            intro a w' hf hs
            exact ⟨rfl, hf.df, _, (HLe.refl _), hs, hf.get _ _ rfl⟩
          · intro a w' M76 l77 hd hs
            have e78 := hd.val 12 63 _ rfl rfl
            refine OP.ofW (l := [(3, (ptr b6 0)), (63, (.int .i64 (IntKind.i64.wrap (s15.2 - (15 : Int)))))]) ((hd.fr.add e78).add (hd.base 3 _ rfl rfl)) hs rfl ?_
            refine w_val trivial rfl (fun a w hf hs => r_iaI Tryd.underlying157 ts70 (hf.ev rfl) (hf.ev rfl) g79.1 g79.2) ?_
            refine w_nil ?_
            intro a w' hf hs
            exact ⟨rfl, hf.df, _, (HLe.refl _), hs, hf.get _ _ rfl⟩
          · intro a w' M80 l81 hd hs
            have e82 := hd.val 13 64 _ rfl rfl
            refine OP.ofW (l := [(64, (ptr b6 (0 + ((IntKind.i64.wrap (s15.2 - (15 : Int)))).toNat)))]) (hd.fr.add e82) hs rfl ?_
            refine w_val trivial rfl (fun a w hf hs => r_load1 ta70 (hf.ev rfl) (hs.blk (i := 1) rfl) (vI_get0 g79.1 g79.2)) ?_
            refine w_nil ?_
            intro a w' hf hs
            exact ⟨rfl, hf.df, _, (HLe.refl _), hs, hf.get _ _ rfl⟩
          · intro a w' M83 l84 hd hs
            have e85 := hd.val 14 65 _ rfl rfl
            refine OP.ofW (l := [(65, (.int .u32 (rd s15.1.toList (IntKind.i64.wrap (s15.2 - (15 : Int))))))]) (hd.fr.add e85) hs rfl ?_
            refine w_val trivial rfl (fun a w hf hs => r_shr (hf.ev rfl) (hf.ev rfl) (by decide)) ?_
            refine w_nil ?_
            intro a w' hf hs
            exact ⟨rfl, hf.df, _, (HLe.refl _), hs, hf.get _ _ rfl⟩
          · intro a w' M86 l87 hd hs
            have e88 := hd.val 10 61 _ rfl rfl
            have e89 := hd.val 15 66 _ rfl rfl
            refine OP.ofW (l := [(61, (.int .u32 (bits .xor .u32 t40 t61))), (66, (.int .u32 (shrI .u32 (rd s15.1.toList (IntKind.i64.wrap (s15.2 - (15 : Int)))) (3 : Int))))]) ((hd.fr.add e89).add e88) hs rfl ?_
            refine w_val trivial rfl (fun a w hf hs => r_xor (hf.ev rfl) (hf.ev rfl)) ?_
            refine w_nil ?_
            intro a w' hf hs
            exact ⟨rfl, hf.df, _, (HLe.refl _), hs, hf.get _ _ rfl⟩
          · intro a w' M90 l91 hd hs
            have e92 := hd.val 16 67 _ rfl rfl
            refine OP.ofW (l := [(67, (.int .u32 (bits .xor .u32 (bits .xor .u32 t40 t61) (shrI .u32 (rd s15.1.toList (IntKind.i64.wrap (s15.2 - (15 : Int)))) (3 : Int)))))]) (hd.fr.add e92) hs rfl ?_
            refine w_val trivial rfl (fun a w hf hs => r_assign (hf.ev rfl)) ?_
            refine w_nil ?_
            intro a w' hf hs
            exact ⟨rfl, hf.df, _, (HLe.refl _), hs, hf.get _ _ rfl⟩
          intro a w' M93 l94 hdf hsz hb hv hs
          replace h2 := h2.mono l94
          have e95 := hv 17 6 _ rfl rfl
          refine n_of (c := (Cx.mk Tryd.prog 101 none' M w)) (l := [(2, (ptr b4 0)), (3, (ptr b6 0)), (5, (.int .i64 s15.2)), (6, (.int .u32 (bits .xor .u32 (bits .xor .u32 t40 t61) (shrI .u32 (rd s15.1.toList (IntKind.i64.wrap (s15.2 - (15 : Int)))) (3 : Int)))))]) ?_ (((((Fr.start hdf hsz).add e95).add (hb 5 _ rfl rfl)).add (hb 3 _ rfl rfl)).add (hb 2 _ rfl rfl)) hs
          clear hdf hsz hb hv hs e95
          refine n_id (hK24 _ _ _ ?_)
          refine c_seq ?_
          intro K96 hK96
          obtain ⟨g105, H⟩ := grd_s H
          obtain ⟨t112, e117, H⟩ := bnd H
          obtain ⟨g126, H⟩ := grd_s H
          obtain ⟨t133, e138, H⟩ := bnd H
          obtain ⟨g151, H⟩ := grd_s H
          refine c_drawP [([], [5]), ([(0, 68)], []), ([(1, 69)], [3]), ([(2, 70)], []), ([(3, 71)], []), ([], [5]), ([(5, 73)], []), ([(6, 74)], [3]), ([(7, 75)], []), ([(8, 76)], []), ([(4, 72), (9, 77)], []), ([], [5]), ([(11, 79)], []), ([(12, 80)], [3]), ([(13, 81)], []), ([(14, 82)], []), ([(10, 78), (15, 83)], []), ([(16, 84)], [])] [fun v M => v = (.int .i64 s15.2), fun v M => v = (.int .i64 (IntKind.i64.wrap (s15.2 - (2 : Int)))), fun v M => v = (ptr b6 (0 + ((IntKind.i64.wrap (s15.2 - (2 : Int)))).toNat)), fun v M => v = (.int .u32 (rd s15.1.toList (IntKind.i64.wrap (s15.2 - (2 : Int))))), fun v M => v = (.int .u32 t112), fun v M => v = (.int .i64 s15.2), fun v M => v = (.int .i64 (IntKind.i64.wrap (s15.2 - (2 : Int)))), fun v M => v = (ptr b6 (0 + ((IntKind.i64.wrap (s15.2 - (2 : Int)))).toNat)), fun v M => v = (.int .u32 (rd s15.1.toList (IntKind.i64.wrap (s15.2 - (2 : Int))))), fun v M => v = (.int .u32 t133), fun v M => v = (.int .u32 (bits .xor .u32 t112 t133)), fun v M => v = (.int .i64 s15.2), fun v M => v = (.int .i64 (IntKind.i64.wrap (s15.2 - (2 : Int)))), fun v M => v = (ptr b6 (0 + ((IntKind.i64.wrap (s15.2 - (2 : Int)))).toNat)), fun v M => v = (.int .u32 (rd s15.1.toList (IntKind.i64.wrap (s15.2 - (2 : Int))))), fun v M => v = (.int .u32 (shrI .u32 (rd s15.1.toList (IntKind.i64.wrap (s15.2 - (2 : Int)))) (10 : Int))), fun v M => v = (.int .u32 (bits .xor .u32 (bits .xor .u32 t112 t133) (shrI .u32 (rd s15.1.toList (IntKind.i64.wrap (s15.2 - (2 : Int)))) (10 : Int)))), fun v M => v = (.int .u32 (bits .xor .u32 (bits .xor .u32 t112 t133) (shrI .u32 (rd s15.1.toList (IntKind.i64.wrap (s15.2 - (2 : Int)))) (10 : Int))))] (by kernel_rfl) (by kernel_rfl) ?_ (AllT.cons ?_ (AllT.cons ?_ (AllT.cons ?_ (AllT.cons ?_ (AllT.cons ?_ (AllT.cons ?_ (AllT.cons ?_ (AllT.cons ?_ (AllT.cons ?_ (AllT.cons ?_ (AllT.cons ?_ (AllT.cons ?_ (AllT.cons ?_ (AllT.cons ?_ (AllT.cons ?_ (AllT.cons ?_ (AllT.cons ?_ (AllT.cons ?_ AllT.nil)))))))))))))))))) ?_
          · exact (MonoA.cons (fun _ _ _ _ h => h) (MonoA.cons (fun _ _ _ _ h => h) (MonoA.cons (fun _ _ _ _ h => h) (MonoA.cons (fun _ _ _ _ h => h) (MonoA.cons (fun _ _ _ _ h => h) (MonoA.cons (fun _ _ _ _ h => h) (MonoA.cons (fun _ _ _ _ h => h) (MonoA.cons (fun _ _ _ _ h => h) (MonoA.cons (fun _ _ _ _ h => h) (MonoA.cons (fun _ _ _ _ h => h) (MonoA.cons (fun _ _ _ _ h => h) (MonoA.cons (fun _ _ _ _ h => h) (MonoA.cons (fun _ _ _ _ h => h) (MonoA.cons (fun _ _ _ _ h => h) (MonoA.cons (fun _ _ _ _ h => h) (MonoA.cons (fun _ _ _ _ h => h) (MonoA.cons (fun _ _ _ _ h => h) (MonoA.cons (fun _ _ _ _ h => h) MonoA.nil))))))))))))))))))
          · intro a w' M97 l98 hd hs
            refine OP.ofW (l := [(5, (.int .i64 s15.2))]) (hd.fr.add (hd.base 5 _ rfl rfl)) hs rfl ?_
            refine w_val trivial rfl (fun a w hf hs => r_move (hf.ev rfl)) ?_
            refine w_nil ?_
            intro a w' hf hs
            exact ⟨rfl, hf.df, _, (HLe.refl _), hs, hf.get _ _ rfl⟩
          · intro a w' M99 l100 hd hs
            have e101 := hd.val 0 68 _ rfl rfl
            refine OP.ofW (l := [(68, (.int .i64 s15.2))]) (hd.fr.add e101) hs rfl ?_
            refine w_val trivial rfl (fun a w hf hs => r_sub (hf.ev rfl) (hf.ev rfl)) ?_
            refine w_nil ?_
            intro a w' hf hs
            exact ⟨rfl, hf.df, _, (HLe.refl _), hs, hf.get _ _ rfl⟩
          · intro a w' M102 l103 hd hs
            have e104 := hd.val 1 69 _ rfl rfl
            refine OP.ofW (l := [(3, (ptr b6 0)), (69, (.int .i64 (IntKind.i64.wrap (s15.2 - (2 : Int)))))]) ((hd.fr.add e104).add (hd.base 3 _ rfl rfl)) hs rfl ?_
            refine w_val trivial rfl (fun a w hf hs => r_iaI Tryd.underlying157 ts70 (hf.ev rfl) (hf.ev rfl) g105.1 g105.2) ?_
            refine w_nil ?_
            intro a w' hf hs
            exact ⟨rfl, hf.df, _, (HLe.refl _), hs, hf.get _ _ rfl⟩
          · intro a w' M106 l107 hd hs
            have e108 := hd.val 2 70 _ rfl rfl
            refine OP.ofW (l := [(70, (ptr b6 (0 + ((IntKind.i64.wrap (s15.2 - (2 : Int)))).toNat)))]) (hd.fr.add e108) hs rfl ?_
            refine w_val trivial rfl (fun a w hf hs => r_load1 ta70 (hf.ev rfl) (hs.blk (i := 1) rfl) (vI_get0 g105.1 g105.2)) ?_
            refine w_nil ?_
            intro a w' hf hs
            exact ⟨rfl, hf.df, _, (HLe.refl _), hs, hf.get _ _ rfl⟩
          · intro a w' M109 l110 hd hs
            have e111 := hd.val 3 71 _ rfl rfl
            refine OP.ofW (l := [(71, (.int .u32 (rd s15.1.toList (IntKind.i64.wrap (s15.2 - (2 : Int))))))]) (hd.fr.add e111) hs rfl ?_
            refine w_call cf117 trivial rfl rfl (fun w hs => ref02_rotr.calls hs (rd s15.1.toList (IntKind.i64.wrap (s15.2 - (2 : Int)))) (17 : Int) _ e117) ?_
            rintro _ M114 l115 rfl
            refine w_nil ?_
            intro a w' hf hs
            exact ⟨rfl, hf.df, _, l115, hs, hf.get _ _ rfl⟩
          · intro a w' M118 l119 hd hs
            refine OP.ofW (l := [(5, (.int .i64 s15.2))]) (hd.fr.add (hd.base 5 _ rfl rfl)) hs rfl ?_
            refine w_val trivial rfl (fun a w hf hs => r_move (hf.ev rfl)) ?_
            refine w_nil ?_
            intro a w' hf hs
            exact ⟨rfl, hf.df, _, (HLe.refl _), hs, hf.get _ _ rfl⟩
          · intro a w' M120 l121 hd hs
            have e122 := hd.val 5 73 _ rfl rfl
            refine OP.ofW (l := [(73, (.int .i64 s15.2))]) (hd.fr.add e122) hs rfl ?_
            refine w_val trivial rfl (fun a w hf hs => r_sub (hf.ev rfl) (hf.ev rfl)) ?_
            refine w_nil ?_
            intro a w' hf hs
            exact ⟨rfl, hf.df, _, (HLe.refl _), hs, hf.get _ _ rfl⟩
          · intro a w' M123 l124 hd hs
            have e125 := hd.val 6 74 _ rfl rfl
            refine OP.ofW (l := [(3, (ptr b6 0)), (74, (.int .i64 (IntKind.i64.wrap (s15.2 - (2 : Int)))))]) ((hd.fr.add e125).add (hd.base 3 _ rfl rfl)) hs rfl ?_
            refine w_val trivial rfl (fun a w hf hs => r_iaI Tryd.underlying157 ts70 (hf.ev rfl) (hf.ev rfl) g126.1 g126.2) ?_
            refine w_nil ?_
            intro a w' hf hs
            exact ⟨rfl, hf.df, _, (HLe.refl _), hs, hf.get _ _ rfl⟩
          · intro a w' M127 l128 hd hs
            have e129 := hd.val 7 75 _ rfl rfl
            refine OP.ofW (l := [(75, (ptr b6 (0 + ((IntKind.i64.wrap (s15.2 - (2 : Int)))).toNat)))]) (hd.fr.add e129) hs rfl ?_
            refine w_val trivial rfl (fun a w hf hs => r_load1 ta70 (hf.ev rfl) (hs.blk (i := 1) rfl) (vI_get0 g126.1 g126.2)) ?_
            refine w_nil ?_
            intro a w' hf hs
            exact ⟨rfl, hf.df, _, (HLe.refl _), hs, hf.get _ _ rfl⟩
          · intro a w' M130 l131 hd hs
            have e132 := hd.val 8 76 _ rfl rfl
            refine OP.ofW (l := [(76, (.int .u32 (rd s15.1.toList (IntKind.i64.wrap (s15.2 - (2 : Int))))))]) (hd.fr.add e132) hs rfl ?_
            refine w_call cf117 trivial rfl rfl (fun w hs => ref02_rotr.calls hs (rd s15.1.toList (IntKind.i64.wrap (s15.2 - (2 : Int)))) (19 : Int) _ e138) ?_
            rintro _ M135 l136 rfl
            refine w_nil ?_
            intro a w' hf hs
            exact ⟨rfl, hf.df, _, l136, hs, hf.get _ _ rfl⟩
          · intro a w' M139 l140 hd hs
            have e141 := hd.val 4 72 _ rfl rfl
            have e142 := hd.val 9 77 _ rfl rfl
            refine OP.ofW (l := [(72, (.int .u32 t112)), (77, (.int .u32 t133))]) ((hd.fr.add e142).add e141) hs rfl ?_
            refine w_val trivial rfl (fun a w hf hs => r_xor (hf.ev rfl) (hf.ev rfl)) ?_
            refine w_nil ?_
            intro a w' hf hs
            exact ⟨rfl, hf.df, _, (HLe.refl _), hs, hf.get _ _ rfl⟩
          · intro a w' M143 l144 hd hs
            refine OP.ofW (l := [(5, (.int .i64 s15.2))]) (hd.fr.add (hd.base 5 _ rfl rfl)) hs rfl ?_
            refine w_val trivial rfl (fun a w hf hs => r_move (hf.ev rfl)) ?_
            refine w_nil ?_
            intro a w' hf hs
            exact ⟨rfl, hf.df, _, (HLe.refl _), hs, hf.get _ _ rfl⟩
          · intro a w' M145 l146 hd hs
            have e147 := hd.val 11 79 _ rfl rfl
            refine OP.ofW (l := [(79, (.int .i64 s15.2))]) (hd.fr.add e147) hs rfl ?_
            refine w_val trivial rfl (fun a w hf hs => r_sub (hf.ev rfl) (hf.ev rfl)) ?_
            refine w_nil ?_
            intro a w' hf hs
            exact ⟨rfl, hf.df, _, (HLe.refl _), hs, hf.get _ _ rfl⟩
          · intro a w' M148 l149 hd hs
            have e150 := hd.val 12 80 _ rfl rfl
            refine OP.ofW (l := [(3, (ptr b6 0)), (80, (.int .i64 (IntKind.i64.wrap (s15.2 - (2 : Int)))))]) ((hd.fr.add e150).add (hd.base 3 _ rfl rfl)) hs rfl ?_
            refine w_val trivial rfl (fun a w hf hs => r_iaI Tryd.underlying157 ts70 (hf.ev rfl) (hf.ev rfl) g151.1 g151.2) ?_
            refine w_nil ?_
            intro a w' hf hs
            exact ⟨rfl, hf.df, _, (HLe.refl _), hs, hf.get _ _ rfl⟩
          · intro a w' M152 l153 hd hs
            have e154 := hd.val 13 81 _ rfl rfl
            refine OP.ofW (l := [(81, (ptr b6 (0 + ((IntKind.i64.wrap (s15.2 - (2 : Int)))).toNat)))]) (hd.fr.add e154) hs rfl ?_
            refine w_val trivial rfl (fun a w hf hs => r_load1 ta70 (hf.ev rfl) (hs.blk (i := 1) rfl) (vI_get0 g151.1 g151.2)) ?_
            refine w_nil ?_
            intro a w' hf hs
            exact ⟨rfl, hf.df, _, (HLe.refl _), hs, hf.get _ _ rfl⟩
          · intro a w' M155 l156 hd hs
            have e157 := hd.val 14 82 _ rfl rfl
            refine OP.ofW (l := [(82, (.int .u32 (rd s15.1.toList (IntKind.i64.wrap (s15.2 - (2 : Int))))))]) (hd.fr.add e157) hs rfl ?_
            refine w_val trivial rfl (fun a w hf hs => r_shr (hf.ev rfl) (hf.ev rfl) (by decide)) ?_
            refine w_nil ?_
            intro a w' hf hs
            exact ⟨rfl, hf.df, _, (HLe.refl _), hs, hf.get _ _ rfl⟩
          · intro a w' M158 l159 hd hs
            have e160 := hd.val 10 78 _ rfl rfl
            have e161 := hd.val 15 83 _ rfl rfl
            refine OP.ofW (l := [(78, (.int .u32 (bits .xor .u32 t112 t133))), (83, (.int .u32 (shrI .u32 (rd s15.1.toList (IntKind.i64.wrap (s15.2 - (2 : Int)))) (10 : Int))))]) ((hd.fr.add e161).add e160) hs rfl ?_
            refine w_val trivial rfl (fun a w hf hs => r_xor (hf.ev rfl) (hf.ev rfl)) ?_
            refine w_nil ?_
            intro a w' hf hs
            exact ⟨rfl, hf.df, _, (HLe.refl _), hs, hf.get _ _ rfl⟩
          · intro a w' M162 l163 hd hs
            have e164 := hd.val 16 84 _ rfl rfl
            refine OP.ofW (l := [(84, (.int .u32 (bits .xor .u32 (bits .xor .u32 t112 t133) (shrI .u32 (rd s15.1.toList (IntKind.i64.wrap (s15.2 - (2 : Int)))) (10 : Int)))))]) (hd.fr.add e164) hs rfl ?_
            refine w_val trivial rfl (fun a w hf hs => r_assign (hf.ev rfl)) ?_
            refine w_nil ?_
            intro a w' hf hs
            exact ⟨rfl, hf.df, _, (HLe.refl _), hs, hf.get _ _ rfl⟩
          intro a w' M165 l166 hdf hsz hb hv hs
          replace h2 := h2.mono l166
          have e167 := hv 17 7 _ rfl rfl
          refine n_of (c := (Cx.mk Tryd.prog 101 none' M w)) (l := [(2, (ptr b4 0)), (3, (ptr b6 0)), (5, (.int .i64 s15.2)), (6, (.int .u32 (bits .xor .u32 (bits .xor .u32 t40 t61) (shrI .u32 (rd s15.1.toList (IntKind.i64.wrap (s15.2 - (15 : Int)))) (3 : Int))))), (7, (.int .u32 (bits .xor .u32 (bits .xor .u32 t112 t133) (shrI .u32 (rd s15.1.toList (IntKind.i64.wrap (s15.2 - (2 : Int)))) (10 : Int)))))]) ?_ ((((((Fr.start hdf hsz).add e167).add (hb 6 _ rfl rfl)).add (hb 5 _ rfl rfl)).add (hb 3 _ rfl rfl)).add (hb 2 _ rfl rfl)) hs
          clear hdf hsz hb hv hs e167
          refine n_id (hK96 _ _ _ ?_)
          refine c_split2 14 (by kernel_rfl) (by kernel_rfl) (by kernel_rfl) (by kernel_rfl) rfl ?_
          intro K168 hK168
          obtain ⟨g179, H⟩ := grd_s H
          obtain ⟨g197, H⟩ := grd_s H
          refine d_drawP [([], [5]), ([], [5]), ([(1, 86)], []), ([(2, 87)], [3]), ([(3, 88)], []), ([], [6]), ([(4, 89), (5, 90)], []), ([], [5]), ([(7, 92)], []), ([(8, 93)], [3]), ([(9, 94)], []), ([(6, 91), (10, 95)], []), ([], [7]), ([(11, 96), (12, 97)], [])] [fun v M => v = (.int .i64 s15.2), fun v M => v = (.int .i64 s15.2), fun v M => v = (.int .i64 (IntKind.i64.wrap (s15.2 - (16 : Int)))), fun v M => v = (ptr b6 (0 + ((IntKind.i64.wrap (s15.2 - (16 : Int)))).toNat)), fun v M => v = (.int .u32 (rd s15.1.toList (IntKind.i64.wrap (s15.2 - (16 : Int))))), fun v M => v = (.int .u32 (bits .xor .u32 (bits .xor .u32 t40 t61) (shrI .u32 (rd s15.1.toList (IntKind.i64.wrap (s15.2 - (15 : Int)))) (3 : Int)))), fun v M => v = (.int .u32 (IntKind.u32.wrap ((rd s15.1.toList (IntKind.i64.wrap (s15.2 - (16 : Int)))) + (bits .xor .u32 (bits .xor .u32 t40 t61) (shrI .u32 (rd s15.1.toList (IntKind.i64.wrap (s15.2 - (15 : Int)))) (3 : Int)))))), fun v M => v = (.int .i64 s15.2), fun v M => v = (.int .i64 (IntKind.i64.wrap (s15.2 - (7 : Int)))), fun v M => v = (ptr b6 (0 + ((IntKind.i64.wrap (s15.2 - (7 : Int)))).toNat)), fun v M => v = (.int .u32 (rd s15.1.toList (IntKind.i64.wrap (s15.2 - (7 : Int))))), fun v M => v = (.int .u32 (IntKind.u32.wrap ((IntKind.u32.wrap ((rd s15.1.toList (IntKind.i64.wrap (s15.2 - (16 : Int)))) + (bits .xor .u32 (bits .xor .u32 t40 t61) (shrI .u32 (rd s15.1.toList (IntKind.i64.wrap (s15.2 - (15 : Int)))) (3 : Int))))) + (rd s15.1.toList (IntKind.i64.wrap (s15.2 - (7 : Int))))))), fun v M => v = (.int .u32 (bits .xor .u32 (bits .xor .u32 t112 t133) (shrI .u32 (rd s15.1.toList (IntKind.i64.wrap (s15.2 - (2 : Int)))) (10 : Int)))), fun v M => v = (.int .u32 (IntKind.u32.wrap ((IntKind.u32.wrap ((IntKind.u32.wrap ((rd s15.1.toList (IntKind.i64.wrap (s15.2 - (16 : Int)))) + (bits .xor .u32 (bits .xor .u32 t40 t61) (shrI .u32 (rd s15.1.toList (IntKind.i64.wrap (s15.2 - (15 : Int)))) (3 : Int))))) + (rd s15.1.toList (IntKind.i64.wrap (s15.2 - (7 : Int)))))) + (bits .xor .u32 (bits .xor .u32 t112 t133) (shrI .u32 (rd s15.1.toList (IntKind.i64.wrap (s15.2 - (2 : Int)))) (10 : Int))))))] (by kernel_rfl) (by kernel_rfl) ?_ (AllT.cons ?_ (AllT.cons ?_ (AllT.cons ?_ (AllT.cons ?_ (AllT.cons ?_ (AllT.cons ?_ (AllT.cons ?_ (AllT.cons ?_ (AllT.cons ?_ (AllT.cons ?_ (AllT.cons ?_ (AllT.cons ?_ (AllT.cons ?_ (AllT.cons ?_ AllT.nil)))))))))))))) ?_
          · exact (MonoA.cons (fun _ _ _ _ h => h) (MonoA.cons (fun _ _ _ _ h => h) (MonoA.cons (fun _ _ _ _ h => h) (MonoA.cons (fun _ _ _ _ h => h) (MonoA.cons (fun _ _ _ _ h => h) (MonoA.cons (fun _ _ _ _ h => h) (MonoA.cons (fun _ _ _ _ h => h) (MonoA.cons (fun _ _ _ _ h => h) (MonoA.cons (fun _ _ _ _ h => h) (MonoA.cons (fun _ _ _ _ h => h) (MonoA.cons (fun _ _ _ _ h => h) (MonoA.cons (fun _ _ _ _ h => h) (MonoA.cons (fun _ _ _ _ h => h) (MonoA.cons (fun _ _ _ _ h => h) MonoA.nil))))))))))))))
          · intro a w' M169 l170 hd hs
            refine OP.ofW (l := [(5, (.int .i64 s15.2))]) (hd.fr.add (hd.base 5 _ rfl rfl)) hs rfl ?_
            refine w_val trivial rfl (fun a w hf hs => r_move (hf.ev rfl)) ?_
            refine w_nil ?_
            intro a w' hf hs
            exact ⟨rfl, hf.df, _, (HLe.refl _), hs, hf.get _ _ rfl⟩
          · intro a w' M171 l172 hd hs
            refine OP.ofW (l := [(5, (.int .i64 s15.2))]) (hd.fr.add (hd.base 5 _ rfl rfl)) hs rfl ?_
            refine w_val trivial rfl (fun a w hf hs => r_move (hf.ev rfl)) ?_
            refine w_nil ?_
            intro a w' hf hs
            exact ⟨rfl, hf.df, _, (HLe.refl _), hs, hf.get _ _ rfl⟩
          · intro a w' M173 l174 hd hs
            have e175 := hd.val 1 86 _ rfl rfl
            refine OP.ofW (l := [(86, (.int .i64 s15.2))]) (hd.fr.add e175) hs rfl ?_
            refine w_val trivial rfl (fun a w hf hs => r_sub (hf.ev rfl) (hf.ev rfl)) ?_
            refine w_nil ?_
            intro a w' hf hs
            exact ⟨rfl, hf.df, _, (HLe.refl _), hs, hf.get _ _ rfl⟩
          · intro a w' M176 l177 hd hs
            have e178 := hd.val 2 87 _ rfl rfl
            refine OP.ofW (l := [(3, (ptr b6 0)), (87, (.int .i64 (IntKind.i64.wrap (s15.2 - (16 : Int)))))]) ((hd.fr.add e178).add (hd.base 3 _ rfl rfl)) hs rfl ?_
            refine w_val trivial rfl (fun a w hf hs => r_iaI Tryd.underlying157 ts70 (hf.ev rfl) (hf.ev rfl) g179.1 g179.2) ?_
            refine w_nil ?_
            intro a w' hf hs
            exact ⟨rfl, hf.df, _, (HLe.refl _), hs, hf.get _ _ rfl⟩
          · intro a w' M180 l181 hd hs
            have e182 := hd.val 3 88 _ rfl rfl
            refine OP.ofW (l := [(88, (ptr b6 (0 + ((IntKind.i64.wrap (s15.2 - (16 : Int)))).toNat)))]) (hd.fr.add e182) hs rfl ?_
            refine w_val trivial rfl (fun a w hf hs => r_load1 ta70 (hf.ev rfl) (hs.blk (i := 1) rfl) (vI_get0 g179.1 g179.2)) ?_
            refine w_nil ?_
            intro a w' hf hs
            exact ⟨rfl, hf.df, _, (HLe.refl _), hs, hf.get _ _ rfl⟩
          · intro a w' M183 l184 hd hs
            refine OP.ofW (l := [(6, (.int .u32 (bits .xor .u32 (bits .xor .u32 t40 t61) (shrI .u32 (rd s15.1.toList (IntKind.i64.wrap (s15.2 - (15 : Int)))) (3 : Int)))))]) (hd.fr.add (hd.base 6 _ rfl rfl)) hs rfl ?_
            refine w_val trivial rfl (fun a w hf hs => r_move (hf.ev rfl)) ?_
            refine w_nil ?_
            intro a w' hf hs
            exact ⟨rfl, hf.df, _, (HLe.refl _), hs, hf.get _ _ rfl⟩
          · intro a w' M185 l186 hd hs
            have e187 := hd.val 4 89 _ rfl rfl
            have e188 := hd.val 5 90 _ rfl rfl
            refine OP.ofW (l := [(89, (.int .u32 (rd s15.1.toList (IntKind.i64.wrap (s15.2 - (16 : Int)))))), (90, (.int .u32 (bits .xor .u32 (bits .xor .u32 t40 t61) (shrI .u32 (rd s15.1.toList (IntKind.i64.wrap (s15.2 - (15 : Int)))) (3 : Int)))))]) ((hd.fr.add e188).add e187) hs rfl ?_
            refine w_val trivial rfl (fun a w hf hs => r_add (hf.ev rfl) (hf.ev rfl)) ?_
            refine w_nil ?_
            intro a w' hf hs
            exact ⟨rfl, hf.df, _, (HLe.refl _), hs, hf.get _ _ rfl⟩
          · intro a w' M189 l190 hd hs
            refine OP.ofW (l := [(5, (.int .i64 s15.2))]) (hd.fr.add (hd.base 5 _ rfl rfl)) hs rfl ?_
            refine w_val trivial rfl (fun a w hf hs => r_move (hf.ev rfl)) ?_
            refine w_nil ?_
            intro a w' hf hs
            exact ⟨rfl, hf.df, _, (HLe.refl _), hs, hf.get _ _ rfl⟩
          · intro a w' M191 l192 hd hs
            have e193 := hd.val 7 92 _ rfl rfl
            refine OP.ofW (l := [(92, (.int .i64 s15.2))]) (hd.fr.add e193) hs rfl ?_
            refine w_val trivial rfl (fun a w hf hs => r_sub (hf.ev rfl) (hf.ev rfl)) ?_
            refine w_nil ?_
            intro a w' hf hs
            exact ⟨rfl, hf.df, _, (HLe.refl _), hs, hf.get _ _ rfl⟩
          · intro a w' M194 l195 hd hs
            have e196 := hd.val 8 93 _ rfl rfl
            refine OP.ofW (l := [(3, (ptr b6 0)), (93, (.int .i64 (IntKind.i64.wrap (s15.2 - (7 : Int)))))]) ((hd.fr.add e196).add (hd.base 3 _ rfl rfl)) hs rfl ?_
            refine w_val trivial rfl (fun a w hf hs => r_iaI Tryd.underlying157 ts70 (hf.ev rfl) (hf.ev rfl) g197.1 g197.2) ?_
            refine w_nil ?_
            intro a w' hf hs
            exact ⟨rfl, hf.df, _, (HLe.refl _), hs, hf.get _ _ rfl⟩
          · intro a w' M198 l199 hd hs
            have e200 := hd.val 9 94 _ rfl rfl
            refine OP.ofW (l := [(94, (ptr b6 (0 + ((IntKind.i64.wrap (s15.2 - (7 : Int)))).toNat)))]) (hd.fr.add e200) hs rfl ?_
            refine w_val trivial rfl (fun a w hf hs => r_load1 ta70 (hf.ev rfl) (hs.blk (i := 1) rfl) (vI_get0 g197.1 g197.2)) ?_
            refine w_nil ?_
            intro a w' hf hs
            exact ⟨rfl, hf.df, _, (HLe.refl _), hs, hf.get _ _ rfl⟩
          · intro a w' M201 l202 hd hs
            have e203 := hd.val 6 91 _ rfl rfl
            have e204 := hd.val 10 95 _ rfl rfl
            refine OP.ofW (l := [(91, (.int .u32 (IntKind.u32.wrap ((rd s15.1.toList (IntKind.i64.wrap (s15.2 - (16 : Int)))) + (bits .xor .u32 (bits .xor .u32 t40 t61) (shrI .u32 (rd s15.1.toList (IntKind.i64.wrap (s15.2 - (15 : Int)))) (3 : Int))))))), (95, (.int .u32 (rd s15.1.toList (IntKind.i64.wrap (s15.2 - (7 : Int))))))]) ((hd.fr.add e204).add e203) hs rfl ?_
            refine w_val trivial rfl (fun a w hf hs => r_add (hf.ev rfl) (hf.ev rfl)) ?_
            refine w_nil ?_
            intro a w' hf hs
            exact ⟨rfl, hf.df, _, (HLe.refl _), hs, hf.get _ _ rfl⟩
          · intro a w' M205 l206 hd hs
            refine OP.ofW (l := [(7, (.int .u32 (bits .xor .u32 (bits .xor .u32 t112 t133) (shrI .u32 (rd s15.1.toList (IntKind.i64.wrap (s15.2 - (2 : Int)))) (10 : Int)))))]) (hd.fr.add (hd.base 7 _ rfl rfl)) hs rfl ?_
            refine w_val trivial rfl (fun a w hf hs => r_move (hf.ev rfl)) ?_
            refine w_nil ?_
            intro a w' hf hs
            exact ⟨rfl, hf.df, _, (HLe.refl _), hs, hf.get _ _ rfl⟩
          · intro a w' M207 l208 hd hs
            have e209 := hd.val 11 96 _ rfl rfl
            have e210 := hd.val 12 97 _ rfl rfl
            refine OP.ofW (l := [(96, (.int .u32 (IntKind.u32.wrap ((IntKind.u32.wrap ((rd s15.1.toList (IntKind.i64.wrap (s15.2 - (16 : Int)))) + (bits .xor .u32 (bits .xor .u32 t40 t61) (shrI .u32 (rd s15.1.toList (IntKind.i64.wrap (s15.2 - (15 : Int)))) (3 : Int))))) + (rd s15.1.toList (IntKind.i64.wrap (s15.2 - (7 : Int)))))))), (97, (.int .u32 (bits .xor .u32 (bits .xor .u32 t112 t133) (shrI .u32 (rd s15.1.toList (IntKind.i64.wrap (s15.2 - (2 : Int)))) (10 : Int)))))]) ((hd.fr.add e210).add e209) hs rfl ?_
            refine w_val trivial rfl (fun a w hf hs => r_add (hf.ev rfl) (hf.ev rfl)) ?_
            refine w_nil ?_
            intro a w' hf hs
            exact ⟨rfl, hf.df, _, (HLe.refl _), hs, hf.get _ _ rfl⟩
          intro a w' M211 l212 hdf hsz hb hv hs
          replace h2 := h2.mono l212
          have e213 := hv 0 85 _ rfl rfl
          have e214 := hv 13 98 _ rfl rfl
          refine n_of (c := (Cx.mk Tryd.prog 101 none' M w)) (l := [(2, (ptr b4 0)), (3, (ptr b6 0)), (5, (.int .i64 s15.2)), (85, (.int .i64 s15.2)), (98, (.int .u32 (IntKind.u32.wrap ((IntKind.u32.wrap ((IntKind.u32.wrap ((rd s15.1.toList (IntKind.i64.wrap (s15.2 - (16 : Int)))) + (bits .xor .u32 (bits .xor .u32 t40 t61) (shrI .u32 (rd s15.1.toList (IntKind.i64.wrap (s15.2 - (15 : Int)))) (3 : Int))))) + (rd s15.1.toList (IntKind.i64.wrap (s15.2 - (7 : Int)))))) + (bits .xor .u32 (bits .xor .u32 t112 t133) (shrI .u32 (rd s15.1.toList (IntKind.i64.wrap (s15.2 - (2 : Int)))) (10 : Int)))))))]) ?_ ((((((Fr.start hdf hsz).add e214).add e213).add (hb 5 _ rfl rfl)).add (hb 3 _ rfl rfl)).add (hb 2 _ rfl rfl)) hs
          clear hdf hsz hb hv hs e213 e214
          refine n_id (hK168 _ _ _ ?_)
          obtain ⟨g215, H⟩ := grd_s H
          refine w_val trivial rfl (fun a w hf hs => r_iaI Tryd.underlying157 ts70 (hf.ev rfl) (hf.ev rfl) g215.1 g215.2) ?_
          obtain ⟨z216, e217, H⟩ := bnd H
          have e218 := some_r e217
          refine w_store (i := 1) (vs := [(.int .u32 (IntKind.u32.wrap ((IntKind.u32.wrap ((IntKind.u32.wrap ((rd s15.1.toList (IntKind.i64.wrap (s15.2 - (16 : Int)))) + (bits .xor .u32 (bits .xor .u32 t40 t61) (shrI .u32 (rd s15.1.toList (IntKind.i64.wrap (s15.2 - (15 : Int)))) (3 : Int))))) + (rd s15.1.toList (IntKind.i64.wrap (s15.2 - (7 : Int)))))) + (bits .xor .u32 (bits .xor .u32 t112 t133) (shrI .u32 (rd s15.1.toList (IntKind.i64.wrap (s15.2 - (2 : Int)))) (10 : Int))))))]) (A' := vI .u32 z216) trivial rfl rfl rfl rfl ts70 rfl (one1 rfl) (idx_le g215.1 g215.2 (vI_len _) (by decide)) (by rw [← e218]; exact (vI_set0 g215.1 g215.2)) ?_
          clear e217 e218
          refine w_nil (hK23 _ _ _ ?_)
          refine c_reg ?_
          refine w_val trivial rfl (fun a w hf hs => r_move (hf.ev rfl)) ?_
          refine w_val trivial rfl (fun a w hf hs => r_add (hf.ev rfl) (hf.ev rfl)) ?_
          refine w_val trivial rfl (fun a w hf hs => r_assign (hf.ev rfl)) ?_
          refine w_nil ?_
          intro a w' hf hs
          exact ⟨_, (some_r H).symm, _, l17.trans (l94.trans (l166.trans l212)), (((hf.nil.add (hf.get _ _ rfl)).add (hf.get _ _ rfl)).add (hf.get _ _ rfl)), hs.selD [some 0, some 1] (by decide) rfl⟩
        · replace H := if_f b22 H
          replace H := map_inr H r18
          refine c_exit ?_
          intro a w' hf hs
          exact ⟨s15.1, _, l17, ((hf.nil.add (hf.get _ _ rfl)).add (hf.get _ _ rfl)), hs.selD [some 0, some 1] (by decide) rfl, H⟩
    · rintro a w' ⟨x10, M11, l12, hf, hs, H⟩
      refine c_of (c := (Cx.mk Tryd.prog 101 none' M w)) ?_ hf hs
      unfold ref02_words.j1 at H
      clear hf hs
      replace h2 := h2.mono l12
      refine c_seq ?_
      intro K13 hK13
      refine c_reg ?_
      refine w_val trivial rfl (fun a w hf hs => r_loadA ta157 ts157 (hf.ev rfl) (hs.blk (i := 1) rfl) (vI_all _) (vI_len _)) ?_
      refine w_store (i := 0) (vs := vI .u32 x10) (A' := vI .u32 x10) trivial rfl rfl rfl rfl ts157 (vI_len _) (vI_one _) (by rw [vI_len]; decide) (vI_whole _ _) ?_
      refine w_nil (hK13 _ _ _ ?_)
      obtain rfl := some_r H
      refine c_ret ?_
      intro a w' hf hs
      exact hret _ (.inl rfl) a w' hf.df ⟨_, _, Res.of1 rfl ⟨_, hf.get _ _ rfl, run_loadA (hs.blk (i := 0) rfl) ta157 ts157 (vI_all _) (vI_len _)⟩, hs.ext, rfl⟩
end Go.Cu
