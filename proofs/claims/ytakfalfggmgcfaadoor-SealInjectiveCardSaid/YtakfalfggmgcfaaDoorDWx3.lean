/- Each Go function comes to its pure function; condition: that one is defined there. -/
import Derived.Test.YtakfalfggmgcfaaDoorDWx2
import Derived.Test.YtakfalfggmgcfaaDoorDP
import Derived.Test.YtakfalfggmgcfaaDoorDS
import Derived.Shelf.Strings.Repeat
import Derived.Shelf.Strings.OnBuilder
import Derived.Ground.NamesProg
import Derived.Lib.Agree
import Derived.Test.YtakfalfggmgcfaaDoorProg
import Derived.KernelRfl
import Derived.Test.YtakfalfggmgcfaaDoorCu25
set_option linter.unusedVariables false
set_option linter.unusedSimpArgs false
set_option maxHeartbeats 4000000
/-! The walks. -/
namespace Go.Cu
open Go.Proofs Go.Proofs.Tryd Go.Shelf
set_option maxRecDepth 20000 in
theorem ref03_Xor.calls {M : Heap} {w : World} (hM : Sub M w) (p0 : (List UInt8)) (p1 : Int) (p2 : (List UInt8)) (p3 : (List UInt8)) (r : ((List UInt8) × Int)) (H : ref03_Xor p0 p1 p2 p3 = some r) :
    Calls Tryd.prog 42 [(str p0), (.int .u32 p1), (str p2), (str p3)].toArray w (Post M w fun M' v => v = .tuple #[(str r.1), (.int .i64 r.2)]) := by
  refine enter 62 [(0, (str p0)), (1, (.int .u32 p1)), (2, (str p2)), (3, (str p3))] Tryd.func42 rfl rfl rfl hM ?_
  intro Q hret
  unfold ref03_Xor at H
  refine c_seq ?_
  intro K1 hK1
  refine c_reg ?_
  refine w_val trivial rfl (fun a w hf hs => r_assign (hf.ev rfl)) ?_
  refine w_val trivial rfl (fun a w hf hs => r_assign (hf.ev rfl)) ?_
  refine w_nil (hK1 _ _ _ ?_)
  refine c_seq ?_
  intro K2 hK2
  refine c_reg ?_
  refine w_val trivial rfl (fun a w hf hs => r_move (hf.ev rfl)) ?_
  refine w_val trivial rfl (fun a w hf hs => r_move (hf.ev rfl)) ?_
  refine w_val trivial rfl (fun a w hf hs => r_move (hf.ev rfl)) ?_
  obtain ⟨t3, e8, H⟩ := bnd H
  refine w_call cf89 trivial rfl rfl (fun w hs => ref03_State.calls hs p0 p1 p2 _ e8) ?_
  rintro _ M5 l6 rfl
  refine w_val trivial rfl (fun a w hf hs => r_move (hf.ev rfl)) ?_
  refine w_val trivial rfl (fun a w hf hs => r_extract (hf.ev rfl) rfl) ?_
  refine w_val trivial rfl (fun a w hf hs => r_extract (hf.ev rfl) rfl) ?_
  refine w_allocL (A := vI .u32 (Vector.replicate 16 (0 : Int))) tz131 trivial rfl rfl ?_
  intro b9
  refine w_store (i := 0) (vs := vI .u32 t3.1) (A' := vI .u32 t3.1) trivial rfl rfl rfl rfl ts131 (vI_len _) (vI_one _) (by rw [vI_len]; decide) (vI_whole _ _) ?_
  refine w_val trivial rfl (fun a w hf hs => r_assign (hf.ev rfl)) ?_
  refine w_nil (hK2 _ _ _ ?_)
  refine c_seq ?_
  intro K10 hK10
  refine c_seq ?_
  intro K11 hK11
  refine c_reg ?_
  refine w_val trivial rfl (fun a w hf hs => r_move (hf.ev rfl)) ?_
  refine w_val trivial rfl (fun a w hf hs => r_neq (hf.ev rfl) (hf.ev rfl)) ?_
  refine w_nil (hK11 _ _ _ ?_)
  refine c_if rfl (fun b12 => ?_) (fun b12 => ?_)
  · replace H := if_t b12 H
    refine c_seq ?_
    intro K13 hK13
    refine c_reg ?_
    refine w_val trivial rfl (fun a w hf hs => r_move (hf.ev rfl)) ?_
    refine w_val trivial rfl (fun a w hf hs => r_assign (hf.ev rfl)) ?_
    refine w_val trivial rfl (fun a w hf hs => r_assign (hf.ev rfl)) ?_
    refine w_nil (hK13 _ _ _ ?_)
    obtain rfl := some_r H
    refine c_ret ?_
    intro a w' hf hs
    exact hret _ (.inl rfl) a w' hf.df ⟨_, _, Res.of2 rfl (RV.t hf rfl) (RV.t hf rfl), hs.ext, rfl⟩
  · replace H := if_f b12 H
    refine c_skip (hK10 _ _ _ ?_)
    refine c_seq ?_
    intro K14 hK14
    refine c_reg ?_
    refine w_val trivial rfl (fun a w hf hs => r_assign (hf.ev rfl)) ?_
    refine w_nil (hK14 _ _ _ ?_)
    refine c_row0 5 1 ?_
    refine c_cut (fun a' w' => ∃ (x15 : (List Int)) (v16 : Value) (M17 : Heap), HLe M5 M17 ∧ Fr 62 [(12, v16)] a' ∧ St none' M w M17 (lt [dead, rowI (FI .u8) v16 5 x15]) w' ∧ ref03_Xor.j1 x15 = some r) ?_ ?_
    · refine c_block ?_
      refine c_loop (fun (s23 : ((List Int) × Int × (List UInt8))) a' w' => ∃ (v24 : Value) (M25 : Heap), HLe M5 M25 ∧ Fr 62 [(0, (str p0)), (1, (.int .u32 s23.2.1)), (2, (str p2)), (3, (str s23.2.2)), (12, v24)] a' ∧ St none' M w M25 (lt [dead, rowI (FI .u8) v24 5 s23.1]) w') (([] : (List Int)), p1, p3) H ?_ ?_
      · intro a w' hf hs
        exact ⟨(.slice none 0 0), _, HLe.refl _, (((((hf.nil.add (hf.get _ _ rfl)).add (hf.get _ _ rfl)).add (hf.get _ _ rfl)).add (hf.get _ _ rfl)).add (hf.get _ _ rfl)), hs.selD [none, some 1] (by decide) rfl⟩
      · clear H
        intro s23 y28 H r27 a w' hJ
        obtain ⟨v24, M25, l26, hf, hs⟩ := hJ
        refine c_of (c := (Cx.mk Tryd.prog 62 none' M w)) ?_ hf hs
        unfold ref03_Xor.l4 at H
        clear hf hs
        refine c_seq ?_
        intro K29 hK29
        refine c_seq ?_
        intro K30 hK30
        refine c_reg ?_
        refine w_val trivial rfl (fun a w hf hs => r_move (hf.ev rfl)) ?_
        refine w_val trivial rfl (fun a w hf hs => r_slen Tryd.underlying9 (hf.ev rfl)) ?_
        refine w_val trivial rfl (fun a w hf hs => r_gtr (hf.ev rfl) (hf.ev rfl)) ?_
        refine w_nil (hK30 _ _ _ ?_)
        refine c_if rfl (fun b31 => ?_) (fun b31 => ?_)
        · replace H := if_t b31 H
          refine c_skip (hK29 _ _ _ ?_)
          refine c_block ?_
          refine c_seq ?_
          intro K32 hK32
          refine c_reg ?_
          refine w_val trivial rfl (fun a w hf hs => r_move (hf.ev rfl)) ?_
          refine w_val trivial rfl (fun a w hf hs => r_move (hf.ev rfl)) ?_
          refine w_val trivial rfl (fun a w hf hs => r_move (hf.ev rfl)) ?_
          obtain ⟨t33, e38, H⟩ := bnd H
          refine w_call cf90 trivial rfl rfl (fun w hs => ref03_Block.calls hs p0 s23.2.1 p2 _ e38) ?_
          rintro _ M35 l36 rfl
          refine w_val trivial rfl (fun a w hf hs => r_move (hf.ev rfl)) ?_
          refine w_val trivial rfl (fun a w hf hs => r_extract (hf.ev rfl) rfl) ?_
          refine w_val trivial rfl (fun a w hf hs => r_extract (hf.ev rfl) rfl) ?_
          refine w_val trivial rfl (fun a w hf hs => r_assign (hf.ev rfl)) ?_
          refine w_val trivial rfl (fun a w hf hs => r_assign (hf.ev rfl)) ?_
          refine w_nil (hK32 _ _ _ ?_)
          refine c_seq ?_
          intro K39 hK39
          refine c_reg ?_
          refine w_val trivial rfl (fun a w hf hs => r_move (hf.ev rfl)) ?_
          refine w_val trivial rfl (fun a w hf hs => r_slen Tryd.underlying9 (hf.ev rfl)) ?_
          refine w_val trivial rfl (fun a w hf hs => r_min (hf.ev rfl) (hf.ev rfl)) ?_
          refine w_val trivial rfl (fun a w hf hs => r_assign (hf.ev rfl)) ?_
          refine w_nil (hK39 _ _ _ ?_)
          refine c_cut (fun a' w' => ∃ (x40 : (List Int)) (v41 : Value) (M42 : Heap), HLe M35 M42 ∧ Fr 62 [(0, (str p0)), (1, (.int .u32 s23.2.1)), (2, (str p2)), (3, (str s23.2.2)), (12, v41), (15, (.int .i64 (if (s23.2.2.length : Int) < (64 : Int) then (s23.2.2.length : Int) else (64 : Int))))] a' ∧ St none' M w M42 (lt [dead, rowI (FI .u8) v41 5 x40]) w' ∧ ref03_Xor.j2 s23 x40 = some y28) ?_ ?_
          · refine c_seq ?_
            intro K46 hK46
            refine c_reg ?_
            refine w_val trivial rfl (fun a w hf hs => r_assign (hf.ev rfl)) ?_
            refine w_nil (hK46 _ _ _ ?_)
            refine c_block ?_
            refine c_loop (fun (s47 : ((List Int) × Int)) a' w' => ∃ (v48 : Value) (M49 : Heap), HLe M35 M49 ∧ Fr 62 [(0, (str p0)), (1, (.int .u32 s23.2.1)), (2, (str p2)), (3, (str s23.2.2)), (12, v48), (13, (str t33.1)), (15, (.int .i64 (if (s23.2.2.length : Int) < (64 : Int) then (s23.2.2.length : Int) else (64 : Int)))), (16, (.int .i64 s47.2))] a' ∧ St none' M w M49 (lt [dead, rowI (FI .u8) v48 5 s47.1]) w') (s23.1, (0 : Int)) H ?_ ?_
            · intro a w' hf hs
              exact ⟨v24, _, HLe.refl _, ((((((((hf.nil.add (hf.get _ _ rfl)).add (hf.get _ _ rfl)).add (hf.get _ _ rfl)).add (hf.get _ _ rfl)).add (hf.get _ _ rfl)).add (hf.get _ _ rfl)).add (hf.get _ _ rfl)).add (hf.get _ _ rfl)), hs.selD [none, some 1] (by decide) rfl⟩
            · clear H
              intro s47 y52 H r51 a w' hJ
              obtain ⟨v48, M49, l50, hf, hs⟩ := hJ
              refine c_of (c := (Cx.mk Tryd.prog 62 none' M w)) ?_ hf hs
              unfold ref03_Xor.l3 at H
              clear hf hs
              refine c_seq ?_
              intro K53 hK53
              refine c_seq ?_
              intro K54 hK54
              refine c_reg ?_
              refine w_val trivial rfl (fun a w hf hs => r_move (hf.ev rfl)) ?_
              refine w_val trivial rfl (fun a w hf hs => r_move (hf.ev rfl)) ?_
              refine w_val trivial rfl (fun a w hf hs => r_lss (hf.ev rfl) (hf.ev rfl)) ?_
              refine w_nil (hK54 _ _ _ ?_)
              refine c_if rfl (fun b55 => ?_) (fun b55 => ?_)
              · replace H := if_t b55 H
                refine c_skip (hK53 _ _ _ ?_)
                refine c_seq ?_
                intro K56 hK56
                refine c_block ?_
                refine c_split2 9 (by kernel_rfl) (by kernel_rfl) (by kernel_rfl) (by kernel_rfl) rfl ?_
                intro K57 hK57
                obtain ⟨g68, H⟩ := grd_s H
                obtain ⟨g77, H⟩ := grd_s H
                refine d_drawP [([], [12]), ([], [3]), ([], [16]), ([(1, 46), (2, 47)], []), ([], [13]), ([], [16]), ([(4, 49), (5, 50)], []), ([(3, 48), (6, 51)], []), ([(7, 52)], [])] [fun v M => v = v48, fun v M => v = (str s23.2.2), fun v M => v = (.int .i64 s47.2), fun v M => v = (.int .u8 (sbyte s23.2.2 s47.2)), fun v M => v = (str t33.1), fun v M => v = (.int .i64 s47.2), fun v M => v = (.int .u8 (sbyte t33.1 s47.2)), fun v M => v = (.int .u8 (bits .xor .u8 (sbyte s23.2.2 s47.2) (sbyte t33.1 s47.2))), fun v M => ∃ (v85 : Value), v = v85 ∧ RS (FI .u8) M v85 ([(bits .xor .u8 (sbyte s23.2.2 s47.2) (sbyte t33.1 s47.2))] : List Int) ∧ ∃ A, v85 = .slice A ([(bits .xor .u8 (sbyte s23.2.2 s47.2) (sbyte t33.1 s47.2))] : List Int).length ([(bits .xor .u8 (sbyte s23.2.2 s47.2) (sbyte t33.1 s47.2))] : List Int).length] (by kernel_rfl) (by kernel_rfl) ?_ (AllT.cons ?_ (AllT.cons ?_ (AllT.cons ?_ (AllT.cons ?_ (AllT.cons ?_ (AllT.cons ?_ (AllT.cons ?_ (AllT.cons ?_ (AllT.cons ?_ AllT.nil))))))))) ?_
                · exact (MonoA.cons (fun _ _ _ _ h => h) (MonoA.cons (fun _ _ _ _ h => h) (MonoA.cons (fun _ _ _ _ h => h) (MonoA.cons (fun _ _ _ _ h => h) (MonoA.cons (fun _ _ _ _ h => h) (MonoA.cons (fun _ _ _ _ h => h) (MonoA.cons (fun _ _ _ _ h => h) (MonoA.cons (fun _ _ _ _ h => h) (MonoA.cons (fun _ _ _ hM h => by obtain ⟨v85, e_, q0, q1⟩ := h; exact ⟨v85, e_, q0.mono hM, q1⟩) MonoA.nil)))))))))
                · intro a w' M58 l59 hd hs
                  refine OP.ofW (l := [(12, v48)]) (hd.fr.add (hd.base 12 _ rfl rfl)) hs rfl ?_
                  refine w_val trivial rfl (fun a w hf hs => r_move (hf.ev rfl)) ?_
                  refine w_nil ?_
                  intro a w' hf hs
                  exact ⟨rfl, hf.df, _, (HLe.refl _), hs, hf.get _ _ rfl⟩
                · intro a w' M60 l61 hd hs
                  refine OP.ofW (l := [(3, (str s23.2.2))]) (hd.fr.add (hd.base 3 _ rfl rfl)) hs rfl ?_
                  refine w_val trivial rfl (fun a w hf hs => r_move (hf.ev rfl)) ?_
                  refine w_nil ?_
                  intro a w' hf hs
                  exact ⟨rfl, hf.df, _, (HLe.refl _), hs, hf.get _ _ rfl⟩
                · intro a w' M62 l63 hd hs
                  refine OP.ofW (l := [(16, (.int .i64 s47.2))]) (hd.fr.add (hd.base 16 _ rfl rfl)) hs rfl ?_
                  refine w_val trivial rfl (fun a w hf hs => r_move (hf.ev rfl)) ?_
                  refine w_nil ?_
                  intro a w' hf hs
                  exact ⟨rfl, hf.df, _, (HLe.refl _), hs, hf.get _ _ rfl⟩
                · intro a w' M64 l65 hd hs
                  have e66 := hd.val 1 46 _ rfl rfl
                  have e67 := hd.val 2 47 _ rfl rfl
                  refine OP.ofW (l := [(46, (str s23.2.2)), (47, (.int .i64 s47.2))]) ((hd.fr.add e67).add e66) hs rfl ?_
                  refine w_val trivial rfl (fun a w hf hs => r_sidx Tryd.underlying9 (hf.ev rfl) (hf.ev rfl) g68.1 g68.2) ?_
                  refine w_nil ?_
                  intro a w' hf hs
                  exact ⟨rfl, hf.df, _, (HLe.refl _), hs, hf.get _ _ rfl⟩
                · intro a w' M69 l70 hd hs
                  refine OP.ofW (l := [(13, (str t33.1))]) (hd.fr.add (hd.base 13 _ rfl rfl)) hs rfl ?_
                  refine w_val trivial rfl (fun a w hf hs => r_move (hf.ev rfl)) ?_
                  refine w_nil ?_
                  intro a w' hf hs
                  exact ⟨rfl, hf.df, _, (HLe.refl _), hs, hf.get _ _ rfl⟩
                · intro a w' M71 l72 hd hs
                  refine OP.ofW (l := [(16, (.int .i64 s47.2))]) (hd.fr.add (hd.base 16 _ rfl rfl)) hs rfl ?_
                  refine w_val trivial rfl (fun a w hf hs => r_move (hf.ev rfl)) ?_
                  refine w_nil ?_
                  intro a w' hf hs
                  exact ⟨rfl, hf.df, _, (HLe.refl _), hs, hf.get _ _ rfl⟩
                · intro a w' M73 l74 hd hs
                  have e75 := hd.val 4 49 _ rfl rfl
                  have e76 := hd.val 5 50 _ rfl rfl
                  refine OP.ofW (l := [(49, (str t33.1)), (50, (.int .i64 s47.2))]) ((hd.fr.add e76).add e75) hs rfl ?_
                  refine w_val trivial rfl (fun a w hf hs => r_sidx Tryd.underlying9 (hf.ev rfl) (hf.ev rfl) g77.1 g77.2) ?_
                  refine w_nil ?_
                  intro a w' hf hs
                  exact ⟨rfl, hf.df, _, (HLe.refl _), hs, hf.get _ _ rfl⟩
                · intro a w' M78 l79 hd hs
                  have e80 := hd.val 3 48 _ rfl rfl
                  have e81 := hd.val 6 51 _ rfl rfl
                  refine OP.ofW (l := [(48, (.int .u8 (sbyte s23.2.2 s47.2))), (51, (.int .u8 (sbyte t33.1 s47.2)))]) ((hd.fr.add e81).add e80) hs rfl ?_
                  refine w_val trivial rfl (fun a w hf hs => r_xor (hf.ev rfl) (hf.ev rfl)) ?_
                  refine w_nil ?_
                  intro a w' hf hs
                  exact ⟨rfl, hf.df, _, (HLe.refl _), hs, hf.get _ _ rfl⟩
                · intro a w' M82 l83 hd hs
                  have e84 := hd.val 7 52 _ rfl rfl
                  refine OP.ofW (l := [(52, (.int .u8 (bits .xor .u8 (sbyte s23.2.2 s47.2) (sbyte t33.1 s47.2))))]) (hd.fr.add e84) hs rfl ?_
                  refine w_bsl (F := (FI .u8)) (es := ([(bits .xor .u8 (sbyte s23.2.2 s47.2) (sbyte t33.1 s47.2))] : List Int)) (xs := [.tmp 52]) (vs := [(.int .u8 (bits .xor .u8 (sbyte s23.2.2 s47.2) (sbyte t33.1 s47.2)))]) Tryd.underlying66 te5 trivial rfl rfl rfl rfl rfl (by decide) ?_
                  intro v85 M86 l87 h88 c89
                  refine w_nil ?_
                  intro a w' hf hs
                  exact ⟨rfl, hf.df, _, l87, hs, ⟨v85, hf.get _ _ rfl, h88, c89⟩⟩
                intro a w' M90 l91 hdf hsz hb hv hs
                have e92 := hv 0 45 _ rfl rfl
                obtain ⟨v93, e97, h94, h96⟩ := hv 8 53 _ rfl rfl
                refine n_of (c := (Cx.mk Tryd.prog 62 none' M w)) (l := [(0, (str p0)), (1, (.int .u32 s23.2.1)), (2, (str p2)), (3, (str s23.2.2)), (13, (str t33.1)), (15, (.int .i64 (if (s23.2.2.length : Int) < (64 : Int) then (s23.2.2.length : Int) else (64 : Int)))), (16, (.int .i64 s47.2)), (45, v48), (53, v93)]) ?_ ((((((((((Fr.start hdf hsz).add e97).add e92).add (hb 16 _ rfl rfl)).add (hb 15 _ rfl rfl)).add (hb 13 _ rfl rfl)).add (hb 3 _ rfl rfl)).add (hb 2 _ rfl rfl)).add (hb 1 _ rfl rfl)).add (hb 0 _ rfl rfl)) hs
                clear hdf hsz hb hv hs e92 e97
                refine n_id (hK57 _ _ _ ?_)
                obtain ⟨g98, H⟩ := grd_s H
                refine w_app (F := (FI .u8)) (m2 := ([(bits .xor .u8 (sbyte s23.2.2 s47.2) (sbyte t33.1 s47.2))] : List Int)) (i := 1) Tryd.underlying66 te5 Tryd.underlying66 (.inl ⟨_, rfl⟩) trivial rfl rfl rfl rfl (Src.rs (FI.one _) h94) g98 ?_
                intro v99
                refine w_val trivial rfl (fun a w hf hs => r_assign (hf.ev rfl)) ?_
                refine w_nil (hK56 _ _ _ ?_)
                refine c_reg ?_
                refine w_val trivial rfl (fun a w hf hs => r_move (hf.ev rfl)) ?_
                refine w_val trivial rfl (fun a w hf hs => r_add (hf.ev rfl) (hf.ev rfl)) ?_
                refine w_val trivial rfl (fun a w hf hs => r_assign (hf.ev rfl)) ?_
                refine w_nil ?_
                intro a w' hf hs
                exact ⟨_, (some_r H).symm, v99, _, l50.trans l91, ((((((((hf.nil.add (hf.get _ _ rfl)).add (hf.get _ _ rfl)).add (hf.get _ _ rfl)).add (hf.get _ _ rfl)).add (hf.get _ _ rfl)).add (hf.get _ _ rfl)).add (hf.get _ _ rfl)).add (hf.get _ _ rfl)), hs.selD [none, some 1] (by decide) rfl⟩
              · replace H := if_f b55 H
                replace H := map_inr H r51
                refine c_exit ?_
                intro a w' hf hs
                exact ⟨s47.1, v48, _, l50, ((((((hf.nil.add (hf.get _ _ rfl)).add (hf.get _ _ rfl)).add (hf.get _ _ rfl)).add (hf.get _ _ rfl)).add (hf.get _ _ rfl)).add (hf.get _ _ rfl)), hs.selD [none, some 1] (by decide) rfl, H⟩
          · rintro a w' ⟨x40, v41, M42, l43, hf, hs, H⟩
            refine c_of (c := (Cx.mk Tryd.prog 62 none' M w)) ?_ hf hs
            unfold ref03_Xor.j2 at H
            clear hf hs
            refine c_seq ?_
            intro K44 hK44
            refine c_reg ?_
            refine w_val trivial rfl (fun a w hf hs => r_move (hf.ev rfl)) ?_
            refine w_val trivial rfl (fun a w hf hs => r_move (hf.ev rfl)) ?_
            obtain ⟨g45, H⟩ := grd_s H
            refine w_val trivial rfl (fun a w hf hs => r_sslice Tryd.underlying9 (hf.ev rfl) ⟨_, (hf.ev rfl)⟩ rfl g45.1 g45.2.1 g45.2.2) ?_
            refine w_val trivial rfl (fun a w hf hs => r_assign (hf.ev rfl)) ?_
            refine w_nil (hK44 _ _ _ ?_)
            refine c_reg ?_
            refine w_val trivial rfl (fun a w hf hs => r_move (hf.ev rfl)) ?_
            refine w_val trivial rfl (fun a w hf hs => r_add (hf.ev rfl) (hf.ev rfl)) ?_
            refine w_val trivial rfl (fun a w hf hs => r_assign (hf.ev rfl)) ?_
            refine w_nil ?_
            intro a w' hf hs
            exact ⟨_, (some_r H).symm, v41, _, l26.trans (l36.trans l43), (((((hf.nil.add (hf.get _ _ rfl)).add (hf.get _ _ rfl)).add (hf.get _ _ rfl)).add (hf.get _ _ rfl)).add (hf.get _ _ rfl)), hs.selD [none, some 1] (by decide) rfl⟩
        · replace H := if_f b31 H
          replace H := map_inr H r27
          refine c_exit ?_
          intro a w' hf hs
          exact ⟨s23.1, v24, _, l26, (hf.nil.add (hf.get _ _ rfl)), hs.selD [none, some 1] (by decide) rfl, H⟩
    · rintro a w' ⟨x15, v16, M17, l18, hf, hs, H⟩
      refine c_of (c := (Cx.mk Tryd.prog 62 none' M w)) ?_ hf hs
      unfold ref03_Xor.j1 at H
      clear hf hs
      refine c_seq ?_
      intro K19 hK19
      refine c_reg ?_
      refine w_val trivial rfl (fun a w hf hs => r_move (hf.ev rfl)) ?_
      refine w_give 1 rfl (fun _ h => h) ?_
      intro M20 l21 h22
      refine w_val trivial rfl (fun a w hf hs => r_b2s Tryd.underlying66 Tryd.underlying5 Tryd.underlying9 h22 hs.sub (hf.ev rfl)) ?_
      refine w_val trivial rfl (fun a w hf hs => r_assign (hf.ev rfl)) ?_
      refine w_val trivial rfl (fun a w hf hs => r_assign (hf.ev rfl)) ?_
      refine w_nil (hK19 _ _ _ ?_)
      obtain rfl := some_r H
      refine c_ret ?_
      intro a w' hf hs
      exact hret _ (.inl rfl) a w' hf.df ⟨_, _, Res.of2 rfl (RV.t hf rfl) (RV.t hf rfl), hs.ext, rfl⟩
set_option maxRecDepth 20000 in
theorem ref04_tag.calls {M : Heap} {w : World} (hM : Sub M w) (hG : Gl M) (p0 : (List UInt8)) (p1 : (List UInt8)) (p2 : (List UInt8)) (p3 : (List UInt8)) (r : (List UInt8)) (H : ref04_tag p0 p1 p2 p3 = some r) :
    Calls Tryd.prog 43 [(str p0), (str p1), (str p2), (str p3)].toArray w (Post M w fun M' v => v = (str r)) := by
  refine enter 20 [(0, (str p0)), (1, (str p1)), (2, (str p2)), (3, (str p3))] Tryd.func43 rfl rfl rfl hM ?_
  intro Q hret
  unfold ref04_tag at H
  refine c_seq ?_
  intro K1 hK1
  refine c_reg ?_
  refine w_val trivial rfl (fun a w hf hs => r_assign (hf.ev rfl)) ?_
  refine w_nil (hK1 _ _ _ ?_)
  refine c_seq ?_
  intro K2 hK2
  refine c_reg ?_
  refine w_val trivial rfl (fun a w hf hs => r_move (hf.ev rfl)) ?_
  refine w_val trivial rfl (fun a w hf hs => r_move (hf.ev rfl)) ?_
  obtain ⟨g3, H⟩ := grd_s H
  refine w_val trivial rfl (fun a w hf hs => r_sadd (hf.ev rfl) (hf.ev rfl) g3) ?_
  refine w_val trivial rfl (fun a w hf hs => r_move (hf.ev rfl)) ?_
  obtain ⟨t4, e9, H⟩ := bnd H
  refine w_call cf88 trivial rfl rfl (fun w hs => ref01_Bytes.calls hs p2 _ e9) ?_
  rintro v21 M6 l7 ⟨v10, hv_, h11⟩
  replace hv_ := hv_.symm
  subst hv_
  replace hG := hG.mono l7
  refine w_val trivial rfl (fun a w hf hs => r_b2s Tryd.underlying66 Tryd.underlying5 Tryd.underlying9 h11 hs.sub (hf.ev rfl)) ?_
  obtain ⟨g12, H⟩ := grd_s H
  refine w_val trivial rfl (fun a w hf hs => r_sadd (hf.ev rfl) (hf.ev rfl) g12) ?_
  refine w_val trivial rfl (fun a w hf hs => r_move (hf.ev rfl)) ?_
  obtain ⟨g13, H⟩ := grd_s H
  refine w_val trivial rfl (fun a w hf hs => r_sadd (hf.ev rfl) (hf.ev rfl) g13) ?_
  obtain ⟨t14, e19, H⟩ := bnd H
  refine w_call cf37 trivial rfl rfl (fun w hs => ref02_Mac.calls hs hG p0 (((([116, 97, 103] : List UInt8) ++ p1) ++ (intsB t4)) ++ p3) _ e19) ?_
  rintro _ M16 l17 rfl
  replace hG := hG.mono l17
  replace h11 := h11.mono l17
  obtain ⟨g20, H⟩ := grd_s H
  refine w_val trivial rfl (fun a w hf hs => r_sslice Tryd.underlying9 (hf.ev rfl) rfl ⟨_, (hf.ev rfl)⟩ g20.1 g20.2.1 g20.2.2) ?_
  refine w_val trivial rfl (fun a w hf hs => r_assign (hf.ev rfl)) ?_
  refine w_nil (hK2 _ _ _ ?_)
  obtain rfl := some_r H
  refine c_ret ?_
  intro a w' hf hs
  exact hret _ (.inl rfl) a w' hf.df ⟨_, _, Res.of1 rfl (RV.t hf rfl), hs.ext, rfl⟩
set_option maxRecDepth 20000 in
theorem ref04_Seal.calls {M : Heap} {w : World} (hM : Sub M w) (hG : Gl M) (p0 : (List UInt8)) (p1 : (List UInt8)) (p2 : (List UInt8)) (r : ((List UInt8) × Int)) (H : ref04_Seal p0 p1 p2 = some r) :
    Calls Tryd.prog 16 [(str p0), (str p1), (str p2)].toArray w (Post M w fun M' v => v = .tuple #[(str r.1), (.int .i64 r.2)]) := by
  refine enter 51 [(0, (str p0)), (1, (str p1)), (2, (str p2))] Tryd.func16 rfl rfl rfl hM ?_
  intro Q hret
  unfold ref04_Seal at H
  refine c_seq ?_
  intro K1 hK1
  refine c_reg ?_
  refine w_val trivial rfl (fun a w hf hs => r_assign (hf.ev rfl)) ?_
  refine w_val trivial rfl (fun a w hf hs => r_assign (hf.ev rfl)) ?_
  refine w_nil (hK1 _ _ _ ?_)
  refine c_seq ?_
  intro K2 hK2
  refine c_reg ?_
  refine w_val trivial rfl (fun a w hf hs => r_move (hf.ev rfl)) ?_
  obtain ⟨t3, e8, H⟩ := bnd H
  refine w_call cf14 trivial rfl rfl (fun w hs => ref04_Keys.calls hs hG p0 _ e8) ?_
  rintro _ M5 l6 rfl
  replace hG := hG.mono l6
  refine w_val trivial rfl (fun a w hf hs => r_move (hf.ev rfl)) ?_
  refine w_val trivial rfl (fun a w hf hs => r_extract (hf.ev rfl) rfl) ?_
  refine w_val trivial rfl (fun a w hf hs => r_extract (hf.ev rfl) rfl) ?_
  refine w_val trivial rfl (fun a w hf hs => r_extract (hf.ev rfl) rfl) ?_
  refine w_val trivial rfl (fun a w hf hs => r_assign (hf.ev rfl)) ?_
  refine w_val trivial rfl (fun a w hf hs => r_assign (hf.ev rfl)) ?_
  refine w_val trivial rfl (fun a w hf hs => r_assign (hf.ev rfl)) ?_
  refine w_nil (hK2 _ _ _ ?_)
  refine c_seq ?_
  intro K9 hK9
  refine c_seq ?_
  intro K10 hK10
  refine c_reg ?_
  refine w_val trivial rfl (fun a w hf hs => r_move (hf.ev rfl)) ?_
  refine w_val trivial rfl (fun a w hf hs => r_neq (hf.ev rfl) (hf.ev rfl)) ?_
  refine w_nil (hK10 _ _ _ ?_)
  refine c_if rfl (fun b11 => ?_) (fun b11 => ?_)
  · replace H := if_t b11 H
    refine c_seq ?_
    intro K12 hK12
    refine c_reg ?_
    refine w_val trivial rfl (fun a w hf hs => r_move (hf.ev rfl)) ?_
    refine w_val trivial rfl (fun a w hf hs => r_assign (hf.ev rfl)) ?_
    refine w_val trivial rfl (fun a w hf hs => r_assign (hf.ev rfl)) ?_
    refine w_nil (hK12 _ _ _ ?_)
    obtain rfl := some_r H
    refine c_ret ?_
    intro a w' hf hs
    exact hret _ (.inl rfl) a w' hf.df ⟨_, _, Res.of2 rfl (RV.t hf rfl) (RV.t hf rfl), hs.ext, rfl⟩
  · replace H := if_f b11 H
    refine c_skip (hK9 _ _ _ ?_)
    refine c_seq ?_
    intro K13 hK13
    obtain ⟨t14, H1, H⟩ := bnd H
    refine c_cut (fun a' w' => ∃ (M15 : Heap), HLe M5 M15 ∧ Fr 51 [(1, (str p1)), (2, (str p2)), (8, (str t3.1)), (9, (str t3.2.1)), (30, (.bool t14))] a' ∧ St none' M w M15 (lt []) w') ?_ ?_
    · replace H := H1
      clear H1
      refine c_reg ?_
      refine w_val trivial rfl (fun a w hf hs => r_move (hf.ev rfl)) ?_
      refine w_val trivial rfl (fun a w hf hs => r_slen Tryd.underlying9 (hf.ev rfl)) ?_
      refine w_val trivial rfl (fun a w hf hs => r_gtr (hf.ev rfl) (hf.ev rfl)) ?_
      refine w_val trivial rfl (fun a w hf hs => r_move (hf.ev rfl)) ?_
      by_cases b17 : (decide ((1048576 : Int) < (p1.length : Int))) = true
      · replace H := if_t b17 H
        refine w_not (Nwt.of rfl rfl b17) rfl ?_
        refine w_not (Nwt.of rfl rfl b17) rfl ?_
        refine w_not (Nwt.of rfl rfl b17) rfl ?_
        refine w_val trivial rfl (fun a w hf hs => r_pickT (hf.ev rfl) b17 (hf.ev rfl)) ?_
        obtain rfl := some_r H
        refine w_nil ?_
        intro a w' hf hs
        exact ⟨_, (HLe.refl _), (((((hf.nil.add (hf.get _ _ rfl)).add (hf.get _ _ rfl)).add (hf.get _ _ rfl)).add (hf.get _ _ rfl)).add (hf.get _ _ rfl)), hs.sel [] (by decide) rfl⟩
      · replace b17 := Bool.eq_false_iff.2 b17
        replace H := if_f b17 H
        refine w_val (Wnt.of rfl rfl b17) rfl (fun a w hf hs => r_move (hf.ev rfl)) ?_
        refine w_val (Wnt.of rfl rfl b17) rfl (fun a w hf hs => r_slen Tryd.underlying9 (hf.ev rfl)) ?_
        refine w_val (Wnt.of rfl rfl b17) rfl (fun a w hf hs => r_gtr (hf.ev rfl) (hf.ev rfl)) ?_
        refine w_val trivial rfl (fun a w hf hs => r_pickF (hf.ev rfl) b17 (hf.ev rfl)) ?_
        obtain rfl := some_r H
        refine w_nil ?_
        intro a w' hf hs
        exact ⟨_, (HLe.refl _), (((((hf.nil.add (hf.get _ _ rfl)).add (hf.get _ _ rfl)).add (hf.get _ _ rfl)).add (hf.get _ _ rfl)).add (hf.get _ _ rfl)), hs.sel [] (by decide) rfl⟩
    · clear H1
      rintro a w' ⟨M15, l16, hf, hs⟩
      refine c_of (c := (Cx.mk Tryd.prog 51 none' M w)) ?_ hf hs
      clear hf hs
      replace hG := hG.mono l16
      refine c_if rfl (fun b18 => ?_) (fun b18 => ?_)
      · replace H := if_t b18 H
        refine c_seq ?_
        intro K19 hK19
        refine c_reg ?_
        refine w_val trivial rfl (fun a w hf hs => r_assign (hf.ev rfl)) ?_
        refine w_val trivial rfl (fun a w hf hs => r_assign (hf.ev rfl)) ?_
        refine w_nil (hK19 _ _ _ ?_)
        obtain rfl := some_r H
        refine c_ret ?_
        intro a w' hf hs
        exact hret _ (.inl rfl) a w' hf.df ⟨_, _, Res.of2 rfl (RV.t hf rfl) (RV.t hf rfl), hs.ext, rfl⟩
      · replace H := if_f b18 H
        refine c_skip (hK13 _ _ _ ?_)
        refine c_seq ?_
        intro K20 hK20
        refine c_reg ?_
        refine w_val trivial rfl (fun a w hf hs => r_move (hf.ev rfl)) ?_
        refine w_val trivial rfl (fun a w hf hs => r_move (hf.ev rfl)) ?_
        refine w_val trivial rfl (fun a w hf hs => r_move (hf.ev rfl)) ?_
        obtain ⟨t21, e26, H⟩ := bnd H
        refine w_call cf41 trivial rfl rfl (fun w hs => ref04_nonce.calls hs hG t3.2.1 p1 p2 _ e26) ?_
        rintro _ M23 l24 rfl
        replace hG := hG.mono l24
        refine w_val trivial rfl (fun a w hf hs => r_assign (hf.ev rfl)) ?_
        refine w_nil (hK20 _ _ _ ?_)
        refine c_seq ?_
        intro K27 hK27
        refine c_reg ?_
        refine w_val trivial rfl (fun a w hf hs => r_move (hf.ev rfl)) ?_
        refine w_val trivial rfl (fun a w hf hs => r_move (hf.ev rfl)) ?_
        refine w_val trivial rfl (fun a w hf hs => r_move (hf.ev rfl)) ?_
        obtain ⟨t28, e33, H⟩ := bnd H
        refine w_call cf42 trivial rfl rfl (fun w hs => ref03_Xor.calls hs t3.1 (1 : Int) t21 p2 _ e33) ?_
        rintro _ M30 l31 rfl
        replace hG := hG.mono l31
        refine w_val trivial rfl (fun a w hf hs => r_move (hf.ev rfl)) ?_
        refine w_val trivial rfl (fun a w hf hs => r_extract (hf.ev rfl) rfl) ?_
        refine w_val trivial rfl (fun a w hf hs => r_extract (hf.ev rfl) rfl) ?_
        refine w_val trivial rfl (fun a w hf hs => r_assign (hf.ev rfl)) ?_
        refine w_val trivial rfl (fun a w hf hs => r_assign (hf.ev rfl)) ?_
        refine w_nil (hK27 _ _ _ ?_)
        refine c_seq ?_
        intro K34 hK34
        refine c_reg ?_
        refine w_val trivial rfl (fun a w hf hs => r_move (hf.ev rfl)) ?_
        refine w_val trivial rfl (fun a w hf hs => r_move (hf.ev rfl)) ?_
        obtain ⟨g35, H⟩ := grd_s H
        refine w_val trivial rfl (fun a w hf hs => r_sadd (hf.ev rfl) (hf.ev rfl) g35) ?_
        refine w_val trivial rfl (fun a w hf hs => r_move (hf.ev rfl)) ?_
        refine w_val trivial rfl (fun a w hf hs => r_move (hf.ev rfl)) ?_
        refine w_val trivial rfl (fun a w hf hs => r_move (hf.ev rfl)) ?_
        refine w_val trivial rfl (fun a w hf hs => r_move (hf.ev rfl)) ?_
        obtain ⟨t36, e41, H⟩ := bnd H
        refine w_call cf43 trivial rfl rfl (fun w hs => ref04_tag.calls hs hG t3.2.1 t21 p1 t28.1 _ e41) ?_
        rintro _ M38 l39 rfl
        replace hG := hG.mono l39
        obtain ⟨g42, H⟩ := grd_s H
        refine w_val trivial rfl (fun a w hf hs => r_sadd (hf.ev rfl) (hf.ev rfl) g42) ?_
        refine w_val trivial rfl (fun a w hf hs => r_assign (hf.ev rfl)) ?_
        refine w_val trivial rfl (fun a w hf hs => r_assign (hf.ev rfl)) ?_
        refine w_nil (hK34 _ _ _ ?_)
        obtain rfl := some_r H
        refine c_ret ?_
        intro a w' hf hs
        exact hret _ (.inl rfl) a w' hf.df ⟨_, _, Res.of2 rfl (RV.t hf rfl) (RV.t hf rfl), hs.ext, rfl⟩
set_option maxRecDepth 20000 in
theorem law04_sanity.calls {M : Heap} {w : World} (hM : Sub M w) (hG : Gl M)  (r : Bool) (hr_ : r = true) (H : law04_sanity  = some r) :
    Calls Tryd.prog 12 [].toArray w (Post M w fun M' v => v = (.bool r)) := by
  refine enter 109 [] Tryd.func12 rfl rfl rfl hM ?_
  intro Q hret
  unfold law04_sanity at H
  refine c_seq ?_
  intro K1 hK1
  refine c_reg ?_
  refine w_val trivial rfl (fun a w hf hs => r_assign (hf.ev rfl)) ?_
  refine w_nil (hK1 _ _ _ ?_)
  refine c_seq ?_
  intro K2 hK2
  refine c_reg ?_
  obtain ⟨t3, e8, H⟩ := bnd H
  refine w_call cf35 trivial rfl rfl (fun w hs => strings_Repeat.calls hs ([107] : List UInt8) (32 : Int) _ e8) ?_
  rintro _ M5 l6 rfl
  replace hG := hG.mono l6
  refine w_val trivial rfl (fun a w hf hs => r_assign (hf.ev rfl)) ?_
  refine w_nil (hK2 _ _ _ ?_)
  refine c_seq ?_
  intro K9 hK9
  refine c_reg ?_
  refine w_val trivial rfl (fun a w hf hs => r_move (hf.ev rfl)) ?_
  obtain ⟨t10, e15, H⟩ := bnd H
  refine w_call cf15 trivial rfl rfl (fun w hs => seal_Seal.calls hs hG t3 ([97] : List UInt8) ([116, 101, 120, 116] : List UInt8) _ e15) ?_
  rintro _ M12 l13 rfl
  replace hG := hG.mono l13
  refine w_val trivial rfl (fun a w hf hs => r_move (hf.ev rfl)) ?_
  refine w_val trivial rfl (fun a w hf hs => r_extract (hf.ev rfl) rfl) ?_
  refine w_val trivial rfl (fun a w hf hs => r_extract (hf.ev rfl) rfl) ?_
  refine w_val trivial rfl (fun a w hf hs => r_assign (hf.ev rfl)) ?_
  refine w_val trivial rfl (fun a w hf hs => r_assign (hf.ev rfl)) ?_
  refine w_nil (hK9 _ _ _ ?_)
  refine c_seq ?_
  intro K16 hK16
  refine c_reg ?_
  refine w_val trivial rfl (fun a w hf hs => r_move (hf.ev rfl)) ?_
  refine w_val trivial rfl (fun a w hf hs => r_move (hf.ev rfl)) ?_
  obtain ⟨t17, e22, H⟩ := bnd H
  refine w_call cf17 trivial rfl rfl (fun w hs => seal_Open.calls hs hG t3 ([97] : List UInt8) t10.1 _ e22) ?_
  rintro _ M19 l20 rfl
  replace hG := hG.mono l20
  refine w_val trivial rfl (fun a w hf hs => r_move (hf.ev rfl)) ?_
  refine w_val trivial rfl (fun a w hf hs => r_extract (hf.ev rfl) rfl) ?_
  refine w_val trivial rfl (fun a w hf hs => r_extract (hf.ev rfl) rfl) ?_
  refine w_val trivial rfl (fun a w hf hs => r_assign (hf.ev rfl)) ?_
  refine w_val trivial rfl (fun a w hf hs => r_assign (hf.ev rfl)) ?_
  refine w_nil (hK16 _ _ _ ?_)
  refine c_seq ?_
  intro K23 hK23
  refine c_reg ?_
  refine w_val trivial rfl (fun a w hf hs => r_move (hf.ev rfl)) ?_
  refine w_val trivial rfl (fun a w hf hs => r_move (hf.ev rfl)) ?_
  obtain ⟨t24, e29, H⟩ := bnd H
  refine w_call cf17 trivial rfl rfl (fun w hs => seal_Open.calls hs hG t3 ([98] : List UInt8) t10.1 _ e29) ?_
  rintro _ M26 l27 rfl
  replace hG := hG.mono l27
  refine w_val trivial rfl (fun a w hf hs => r_move (hf.ev rfl)) ?_
  refine w_val trivial rfl (fun a w hf hs => r_extract (hf.ev rfl) rfl) ?_
  refine w_val trivial rfl (fun a w hf hs => r_extract (hf.ev rfl) rfl) ?_
  refine w_val trivial rfl (fun a w hf hs => r_assign (hf.ev rfl)) ?_
  refine w_val trivial rfl (fun a w hf hs => r_assign (hf.ev rfl)) ?_
  refine w_nil (hK23 _ _ _ ?_)
  refine c_seq ?_
  intro K30 hK30
  refine c_reg ?_
  refine w_val trivial rfl (fun a w hf hs => r_move (hf.ev rfl)) ?_
  obtain ⟨t31, e36, H⟩ := bnd H
  refine w_call cf35 trivial rfl rfl (fun w hs => strings_Repeat.calls hs ([120] : List UInt8) (27 : Int) _ e36) ?_
  rintro _ M33 l34 rfl
  replace hG := hG.mono l34
  obtain ⟨t37, e42, H⟩ := bnd H
  refine w_call cf17 trivial rfl rfl (fun w hs => seal_Open.calls hs hG t3 ([97] : List UInt8) t31 _ e42) ?_
  rintro _ M39 l40 rfl
  replace hG := hG.mono l40
  refine w_val trivial rfl (fun a w hf hs => r_move (hf.ev rfl)) ?_
  refine w_val trivial rfl (fun a w hf hs => r_extract (hf.ev rfl) rfl) ?_
  refine w_val trivial rfl (fun a w hf hs => r_extract (hf.ev rfl) rfl) ?_
  refine w_val trivial rfl (fun a w hf hs => r_assign (hf.ev rfl)) ?_
  refine w_val trivial rfl (fun a w hf hs => r_assign (hf.ev rfl)) ?_
  refine w_nil (hK30 _ _ _ ?_)
  refine c_seq ?_
  intro K43 hK43
  refine c_reg ?_
  refine w_val trivial rfl (fun a w hf hs => r_move (hf.ev rfl)) ?_
  obtain ⟨g44, H⟩ := grd_s H
  refine w_val trivial rfl (fun a w hf hs => r_sslice Tryd.underlying9 (hf.ev rfl) ⟨_, (hf.ev rfl)⟩ rfl g44.1 g44.2.1 g44.2.2) ?_
  obtain ⟨t45, e50, H⟩ := bnd H
  refine w_call cf15 trivial rfl rfl (fun w hs => seal_Seal.calls hs hG ((t3.take ((t3.length : Int)).toNat).drop ((1 : Int)).toNat) ([97] : List UInt8) ([] : List UInt8) _ e50) ?_
  rintro _ M47 l48 rfl
  replace hG := hG.mono l48
  refine w_val trivial rfl (fun a w hf hs => r_move (hf.ev rfl)) ?_
  refine w_val trivial rfl (fun a w hf hs => r_extract (hf.ev rfl) rfl) ?_
  refine w_val trivial rfl (fun a w hf hs => r_extract (hf.ev rfl) rfl) ?_
  refine w_val trivial rfl (fun a w hf hs => r_assign (hf.ev rfl)) ?_
  refine w_val trivial rfl (fun a w hf hs => r_assign (hf.ev rfl)) ?_
  refine w_nil (hK43 _ _ _ ?_)
  refine c_seq ?_
  intro K51 hK51
  refine c_reg ?_
  refine w_val trivial rfl (fun a w hf hs => r_move (hf.ev rfl)) ?_
  obtain ⟨t52, e57, H⟩ := bnd H
  refine w_call cf13 trivial rfl rfl (fun w hs => seal_Keys.calls hs hG t3 _ e57) ?_
  rintro _ M54 l55 rfl
  replace hG := hG.mono l55
  refine w_val trivial rfl (fun a w hf hs => r_move (hf.ev rfl)) ?_
  refine w_val trivial rfl (fun a w hf hs => r_extract (hf.ev rfl) rfl) ?_
  refine w_val trivial rfl (fun a w hf hs => r_extract (hf.ev rfl) rfl) ?_
  refine w_val trivial rfl (fun a w hf hs => r_extract (hf.ev rfl) rfl) ?_
  refine w_val trivial rfl (fun a w hf hs => r_assign (hf.ev rfl)) ?_
  refine w_val trivial rfl (fun a w hf hs => r_assign (hf.ev rfl)) ?_
  refine w_val trivial rfl (fun a w hf hs => r_assign (hf.ev rfl)) ?_
  refine w_nil (hK51 _ _ _ ?_)
  refine c_seq ?_
  intro K58 hK58
  refine c_reg ?_
  refine w_val trivial rfl (fun a w hf hs => r_move (hf.ev rfl)) ?_
  obtain ⟨t59, e64, H⟩ := bnd H
  refine w_call cf16 trivial rfl rfl (fun w hs => ref04_Seal.calls hs hG t3 ([97] : List UInt8) ([116, 101, 120, 116] : List UInt8) _ e64) ?_
  rintro _ M61 l62 rfl
  replace hG := hG.mono l62
  refine w_val trivial rfl (fun a w hf hs => r_move (hf.ev rfl)) ?_
  refine w_val trivial rfl (fun a w hf hs => r_extract (hf.ev rfl) rfl) ?_
  refine w_val trivial rfl (fun a w hf hs => r_extract (hf.ev rfl) rfl) ?_
  refine w_val trivial rfl (fun a w hf hs => r_assign (hf.ev rfl)) ?_
  refine w_val trivial rfl (fun a w hf hs => r_assign (hf.ev rfl)) ?_
  refine w_nil (hK58 _ _ _ ?_)
  obtain ⟨t65, H1, H⟩ := bnd H
  have ht_ := (some_r H).trans hr_
  refine c_cut (fun a' w' => ∃ (M66 : Heap), HLe M61 M66 ∧ Fr 109 [(0, (.bool t65))] a' ∧ St none' M w M66 (lt []) w') ?_ ?_
  · replace H := H1
    clear H1
    refine c_reg ?_
    refine w_val trivial rfl (fun a w hf hs => r_move (hf.ev rfl)) ?_
    refine w_val trivial rfl (fun a w hf hs => r_slen Tryd.underlying9 (hf.ev rfl)) ?_
    refine w_val trivial rfl (fun a w hf hs => r_eql (hf.ev rfl) (hf.ev rfl)) ?_
    refine w_val trivial rfl (fun a w hf hs => r_move (hf.ev rfl)) ?_
    by_cases b79 : ((t10.1.length : Int) == (32 : Int)) = true
    · replace H := if_t b79 H
      refine w_val (Wnt.of rfl rfl b79) rfl (fun a w hf hs => r_move (hf.ev rfl)) ?_
      refine w_val (Wnt.of rfl rfl b79) rfl (fun a w hf hs => r_move (hf.ev rfl)) ?_
      refine w_val (Wnt.of rfl rfl b79) rfl (fun a w hf hs => r_seql (hf.ev rfl) (hf.ev rfl)) ?_
      refine w_val trivial rfl (fun a w hf hs => r_pickT (hf.ev rfl) b79 (hf.ev rfl)) ?_
      refine w_val trivial rfl (fun a w hf hs => r_move (hf.ev rfl)) ?_
      by_cases b80 : (t10.1 == t59.1) = true
      · replace H := if_t b80 H
        refine w_val (Wnt.of rfl rfl b80) rfl (fun a w hf hs => r_move (hf.ev rfl)) ?_
        refine w_val (Wnt.of rfl rfl b80) rfl (fun a w hf hs => r_eql (hf.ev rfl) (hf.ev rfl)) ?_
        refine w_val trivial rfl (fun a w hf hs => r_pickT (hf.ev rfl) b80 (hf.ev rfl)) ?_
        refine w_val trivial rfl (fun a w hf hs => r_move (hf.ev rfl)) ?_
        by_cases b81 : (t10.2 == (0 : Int)) = true
        · replace H := if_t b81 H
          refine w_val (Wnt.of rfl rfl b81) rfl (fun a w hf hs => r_move (hf.ev rfl)) ?_
          refine w_val (Wnt.of rfl rfl b81) rfl (fun a w hf hs => r_seql (hf.ev rfl) (hf.ev rfl)) ?_
          refine w_val trivial rfl (fun a w hf hs => r_pickT (hf.ev rfl) b81 (hf.ev rfl)) ?_
          refine w_val trivial rfl (fun a w hf hs => r_move (hf.ev rfl)) ?_
          by_cases b82 : (t17.1 == ([116, 101, 120, 116] : List UInt8)) = true
          · replace H := if_t b82 H
            refine w_val (Wnt.of rfl rfl b82) rfl (fun a w hf hs => r_move (hf.ev rfl)) ?_
            refine w_val (Wnt.of rfl rfl b82) rfl (fun a w hf hs => r_eql (hf.ev rfl) (hf.ev rfl)) ?_
            refine w_val trivial rfl (fun a w hf hs => r_pickT (hf.ev rfl) b82 (hf.ev rfl)) ?_
            refine w_val trivial rfl (fun a w hf hs => r_move (hf.ev rfl)) ?_
            by_cases b83 : (t17.2 == (0 : Int)) = true
            · replace H := if_t b83 H
              refine w_val (Wnt.of rfl rfl b83) rfl (fun a w hf hs => r_move (hf.ev rfl)) ?_
              refine w_val (Wnt.of rfl rfl b83) rfl (fun a w hf hs => r_eql (hf.ev rfl) (hf.ev rfl)) ?_
              refine w_val trivial rfl (fun a w hf hs => r_pickT (hf.ev rfl) b83 (hf.ev rfl)) ?_
              refine w_val trivial rfl (fun a w hf hs => r_move (hf.ev rfl)) ?_
              by_cases b84 : (t24.2 == (8 : Int)) = true
              · replace H := if_t b84 H
                refine w_val (Wnt.of rfl rfl b84) rfl (fun a w hf hs => r_move (hf.ev rfl)) ?_
                refine w_val (Wnt.of rfl rfl b84) rfl (fun a w hf hs => r_eql (hf.ev rfl) (hf.ev rfl)) ?_
                refine w_val trivial rfl (fun a w hf hs => r_pickT (hf.ev rfl) b84 (hf.ev rfl)) ?_
                refine w_val trivial rfl (fun a w hf hs => r_move (hf.ev rfl)) ?_
                by_cases b85 : (t37.2 == (5 : Int)) = true
                · replace H := if_t b85 H
                  refine w_val (Wnt.of rfl rfl b85) rfl (fun a w hf hs => r_move (hf.ev rfl)) ?_
                  refine w_val (Wnt.of rfl rfl b85) rfl (fun a w hf hs => r_eql (hf.ev rfl) (hf.ev rfl)) ?_
                  refine w_val trivial rfl (fun a w hf hs => r_pickT (hf.ev rfl) b85 (hf.ev rfl)) ?_
                  refine w_val trivial rfl (fun a w hf hs => r_move (hf.ev rfl)) ?_
                  by_cases b86 : (t45.2 == (1 : Int)) = true
                  · replace H := if_t b86 H
                    refine w_val (Wnt.of rfl rfl b86) rfl (fun a w hf hs => r_move (hf.ev rfl)) ?_
                    refine w_val (Wnt.of rfl rfl b86) rfl (fun a w hf hs => r_slen Tryd.underlying9 (hf.ev rfl)) ?_
                    refine w_val (Wnt.of rfl rfl b86) rfl (fun a w hf hs => r_eql (hf.ev rfl) (hf.ev rfl)) ?_
                    refine w_val trivial rfl (fun a w hf hs => r_pickT (hf.ev rfl) b86 (hf.ev rfl)) ?_
                    refine w_val trivial rfl (fun a w hf hs => r_move (hf.ev rfl)) ?_
                    by_cases b87 : ((t52.1.length : Int) == (32 : Int)) = true
                    · replace H := if_t b87 H
                      refine w_val (Wnt.of rfl rfl b87) rfl (fun a w hf hs => r_move (hf.ev rfl)) ?_
                      refine w_val (Wnt.of rfl rfl b87) rfl (fun a w hf hs => r_slen Tryd.underlying9 (hf.ev rfl)) ?_
                      refine w_val (Wnt.of rfl rfl b87) rfl (fun a w hf hs => r_eql (hf.ev rfl) (hf.ev rfl)) ?_
                      refine w_val trivial rfl (fun a w hf hs => r_pickT (hf.ev rfl) b87 (hf.ev rfl)) ?_
                      refine w_val trivial rfl (fun a w hf hs => r_move (hf.ev rfl)) ?_
                      by_cases b88 : ((t52.2.1.length : Int) == (32 : Int)) = true
                      · replace H := if_t b88 H
                        refine w_val (Wnt.of rfl rfl b88) rfl (fun a w hf hs => r_move (hf.ev rfl)) ?_
                        refine w_val (Wnt.of rfl rfl b88) rfl (fun a w hf hs => r_move (hf.ev rfl)) ?_
                        refine w_val (Wnt.of rfl rfl b88) rfl (fun a w hf hs => r_sneq (hf.ev rfl) (hf.ev rfl)) ?_
                        refine w_val trivial rfl (fun a w hf hs => r_pickT (hf.ev rfl) b88 (hf.ev rfl)) ?_
                        refine w_val trivial rfl (fun a w hf hs => r_move (hf.ev rfl)) ?_
                        by_cases b89 : (!(t52.1 == t52.2.1)) = true
                        · replace H := if_t b89 H
                          refine w_val (Wnt.of rfl rfl b89) rfl (fun a w hf hs => r_move (hf.ev rfl)) ?_
                          refine w_val (Wnt.of rfl rfl b89) rfl (fun a w hf hs => r_eql (hf.ev rfl) (hf.ev rfl)) ?_
                          refine w_val trivial rfl (fun a w hf hs => r_pickT (hf.ev rfl) b89 (hf.ev rfl)) ?_
                          refine w_val trivial rfl (fun a w hf hs => r_assign (hf.ev rfl)) ?_
                          obtain rfl := some_r H
                          refine w_nil ?_
                          intro a w' hf hs
                          exact ⟨_, (HLe.refl _), (hf.nil.add (hf.get _ _ rfl)), hs.sel [] (by decide) rfl⟩
                        · replace b89 := Bool.eq_false_iff.2 b89
                          replace H := if_f b89 H
                          exact absurd ((some_r H).trans ht_) (by decide)
                      · replace b88 := Bool.eq_false_iff.2 b88
                        replace H := if_f b88 H
                        exact absurd ((some_r H).trans ht_) (by decide)
                    · replace b87 := Bool.eq_false_iff.2 b87
                      replace H := if_f b87 H
                      exact absurd ((some_r H).trans ht_) (by decide)
                  · replace b86 := Bool.eq_false_iff.2 b86
                    replace H := if_f b86 H
                    exact absurd ((some_r H).trans ht_) (by decide)
                · replace b85 := Bool.eq_false_iff.2 b85
                  replace H := if_f b85 H
                  exact absurd ((some_r H).trans ht_) (by decide)
              · replace b84 := Bool.eq_false_iff.2 b84
                replace H := if_f b84 H
                exact absurd ((some_r H).trans ht_) (by decide)
            · replace b83 := Bool.eq_false_iff.2 b83
              replace H := if_f b83 H
              exact absurd ((some_r H).trans ht_) (by decide)
          · replace b82 := Bool.eq_false_iff.2 b82
            replace H := if_f b82 H
            exact absurd ((some_r H).trans ht_) (by decide)
        · replace b81 := Bool.eq_false_iff.2 b81
          replace H := if_f b81 H
          exact absurd ((some_r H).trans ht_) (by decide)
      · replace b80 := Bool.eq_false_iff.2 b80
        replace H := if_f b80 H
        exact absurd ((some_r H).trans ht_) (by decide)
    · replace b79 := Bool.eq_false_iff.2 b79
      replace H := if_f b79 H
      exact absurd ((some_r H).trans ht_) (by decide)
  · clear H1 ht_
    rintro a w' ⟨M66, l67, hf, hs⟩
    refine c_of (c := (Cx.mk Tryd.prog 109 none' M w)) ?_ hf hs
    clear hf hs
    replace hG := hG.mono l67
    obtain rfl := some_r H
    refine c_ret ?_
    intro a w' hf hs
    exact hret _ (.inl rfl) a w' hf.df ⟨_, _, Res.of1 rfl (RV.t hf rfl), hs.ext, rfl⟩
set_option maxRecDepth 20000 in
theorem law04_SealMatchesSpec.calls {M : Heap} {w : World} (hM : Sub M w) (hG : Gl M) (hs_law04_sanity : ∀ t, law04_sanity = some t → t = true) (p0 : (List UInt8)) (p1 : (List UInt8)) (p2 : (List UInt8)) (r : Bool) (hr_ : r = true) (H : law04_SealMatchesSpec p0 p1 p2 = some r) :
    Calls Tryd.prog 3 [(str p0), (str p1), (str p2)].toArray w (Post M w fun M' v => v = (.bool r)) := by
  refine enter 76 [(0, (str p0)), (1, (str p1)), (2, (str p2))] Tryd.func3 rfl rfl rfl hM ?_
  intro Q hret
  unfold law04_SealMatchesSpec at H
  refine c_seq ?_
  intro K1 hK1
  refine c_reg ?_
  refine w_val trivial rfl (fun a w hf hs => r_assign (hf.ev rfl)) ?_
  refine w_nil (hK1 _ _ _ ?_)
  refine c_seq ?_
  intro K2 hK2
  refine c_seq ?_
  intro K3 hK3
  refine c_reg ?_
  refine w_val trivial rfl (fun a w hf hs => r_move (hf.ev rfl)) ?_
  refine w_val trivial rfl (fun a w hf hs => r_move (hf.ev rfl)) ?_
  refine w_val trivial rfl (fun a w hf hs => r_move (hf.ev rfl)) ?_
  refine w_bsl (F := FS) (es := ([p0, p1, p2] : List (List UInt8))) (xs := [.tmp 17, .tmp 18, .tmp 19]) (vs := [(str p0), (str p1), (str p2)]) Tryd.underlying63 te9 trivial rfl rfl rfl rfl rfl (by decide) ?_
  intro v4 M5 l6 h7 c8
  replace hG := hG.mono l6
  obtain ⟨t9, e14, H⟩ := bnd H
  refine w_call cf11 trivial rfl rfl (fun w hs => law04_few.calls hs ([p0, p1, p2] : List (List UInt8)) v4 h7 _ e14) ?_
  rintro _ M11 l12 rfl
  replace hG := hG.mono l12
  replace h7 := h7.mono l12
  refine w_val trivial rfl (fun a w hf hs => r_not (hf.ev rfl)) ?_
  refine w_nil (hK3 _ _ _ ?_)
  refine c_if rfl (fun b15 => ?_) (fun b15 => ?_)
  · replace H := if_t b15 H
    refine c_seq ?_
    intro K16 hK16
    refine c_reg ?_
    obtain ⟨t17, e22, H⟩ := bnd H
    refine w_call cf12 trivial rfl rfl (fun w hs => law04_sanity.calls hs hG  _ (hs_law04_sanity _ e22) e22) ?_
    rintro _ M19 l20 rfl
    replace hG := hG.mono l20
    replace h7 := h7.mono l20
    refine w_val trivial rfl (fun a w hf hs => r_assign (hf.ev rfl)) ?_
    refine w_nil (hK16 _ _ _ ?_)
    obtain rfl := some_r H
    refine c_ret ?_
    intro a w' hf hs
    exact hret _ (.inl rfl) a w' hf.df ⟨_, _, Res.of1 rfl (RV.t hf rfl), hs.ext, rfl⟩
  · replace H := if_f b15 H
    refine c_skip (hK2 _ _ _ ?_)
    refine c_seq ?_
    intro K23 hK23
    refine c_reg ?_
    refine w_val trivial rfl (fun a w hf hs => r_move (hf.ev rfl)) ?_
    obtain ⟨t24, e29, H⟩ := bnd H
    refine w_call cf13 trivial rfl rfl (fun w hs => seal_Keys.calls hs hG p0 _ e29) ?_
    rintro _ M26 l27 rfl
    replace hG := hG.mono l27
    replace h7 := h7.mono l27
    refine w_val trivial rfl (fun a w hf hs => r_move (hf.ev rfl)) ?_
    refine w_val trivial rfl (fun a w hf hs => r_extract (hf.ev rfl) rfl) ?_
    refine w_val trivial rfl (fun a w hf hs => r_extract (hf.ev rfl) rfl) ?_
    refine w_val trivial rfl (fun a w hf hs => r_extract (hf.ev rfl) rfl) ?_
    refine w_val trivial rfl (fun a w hf hs => r_assign (hf.ev rfl)) ?_
    refine w_val trivial rfl (fun a w hf hs => r_assign (hf.ev rfl)) ?_
    refine w_val trivial rfl (fun a w hf hs => r_assign (hf.ev rfl)) ?_
    refine w_nil (hK23 _ _ _ ?_)
    refine c_seq ?_
    intro K30 hK30
    refine c_reg ?_
    refine w_val trivial rfl (fun a w hf hs => r_move (hf.ev rfl)) ?_
    obtain ⟨t31, e36, H⟩ := bnd H
    refine w_call cf14 trivial rfl rfl (fun w hs => ref04_Keys.calls hs hG p0 _ e36) ?_
    rintro _ M33 l34 rfl
    replace hG := hG.mono l34
    replace h7 := h7.mono l34
    refine w_val trivial rfl (fun a w hf hs => r_move (hf.ev rfl)) ?_
    refine w_val trivial rfl (fun a w hf hs => r_extract (hf.ev rfl) rfl) ?_
    refine w_val trivial rfl (fun a w hf hs => r_extract (hf.ev rfl) rfl) ?_
    refine w_val trivial rfl (fun a w hf hs => r_extract (hf.ev rfl) rfl) ?_
    refine w_val trivial rfl (fun a w hf hs => r_assign (hf.ev rfl)) ?_
    refine w_val trivial rfl (fun a w hf hs => r_assign (hf.ev rfl)) ?_
    refine w_val trivial rfl (fun a w hf hs => r_assign (hf.ev rfl)) ?_
    refine w_nil (hK30 _ _ _ ?_)
    refine c_seq ?_
    intro K37 hK37
    refine c_reg ?_
    refine w_val trivial rfl (fun a w hf hs => r_move (hf.ev rfl)) ?_
    refine w_val trivial rfl (fun a w hf hs => r_move (hf.ev rfl)) ?_
    refine w_val trivial rfl (fun a w hf hs => r_move (hf.ev rfl)) ?_
    obtain ⟨t38, e43, H⟩ := bnd H
    refine w_call cf15 trivial rfl rfl (fun w hs => seal_Seal.calls hs hG p0 p1 p2 _ e43) ?_
    rintro _ M40 l41 rfl
    replace hG := hG.mono l41
    replace h7 := h7.mono l41
    refine w_val trivial rfl (fun a w hf hs => r_move (hf.ev rfl)) ?_
    refine w_val trivial rfl (fun a w hf hs => r_extract (hf.ev rfl) rfl) ?_
    refine w_val trivial rfl (fun a w hf hs => r_extract (hf.ev rfl) rfl) ?_
    refine w_val trivial rfl (fun a w hf hs => r_assign (hf.ev rfl)) ?_
    refine w_val trivial rfl (fun a w hf hs => r_assign (hf.ev rfl)) ?_
    refine w_nil (hK37 _ _ _ ?_)
    refine c_seq ?_
    intro K44 hK44
    refine c_reg ?_
    refine w_val trivial rfl (fun a w hf hs => r_move (hf.ev rfl)) ?_
    refine w_val trivial rfl (fun a w hf hs => r_move (hf.ev rfl)) ?_
    refine w_val trivial rfl (fun a w hf hs => r_move (hf.ev rfl)) ?_
    obtain ⟨t45, e50, H⟩ := bnd H
    refine w_call cf16 trivial rfl rfl (fun w hs => ref04_Seal.calls hs hG p0 p1 p2 _ e50) ?_
    rintro _ M47 l48 rfl
    replace hG := hG.mono l48
    replace h7 := h7.mono l48
    refine w_val trivial rfl (fun a w hf hs => r_move (hf.ev rfl)) ?_
    refine w_val trivial rfl (fun a w hf hs => r_extract (hf.ev rfl) rfl) ?_
    refine w_val trivial rfl (fun a w hf hs => r_extract (hf.ev rfl) rfl) ?_
    refine w_val trivial rfl (fun a w hf hs => r_assign (hf.ev rfl)) ?_
    refine w_val trivial rfl (fun a w hf hs => r_assign (hf.ev rfl)) ?_
    refine w_nil (hK44 _ _ _ ?_)
    obtain ⟨t51, H1, H⟩ := bnd H
    have ht_ := (some_r H).trans hr_
    refine c_cut (fun a' w' => ∃ (M52 : Heap), HLe M47 M52 ∧ Fr 76 [(6, (.bool t51))] a' ∧ St none' M w M52 (lt []) w') ?_ ?_
    · replace H := H1
      clear H1
      refine c_reg ?_
      obtain ⟨t65, e70, H⟩ := bnd H
      refine w_call cf12 trivial rfl rfl (fun w hs => law04_sanity.calls hs hG  _ (hs_law04_sanity _ e70) e70) ?_
      rintro _ M67 l68 rfl
      replace hG := hG.mono l68
      replace h7 := h7.mono l68
      refine w_val trivial rfl (fun a w hf hs => r_move (hf.ev rfl)) ?_
      by_cases b71 : t65 = true
      · replace H := if_t b71 H
        refine w_val (Wnt.of rfl rfl b71) rfl (fun a w hf hs => r_move (hf.ev rfl)) ?_
        refine w_val (Wnt.of rfl rfl b71) rfl (fun a w hf hs => r_move (hf.ev rfl)) ?_
        refine w_val (Wnt.of rfl rfl b71) rfl (fun a w hf hs => r_seql (hf.ev rfl) (hf.ev rfl)) ?_
        refine w_val trivial rfl (fun a w hf hs => r_pickT (hf.ev rfl) b71 (hf.ev rfl)) ?_
        refine w_val trivial rfl (fun a w hf hs => r_move (hf.ev rfl)) ?_
        by_cases b72 : (t24.1 == t31.1) = true
        · replace H := if_t b72 H
          refine w_val (Wnt.of rfl rfl b72) rfl (fun a w hf hs => r_move (hf.ev rfl)) ?_
          refine w_val (Wnt.of rfl rfl b72) rfl (fun a w hf hs => r_move (hf.ev rfl)) ?_
          refine w_val (Wnt.of rfl rfl b72) rfl (fun a w hf hs => r_seql (hf.ev rfl) (hf.ev rfl)) ?_
          refine w_val trivial rfl (fun a w hf hs => r_pickT (hf.ev rfl) b72 (hf.ev rfl)) ?_
          refine w_val trivial rfl (fun a w hf hs => r_move (hf.ev rfl)) ?_
          by_cases b73 : (t24.2.1 == t31.2.1) = true
          · replace H := if_t b73 H
            refine w_val (Wnt.of rfl rfl b73) rfl (fun a w hf hs => r_move (hf.ev rfl)) ?_
            refine w_val (Wnt.of rfl rfl b73) rfl (fun a w hf hs => r_move (hf.ev rfl)) ?_
            refine w_val (Wnt.of rfl rfl b73) rfl (fun a w hf hs => r_eql (hf.ev rfl) (hf.ev rfl)) ?_
            refine w_val trivial rfl (fun a w hf hs => r_pickT (hf.ev rfl) b73 (hf.ev rfl)) ?_
            refine w_val trivial rfl (fun a w hf hs => r_move (hf.ev rfl)) ?_
            by_cases b74 : (t24.2.2 == t31.2.2) = true
            · replace H := if_t b74 H
              refine w_val (Wnt.of rfl rfl b74) rfl (fun a w hf hs => r_move (hf.ev rfl)) ?_
              refine w_val (Wnt.of rfl rfl b74) rfl (fun a w hf hs => r_move (hf.ev rfl)) ?_
              refine w_val (Wnt.of rfl rfl b74) rfl (fun a w hf hs => r_seql (hf.ev rfl) (hf.ev rfl)) ?_
              refine w_val trivial rfl (fun a w hf hs => r_pickT (hf.ev rfl) b74 (hf.ev rfl)) ?_
              refine w_val trivial rfl (fun a w hf hs => r_move (hf.ev rfl)) ?_
              by_cases b75 : (t38.1 == t45.1) = true
              · replace H := if_t b75 H
                refine w_val (Wnt.of rfl rfl b75) rfl (fun a w hf hs => r_move (hf.ev rfl)) ?_
                refine w_val (Wnt.of rfl rfl b75) rfl (fun a w hf hs => r_move (hf.ev rfl)) ?_
                refine w_val (Wnt.of rfl rfl b75) rfl (fun a w hf hs => r_eql (hf.ev rfl) (hf.ev rfl)) ?_
                refine w_val trivial rfl (fun a w hf hs => r_pickT (hf.ev rfl) b75 (hf.ev rfl)) ?_
                refine w_val trivial rfl (fun a w hf hs => r_assign (hf.ev rfl)) ?_
                obtain rfl := some_r H
                refine w_nil ?_
                intro a w' hf hs
                exact ⟨_, l68, (hf.nil.add (hf.get _ _ rfl)), hs.sel [] (by decide) rfl⟩
              · replace b75 := Bool.eq_false_iff.2 b75
                replace H := if_f b75 H
                exact absurd ((some_r H).trans ht_) (by decide)
            · replace b74 := Bool.eq_false_iff.2 b74
              replace H := if_f b74 H
              exact absurd ((some_r H).trans ht_) (by decide)
          · replace b73 := Bool.eq_false_iff.2 b73
            replace H := if_f b73 H
            exact absurd ((some_r H).trans ht_) (by decide)
        · replace b72 := Bool.eq_false_iff.2 b72
          replace H := if_f b72 H
          exact absurd ((some_r H).trans ht_) (by decide)
      · replace b71 := Bool.eq_false_iff.2 b71
        replace H := if_f b71 H
        exact absurd ((some_r H).trans ht_) (by decide)
    · clear H1 ht_
      rintro a w' ⟨M52, l53, hf, hs⟩
      refine c_of (c := (Cx.mk Tryd.prog 76 none' M w)) ?_ hf hs
      clear hf hs
      replace hG := hG.mono l53
      replace h7 := h7.mono l53
      obtain rfl := some_r H
      refine c_ret ?_
      intro a w' hf hs
      exact hret _ (.inl rfl) a w' hf.df ⟨_, _, Res.of1 rfl (RV.t hf rfl), hs.ext, rfl⟩
set_option maxRecDepth 20000 in
theorem ref04_Open.calls {M : Heap} {w : World} (hM : Sub M w) (hG : Gl M) (p0 : (List UInt8)) (p1 : (List UInt8)) (p2 : (List UInt8)) (r : ((List UInt8) × Int)) (H : ref04_Open p0 p1 p2 = some r) :
    Calls Tryd.prog 18 [(str p0), (str p1), (str p2)].toArray w (Post M w fun M' v => v = .tuple #[(str r.1), (.int .i64 r.2)]) := by
  refine enter 67 [(0, (str p0)), (1, (str p1)), (2, (str p2))] Tryd.func18 rfl rfl rfl hM ?_
  intro Q hret
  unfold ref04_Open at H
  refine c_seq ?_
  intro K1 hK1
  refine c_reg ?_
  refine w_val trivial rfl (fun a w hf hs => r_assign (hf.ev rfl)) ?_
  refine w_val trivial rfl (fun a w hf hs => r_assign (hf.ev rfl)) ?_
  refine w_nil (hK1 _ _ _ ?_)
  refine c_seq ?_
  intro K2 hK2
  refine c_reg ?_
  refine w_val trivial rfl (fun a w hf hs => r_move (hf.ev rfl)) ?_
  obtain ⟨t3, e8, H⟩ := bnd H
  refine w_call cf14 trivial rfl rfl (fun w hs => ref04_Keys.calls hs hG p0 _ e8) ?_
  rintro _ M5 l6 rfl
  replace hG := hG.mono l6
  refine w_val trivial rfl (fun a w hf hs => r_move (hf.ev rfl)) ?_
  refine w_val trivial rfl (fun a w hf hs => r_extract (hf.ev rfl) rfl) ?_
  refine w_val trivial rfl (fun a w hf hs => r_extract (hf.ev rfl) rfl) ?_
  refine w_val trivial rfl (fun a w hf hs => r_extract (hf.ev rfl) rfl) ?_
  refine w_val trivial rfl (fun a w hf hs => r_assign (hf.ev rfl)) ?_
  refine w_val trivial rfl (fun a w hf hs => r_assign (hf.ev rfl)) ?_
  refine w_val trivial rfl (fun a w hf hs => r_assign (hf.ev rfl)) ?_
  refine w_nil (hK2 _ _ _ ?_)
  refine c_seq ?_
  intro K9 hK9
  refine c_seq ?_
  intro K10 hK10
  refine c_reg ?_
  refine w_val trivial rfl (fun a w hf hs => r_move (hf.ev rfl)) ?_
  refine w_val trivial rfl (fun a w hf hs => r_neq (hf.ev rfl) (hf.ev rfl)) ?_
  refine w_nil (hK10 _ _ _ ?_)
  refine c_if rfl (fun b11 => ?_) (fun b11 => ?_)
  · replace H := if_t b11 H
    refine c_seq ?_
    intro K12 hK12
    refine c_reg ?_
    refine w_val trivial rfl (fun a w hf hs => r_move (hf.ev rfl)) ?_
    refine w_val trivial rfl (fun a w hf hs => r_assign (hf.ev rfl)) ?_
    refine w_val trivial rfl (fun a w hf hs => r_assign (hf.ev rfl)) ?_
    refine w_nil (hK12 _ _ _ ?_)
    obtain rfl := some_r H
    refine c_ret ?_
    intro a w' hf hs
    exact hret _ (.inl rfl) a w' hf.df ⟨_, _, Res.of2 rfl (RV.t hf rfl) (RV.t hf rfl), hs.ext, rfl⟩
  · replace H := if_f b11 H
    refine c_skip (hK9 _ _ _ ?_)
    refine c_seq ?_
    intro K13 hK13
    obtain ⟨t14, H1, H⟩ := bnd H
    refine c_cut (fun a' w' => ∃ (M15 : Heap), HLe M5 M15 ∧ Fr 67 [(1, (str p1)), (2, (str p2)), (8, (str t3.1)), (9, (str t3.2.1)), (31, (.bool t14))] a' ∧ St none' M w M15 (lt []) w') ?_ ?_
    · replace H := H1
      clear H1
      refine c_reg ?_
      refine w_val trivial rfl (fun a w hf hs => r_move (hf.ev rfl)) ?_
      refine w_val trivial rfl (fun a w hf hs => r_slen Tryd.underlying9 (hf.ev rfl)) ?_
      refine w_val trivial rfl (fun a w hf hs => r_gtr (hf.ev rfl) (hf.ev rfl)) ?_
      refine w_val trivial rfl (fun a w hf hs => r_move (hf.ev rfl)) ?_
      by_cases b17 : (decide ((1048576 : Int) < (p1.length : Int))) = true
      · replace H := if_t b17 H
        refine w_not (Nwt.of rfl rfl b17) rfl ?_
        refine w_not (Nwt.of rfl rfl b17) rfl ?_
        refine w_not (Nwt.of rfl rfl b17) rfl ?_
        refine w_val trivial rfl (fun a w hf hs => r_pickT (hf.ev rfl) b17 (hf.ev rfl)) ?_
        obtain rfl := some_r H
        refine w_nil ?_
        intro a w' hf hs
        exact ⟨_, (HLe.refl _), (((((hf.nil.add (hf.get _ _ rfl)).add (hf.get _ _ rfl)).add (hf.get _ _ rfl)).add (hf.get _ _ rfl)).add (hf.get _ _ rfl)), hs.sel [] (by decide) rfl⟩
      · replace b17 := Bool.eq_false_iff.2 b17
        replace H := if_f b17 H
        refine w_val (Wnt.of rfl rfl b17) rfl (fun a w hf hs => r_move (hf.ev rfl)) ?_
        refine w_val (Wnt.of rfl rfl b17) rfl (fun a w hf hs => r_slen Tryd.underlying9 (hf.ev rfl)) ?_
        refine w_val (Wnt.of rfl rfl b17) rfl (fun a w hf hs => r_gtr (hf.ev rfl) (hf.ev rfl)) ?_
        refine w_val trivial rfl (fun a w hf hs => r_pickF (hf.ev rfl) b17 (hf.ev rfl)) ?_
        obtain rfl := some_r H
        refine w_nil ?_
        intro a w' hf hs
        exact ⟨_, (HLe.refl _), (((((hf.nil.add (hf.get _ _ rfl)).add (hf.get _ _ rfl)).add (hf.get _ _ rfl)).add (hf.get _ _ rfl)).add (hf.get _ _ rfl)), hs.sel [] (by decide) rfl⟩
    · clear H1
      rintro a w' ⟨M15, l16, hf, hs⟩
      refine c_of (c := (Cx.mk Tryd.prog 67 none' M w)) ?_ hf hs
      clear hf hs
      replace hG := hG.mono l16
      refine c_if rfl (fun b18 => ?_) (fun b18 => ?_)
      · replace H := if_t b18 H
        refine c_seq ?_
        intro K19 hK19
        refine c_reg ?_
        refine w_val trivial rfl (fun a w hf hs => r_assign (hf.ev rfl)) ?_
        refine w_val trivial rfl (fun a w hf hs => r_assign (hf.ev rfl)) ?_
        refine w_nil (hK19 _ _ _ ?_)
        obtain rfl := some_r H
        refine c_ret ?_
        intro a w' hf hs
        exact hret _ (.inl rfl) a w' hf.df ⟨_, _, Res.of2 rfl (RV.t hf rfl) (RV.t hf rfl), hs.ext, rfl⟩
      · replace H := if_f b18 H
        refine c_skip (hK13 _ _ _ ?_)
        refine c_seq ?_
        intro K20 hK20
        refine c_seq ?_
        intro K21 hK21
        refine c_reg ?_
        refine w_val trivial rfl (fun a w hf hs => r_move (hf.ev rfl)) ?_
        refine w_val trivial rfl (fun a w hf hs => r_slen Tryd.underlying9 (hf.ev rfl)) ?_
        refine w_val trivial rfl (fun a w hf hs => r_lss (hf.ev rfl) (hf.ev rfl)) ?_
        refine w_nil (hK21 _ _ _ ?_)
        refine c_if rfl (fun b22 => ?_) (fun b22 => ?_)
        · replace H := if_t b22 H
          refine c_seq ?_
          intro K23 hK23
          refine c_reg ?_
          refine w_val trivial rfl (fun a w hf hs => r_assign (hf.ev rfl)) ?_
          refine w_val trivial rfl (fun a w hf hs => r_assign (hf.ev rfl)) ?_
          refine w_nil (hK23 _ _ _ ?_)
          obtain rfl := some_r H
          refine c_ret ?_
          intro a w' hf hs
          exact hret _ (.inl rfl) a w' hf.df ⟨_, _, Res.of2 rfl (RV.t hf rfl) (RV.t hf rfl), hs.ext, rfl⟩
        · replace H := if_f b22 H
          refine c_skip (hK20 _ _ _ ?_)
          refine c_seq ?_
          intro K24 hK24
          refine c_reg ?_
          refine w_val trivial rfl (fun a w hf hs => r_move (hf.ev rfl)) ?_
          obtain ⟨g25, H⟩ := grd_s H
          refine w_val trivial rfl (fun a w hf hs => r_sslice Tryd.underlying9 (hf.ev rfl) rfl ⟨_, (hf.ev rfl)⟩ g25.1 g25.2.1 g25.2.2) ?_
          refine w_val trivial rfl (fun a w hf hs => r_assign (hf.ev rfl)) ?_
          refine w_nil (hK24 _ _ _ ?_)
          refine c_seq ?_
          intro K26 hK26
          refine c_reg ?_
          refine w_val trivial rfl (fun a w hf hs => r_move (hf.ev rfl)) ?_
          refine w_val trivial rfl (fun a w hf hs => r_move (hf.ev rfl)) ?_
          refine w_val trivial rfl (fun a w hf hs => r_slen Tryd.underlying9 (hf.ev rfl)) ?_
          refine w_val trivial rfl (fun a w hf hs => r_sub (hf.ev rfl) (hf.ev rfl)) ?_
          obtain ⟨g27, H⟩ := grd_s H
          refine w_val trivial rfl (fun a w hf hs => r_sslice Tryd.underlying9 (hf.ev rfl) ⟨_, (hf.ev rfl)⟩ ⟨_, (hf.ev rfl)⟩ g27.1 g27.2.1 g27.2.2) ?_
          refine w_val trivial rfl (fun a w hf hs => r_assign (hf.ev rfl)) ?_
          refine w_nil (hK26 _ _ _ ?_)
          refine c_seq ?_
          intro K28 hK28
          refine c_seq ?_
          intro K29 hK29
          obtain ⟨g44, H⟩ := grd_s H
          obtain ⟨t59, e64, H⟩ := bnd H
          refine c_drawP [([], [2]), ([], [2]), ([(1, 43)], []), ([(2, 44)], []), ([(0, 42), (3, 45)], []), ([], [9]), ([], [11]), ([], [1]), ([], [12]), ([(5, 47), (6, 48), (7, 49), (8, 50)], []), ([(4, 46), (9, 51)], [])] [fun v M => v = (str p2), fun v M => v = (str p2), fun v M => v = (.int .i64 (p2.length : Int)), fun v M => v = (.int .i64 (IntKind.i64.wrap ((p2.length : Int) - (16 : Int)))), fun v M => v = (str ((p2.take ((p2.length : Int)).toNat).drop ((IntKind.i64.wrap ((p2.length : Int) - (16 : Int)))).toNat)), fun v M => v = (str t3.2.1), fun v M => v = (str ((p2.take ((12 : Int)).toNat).drop ((0 : Int)).toNat)), fun v M => v = (str p1), fun v M => v = (str ((p2.take ((IntKind.i64.wrap ((p2.length : Int) - (16 : Int)))).toNat).drop ((12 : Int)).toNat)), fun v M => v = (str t59), fun v M => v = (.bool (!(((p2.take ((p2.length : Int)).toNat).drop ((IntKind.i64.wrap ((p2.length : Int) - (16 : Int)))).toNat) == t59)))] (by kernel_rfl) (by kernel_rfl) ?_ (AllT.cons ?_ (AllT.cons ?_ (AllT.cons ?_ (AllT.cons ?_ (AllT.cons ?_ (AllT.cons ?_ (AllT.cons ?_ (AllT.cons ?_ (AllT.cons ?_ (AllT.cons ?_ (AllT.cons ?_ AllT.nil))))))))))) ?_
          · exact (MonoA.cons (fun _ _ _ _ h => h) (MonoA.cons (fun _ _ _ _ h => h) (MonoA.cons (fun _ _ _ _ h => h) (MonoA.cons (fun _ _ _ _ h => h) (MonoA.cons (fun _ _ _ _ h => h) (MonoA.cons (fun _ _ _ _ h => h) (MonoA.cons (fun _ _ _ _ h => h) (MonoA.cons (fun _ _ _ _ h => h) (MonoA.cons (fun _ _ _ _ h => h) (MonoA.cons (fun _ _ _ _ h => h) (MonoA.cons (fun _ _ _ _ h => h) MonoA.nil)))))))))))
          · intro a w' M30 l31 hd hs
            refine OP.ofW (l := [(2, (str p2))]) (hd.fr.add (hd.base 2 _ rfl rfl)) hs rfl ?_
            refine w_val trivial rfl (fun a w hf hs => r_move (hf.ev rfl)) ?_
            refine w_nil ?_
            intro a w' hf hs
            exact ⟨rfl, hf.df, _, (HLe.refl _), hs, hf.get _ _ rfl⟩
          · intro a w' M32 l33 hd hs
            refine OP.ofW (l := [(2, (str p2))]) (hd.fr.add (hd.base 2 _ rfl rfl)) hs rfl ?_
            refine w_val trivial rfl (fun a w hf hs => r_move (hf.ev rfl)) ?_
            refine w_nil ?_
            intro a w' hf hs
            exact ⟨rfl, hf.df, _, (HLe.refl _), hs, hf.get _ _ rfl⟩
          · intro a w' M34 l35 hd hs
            have e36 := hd.val 1 43 _ rfl rfl
            refine OP.ofW (l := [(43, (str p2))]) (hd.fr.add e36) hs rfl ?_
            refine w_val trivial rfl (fun a w hf hs => r_slen Tryd.underlying9 (hf.ev rfl)) ?_
            refine w_nil ?_
            intro a w' hf hs
            exact ⟨rfl, hf.df, _, (HLe.refl _), hs, hf.get _ _ rfl⟩
          · intro a w' M37 l38 hd hs
            have e39 := hd.val 2 44 _ rfl rfl
            refine OP.ofW (l := [(44, (.int .i64 (p2.length : Int)))]) (hd.fr.add e39) hs rfl ?_
            refine w_val trivial rfl (fun a w hf hs => r_sub (hf.ev rfl) (hf.ev rfl)) ?_
            refine w_nil ?_
            intro a w' hf hs
            exact ⟨rfl, hf.df, _, (HLe.refl _), hs, hf.get _ _ rfl⟩
          · intro a w' M40 l41 hd hs
            have e42 := hd.val 0 42 _ rfl rfl
            have e43 := hd.val 3 45 _ rfl rfl
            refine OP.ofW (l := [(42, (str p2)), (45, (.int .i64 (IntKind.i64.wrap ((p2.length : Int) - (16 : Int)))))]) ((hd.fr.add e43).add e42) hs rfl ?_
            refine w_val trivial rfl (fun a w hf hs => r_sslice Tryd.underlying9 (hf.ev rfl) ⟨_, (hf.ev rfl)⟩ rfl g44.1 g44.2.1 g44.2.2) ?_
            refine w_nil ?_
            intro a w' hf hs
            exact ⟨rfl, hf.df, _, (HLe.refl _), hs, hf.get _ _ rfl⟩
          · intro a w' M45 l46 hd hs
            refine OP.ofW (l := [(9, (str t3.2.1))]) (hd.fr.add (hd.base 9 _ rfl rfl)) hs rfl ?_
            refine w_val trivial rfl (fun a w hf hs => r_move (hf.ev rfl)) ?_
            refine w_nil ?_
            intro a w' hf hs
            exact ⟨rfl, hf.df, _, (HLe.refl _), hs, hf.get _ _ rfl⟩
          · intro a w' M47 l48 hd hs
            refine OP.ofW (l := [(11, (str ((p2.take ((12 : Int)).toNat).drop ((0 : Int)).toNat)))]) (hd.fr.add (hd.base 11 _ rfl rfl)) hs rfl ?_
            refine w_val trivial rfl (fun a w hf hs => r_move (hf.ev rfl)) ?_
            refine w_nil ?_
            intro a w' hf hs
            exact ⟨rfl, hf.df, _, (HLe.refl _), hs, hf.get _ _ rfl⟩
          · intro a w' M49 l50 hd hs
            refine OP.ofW (l := [(1, (str p1))]) (hd.fr.add (hd.base 1 _ rfl rfl)) hs rfl ?_
            refine w_val trivial rfl (fun a w hf hs => r_move (hf.ev rfl)) ?_
            refine w_nil ?_
            intro a w' hf hs
            exact ⟨rfl, hf.df, _, (HLe.refl _), hs, hf.get _ _ rfl⟩
          · intro a w' M51 l52 hd hs
            refine OP.ofW (l := [(12, (str ((p2.take ((IntKind.i64.wrap ((p2.length : Int) - (16 : Int)))).toNat).drop ((12 : Int)).toNat)))]) (hd.fr.add (hd.base 12 _ rfl rfl)) hs rfl ?_
            refine w_val trivial rfl (fun a w hf hs => r_move (hf.ev rfl)) ?_
            refine w_nil ?_
            intro a w' hf hs
            exact ⟨rfl, hf.df, _, (HLe.refl _), hs, hf.get _ _ rfl⟩
          · intro a w' M53 l54 hd hs
            have e55 := hd.val 5 47 _ rfl rfl
            have e56 := hd.val 6 48 _ rfl rfl
            have e57 := hd.val 7 49 _ rfl rfl
            have e58 := hd.val 8 50 _ rfl rfl
            replace hG := hG.mono l54
            refine OP.ofW (l := [(47, (str t3.2.1)), (48, (str ((p2.take ((12 : Int)).toNat).drop ((0 : Int)).toNat))), (49, (str p1)), (50, (str ((p2.take ((IntKind.i64.wrap ((p2.length : Int) - (16 : Int)))).toNat).drop ((12 : Int)).toNat)))]) ((((hd.fr.add e58).add e57).add e56).add e55) hs rfl ?_
            refine w_call cf43 trivial rfl rfl (fun w hs => ref04_tag.calls hs hG t3.2.1 ((p2.take ((12 : Int)).toNat).drop ((0 : Int)).toNat) p1 ((p2.take ((IntKind.i64.wrap ((p2.length : Int) - (16 : Int)))).toNat).drop ((12 : Int)).toNat) _ e64) ?_
            rintro _ M61 l62 rfl
            refine w_nil ?_
            intro a w' hf hs
            exact ⟨rfl, hf.df, _, l62, hs, hf.get _ _ rfl⟩
          · intro a w' M65 l66 hd hs
            have e67 := hd.val 4 46 _ rfl rfl
            have e68 := hd.val 9 51 _ rfl rfl
            refine OP.ofW (l := [(46, (str ((p2.take ((p2.length : Int)).toNat).drop ((IntKind.i64.wrap ((p2.length : Int) - (16 : Int)))).toNat))), (51, (str t59))]) ((hd.fr.add e68).add e67) hs rfl ?_
            refine w_val trivial rfl (fun a w hf hs => r_sneq (hf.ev rfl) (hf.ev rfl)) ?_
            refine w_nil ?_
            intro a w' hf hs
            exact ⟨rfl, hf.df, _, (HLe.refl _), hs, hf.get _ _ rfl⟩
          intro a w' M69 l70 hdf hsz hb hv hs
          replace hG := hG.mono l70
          have e71 := hv 10 52 _ rfl rfl
          refine n_of (c := (Cx.mk Tryd.prog 67 none' M w)) (l := [(1, (str p1)), (8, (str t3.1)), (9, (str t3.2.1)), (11, (str ((p2.take ((12 : Int)).toNat).drop ((0 : Int)).toNat))), (12, (str ((p2.take ((IntKind.i64.wrap ((p2.length : Int) - (16 : Int)))).toNat).drop ((12 : Int)).toNat))), (52, (.bool (!(((p2.take ((p2.length : Int)).toNat).drop ((IntKind.i64.wrap ((p2.length : Int) - (16 : Int)))).toNat) == t59))))]) ?_ (((((((Fr.start hdf hsz).add e71).add (hb 12 _ rfl rfl)).add (hb 11 _ rfl rfl)).add (hb 9 _ rfl rfl)).add (hb 8 _ rfl rfl)).add (hb 1 _ rfl rfl)) hs
          clear hdf hsz hb hv hs e71
          refine n_id (hK29 _ _ _ ?_)
          refine c_if rfl (fun b72 => ?_) (fun b72 => ?_)
          · replace H := if_t b72 H
            refine c_seq ?_
            intro K73 hK73
            refine c_reg ?_
            refine w_val trivial rfl (fun a w hf hs => r_assign (hf.ev rfl)) ?_
            refine w_val trivial rfl (fun a w hf hs => r_assign (hf.ev rfl)) ?_
            refine w_nil (hK73 _ _ _ ?_)
            obtain rfl := some_r H
            refine c_ret ?_
            intro a w' hf hs
            exact hret _ (.inl rfl) a w' hf.df ⟨_, _, Res.of2 rfl (RV.t hf rfl) (RV.t hf rfl), hs.ext, rfl⟩
          · replace H := if_f b72 H
            refine c_skip (hK28 _ _ _ ?_)
            refine c_seq ?_
            intro K74 hK74
            refine c_reg ?_
            refine w_val trivial rfl (fun a w hf hs => r_move (hf.ev rfl)) ?_
            refine w_val trivial rfl (fun a w hf hs => r_move (hf.ev rfl)) ?_
            refine w_val trivial rfl (fun a w hf hs => r_move (hf.ev rfl)) ?_
            obtain ⟨t75, e80, H⟩ := bnd H
            refine w_call cf42 trivial rfl rfl (fun w hs => ref03_Xor.calls hs t3.1 (1 : Int) ((p2.take ((12 : Int)).toNat).drop ((0 : Int)).toNat) ((p2.take ((IntKind.i64.wrap ((p2.length : Int) - (16 : Int)))).toNat).drop ((12 : Int)).toNat) _ e80) ?_
            rintro _ M77 l78 rfl
            replace hG := hG.mono l78
            refine w_val trivial rfl (fun a w hf hs => r_move (hf.ev rfl)) ?_
            refine w_val trivial rfl (fun a w hf hs => r_extract (hf.ev rfl) rfl) ?_
            refine w_val trivial rfl (fun a w hf hs => r_extract (hf.ev rfl) rfl) ?_
            refine w_val trivial rfl (fun a w hf hs => r_assign (hf.ev rfl)) ?_
            refine w_val trivial rfl (fun a w hf hs => r_assign (hf.ev rfl)) ?_
            refine w_nil (hK74 _ _ _ ?_)
            refine c_seq ?_
            intro K81 hK81
            refine c_seq ?_
            intro K82 hK82
            refine c_reg ?_
            refine w_val trivial rfl (fun a w hf hs => r_move (hf.ev rfl)) ?_
            refine w_val trivial rfl (fun a w hf hs => r_move (hf.ev rfl)) ?_
            refine w_val trivial rfl (fun a w hf hs => r_move (hf.ev rfl)) ?_
            obtain ⟨t83, e88, H⟩ := bnd H
            refine w_call cf41 trivial rfl rfl (fun w hs => ref04_nonce.calls hs hG t3.2.1 p1 t75.1 _ e88) ?_
            rintro _ M85 l86 rfl
            replace hG := hG.mono l86
            refine w_val trivial rfl (fun a w hf hs => r_move (hf.ev rfl)) ?_
            refine w_val trivial rfl (fun a w hf hs => r_sneq (hf.ev rfl) (hf.ev rfl)) ?_
            refine w_nil (hK82 _ _ _ ?_)
            refine c_if rfl (fun b89 => ?_) (fun b89 => ?_)
            · replace H := if_t b89 H
              refine c_seq ?_
              intro K90 hK90
              refine c_reg ?_
              refine w_val trivial rfl (fun a w hf hs => r_assign (hf.ev rfl)) ?_
              refine w_val trivial rfl (fun a w hf hs => r_assign (hf.ev rfl)) ?_
              refine w_nil (hK90 _ _ _ ?_)
              obtain rfl := some_r H
              refine c_ret ?_
              intro a w' hf hs
              exact hret _ (.inl rfl) a w' hf.df ⟨_, _, Res.of2 rfl (RV.t hf rfl) (RV.t hf rfl), hs.ext, rfl⟩
            · replace H := if_f b89 H
              refine c_skip (hK81 _ _ _ ?_)
              refine c_seq ?_
              intro K91 hK91
              refine c_reg ?_
              refine w_val trivial rfl (fun a w hf hs => r_move (hf.ev rfl)) ?_
              refine w_val trivial rfl (fun a w hf hs => r_assign (hf.ev rfl)) ?_
              refine w_val trivial rfl (fun a w hf hs => r_assign (hf.ev rfl)) ?_
              refine w_nil (hK91 _ _ _ ?_)
              obtain rfl := some_r H
              refine c_ret ?_
              intro a w' hf hs
              exact hret _ (.inl rfl) a w' hf.df ⟨_, _, Res.of2 rfl (RV.t hf rfl) (RV.t hf rfl), hs.ext, rfl⟩
set_option maxRecDepth 20000 in
theorem law04_SealOpensAsSpecified.calls {M : Heap} {w : World} (hM : Sub M w) (hG : Gl M) (hs_law04_sanity : ∀ t, law04_sanity = some t → t = true) (p0 : (List UInt8)) (p1 : (List UInt8)) (p2 : (List UInt8)) (r : Bool) (hr_ : r = true) (H : law04_SealOpensAsSpecified p0 p1 p2 = some r) :
    Calls Tryd.prog 4 [(str p0), (str p1), (str p2)].toArray w (Post M w fun M' v => v = (.bool r)) := by
  refine enter 43 [(0, (str p0)), (1, (str p1)), (2, (str p2))] Tryd.func4 rfl rfl rfl hM ?_
  intro Q hret
  unfold law04_SealOpensAsSpecified at H
  refine c_seq ?_
  intro K1 hK1
  refine c_reg ?_
  refine w_val trivial rfl (fun a w hf hs => r_assign (hf.ev rfl)) ?_
  refine w_nil (hK1 _ _ _ ?_)
  refine c_seq ?_
  intro K2 hK2
  refine c_seq ?_
  intro K3 hK3
  refine c_reg ?_
  refine w_val trivial rfl (fun a w hf hs => r_move (hf.ev rfl)) ?_
  refine w_val trivial rfl (fun a w hf hs => r_move (hf.ev rfl)) ?_
  refine w_val trivial rfl (fun a w hf hs => r_move (hf.ev rfl)) ?_
  refine w_bsl (F := FS) (es := ([p0, p1, p2] : List (List UInt8))) (xs := [.tmp 11, .tmp 12, .tmp 13]) (vs := [(str p0), (str p1), (str p2)]) Tryd.underlying63 te9 trivial rfl rfl rfl rfl rfl (by decide) ?_
  intro v4 M5 l6 h7 c8
  replace hG := hG.mono l6
  obtain ⟨t9, e14, H⟩ := bnd H
  refine w_call cf11 trivial rfl rfl (fun w hs => law04_few.calls hs ([p0, p1, p2] : List (List UInt8)) v4 h7 _ e14) ?_
  rintro _ M11 l12 rfl
  replace hG := hG.mono l12
  replace h7 := h7.mono l12
  refine w_val trivial rfl (fun a w hf hs => r_not (hf.ev rfl)) ?_
  refine w_nil (hK3 _ _ _ ?_)
  refine c_if rfl (fun b15 => ?_) (fun b15 => ?_)
  · replace H := if_t b15 H
    refine c_seq ?_
    intro K16 hK16
    refine c_reg ?_
    obtain ⟨t17, e22, H⟩ := bnd H
    refine w_call cf12 trivial rfl rfl (fun w hs => law04_sanity.calls hs hG  _ (hs_law04_sanity _ e22) e22) ?_
    rintro _ M19 l20 rfl
    replace hG := hG.mono l20
    replace h7 := h7.mono l20
    refine w_val trivial rfl (fun a w hf hs => r_assign (hf.ev rfl)) ?_
    refine w_nil (hK16 _ _ _ ?_)
    obtain rfl := some_r H
    refine c_ret ?_
    intro a w' hf hs
    exact hret _ (.inl rfl) a w' hf.df ⟨_, _, Res.of1 rfl (RV.t hf rfl), hs.ext, rfl⟩
  · replace H := if_f b15 H
    refine c_skip (hK2 _ _ _ ?_)
    refine c_seq ?_
    intro K23 hK23
    refine c_reg ?_
    refine w_val trivial rfl (fun a w hf hs => r_move (hf.ev rfl)) ?_
    refine w_val trivial rfl (fun a w hf hs => r_move (hf.ev rfl)) ?_
    refine w_val trivial rfl (fun a w hf hs => r_move (hf.ev rfl)) ?_
    obtain ⟨t24, e29, H⟩ := bnd H
    refine w_call cf17 trivial rfl rfl (fun w hs => seal_Open.calls hs hG p0 p1 p2 _ e29) ?_
    rintro _ M26 l27 rfl
    replace hG := hG.mono l27
    replace h7 := h7.mono l27
    refine w_val trivial rfl (fun a w hf hs => r_move (hf.ev rfl)) ?_
    refine w_val trivial rfl (fun a w hf hs => r_extract (hf.ev rfl) rfl) ?_
    refine w_val trivial rfl (fun a w hf hs => r_extract (hf.ev rfl) rfl) ?_
    refine w_val trivial rfl (fun a w hf hs => r_assign (hf.ev rfl)) ?_
    refine w_val trivial rfl (fun a w hf hs => r_assign (hf.ev rfl)) ?_
    refine w_nil (hK23 _ _ _ ?_)
    refine c_seq ?_
    intro K30 hK30
    refine c_reg ?_
    refine w_val trivial rfl (fun a w hf hs => r_move (hf.ev rfl)) ?_
    refine w_val trivial rfl (fun a w hf hs => r_move (hf.ev rfl)) ?_
    refine w_val trivial rfl (fun a w hf hs => r_move (hf.ev rfl)) ?_
    obtain ⟨t31, e36, H⟩ := bnd H
    refine w_call cf18 trivial rfl rfl (fun w hs => ref04_Open.calls hs hG p0 p1 p2 _ e36) ?_
    rintro _ M33 l34 rfl
    replace hG := hG.mono l34
    replace h7 := h7.mono l34
    refine w_val trivial rfl (fun a w hf hs => r_move (hf.ev rfl)) ?_
    refine w_val trivial rfl (fun a w hf hs => r_extract (hf.ev rfl) rfl) ?_
    refine w_val trivial rfl (fun a w hf hs => r_extract (hf.ev rfl) rfl) ?_
    refine w_val trivial rfl (fun a w hf hs => r_assign (hf.ev rfl)) ?_
    refine w_val trivial rfl (fun a w hf hs => r_assign (hf.ev rfl)) ?_
    refine w_nil (hK30 _ _ _ ?_)
    obtain ⟨t37, H1, H⟩ := bnd H
    have ht_ := (some_r H).trans hr_
    refine c_cut (fun a' w' => ∃ (M38 : Heap), HLe M33 M38 ∧ Fr 43 [(6, (.bool t37))] a' ∧ St none' M w M38 (lt []) w') ?_ ?_
    · replace H := H1
      clear H1
      refine c_reg ?_
      obtain ⟨t48, e53, H⟩ := bnd H
      refine w_call cf12 trivial rfl rfl (fun w hs => law04_sanity.calls hs hG  _ (hs_law04_sanity _ e53) e53) ?_
      rintro _ M50 l51 rfl
      replace hG := hG.mono l51
      replace h7 := h7.mono l51
      refine w_val trivial rfl (fun a w hf hs => r_move (hf.ev rfl)) ?_
      by_cases b54 : t48 = true
      · replace H := if_t b54 H
        refine w_val (Wnt.of rfl rfl b54) rfl (fun a w hf hs => r_move (hf.ev rfl)) ?_
        refine w_val (Wnt.of rfl rfl b54) rfl (fun a w hf hs => r_move (hf.ev rfl)) ?_
        refine w_val (Wnt.of rfl rfl b54) rfl (fun a w hf hs => r_seql (hf.ev rfl) (hf.ev rfl)) ?_
        refine w_val trivial rfl (fun a w hf hs => r_pickT (hf.ev rfl) b54 (hf.ev rfl)) ?_
        refine w_val trivial rfl (fun a w hf hs => r_move (hf.ev rfl)) ?_
        by_cases b55 : (t24.1 == t31.1) = true
        · replace H := if_t b55 H
          refine w_val (Wnt.of rfl rfl b55) rfl (fun a w hf hs => r_move (hf.ev rfl)) ?_
          refine w_val (Wnt.of rfl rfl b55) rfl (fun a w hf hs => r_move (hf.ev rfl)) ?_
          refine w_val (Wnt.of rfl rfl b55) rfl (fun a w hf hs => r_eql (hf.ev rfl) (hf.ev rfl)) ?_
          refine w_val trivial rfl (fun a w hf hs => r_pickT (hf.ev rfl) b55 (hf.ev rfl)) ?_
          refine w_val trivial rfl (fun a w hf hs => r_assign (hf.ev rfl)) ?_
          obtain rfl := some_r H
          refine w_nil ?_
          intro a w' hf hs
          exact ⟨_, l51, (hf.nil.add (hf.get _ _ rfl)), hs.sel [] (by decide) rfl⟩
        · replace b55 := Bool.eq_false_iff.2 b55
          replace H := if_f b55 H
          exact absurd ((some_r H).trans ht_) (by decide)
      · replace b54 := Bool.eq_false_iff.2 b54
        replace H := if_f b54 H
        exact absurd ((some_r H).trans ht_) (by decide)
    · clear H1 ht_
      rintro a w' ⟨M38, l39, hf, hs⟩
      refine c_of (c := (Cx.mk Tryd.prog 43 none' M w)) ?_ hf hs
      clear hf hs
      replace hG := hG.mono l39
      replace h7 := h7.mono l39
      obtain rfl := some_r H
      refine c_ret ?_
      intro a w' hf hs
      exact hret _ (.inl rfl) a w' hf.df ⟨_, _, Res.of1 rfl (RV.t hf rfl), hs.ext, rfl⟩
set_option maxRecDepth 20000 in
theorem law04_SealRoundTrip.calls {M : Heap} {w : World} (hM : Sub M w) (hG : Gl M) (hs_law04_sanity : ∀ t, law04_sanity = some t → t = true) (p0 : (List UInt8)) (p1 : (List UInt8)) (p2 : (List UInt8)) (r : Bool) (hr_ : r = true) (H : law04_SealRoundTrip p0 p1 p2 = some r) :
    Calls Tryd.prog 5 [(str p0), (str p1), (str p2)].toArray w (Post M w fun M' v => v = (.bool r)) := by
  refine enter 66 [(0, (str p0)), (1, (str p1)), (2, (str p2))] Tryd.func5 rfl rfl rfl hM ?_
  intro Q hret
  unfold law04_SealRoundTrip at H
  refine c_seq ?_
  intro K1 hK1
  refine c_reg ?_
  refine w_val trivial rfl (fun a w hf hs => r_assign (hf.ev rfl)) ?_
  refine w_nil (hK1 _ _ _ ?_)
  refine c_seq ?_
  intro K2 hK2
  refine c_seq ?_
  intro K3 hK3
  refine c_reg ?_
  refine w_val trivial rfl (fun a w hf hs => r_move (hf.ev rfl)) ?_
  refine w_val trivial rfl (fun a w hf hs => r_move (hf.ev rfl)) ?_
  refine w_val trivial rfl (fun a w hf hs => r_move (hf.ev rfl)) ?_
  refine w_bsl (F := FS) (es := ([p0, p1, p2] : List (List UInt8))) (xs := [.tmp 11, .tmp 12, .tmp 13]) (vs := [(str p0), (str p1), (str p2)]) Tryd.underlying63 te9 trivial rfl rfl rfl rfl rfl (by decide) ?_
  intro v4 M5 l6 h7 c8
  replace hG := hG.mono l6
  obtain ⟨t9, e14, H⟩ := bnd H
  refine w_call cf11 trivial rfl rfl (fun w hs => law04_few.calls hs ([p0, p1, p2] : List (List UInt8)) v4 h7 _ e14) ?_
  rintro _ M11 l12 rfl
  replace hG := hG.mono l12
  replace h7 := h7.mono l12
  refine w_val trivial rfl (fun a w hf hs => r_not (hf.ev rfl)) ?_
  refine w_nil (hK3 _ _ _ ?_)
  refine c_if rfl (fun b15 => ?_) (fun b15 => ?_)
  · replace H := if_t b15 H
    refine c_seq ?_
    intro K16 hK16
    refine c_reg ?_
    obtain ⟨t17, e22, H⟩ := bnd H
    refine w_call cf12 trivial rfl rfl (fun w hs => law04_sanity.calls hs hG  _ (hs_law04_sanity _ e22) e22) ?_
    rintro _ M19 l20 rfl
    replace hG := hG.mono l20
    replace h7 := h7.mono l20
    refine w_val trivial rfl (fun a w hf hs => r_assign (hf.ev rfl)) ?_
    refine w_nil (hK16 _ _ _ ?_)
    obtain rfl := some_r H
    refine c_ret ?_
    intro a w' hf hs
    exact hret _ (.inl rfl) a w' hf.df ⟨_, _, Res.of1 rfl (RV.t hf rfl), hs.ext, rfl⟩
  · replace H := if_f b15 H
    refine c_skip (hK2 _ _ _ ?_)
    refine c_seq ?_
    intro K23 hK23
    refine c_reg ?_
    refine w_val trivial rfl (fun a w hf hs => r_move (hf.ev rfl)) ?_
    refine w_val trivial rfl (fun a w hf hs => r_move (hf.ev rfl)) ?_
    refine w_val trivial rfl (fun a w hf hs => r_move (hf.ev rfl)) ?_
    obtain ⟨t24, e29, H⟩ := bnd H
    refine w_call cf15 trivial rfl rfl (fun w hs => seal_Seal.calls hs hG p0 p1 p2 _ e29) ?_
    rintro _ M26 l27 rfl
    replace hG := hG.mono l27
    replace h7 := h7.mono l27
    refine w_val trivial rfl (fun a w hf hs => r_move (hf.ev rfl)) ?_
    refine w_val trivial rfl (fun a w hf hs => r_extract (hf.ev rfl) rfl) ?_
    refine w_val trivial rfl (fun a w hf hs => r_extract (hf.ev rfl) rfl) ?_
    refine w_val trivial rfl (fun a w hf hs => r_assign (hf.ev rfl)) ?_
    refine w_val trivial rfl (fun a w hf hs => r_assign (hf.ev rfl)) ?_
    refine w_nil (hK23 _ _ _ ?_)
    refine c_seq ?_
    intro K30 hK30
    refine c_seq ?_
    intro K31 hK31
    refine c_reg ?_
    refine w_val trivial rfl (fun a w hf hs => r_move (hf.ev rfl)) ?_
    refine w_val trivial rfl (fun a w hf hs => r_neq (hf.ev rfl) (hf.ev rfl)) ?_
    refine w_nil (hK31 _ _ _ ?_)
    refine c_if rfl (fun b32 => ?_) (fun b32 => ?_)
    · replace H := if_t b32 H
      obtain ⟨t33, H1, H⟩ := bnd H
      have ht_ := (some_r H).trans hr_
      refine c_cut (fun a' w' => ∃ (M34 : Heap), HLe M26 M34 ∧ Fr 66 [(6, (.bool t33))] a' ∧ St none' M w M34 (lt []) w') ?_ ?_
      · replace H := H1
        clear H1
        refine c_reg ?_
        obtain ⟨t45, e50, H⟩ := bnd H
        refine w_call cf12 trivial rfl rfl (fun w hs => law04_sanity.calls hs hG  _ (hs_law04_sanity _ e50) e50) ?_
        rintro _ M47 l48 rfl
        replace hG := hG.mono l48
        replace h7 := h7.mono l48
        refine w_val trivial rfl (fun a w hf hs => r_move (hf.ev rfl)) ?_
        by_cases b51 : t45 = true
        · replace H := if_t b51 H
          refine w_val (Wnt.of rfl rfl b51) rfl (fun a w hf hs => r_move (hf.ev rfl)) ?_
          refine w_val (Wnt.of rfl rfl b51) rfl (fun a w hf hs => r_seql (hf.ev rfl) (hf.ev rfl)) ?_
          refine w_val trivial rfl (fun a w hf hs => r_pickT (hf.ev rfl) b51 (hf.ev rfl)) ?_
          refine w_val trivial rfl (fun a w hf hs => r_move (hf.ev rfl)) ?_
          by_cases b52 : (t24.1 == ([] : List UInt8)) = true
          · replace H := if_t b52 H
            refine w_val (Wnt.of rfl rfl b52) rfl (fun a w hf hs => r_move (hf.ev rfl)) ?_
            refine w_val (Wnt.of rfl rfl b52) rfl (fun a w hf hs => r_eql (hf.ev rfl) (hf.ev rfl)) ?_
            refine w_val trivial rfl (fun a w hf hs => r_pickT (hf.ev rfl) b52 (hf.ev rfl)) ?_
            refine w_val trivial rfl (fun a w hf hs => r_move (hf.ev rfl)) ?_
            by_cases b53 : (t24.2 == (1 : Int)) = true
            · replace H := if_t b53 H
              refine w_val (Wnt.of rfl rfl b53) rfl (fun a w hf hs => r_move (hf.ev rfl)) ?_
              refine w_val (Wnt.of rfl rfl b53) rfl (fun a w hf hs => r_slen Tryd.underlying9 (hf.ev rfl)) ?_
              refine w_val (Wnt.of rfl rfl b53) rfl (fun a w hf hs => r_neq (hf.ev rfl) (hf.ev rfl)) ?_
              refine w_val trivial rfl (fun a w hf hs => r_pickT (hf.ev rfl) b53 (hf.ev rfl)) ?_
              refine w_val trivial rfl (fun a w hf hs => r_assign (hf.ev rfl)) ?_
              obtain rfl := some_r H
              refine w_nil ?_
              intro a w' hf hs
              exact ⟨_, l48, (hf.nil.add (hf.get _ _ rfl)), hs.sel [] (by decide) rfl⟩
            · replace b53 := Bool.eq_false_iff.2 b53
              replace H := if_f b53 H
              exact absurd ((some_r H).trans ht_) (by decide)
          · replace b52 := Bool.eq_false_iff.2 b52
            replace H := if_f b52 H
            exact absurd ((some_r H).trans ht_) (by decide)
        · replace b51 := Bool.eq_false_iff.2 b51
          replace H := if_f b51 H
          exact absurd ((some_r H).trans ht_) (by decide)
      · clear H1 ht_
        rintro a w' ⟨M34, l35, hf, hs⟩
        refine c_of (c := (Cx.mk Tryd.prog 66 none' M w)) ?_ hf hs
        clear hf hs
        replace hG := hG.mono l35
        replace h7 := h7.mono l35
        obtain rfl := some_r H
        refine c_ret ?_
        intro a w' hf hs
        exact hret _ (.inl rfl) a w' hf.df ⟨_, _, Res.of1 rfl (RV.t hf rfl), hs.ext, rfl⟩
    · replace H := if_f b32 H
      refine c_skip (hK30 _ _ _ ?_)
      refine c_seq ?_
      intro K54 hK54
      refine c_reg ?_
      refine w_val trivial rfl (fun a w hf hs => r_move (hf.ev rfl)) ?_
      refine w_val trivial rfl (fun a w hf hs => r_move (hf.ev rfl)) ?_
      refine w_val trivial rfl (fun a w hf hs => r_move (hf.ev rfl)) ?_
      obtain ⟨t55, e60, H⟩ := bnd H
      refine w_call cf17 trivial rfl rfl (fun w hs => seal_Open.calls hs hG p0 p1 t24.1 _ e60) ?_
      rintro _ M57 l58 rfl
      replace hG := hG.mono l58
      replace h7 := h7.mono l58
      refine w_val trivial rfl (fun a w hf hs => r_move (hf.ev rfl)) ?_
      refine w_val trivial rfl (fun a w hf hs => r_extract (hf.ev rfl) rfl) ?_
      refine w_val trivial rfl (fun a w hf hs => r_extract (hf.ev rfl) rfl) ?_
      refine w_val trivial rfl (fun a w hf hs => r_assign (hf.ev rfl)) ?_
      refine w_val trivial rfl (fun a w hf hs => r_assign (hf.ev rfl)) ?_
      refine w_nil (hK54 _ _ _ ?_)
      obtain ⟨t61, H1, H⟩ := bnd H
      have ht_ := (some_r H).trans hr_
      refine c_cut (fun a' w' => ∃ (M62 : Heap), HLe M57 M62 ∧ Fr 66 [(6, (.bool t61))] a' ∧ St none' M w M62 (lt []) w') ?_ ?_
      · replace H := H1
        clear H1
        refine c_reg ?_
        obtain ⟨t73, e78, H⟩ := bnd H
        refine w_call cf12 trivial rfl rfl (fun w hs => law04_sanity.calls hs hG  _ (hs_law04_sanity _ e78) e78) ?_
        rintro _ M75 l76 rfl
        replace hG := hG.mono l76
        replace h7 := h7.mono l76
        refine w_val trivial rfl (fun a w hf hs => r_move (hf.ev rfl)) ?_
        by_cases b79 : t73 = true
        · replace H := if_t b79 H
          refine w_val (Wnt.of rfl rfl b79) rfl (fun a w hf hs => r_move (hf.ev rfl)) ?_
          refine w_val (Wnt.of rfl rfl b79) rfl (fun a w hf hs => r_move (hf.ev rfl)) ?_
          refine w_val (Wnt.of rfl rfl b79) rfl (fun a w hf hs => r_seql (hf.ev rfl) (hf.ev rfl)) ?_
          refine w_val trivial rfl (fun a w hf hs => r_pickT (hf.ev rfl) b79 (hf.ev rfl)) ?_
          refine w_val trivial rfl (fun a w hf hs => r_move (hf.ev rfl)) ?_
          by_cases b80 : (t55.1 == p2) = true
          · replace H := if_t b80 H
            refine w_val (Wnt.of rfl rfl b80) rfl (fun a w hf hs => r_move (hf.ev rfl)) ?_
            refine w_val (Wnt.of rfl rfl b80) rfl (fun a w hf hs => r_eql (hf.ev rfl) (hf.ev rfl)) ?_
            refine w_val trivial rfl (fun a w hf hs => r_pickT (hf.ev rfl) b80 (hf.ev rfl)) ?_
            refine w_val trivial rfl (fun a w hf hs => r_move (hf.ev rfl)) ?_
            by_cases b81 : (t55.2 == (0 : Int)) = true
            · replace H := if_t b81 H
              refine w_val (Wnt.of rfl rfl b81) rfl (fun a w hf hs => r_move (hf.ev rfl)) ?_
              refine w_val (Wnt.of rfl rfl b81) rfl (fun a w hf hs => r_slen Tryd.underlying9 (hf.ev rfl)) ?_
              refine w_val (Wnt.of rfl rfl b81) rfl (fun a w hf hs => r_move (hf.ev rfl)) ?_
              refine w_val (Wnt.of rfl rfl b81) rfl (fun a w hf hs => r_slen Tryd.underlying9 (hf.ev rfl)) ?_
              refine w_val (Wnt.of rfl rfl b81) rfl (fun a w hf hs => r_add (hf.ev rfl) (hf.ev rfl)) ?_
              refine w_val (Wnt.of rfl rfl b81) rfl (fun a w hf hs => r_eql (hf.ev rfl) (hf.ev rfl)) ?_
              refine w_val trivial rfl (fun a w hf hs => r_pickT (hf.ev rfl) b81 (hf.ev rfl)) ?_
              refine w_val trivial rfl (fun a w hf hs => r_assign (hf.ev rfl)) ?_
              obtain rfl := some_r H
              refine w_nil ?_
              intro a w' hf hs
              exact ⟨_, l76, (hf.nil.add (hf.get _ _ rfl)), hs.sel [] (by decide) rfl⟩
            · replace b81 := Bool.eq_false_iff.2 b81
              replace H := if_f b81 H
              exact absurd ((some_r H).trans ht_) (by decide)
          · replace b80 := Bool.eq_false_iff.2 b80
            replace H := if_f b80 H
            exact absurd ((some_r H).trans ht_) (by decide)
        · replace b79 := Bool.eq_false_iff.2 b79
          replace H := if_f b79 H
          exact absurd ((some_r H).trans ht_) (by decide)
      · clear H1 ht_
        rintro a w' ⟨M62, l63, hf, hs⟩
        refine c_of (c := (Cx.mk Tryd.prog 66 none' M w)) ?_ hf hs
        clear hf hs
        replace hG := hG.mono l63
        replace h7 := h7.mono l63
        obtain rfl := some_r H
        refine c_ret ?_
        intro a w' hf hs
        exact hret _ (.inl rfl) a w' hf.df ⟨_, _, Res.of1 rfl (RV.t hf rfl), hs.ext, rfl⟩
set_option maxRecDepth 20000 in
theorem law04_SealChanged.calls {M : Heap} {w : World} (hM : Sub M w) (hG : Gl M) (hs_law04_sanity : ∀ t, law04_sanity = some t → t = true) (p0 : (List UInt8)) (p1 : (List UInt8)) (p2 : (List UInt8)) (p3 : (List UInt8)) (r : Bool) (hr_ : r = true) (H : law04_SealChanged p0 p1 p2 p3 = some r) :
    Calls Tryd.prog 6 [(str p0), (str p1), (str p2), (str p3)].toArray w (Post M w fun M' v => v = (.bool r)) := by
  refine enter 53 [(0, (str p0)), (1, (str p1)), (2, (str p2)), (3, (str p3))] Tryd.func6 rfl rfl rfl hM ?_
  intro Q hret
  unfold law04_SealChanged at H
  refine c_seq ?_
  intro K1 hK1
  refine c_reg ?_
  refine w_val trivial rfl (fun a w hf hs => r_assign (hf.ev rfl)) ?_
  refine w_nil (hK1 _ _ _ ?_)
  refine c_seq ?_
  intro K2 hK2
  refine c_seq ?_
  intro K3 hK3
  refine c_reg ?_
  refine w_val trivial rfl (fun a w hf hs => r_move (hf.ev rfl)) ?_
  refine w_val trivial rfl (fun a w hf hs => r_move (hf.ev rfl)) ?_
  refine w_val trivial rfl (fun a w hf hs => r_move (hf.ev rfl)) ?_
  refine w_val trivial rfl (fun a w hf hs => r_move (hf.ev rfl)) ?_
  refine w_bsl (F := FS) (es := ([p0, p1, p2, p3] : List (List UInt8))) (xs := [.tmp 13, .tmp 14, .tmp 15, .tmp 16]) (vs := [(str p0), (str p1), (str p2), (str p3)]) Tryd.underlying63 te9 trivial rfl rfl rfl rfl rfl (by decide) ?_
  intro v4 M5 l6 h7 c8
  replace hG := hG.mono l6
  obtain ⟨t9, e14, H⟩ := bnd H
  refine w_call cf11 trivial rfl rfl (fun w hs => law04_few.calls hs ([p0, p1, p2, p3] : List (List UInt8)) v4 h7 _ e14) ?_
  rintro _ M11 l12 rfl
  replace hG := hG.mono l12
  replace h7 := h7.mono l12
  refine w_val trivial rfl (fun a w hf hs => r_not (hf.ev rfl)) ?_
  refine w_nil (hK3 _ _ _ ?_)
  refine c_if rfl (fun b15 => ?_) (fun b15 => ?_)
  · replace H := if_t b15 H
    refine c_seq ?_
    intro K16 hK16
    refine c_reg ?_
    obtain ⟨t17, e22, H⟩ := bnd H
    refine w_call cf12 trivial rfl rfl (fun w hs => law04_sanity.calls hs hG  _ (hs_law04_sanity _ e22) e22) ?_
    rintro _ M19 l20 rfl
    replace hG := hG.mono l20
    replace h7 := h7.mono l20
    refine w_val trivial rfl (fun a w hf hs => r_assign (hf.ev rfl)) ?_
    refine w_nil (hK16 _ _ _ ?_)
    obtain rfl := some_r H
    refine c_ret ?_
    intro a w' hf hs
    exact hret _ (.inl rfl) a w' hf.df ⟨_, _, Res.of1 rfl (RV.t hf rfl), hs.ext, rfl⟩
  · replace H := if_f b15 H
    refine c_skip (hK2 _ _ _ ?_)
    refine c_seq ?_
    intro K23 hK23
    refine c_reg ?_
    refine w_val trivial rfl (fun a w hf hs => r_move (hf.ev rfl)) ?_
    refine w_val trivial rfl (fun a w hf hs => r_move (hf.ev rfl)) ?_
    refine w_val trivial rfl (fun a w hf hs => r_move (hf.ev rfl)) ?_
    obtain ⟨t24, e29, H⟩ := bnd H
    refine w_call cf15 trivial rfl rfl (fun w hs => seal_Seal.calls hs hG p0 p1 p2 _ e29) ?_
    rintro _ M26 l27 rfl
    replace hG := hG.mono l27
    replace h7 := h7.mono l27
    refine w_val trivial rfl (fun a w hf hs => r_move (hf.ev rfl)) ?_
    refine w_val trivial rfl (fun a w hf hs => r_extract (hf.ev rfl) rfl) ?_
    refine w_val trivial rfl (fun a w hf hs => r_extract (hf.ev rfl) rfl) ?_
    refine w_val trivial rfl (fun a w hf hs => r_assign (hf.ev rfl)) ?_
    refine w_val trivial rfl (fun a w hf hs => r_assign (hf.ev rfl)) ?_
    refine w_nil (hK23 _ _ _ ?_)
    refine c_seq ?_
    intro K30 hK30
    obtain ⟨t31, H1, H⟩ := bnd H
    refine c_cut (fun a' w' => ∃ (M32 : Heap), HLe M26 M32 ∧ Fr 53 [(0, (str p0)), (1, (str p1)), (2, (str p2)), (3, (str p3)), (34, (.bool t31))] a' ∧ St none' M w M32 (lt []) w') ?_ ?_
    · replace H := H1
      clear H1
      refine c_reg ?_
      refine w_val trivial rfl (fun a w hf hs => r_move (hf.ev rfl)) ?_
      refine w_val trivial rfl (fun a w hf hs => r_neq (hf.ev rfl) (hf.ev rfl)) ?_
      refine w_val trivial rfl (fun a w hf hs => r_move (hf.ev rfl)) ?_
      by_cases b34 : (t24.2 != (0 : Int)) = true
      · replace H := if_t b34 H
        refine w_not (Nwt.of rfl rfl b34) rfl ?_
        refine w_not (Nwt.of rfl rfl b34) rfl ?_
        refine w_not (Nwt.of rfl rfl b34) rfl ?_
        refine w_val trivial rfl (fun a w hf hs => r_pickT (hf.ev rfl) b34 (hf.ev rfl)) ?_
        obtain rfl := some_r H
        refine w_nil ?_
        intro a w' hf hs
        exact ⟨_, (HLe.refl _), (((((hf.nil.add (hf.get _ _ rfl)).add (hf.get _ _ rfl)).add (hf.get _ _ rfl)).add (hf.get _ _ rfl)).add (hf.get _ _ rfl)), hs.sel [] (by decide) rfl⟩
      · replace b34 := Bool.eq_false_iff.2 b34
        replace H := if_f b34 H
        refine w_val (Wnt.of rfl rfl b34) rfl (fun a w hf hs => r_move (hf.ev rfl)) ?_
        refine w_val (Wnt.of rfl rfl b34) rfl (fun a w hf hs => r_move (hf.ev rfl)) ?_
        refine w_val (Wnt.of rfl rfl b34) rfl (fun a w hf hs => r_seql (hf.ev rfl) (hf.ev rfl)) ?_
        refine w_val trivial rfl (fun a w hf hs => r_pickF (hf.ev rfl) b34 (hf.ev rfl)) ?_
        obtain rfl := some_r H
        refine w_nil ?_
        intro a w' hf hs
        exact ⟨_, (HLe.refl _), (((((hf.nil.add (hf.get _ _ rfl)).add (hf.get _ _ rfl)).add (hf.get _ _ rfl)).add (hf.get _ _ rfl)).add (hf.get _ _ rfl)), hs.sel [] (by decide) rfl⟩
    · clear H1
      rintro a w' ⟨M32, l33, hf, hs⟩
      refine c_of (c := (Cx.mk Tryd.prog 53 none' M w)) ?_ hf hs
      clear hf hs
      replace hG := hG.mono l33
      replace h7 := h7.mono l33
      refine c_if rfl (fun b35 => ?_) (fun b35 => ?_)
      · replace H := if_t b35 H
        refine c_seq ?_
        intro K36 hK36
        refine c_reg ?_
        obtain ⟨t37, e42, H⟩ := bnd H
        refine w_call cf12 trivial rfl rfl (fun w hs => law04_sanity.calls hs hG  _ (hs_law04_sanity _ e42) e42) ?_
        rintro _ M39 l40 rfl
        replace hG := hG.mono l40
        replace h7 := h7.mono l40
        refine w_val trivial rfl (fun a w hf hs => r_assign (hf.ev rfl)) ?_
        refine w_nil (hK36 _ _ _ ?_)
        obtain rfl := some_r H
        refine c_ret ?_
        intro a w' hf hs
        exact hret _ (.inl rfl) a w' hf.df ⟨_, _, Res.of1 rfl (RV.t hf rfl), hs.ext, rfl⟩
      · replace H := if_f b35 H
        refine c_skip (hK30 _ _ _ ?_)
        refine c_seq ?_
        intro K43 hK43
        refine c_reg ?_
        refine w_val trivial rfl (fun a w hf hs => r_move (hf.ev rfl)) ?_
        refine w_val trivial rfl (fun a w hf hs => r_move (hf.ev rfl)) ?_
        refine w_val trivial rfl (fun a w hf hs => r_move (hf.ev rfl)) ?_
        obtain ⟨t44, e49, H⟩ := bnd H
        refine w_call cf17 trivial rfl rfl (fun w hs => seal_Open.calls hs hG p0 p1 p3 _ e49) ?_
        rintro _ M46 l47 rfl
        replace hG := hG.mono l47
        replace h7 := h7.mono l47
        refine w_val trivial rfl (fun a w hf hs => r_move (hf.ev rfl)) ?_
        refine w_val trivial rfl (fun a w hf hs => r_extract (hf.ev rfl) rfl) ?_
        refine w_val trivial rfl (fun a w hf hs => r_extract (hf.ev rfl) rfl) ?_
        refine w_val trivial rfl (fun a w hf hs => r_assign (hf.ev rfl)) ?_
        refine w_val trivial rfl (fun a w hf hs => r_assign (hf.ev rfl)) ?_
        refine w_nil (hK43 _ _ _ ?_)
        obtain ⟨t50, H1, H⟩ := bnd H
        have ht_ := (some_r H).trans hr_
        refine c_cut (fun a' w' => ∃ (M51 : Heap), HLe M46 M51 ∧ Fr 53 [(8, (.bool t50))] a' ∧ St none' M w M51 (lt []) w') ?_ ?_
        · replace H := H1
          clear H1
          refine c_reg ?_
          obtain ⟨t61, e66, H⟩ := bnd H
          refine w_call cf12 trivial rfl rfl (fun w hs => law04_sanity.calls hs hG  _ (hs_law04_sanity _ e66) e66) ?_
          rintro _ M63 l64 rfl
          replace hG := hG.mono l64
          replace h7 := h7.mono l64
          refine w_val trivial rfl (fun a w hf hs => r_move (hf.ev rfl)) ?_
          by_cases b67 : t61 = true
          · replace H := if_t b67 H
            refine w_val (Wnt.of rfl rfl b67) rfl (fun a w hf hs => r_move (hf.ev rfl)) ?_
            refine w_val (Wnt.of rfl rfl b67) rfl (fun a w hf hs => r_neq (hf.ev rfl) (hf.ev rfl)) ?_
            refine w_val (Wnt.of rfl rfl b67) rfl (fun a w hf hs => r_move (hf.ev rfl)) ?_
            by_cases b68 : (t44.2 != (0 : Int)) = true
            · replace H := if_t b68 H
              refine w_not (Nwt.of rfl rfl b68) rfl ?_
              refine w_not (Nwt.of rfl rfl b68) rfl ?_
              refine w_not (Nwt.of rfl rfl b68) rfl ?_
              refine w_val (Wnt.of rfl rfl b67) rfl (fun a w hf hs => r_pickT (hf.ev rfl) b68 (hf.ev rfl)) ?_
              refine w_val trivial rfl (fun a w hf hs => r_pickT (hf.ev rfl) b67 (hf.ev rfl)) ?_
              refine w_val trivial rfl (fun a w hf hs => r_assign (hf.ev rfl)) ?_
              obtain rfl := some_r H
              refine w_nil ?_
              intro a w' hf hs
              exact ⟨_, l64, (hf.nil.add (hf.get _ _ rfl)), hs.sel [] (by decide) rfl⟩
            · replace b68 := Bool.eq_false_iff.2 b68
              replace H := if_f b68 H
              refine w_val (Wnt.of rfl rfl b68) rfl (fun a w hf hs => r_move (hf.ev rfl)) ?_
              refine w_val (Wnt.of rfl rfl b68) rfl (fun a w hf hs => r_move (hf.ev rfl)) ?_
              refine w_val (Wnt.of rfl rfl b68) rfl (fun a w hf hs => r_sneq (hf.ev rfl) (hf.ev rfl)) ?_
              refine w_val (Wnt.of rfl rfl b67) rfl (fun a w hf hs => r_pickF (hf.ev rfl) b68 (hf.ev rfl)) ?_
              refine w_val trivial rfl (fun a w hf hs => r_pickT (hf.ev rfl) b67 (hf.ev rfl)) ?_
              refine w_val trivial rfl (fun a w hf hs => r_assign (hf.ev rfl)) ?_
              obtain rfl := some_r H
              refine w_nil ?_
              intro a w' hf hs
              exact ⟨_, l64, (hf.nil.add (hf.get _ _ rfl)), hs.sel [] (by decide) rfl⟩
          · replace b67 := Bool.eq_false_iff.2 b67
            replace H := if_f b67 H
            exact absurd ((some_r H).trans ht_) (by decide)
        · clear H1 ht_
          rintro a w' ⟨M51, l52, hf, hs⟩
          refine c_of (c := (Cx.mk Tryd.prog 53 none' M w)) ?_ hf hs
          clear hf hs
          replace hG := hG.mono l52
          replace h7 := h7.mono l52
          obtain rfl := some_r H
          refine c_ret ?_
          intro a w' hf hs
          exact hret _ (.inl rfl) a w' hf.df ⟨_, _, Res.of1 rfl (RV.t hf rfl), hs.ext, rfl⟩
set_option maxRecDepth 20000 in
theorem law04_SealInjective.calls {M : Heap} {w : World} (hM : Sub M w) (hG : Gl M) (hs_law04_sanity : ∀ t, law04_sanity = some t → t = true) (p0 : (List UInt8)) (p1 : (List UInt8)) (p2 : (List UInt8)) (p3 : (List UInt8)) (p4 : (List UInt8)) (r : Bool) (hr_ : r = true) (H : law04_SealInjective p0 p1 p2 p3 p4 = some r) :
    Calls Tryd.prog 7 [(str p0), (str p1), (str p2), (str p3), (str p4)].toArray w (Post M w fun M' v => v = (.bool r)) := by
  refine enter 58 [(0, (str p0)), (1, (str p1)), (2, (str p2)), (3, (str p3)), (4, (str p4))] Tryd.func7 rfl rfl rfl hM ?_
  intro Q hret
  unfold law04_SealInjective at H
  refine c_seq ?_
  intro K1 hK1
  refine c_reg ?_
  refine w_val trivial rfl (fun a w hf hs => r_assign (hf.ev rfl)) ?_
  refine w_nil (hK1 _ _ _ ?_)
  refine c_seq ?_
  intro K2 hK2
  refine c_seq ?_
  intro K3 hK3
  refine c_reg ?_
  refine w_val trivial rfl (fun a w hf hs => r_move (hf.ev rfl)) ?_
  refine w_val trivial rfl (fun a w hf hs => r_move (hf.ev rfl)) ?_
  refine w_val trivial rfl (fun a w hf hs => r_move (hf.ev rfl)) ?_
  refine w_val trivial rfl (fun a w hf hs => r_move (hf.ev rfl)) ?_
  refine w_val trivial rfl (fun a w hf hs => r_move (hf.ev rfl)) ?_
  refine w_bsl (F := FS) (es := ([p0, p1, p2, p3, p4] : List (List UInt8))) (xs := [.tmp 15, .tmp 16, .tmp 17, .tmp 18, .tmp 19]) (vs := [(str p0), (str p1), (str p2), (str p3), (str p4)]) Tryd.underlying63 te9 trivial rfl rfl rfl rfl rfl (by decide) ?_
  intro v4 M5 l6 h7 c8
  replace hG := hG.mono l6
  obtain ⟨t9, e14, H⟩ := bnd H
  refine w_call cf11 trivial rfl rfl (fun w hs => law04_few.calls hs ([p0, p1, p2, p3, p4] : List (List UInt8)) v4 h7 _ e14) ?_
  rintro _ M11 l12 rfl
  replace hG := hG.mono l12
  replace h7 := h7.mono l12
  refine w_val trivial rfl (fun a w hf hs => r_not (hf.ev rfl)) ?_
  refine w_nil (hK3 _ _ _ ?_)
  refine c_if rfl (fun b15 => ?_) (fun b15 => ?_)
  · replace H := if_t b15 H
    refine c_seq ?_
    intro K16 hK16
    refine c_reg ?_
    obtain ⟨t17, e22, H⟩ := bnd H
    refine w_call cf12 trivial rfl rfl (fun w hs => law04_sanity.calls hs hG  _ (hs_law04_sanity _ e22) e22) ?_
    rintro _ M19 l20 rfl
    replace hG := hG.mono l20
    replace h7 := h7.mono l20
    refine w_val trivial rfl (fun a w hf hs => r_assign (hf.ev rfl)) ?_
    refine w_nil (hK16 _ _ _ ?_)
    obtain rfl := some_r H
    refine c_ret ?_
    intro a w' hf hs
    exact hret _ (.inl rfl) a w' hf.df ⟨_, _, Res.of1 rfl (RV.t hf rfl), hs.ext, rfl⟩
  · replace H := if_f b15 H
    refine c_skip (hK2 _ _ _ ?_)
    refine c_seq ?_
    intro K23 hK23
    refine c_reg ?_
    refine w_val trivial rfl (fun a w hf hs => r_move (hf.ev rfl)) ?_
    refine w_val trivial rfl (fun a w hf hs => r_move (hf.ev rfl)) ?_
    refine w_val trivial rfl (fun a w hf hs => r_move (hf.ev rfl)) ?_
    obtain ⟨t24, e29, H⟩ := bnd H
    refine w_call cf15 trivial rfl rfl (fun w hs => seal_Seal.calls hs hG p0 p1 p2 _ e29) ?_
    rintro _ M26 l27 rfl
    replace hG := hG.mono l27
    replace h7 := h7.mono l27
    refine w_val trivial rfl (fun a w hf hs => r_move (hf.ev rfl)) ?_
    refine w_val trivial rfl (fun a w hf hs => r_extract (hf.ev rfl) rfl) ?_
    refine w_val trivial rfl (fun a w hf hs => r_extract (hf.ev rfl) rfl) ?_
    refine w_val trivial rfl (fun a w hf hs => r_assign (hf.ev rfl)) ?_
    refine w_val trivial rfl (fun a w hf hs => r_assign (hf.ev rfl)) ?_
    refine w_nil (hK23 _ _ _ ?_)
    refine c_seq ?_
    intro K30 hK30
    refine c_reg ?_
    refine w_val trivial rfl (fun a w hf hs => r_move (hf.ev rfl)) ?_
    refine w_val trivial rfl (fun a w hf hs => r_move (hf.ev rfl)) ?_
    refine w_val trivial rfl (fun a w hf hs => r_move (hf.ev rfl)) ?_
    obtain ⟨t31, e36, H⟩ := bnd H
    refine w_call cf15 trivial rfl rfl (fun w hs => seal_Seal.calls hs hG p0 p3 p4 _ e36) ?_
    rintro _ M33 l34 rfl
    replace hG := hG.mono l34
    replace h7 := h7.mono l34
    refine w_val trivial rfl (fun a w hf hs => r_move (hf.ev rfl)) ?_
    refine w_val trivial rfl (fun a w hf hs => r_extract (hf.ev rfl) rfl) ?_
    refine w_val trivial rfl (fun a w hf hs => r_extract (hf.ev rfl) rfl) ?_
    refine w_val trivial rfl (fun a w hf hs => r_assign (hf.ev rfl)) ?_
    refine w_val trivial rfl (fun a w hf hs => r_assign (hf.ev rfl)) ?_
    refine w_nil (hK30 _ _ _ ?_)
    obtain ⟨t37, H1, H⟩ := bnd H
    have ht_ := (some_r H).trans hr_
    refine c_cut (fun a' w' => ∃ (M38 : Heap), HLe M33 M38 ∧ Fr 58 [(10, (.bool t37))] a' ∧ St none' M w M38 (lt []) w') ?_ ?_
    · replace H := H1
      clear H1
      refine c_reg ?_
      obtain ⟨t50, e55, H⟩ := bnd H
      refine w_call cf12 trivial rfl rfl (fun w hs => law04_sanity.calls hs hG  _ (hs_law04_sanity _ e55) e55) ?_
      rintro _ M52 l53 rfl
      replace hG := hG.mono l53
      replace h7 := h7.mono l53
      refine w_val trivial rfl (fun a w hf hs => r_move (hf.ev rfl)) ?_
      by_cases b56 : t50 = true
      · replace H := if_t b56 H
        refine w_val (Wnt.of rfl rfl b56) rfl (fun a w hf hs => r_move (hf.ev rfl)) ?_
        refine w_val (Wnt.of rfl rfl b56) rfl (fun a w hf hs => r_move (hf.ev rfl)) ?_
        refine w_val (Wnt.of rfl rfl b56) rfl (fun a w hf hs => r_eql (hf.ev rfl) (hf.ev rfl)) ?_
        refine w_val trivial rfl (fun a w hf hs => r_pickT (hf.ev rfl) b56 (hf.ev rfl)) ?_
        refine w_val trivial rfl (fun a w hf hs => r_move (hf.ev rfl)) ?_
        by_cases b57 : (t24.2 == t31.2) = true
        · replace H := if_t b57 H
          refine w_val (Wnt.of rfl rfl b57) rfl (fun a w hf hs => r_move (hf.ev rfl)) ?_
          refine w_val (Wnt.of rfl rfl b57) rfl (fun a w hf hs => r_neq (hf.ev rfl) (hf.ev rfl)) ?_
          refine w_val (Wnt.of rfl rfl b57) rfl (fun a w hf hs => r_move (hf.ev rfl)) ?_
          by_cases b58 : (t24.2 != (0 : Int)) = true
          · replace H := if_t b58 H
            refine w_not (Nwt.of rfl rfl b58) rfl ?_
            refine w_not (Nwt.of rfl rfl b58) rfl ?_
            refine w_not (Nwt.of rfl rfl b58) rfl ?_
            refine w_val (Wnt.of rfl rfl b57) rfl (fun a w hf hs => r_pickT (hf.ev rfl) b58 (hf.ev rfl)) ?_
            refine w_val (Wnt.of rfl rfl b57) rfl (fun a w hf hs => r_move (hf.ev rfl)) ?_
            refine w_not (Nwt.of rfl rfl rfl) rfl ?_
            refine w_not (Nwt.of rfl rfl rfl) rfl ?_
            refine w_not (Nwt.of rfl rfl rfl) rfl ?_
            refine w_val (Wnt.of rfl rfl b57) rfl (fun a w hf hs => r_pickT (hf.ev rfl) rfl (hf.ev rfl)) ?_
            refine w_val trivial rfl (fun a w hf hs => r_pickT (hf.ev rfl) b57 (hf.ev rfl)) ?_
            refine w_val trivial rfl (fun a w hf hs => r_assign (hf.ev rfl)) ?_
            obtain rfl := some_r H
            refine w_nil ?_
            intro a w' hf hs
            exact ⟨_, l53, (hf.nil.add (hf.get _ _ rfl)), hs.sel [] (by decide) rfl⟩
          · replace b58 := Bool.eq_false_iff.2 b58
            replace H := if_f b58 H
            refine w_val (Wnt.of rfl rfl b58) rfl (fun a w hf hs => r_move (hf.ev rfl)) ?_
            refine w_val (Wnt.of rfl rfl b58) rfl (fun a w hf hs => r_move (hf.ev rfl)) ?_
            refine w_val (Wnt.of rfl rfl b58) rfl (fun a w hf hs => r_sneq (hf.ev rfl) (hf.ev rfl)) ?_
            refine w_val (Wnt.of rfl rfl b57) rfl (fun a w hf hs => r_pickF (hf.ev rfl) b58 (hf.ev rfl)) ?_
            refine w_val (Wnt.of rfl rfl b57) rfl (fun a w hf hs => r_move (hf.ev rfl)) ?_
            by_cases b59 : (!(t24.1 == t31.1)) = true
            · replace H := if_t b59 H
              refine w_not (Nwt.of rfl rfl b59) rfl ?_
              refine w_not (Nwt.of rfl rfl b59) rfl ?_
              refine w_not (Nwt.of rfl rfl b59) rfl ?_
              refine w_val (Wnt.of rfl rfl b57) rfl (fun a w hf hs => r_pickT (hf.ev rfl) b59 (hf.ev rfl)) ?_
              refine w_val trivial rfl (fun a w hf hs => r_pickT (hf.ev rfl) b57 (hf.ev rfl)) ?_
              refine w_val trivial rfl (fun a w hf hs => r_assign (hf.ev rfl)) ?_
              obtain rfl := some_r H
              refine w_nil ?_
              intro a w' hf hs
              exact ⟨_, l53, (hf.nil.add (hf.get _ _ rfl)), hs.sel [] (by decide) rfl⟩
            · replace b59 := Bool.eq_false_iff.2 b59
              replace H := if_f b59 H
              refine w_val (Wnt.of rfl rfl b59) rfl (fun a w hf hs => r_move (hf.ev rfl)) ?_
              refine w_val (Wnt.of rfl rfl b59) rfl (fun a w hf hs => r_move (hf.ev rfl)) ?_
              refine w_val (Wnt.of rfl rfl b59) rfl (fun a w hf hs => r_seql (hf.ev rfl) (hf.ev rfl)) ?_
              refine w_val (Wnt.of rfl rfl b57) rfl (fun a w hf hs => r_pickF (hf.ev rfl) b59 (hf.ev rfl)) ?_
              refine w_val trivial rfl (fun a w hf hs => r_pickT (hf.ev rfl) b57 (hf.ev rfl)) ?_
              refine w_val trivial rfl (fun a w hf hs => r_assign (hf.ev rfl)) ?_
              obtain rfl := some_r H
              refine w_nil ?_
              intro a w' hf hs
              exact ⟨_, l53, (hf.nil.add (hf.get _ _ rfl)), hs.sel [] (by decide) rfl⟩
        · replace b57 := Bool.eq_false_iff.2 b57
          replace H := if_f b57 H
          exact absurd ((some_r H).trans ht_) (by decide)
      · replace b56 := Bool.eq_false_iff.2 b56
        replace H := if_f b56 H
        exact absurd ((some_r H).trans ht_) (by decide)
    · clear H1 ht_
      rintro a w' ⟨M38, l39, hf, hs⟩
      refine c_of (c := (Cx.mk Tryd.prog 58 none' M w)) ?_ hf hs
      clear hf hs
      replace hG := hG.mono l39
      replace h7 := h7.mono l39
      obtain rfl := some_r H
      refine c_ret ?_
      intro a w' hf hs
      exact hret _ (.inl rfl) a w' hf.df ⟨_, _, Res.of1 rfl (RV.t hf rfl), hs.ext, rfl⟩
end Go.Cu
