/- Each Go function comes to its pure function; condition: that one is defined there. -/
import Derived.Test.Ytakfalfggmgcfaa1Wx2
import Derived.Test.Ytakfalfggmgcfaa1P
import Derived.Test.Ytakfalfggmgcfaa1S
import Derived.Shelf.Strings.Repeat
import Derived.Ground.NamesProg
import Derived.Lib.Agree
import Derived.Test.YtakfalfggmgcfaaProg
import Derived.KernelRfl
import Derived.Test.YtakfalfggmgcfaaCu18
set_option linter.unusedVariables false
set_option linter.unusedSimpArgs false
set_option maxHeartbeats 4000000
/-! The walks. -/
namespace Go.Cu
open Go.Proofs Go.Proofs.Try Go.Shelf
set_option maxRecDepth 20000 in
theorem law37_RestoreNarrow.calls {M : Heap} {w : World} (hM : Sub M w) (hs_law37_sanity : ∀ t, law37_sanity = some t → t = true) (p0 : Table) (v1 : Value) (h2 : RS Key.F M v1 p0.Keys) (p1 : Backup) (v3 : Value) (h4 : RS Key.F M v3 p1.Keys) (p2 : Int) (r : Bool) (hr_ : r = true) (H : law37_RestoreNarrow p0 p1 p2 = some r) :
    Calls Try.prog 5 [(.agg (Table.C p0 v1).toArray), (.agg (Backup.C p1 v3).toArray), (.int .i64 p2)].toArray w (Post M w fun M' v => v = (.bool r)) := by
  refine enter 167 [(0, (.agg (Table.C p0 v1).toArray)), (1, (.agg (Backup.C p1 v3).toArray)), (2, (.int .i64 p2))] Try.func5 rfl rfl rfl hM ?_
  intro Q hret
  unfold law37_RestoreNarrow at H
  refine c_seq ?_
  intro K5 hK5
  refine c_reg ?_
  refine w_boxM trivial rfl rfl rfl ?_
  intro b6 M7 l8 h9
  replace h2 := h2.mono l8
  replace h4 := h4.mono l8
  refine w_boxM trivial rfl rfl rfl ?_
  intro b10 M11 l12 h13
  replace h2 := h2.mono l12
  replace h4 := h4.mono l12
  replace h9 := l12 _ _ h9
  refine w_val trivial rfl (fun a w hf hs => r_assign (hf.ev rfl)) ?_
  refine w_nil (hK5 _ _ _ ?_)
  refine c_seq ?_
  intro K14 hK14
  obtain ⟨t15, H1, H⟩ := bnd H
  refine c_cut (fun a' w' => ∃ (M16 : Heap), HLe M11 M16 ∧ Fr 167 [(2, (.int .i64 p2)), (3, (ptr b6 0)), (4, (ptr b10 0)), (29, (.bool t15))] a' ∧ St none' M w M16 (lt []) w') ?_ ?_
  · replace H := H1
    clear H1
    refine c_reg ?_
    refine w_val trivial rfl (fun a w hf hs => r_loadA ta24 ts24 (hf.ev rfl) (hs.sub _ _ h9) rfl rfl) ?_
    refine w_val trivial rfl (fun a w hf hs => r_loadA ta28 ts28 (hf.ev rfl) (hs.sub _ _ h13) (Backup.d0_38 _ _) (Backup.len _ _)) ?_
    obtain ⟨t18, e23, H⟩ := bnd H
    refine w_call cf7 trivial rfl rfl (fun w hs => law37_few.calls hs p0 v1 h2 p1 v3 h4 _ e23) ?_
    rintro _ M20 l21 rfl
    replace h2 := h2.mono l21
    replace h4 := h4.mono l21
    replace h9 := l21 _ _ h9
    replace h13 := l21 _ _ h13
    refine w_val trivial rfl (fun a w hf hs => r_not (hf.ev rfl)) ?_
    refine w_val trivial rfl (fun a w hf hs => r_move (hf.ev rfl)) ?_
    by_cases b24 : (!t18) = true
    · replace H := if_t b24 H
      refine w_not (Nwt.of rfl rfl b24) rfl ?_
      refine w_not (Nwt.of rfl rfl b24) rfl ?_
      refine w_not (Nwt.of rfl rfl b24) rfl ?_
      refine w_val trivial rfl (fun a w hf hs => r_pickT (hf.ev rfl) b24 (hf.ev rfl)) ?_
      obtain rfl := some_r H
      refine w_nil ?_
      intro a w' hf hs
      exact ⟨_, l21, ((((hf.nil.add (hf.get _ _ rfl)).add (hf.get _ _ rfl)).add (hf.get _ _ rfl)).add (hf.get _ _ rfl)), hs.sel [] (by decide) rfl⟩
    · replace b24 := Bool.eq_false_iff.2 b24
      replace H := if_f b24 H
      refine w_val (Wnt.of rfl rfl b24) rfl (fun a w hf hs => r_loadA ta24 ts24 (hf.ev rfl) (hs.sub _ _ h9) rfl rfl) ?_
      obtain ⟨t25, e30, H⟩ := bnd H
      refine w_call cf8 (Wnt.of rfl rfl b24) rfl rfl (fun w hs => ref27_ValidTable.calls hs p0 v1 h2 _ e30) ?_
      rintro _ M27 l28 rfl
      replace h2 := h2.mono l28
      replace h4 := h4.mono l28
      replace h9 := l28 _ _ h9
      replace h13 := l28 _ _ h13
      refine w_val (Wnt.of rfl rfl b24) rfl (fun a w hf hs => r_not (hf.ev rfl)) ?_
      refine w_val trivial rfl (fun a w hf hs => r_pickF (hf.ev rfl) b24 (hf.ev rfl)) ?_
      obtain rfl := some_r H
      refine w_nil ?_
      intro a w' hf hs
      exact ⟨_, (l21.trans l28), ((((hf.nil.add (hf.get _ _ rfl)).add (hf.get _ _ rfl)).add (hf.get _ _ rfl)).add (hf.get _ _ rfl)), hs.sel [] (by decide) rfl⟩
  · clear H1
    rintro a w' ⟨M16, l17, hf, hs⟩
    refine c_of (c := (Cx.mk Try.prog 167 none' M w)) ?_ hf hs
    clear hf hs
    replace h2 := h2.mono l17
    replace h4 := h4.mono l17
    replace h9 := l17 _ _ h9
    replace h13 := l17 _ _ h13
    refine c_if rfl (fun b31 => ?_) (fun b31 => ?_)
    · replace H := if_t b31 H
      refine c_seq ?_
      intro K32 hK32
      refine c_reg ?_
      obtain ⟨t33, e38, H⟩ := bnd H
      refine w_call cf9 trivial rfl rfl (fun w hs => law37_sanity.calls hs  _ (hs_law37_sanity _ e38) e38) ?_
      rintro _ M35 l36 rfl
      replace h2 := h2.mono l36
      replace h4 := h4.mono l36
      replace h9 := l36 _ _ h9
      replace h13 := l36 _ _ h13
      refine w_val trivial rfl (fun a w hf hs => r_assign (hf.ev rfl)) ?_
      refine w_nil (hK32 _ _ _ ?_)
      obtain rfl := some_r H
      refine c_ret ?_
      intro a w' hf hs
      exact hret _ (.inl rfl) a w' hf.df ⟨_, _, Res.of1 rfl (RV.t hf rfl), hs.ext, rfl⟩
    · replace H := if_f b31 H
      refine c_skip (hK14 _ _ _ ?_)
      refine c_seq ?_
      intro K39 hK39
      refine c_reg ?_
      refine w_val trivial rfl (fun a w hf hs => r_loadA ta24 ts24 (hf.ev rfl) (hs.sub _ _ h9) rfl rfl) ?_
      refine w_val trivial rfl (fun a w hf hs => r_loadA ta28 ts28 (hf.ev rfl) (hs.sub _ _ h13) (Backup.d0_38 _ _) (Backup.len _ _)) ?_
      refine w_val trivial rfl (fun a w hf hs => r_move (hf.ev rfl)) ?_
      obtain ⟨t40, e45, H⟩ := bnd H
      refine w_call cf10 trivial rfl rfl (fun w hs => restore_Plan.calls hs p0 v1 h2 p1 v3 h4 p2 _ e45) ?_
      rintro v209 M42 l43 ⟨v46, v48, hv_, h47, h49⟩
      replace hv_ := hv_.symm
      subst hv_
      replace h2 := h2.mono l43
      replace h4 := h4.mono l43
      replace h9 := l43 _ _ h9
      replace h13 := l43 _ _ h13
      refine w_val trivial rfl (fun a w hf hs => r_move (hf.ev rfl)) ?_
      refine w_val trivial rfl (fun a w hf hs => r_extract (hf.ev rfl) rfl) ?_
      refine w_val trivial rfl (fun a w hf hs => r_extract (hf.ev rfl) rfl) ?_
      refine w_val trivial rfl (fun a w hf hs => r_extract (hf.ev rfl) rfl) ?_
      refine w_allocL (A := Table.C (⟨(0 : Int), ([] : (List Key))⟩ : Table) (.slice none 0 0)) tz24 trivial rfl rfl ?_
      intro b50
      refine w_store (i := 0) (vs := Table.C t40.1 v46) (A' := Table.C t40.1 v46) trivial rfl rfl rfl rfl ts24 rfl (Table.C_one _ h47.one) (Nat.le_of_ble_eq_true rfl) rfl ?_
      refine w_val trivial rfl (fun a w hf hs => r_assign (hf.ev rfl)) ?_
      refine w_val trivial rfl (fun a w hf hs => r_assign (hf.ev rfl)) ?_
      refine w_nil (hK39 _ _ _ ?_)
      refine c_seq ?_
      intro K51 hK51
      refine c_seq ?_
      intro K52 hK52
      refine c_reg ?_
      refine w_val trivial rfl (fun a w hf hs => r_move (hf.ev rfl)) ?_
      refine w_val trivial rfl (fun a w hf hs => r_neq (hf.ev rfl) (hf.ev rfl)) ?_
      refine w_nil (hK52 _ _ _ ?_)
      refine c_if rfl (fun b53 => ?_) (fun b53 => ?_)
      · replace H := if_t b53 H
        refine c_seq ?_
        intro K54 hK54
        refine c_reg ?_
        obtain ⟨t55, e60, H⟩ := bnd H
        refine w_call cf9 trivial rfl rfl (fun w hs => law37_sanity.calls hs  _ (hs_law37_sanity _ e60) e60) ?_
        rintro _ M57 l58 rfl
        replace h2 := h2.mono l58
        replace h4 := h4.mono l58
        replace h9 := l58 _ _ h9
        replace h13 := l58 _ _ h13
        replace h47 := h47.mono l58
        replace h49 := h49.mono l58
        refine w_val trivial rfl (fun a w hf hs => r_assign (hf.ev rfl)) ?_
        refine w_nil (hK54 _ _ _ ?_)
        obtain rfl := some_r H
        refine c_ret ?_
        intro a w' hf hs
        exact hret _ (.inl rfl) a w' hf.df ⟨_, _, Res.of1 rfl (RV.t hf rfl), hs.ext, rfl⟩
      · replace H := if_f b53 H
        refine c_skip (hK51 _ _ _ ?_)
        refine c_seq ?_
        intro K61 hK61
        obtain ⟨t62, H1, H⟩ := bnd H
        have ht_ := ne_tr H hr_
        refine c_cut (fun a' w' => ∃ (M63 : Heap), HLe M42 M63 ∧ Fr 167 [(2, (.int .i64 p2)), (3, (ptr b6 0)), (4, (ptr b10 0)), (7, (ptr b50 0)), (8, v48), (61, (.bool t62))] a' ∧ St none' M w M63 (lt [.blk b50 (.cells (Table.C t40.1 v46).toArray 24 (0, 0))]) w') ?_ ?_
        · replace H := H1
          clear H1
          refine c_reg ?_
          refine w_val trivial rfl (fun a w hf hs => r_fa fa24_1 (hf.ev rfl)) ?_
          refine w_val trivial rfl (fun a w hf hs => r_load1 ta22 (hf.ev rfl) (hs.blk (i := 0) rfl) rfl) ?_
          refine w_val trivial rfl (fun a w hf hs => r_lenR Try.underlying22 h47 (hf.ev rfl)) ?_
          refine w_val trivial rfl (fun a w hf hs => r_fa fa24_1 (hf.ev rfl)) ?_
          refine w_val trivial rfl (fun a w hf hs => r_load1 ta22 (hf.ev rfl) (hs.sub _ _ h9) rfl) ?_
          refine w_val trivial rfl (fun a w hf hs => r_lenR Try.underlying22 h2 (hf.ev rfl)) ?_
          refine w_val trivial rfl (fun a w hf hs => r_move (hf.ev rfl)) ?_
          refine w_val trivial rfl (fun a w hf hs => r_lenR Try.underlying36 h49 (hf.ev rfl)) ?_
          refine w_val trivial rfl (fun a w hf hs => r_add (hf.ev rfl) (hf.ev rfl)) ?_
          refine w_val trivial rfl (fun a w hf hs => r_neq (hf.ev rfl) (hf.ev rfl)) ?_
          refine w_val trivial rfl (fun a w hf hs => r_move (hf.ev rfl)) ?_
          by_cases b208 : ((t40.1.Keys.length : Int) != (IntKind.i64.wrap ((p0.Keys.length : Int) + (t40.2.1.length : Int)))) = true
          · replace H := if_t b208 H
            exact absurd ((some_r H).trans ht_) (by decide)
          · replace b208 := Bool.eq_false_iff.2 b208
            replace H := if_f b208 H
            refine w_val (Wnt.of rfl rfl b208) rfl (fun a w hf hs => r_fa fa24_0 (hf.ev rfl)) ?_
            refine w_val (Wnt.of rfl rfl b208) rfl (fun a w hf hs => r_load1 ta3 (hf.ev rfl) (hs.blk (i := 0) rfl) rfl) ?_
            refine w_val (Wnt.of rfl rfl b208) rfl (fun a w hf hs => r_fa fa24_0 (hf.ev rfl)) ?_
            refine w_val (Wnt.of rfl rfl b208) rfl (fun a w hf hs => r_load1 ta3 (hf.ev rfl) (hs.sub _ _ h9) rfl) ?_
            refine w_val (Wnt.of rfl rfl b208) rfl (fun a w hf hs => r_move (hf.ev rfl)) ?_
            refine w_val (Wnt.of rfl rfl b208) rfl (fun a w hf hs => r_lenR Try.underlying36 h49 (hf.ev rfl)) ?_
            refine w_val (Wnt.of rfl rfl b208) rfl (fun a w hf hs => r_add (hf.ev rfl) (hf.ev rfl)) ?_
            refine w_val (Wnt.of rfl rfl b208) rfl (fun a w hf hs => r_neq (hf.ev rfl) (hf.ev rfl)) ?_
            refine w_val trivial rfl (fun a w hf hs => r_pickF (hf.ev rfl) b208 (hf.ev rfl)) ?_
            obtain rfl := some_r H
            refine w_nil ?_
            intro a w' hf hs
            exact ⟨_, (HLe.refl _), ((((((hf.nil.add (hf.get _ _ rfl)).add (hf.get _ _ rfl)).add (hf.get _ _ rfl)).add (hf.get _ _ rfl)).add (hf.get _ _ rfl)).add (hf.get _ _ rfl)), hs.sel [0] (by decide) rfl⟩
        · clear H1 ht_
          rintro a w' ⟨M63, l64, hf, hs⟩
          refine c_of (c := (Cx.mk Try.prog 167 none' M w)) ?_ hf hs
          clear hf hs
          replace h2 := h2.mono l64
          replace h4 := h4.mono l64
          replace h9 := l64 _ _ h9
          replace h13 := l64 _ _ h13
          replace h47 := h47.mono l64
          replace h49 := h49.mono l64
          refine c_if rfl (fun b66 => ?_) (fun b66 => ?_)
          · replace H := if_t b66 H
            refine c_seq ?_
            intro K67 hK67
            refine c_reg ?_
            refine w_val trivial rfl (fun a w hf hs => r_assign (hf.ev rfl)) ?_
            refine w_nil (hK67 _ _ _ ?_)
            obtain rfl := some_r H
            refine c_ret ?_
            intro a w' hf hs
            exact hret _ (.inl rfl) a w' hf.df ⟨_, _, Res.of1 rfl (RV.t hf rfl), hs.ext, rfl⟩
          · replace H := if_f b66 H
            refine c_skip (hK61 _ _ _ ?_)
            refine c_cut (fun a' w' => ∃ (M68 : Heap), HLe M63 M68 ∧ Fr 167 [(2, (.int .i64 p2)), (3, (ptr b6 0)), (4, (ptr b10 0)), (7, (ptr b50 0)), (8, v48)] a' ∧ St none' M w M68 (lt [.blk b50 (.cells (Table.C t40.1 v46).toArray 24 (0, 0))]) w' ∧ law37_RestoreNarrow.j8 t40 p0 p1 p2 = some r) ?_ ?_
            · refine c_seq ?_
              intro K168 hK168
              refine c_reg ?_
              refine w_val trivial rfl (fun a w hf hs => r_fa fa24_1 (hf.ev rfl)) ?_
              refine w_val trivial rfl (fun a w hf hs => r_load1 ta22 (hf.ev rfl) (hs.sub _ _ h9) rfl) ?_
              refine w_val trivial rfl (fun a w hf hs => r_lenR Try.underlying22 h2 (hf.ev rfl)) ?_
              refine w_val trivial rfl (fun a w hf hs => r_move (hf.ev rfl)) ?_
              refine w_nil (hK168 _ _ _ ?_)
              refine c_block ?_
              refine c_loop (fun (s169 : Int) a' w' => ∃ (M170 : Heap), HLe M63 M170 ∧ Fr 167 [(2, (.int .i64 p2)), (3, (ptr b6 0)), (4, (ptr b10 0)), (7, (ptr b50 0)), (8, v48), (63, v1), (64, (.int .i64 (p0.Keys.length : Int))), (65, (.int .i64 s169))] a' ∧ St none' M w M170 (lt [.blk b50 (.cells (Table.C t40.1 v46).toArray 24 (0, 0))]) w') (0 : Int) H ?_ ?_
              · intro a w' hf hs
                exact ⟨_, HLe.refl _, ((((((((hf.nil.add (hf.get _ _ rfl)).add (hf.get _ _ rfl)).add (hf.get _ _ rfl)).add (hf.get _ _ rfl)).add (hf.get _ _ rfl)).add (hf.get _ _ rfl)).add (hf.get _ _ rfl)).add (hf.get _ _ rfl)), hs.selD [some 0] (by decide) rfl⟩
              · clear H
                intro s169 y173 H r172 a w' hJ
                obtain ⟨M170, l171, hf, hs⟩ := hJ
                refine c_of (c := (Cx.mk Try.prog 167 none' M w)) ?_ hf hs
                unfold law37_RestoreNarrow.l9 at H
                clear hf hs
                replace h2 := h2.mono l171
                replace h4 := h4.mono l171
                replace h9 := l171 _ _ h9
                replace h13 := l171 _ _ h13
                replace h47 := h47.mono l171
                replace h49 := h49.mono l171
                refine c_seq ?_
                intro K174 hK174
                refine c_reg ?_
                refine w_val trivial rfl (fun a w hf hs => r_lss (hf.ev rfl) (hf.ev rfl)) ?_
                refine w_nil (hK174 _ _ _ ?_)
                refine c_seq ?_
                intro K175 hK175
                refine c_if rfl (fun b176 => ?_) (fun b176 => ?_)
                · replace H := if_t b176 H
                  refine c_skip (hK175 _ _ _ ?_)
                  refine c_seq ?_
                  intro K177 hK177
                  refine c_block ?_
                  refine c_seq ?_
                  intro K178 hK178
                  refine c_reg ?_
                  refine w_val trivial rfl (fun a w hf hs => r_move (hf.ev rfl)) ?_
                  obtain ⟨g179, H⟩ := grd_s H
                  refine w_val trivial rfl (fun a w hf hs => r_iR Try.underlying22 ts30 h2 (hf.ev rfl) (hf.ev rfl) g179.1 g179.2) ?_
                  refine w_val trivial rfl (fun a w hf hs => r_loadEA ta30 ts30 h2 hs.sub g179.1 g179.2 (hf.ev rfl) rfl rfl) ?_
                  refine w_allocL (A := Key.C (⟨(0 : Int), (0 : Int), ([] : List UInt8), (0 : Int), (0 : Int), (0 : Int), (0 : Int), (0 : Int), false⟩ : Key)) tz30 trivial rfl rfl ?_
                  intro b180
                  refine w_val trivial rfl (fun a w hf hs => r_assign (hf.ev rfl)) ?_
                  refine w_store (i := 1) (vs := Key.C (rd p0.Keys s169)) (A' := Key.C (rd p0.Keys s169)) trivial rfl rfl rfl rfl ts30 rfl (Key.F_one _) (Nat.le_of_ble_eq_true rfl) rfl ?_
                  refine w_nil (hK178 _ _ _ ?_)
                  refine c_seq ?_
                  intro K181 hK181
                  obtain ⟨g193, H⟩ := grd_s H
                  refine c_drawP [([], [7]), ([(0, 70)], []), ([], [10]), ([(1, 71), (2, 72)], []), ([(3, 73)], []), ([], [11]), ([(4, 74), (5, 75)], [])] [fun v M => v = (ptr b50 1), fun v M => v = v46, fun v M => v = (.int .i64 s169), fun v M => v = (eP v46 s169 9 0), fun v M => v = (.agg (Key.C (rd t40.1.Keys s169)).toArray), fun v M => v = (.agg (Key.C (rd p0.Keys s169)).toArray), fun v M => v = (.bool (!(decide ((rd t40.1.Keys s169) = (rd p0.Keys s169)))))] (by kernel_rfl) (by kernel_rfl) ?_ (AllT.cons ?_ (AllT.cons ?_ (AllT.cons ?_ (AllT.cons ?_ (AllT.cons ?_ (AllT.cons ?_ (AllT.cons ?_ AllT.nil))))))) ?_
                  · exact (MonoA.cons (fun _ _ _ _ h => h) (MonoA.cons (fun _ _ _ _ h => h) (MonoA.cons (fun _ _ _ _ h => h) (MonoA.cons (fun _ _ _ _ h => h) (MonoA.cons (fun _ _ _ _ h => h) (MonoA.cons (fun _ _ _ _ h => h) (MonoA.cons (fun _ _ _ _ h => h) MonoA.nil)))))))
                  · intro a w' M182 l183 hd hs
                    refine OP.ofW (l := [(7, (ptr b50 0))]) (hd.fr.add (hd.base 7 _ rfl rfl)) hs rfl ?_
                    refine w_val trivial rfl (fun a w hf hs => r_fa fa24_1 (hf.ev rfl)) ?_
                    refine w_nil ?_
                    intro a w' hf hs
                    exact ⟨rfl, hf.df, _, (HLe.refl _), hs, hf.get _ _ rfl⟩
                  · intro a w' M184 l185 hd hs
                    have e186 := hd.val 0 70 _ rfl rfl
                    refine OP.ofW (l := [(70, (ptr b50 1))]) (hd.fr.add e186) hs rfl ?_
                    refine w_val trivial rfl (fun a w hf hs => r_load1 ta22 (hf.ev rfl) (hs.blk (i := 0) rfl) rfl) ?_
                    refine w_nil ?_
                    intro a w' hf hs
                    exact ⟨rfl, hf.df, _, (HLe.refl _), hs, hf.get _ _ rfl⟩
                  · intro a w' M187 l188 hd hs
                    refine OP.ofW (l := [(10, (.int .i64 s169))]) (hd.fr.add (hd.base 10 _ rfl rfl)) hs rfl ?_
                    refine w_val trivial rfl (fun a w hf hs => r_move (hf.ev rfl)) ?_
                    refine w_nil ?_
                    intro a w' hf hs
                    exact ⟨rfl, hf.df, _, (HLe.refl _), hs, hf.get _ _ rfl⟩
                  · intro a w' M189 l190 hd hs
                    have e191 := hd.val 1 71 _ rfl rfl
                    replace h47 := h47.mono l190
                    have e192 := hd.val 2 72 _ rfl rfl
                    refine OP.ofW (l := [(71, v46), (72, (.int .i64 s169))]) ((hd.fr.add e192).add e191) hs rfl ?_
                    refine w_val trivial rfl (fun a w hf hs => r_iR Try.underlying22 ts30 h47 (hf.ev rfl) (hf.ev rfl) g193.1 g193.2) ?_
                    refine w_nil ?_
                    intro a w' hf hs
                    exact ⟨rfl, hf.df, _, (HLe.refl _), hs, hf.get _ _ rfl⟩
                  · intro a w' M194 l195 hd hs
                    have e196 := hd.val 3 73 _ rfl rfl
                    replace h47 := h47.mono l195
                    refine OP.ofW (l := [(73, (eP v46 s169 9 0))]) (hd.fr.add e196) hs rfl ?_
                    refine w_val trivial rfl (fun a w hf hs => r_loadEA ta30 ts30 h47 hs.sub g193.1 g193.2 (hf.ev rfl) rfl rfl) ?_
                    refine w_nil ?_
                    intro a w' hf hs
                    exact ⟨rfl, hf.df, _, (HLe.refl _), hs, hf.get _ _ rfl⟩
                  · intro a w' M197 l198 hd hs
                    refine OP.ofW (l := [(11, (ptr b180 0))]) (hd.fr.add (hd.base 11 _ rfl rfl)) hs rfl ?_
                    refine w_val trivial rfl (fun a w hf hs => r_loadA ta30 ts30 (hf.ev rfl) (hs.blk (i := 1) rfl) rfl rfl) ?_
                    refine w_nil ?_
                    intro a w' hf hs
                    exact ⟨rfl, hf.df, _, (HLe.refl _), hs, hf.get _ _ rfl⟩
                  · intro a w' M199 l200 hd hs
                    have e201 := hd.val 4 74 _ rfl rfl
                    have e202 := hd.val 5 75 _ rfl rfl
                    refine OP.ofW (l := [(74, (.agg (Key.C (rd t40.1.Keys s169)).toArray)), (75, (.agg (Key.C (rd p0.Keys s169)).toArray))]) ((hd.fr.add e202).add e201) hs rfl ?_
                    refine w_val trivial rfl (fun a w hf hs => r_neS eq30 (hf.ev rfl) (hf.ev rfl)) ?_
                    refine w_nil ?_
                    intro a w' hf hs
                    exact ⟨rfl, hf.df, _, (HLe.refl _), hs, hf.get _ _ rfl⟩
                  intro a w' M203 l204 hdf hsz hb hv hs
                  replace h2 := h2.mono l204
                  replace h4 := h4.mono l204
                  replace h9 := l204 _ _ h9
                  replace h13 := l204 _ _ h13
                  replace h47 := h47.mono l204
                  replace h49 := h49.mono l204
                  have e205 := hv 6 76 _ rfl rfl
                  refine n_of (c := (Cx.mk Try.prog 167 none' M w)) (l := [(2, (.int .i64 p2)), (3, (ptr b6 0)), (4, (ptr b10 0)), (7, (ptr b50 0)), (8, v48), (63, v1), (64, (.int .i64 (p0.Keys.length : Int))), (65, (.int .i64 s169)), (76, (.bool (!(decide ((rd t40.1.Keys s169) = (rd p0.Keys s169))))))]) ?_ ((((((((((Fr.start hdf hsz).add e205).add (hb 65 _ rfl rfl)).add (hb 64 _ rfl rfl)).add (hb 63 _ rfl rfl)).add (hb 8 _ rfl rfl)).add (hb 7 _ rfl rfl)).add (hb 4 _ rfl rfl)).add (hb 3 _ rfl rfl)).add (hb 2 _ rfl rfl)) hs
                  clear hdf hsz hb hv hs e205
                  refine n_id (hK181 _ _ _ ?_)
                  refine c_if rfl (fun b206 => ?_) (fun b206 => ?_)
                  · replace H := if_t b206 H
                    refine c_seq ?_
                    intro K207 hK207
                    refine c_reg ?_
                    refine w_val trivial rfl (fun a w hf hs => r_assign (hf.ev rfl)) ?_
                    refine w_nil (hK207 _ _ _ ?_)
                    obtain rfl := (r172 _ (Option.some.inj H).symm)
                    refine c_ret ?_
                    intro a w' hf hs
                    exact hret _ (.inl rfl) a w' hf.df ⟨_, _, Res.of1 rfl (RV.t hf rfl), hs.ext, rfl⟩
                  · replace H := if_f b206 H
                    refine c_skip (hK177 _ _ _ ?_)
                    refine c_reg ?_
                    refine w_val trivial rfl (fun a w hf hs => r_add (hf.ev rfl) (hf.ev rfl)) ?_
                    refine w_val trivial rfl (fun a w hf hs => r_move (hf.ev rfl)) ?_
                    refine w_nil ?_
                    intro a w' hf hs
                    exact ⟨_, (some_r H).symm, _, l171.trans l204, ((((((((hf.nil.add (hf.get _ _ rfl)).add (hf.get _ _ rfl)).add (hf.get _ _ rfl)).add (hf.get _ _ rfl)).add (hf.get _ _ rfl)).add (hf.get _ _ rfl)).add (hf.get _ _ rfl)).add (hf.get _ _ rfl)), hs.selD [some 0] (by decide) rfl⟩
                · replace H := if_f b176 H
                  replace H := map_inr H r172
                  refine c_exit ?_
                  intro a w' hf hs
                  exact ⟨_, l171, (((((hf.nil.add (hf.get _ _ rfl)).add (hf.get _ _ rfl)).add (hf.get _ _ rfl)).add (hf.get _ _ rfl)).add (hf.get _ _ rfl)), hs.selD [some 0] (by decide) rfl, H⟩
            · rintro a w' ⟨M68, l69, hf, hs, H⟩
              refine c_of (c := (Cx.mk Try.prog 167 none' M w)) ?_ hf hs
              unfold law37_RestoreNarrow.j8 at H
              clear hf hs
              replace h2 := h2.mono l69
              replace h4 := h4.mono l69
              replace h9 := l69 _ _ h9
              replace h13 := l69 _ _ h13
              replace h47 := h47.mono l69
              replace h49 := h49.mono l69
              refine c_cut (fun a' w' => ∃ (M70 : Heap), HLe M68 M70 ∧ Fr 167 [] a' ∧ St none' M w M70 (lt [dead]) w' ∧ law37_RestoreNarrow.j1  = some r) ?_ ?_
              · refine c_seq ?_
                intro K79 hK79
                refine c_reg ?_
                refine w_val trivial rfl (fun a w hf hs => r_move (hf.ev rfl)) ?_
                refine w_val trivial rfl (fun a w hf hs => r_lenR Try.underlying36 h49 (hf.ev rfl)) ?_
                refine w_val trivial rfl (fun a w hf hs => r_move (hf.ev rfl)) ?_
                refine w_nil (hK79 _ _ _ ?_)
                refine c_block ?_
                refine c_loop (fun (s80 : Int) a' w' => ∃ (M81 : Heap), HLe M68 M81 ∧ Fr 167 [(2, (.int .i64 p2)), (3, (ptr b6 0)), (4, (ptr b10 0)), (7, (ptr b50 0)), (78, v48), (79, (.int .i64 (t40.2.1.length : Int))), (80, (.int .i64 s80))] a' ∧ St none' M w M81 (lt [.blk b50 (.cells (Table.C t40.1 v46).toArray 24 (0, 0))]) w') (0 : Int) H ?_ ?_
                · intro a w' hf hs
                  exact ⟨_, HLe.refl _, (((((((hf.nil.add (hf.get _ _ rfl)).add (hf.get _ _ rfl)).add (hf.get _ _ rfl)).add (hf.get _ _ rfl)).add (hf.get _ _ rfl)).add (hf.get _ _ rfl)).add (hf.get _ _ rfl)), hs.selD [some 0] (by decide) rfl⟩
                · clear H
                  intro s80 y84 H r83 a w' hJ
                  obtain ⟨M81, l82, hf, hs⟩ := hJ
                  refine c_of (c := (Cx.mk Try.prog 167 none' M w)) ?_ hf hs
                  unfold law37_RestoreNarrow.l7 at H
                  clear hf hs
                  replace h2 := h2.mono l82
                  replace h4 := h4.mono l82
                  replace h9 := l82 _ _ h9
                  replace h13 := l82 _ _ h13
                  replace h47 := h47.mono l82
                  replace h49 := h49.mono l82
                  refine c_seq ?_
                  intro K85 hK85
                  refine c_reg ?_
                  refine w_val trivial rfl (fun a w hf hs => r_lss (hf.ev rfl) (hf.ev rfl)) ?_
                  refine w_nil (hK85 _ _ _ ?_)
                  refine c_seq ?_
                  intro K86 hK86
                  refine c_if rfl (fun b87 => ?_) (fun b87 => ?_)
                  · replace H := if_t b87 H
                    refine c_skip (hK86 _ _ _ ?_)
                    refine c_cut (fun a' w' => ∃ (M88 : Heap), HLe M81 M88 ∧ Fr 167 [(2, (.int .i64 p2)), (3, (ptr b6 0)), (4, (ptr b10 0)), (7, (ptr b50 0)), (78, v48), (79, (.int .i64 (t40.2.1.length : Int))), (80, (.int .i64 s80))] a' ∧ St none' M w M88 (lt [.blk b50 (.cells (Table.C t40.1 v46).toArray 24 (0, 0))]) w' ∧ law37_RestoreNarrow.j2 s80 = some y84) ?_ ?_
                    · refine c_block ?_
                      refine c_seq ?_
                      intro K90 hK90
                      refine c_reg ?_
                      refine w_val trivial rfl (fun a w hf hs => r_move (hf.ev rfl)) ?_
                      obtain ⟨g91, H⟩ := grd_s H
                      refine w_val trivial rfl (fun a w hf hs => r_iR Try.underlying36 ts3 h49 (hf.ev rfl) (hf.ev rfl) g91.1 g91.2) ?_
                      refine w_val trivial rfl (fun a w hf hs => r_loadE1 ta3 h49 hs.sub g91.1 g91.2 (hf.ev rfl) rfl) ?_
                      refine w_val trivial rfl (fun a w hf hs => r_assign (hf.ev rfl)) ?_
                      refine w_val trivial rfl (fun a w hf hs => r_assign (hf.ev rfl)) ?_
                      refine w_nil (hK90 _ _ _ ?_)
                      refine c_seq ?_
                      intro K92 hK92
                      refine c_reg ?_
                      refine w_val trivial rfl (fun a w hf hs => r_fa fa24_1 (hf.ev rfl)) ?_
                      refine w_val trivial rfl (fun a w hf hs => r_load1 ta22 (hf.ev rfl) (hs.blk (i := 0) rfl) rfl) ?_
                      refine w_val trivial rfl (fun a w hf hs => r_fa fa24_1 (hf.ev rfl)) ?_
                      refine w_val trivial rfl (fun a w hf hs => r_load1 ta22 (hf.ev rfl) (hs.sub _ _ h9) rfl) ?_
                      refine w_val trivial rfl (fun a w hf hs => r_lenR Try.underlying22 h2 (hf.ev rfl)) ?_
                      refine w_val trivial rfl (fun a w hf hs => r_move (hf.ev rfl)) ?_
                      refine w_val trivial rfl (fun a w hf hs => r_add (hf.ev rfl) (hf.ev rfl)) ?_
                      obtain ⟨g93, H⟩ := grd_s H
                      refine w_val trivial rfl (fun a w hf hs => r_iR Try.underlying22 ts30 h47 (hf.ev rfl) (hf.ev rfl) g93.1 g93.2) ?_
                      refine w_val trivial rfl (fun a w hf hs => r_loadEA ta30 ts30 h47 hs.sub g93.1 g93.2 (hf.ev rfl) rfl rfl) ?_
                      refine w_allocL (A := Key.C (⟨(0 : Int), (0 : Int), ([] : List UInt8), (0 : Int), (0 : Int), (0 : Int), (0 : Int), (0 : Int), false⟩ : Key)) tz30 trivial rfl rfl ?_
                      intro b94
                      refine w_store (i := 1) (vs := Key.C (rd t40.1.Keys (IntKind.i64.wrap ((p0.Keys.length : Int) + s80)))) (A' := Key.C (rd t40.1.Keys (IntKind.i64.wrap ((p0.Keys.length : Int) + s80)))) trivial rfl rfl rfl rfl ts30 rfl (Key.F_one _) (Nat.le_of_ble_eq_true rfl) rfl ?_
                      refine w_nil (hK92 _ _ _ ?_)
                      refine c_seq ?_
                      intro K95 hK95
                      refine c_reg ?_
                      refine w_val trivial rfl (fun a w hf hs => r_assign (hf.ev rfl)) ?_
                      refine w_nil (hK95 _ _ _ ?_)
                      refine c_cut (fun a' w' => ∃ (x96 : Bool) (M97 : Heap), HLe M81 M97 ∧ Fr 167 [(2, (.int .i64 p2)), (3, (ptr b6 0)), (4, (ptr b10 0)), (7, (ptr b50 0)), (12, (.int .i64 s80)), (13, (.int .i64 (rd t40.2.1 s80))), (14, (ptr b94 0)), (15, (.bool x96)), (78, v48), (79, (.int .i64 (t40.2.1.length : Int))), (80, (.int .i64 s80))] a' ∧ St none' M w M97 (lt [.blk b50 (.cells (Table.C t40.1 v46).toArray 24 (0, 0)), .blk b94 (.cells (Key.C (rd t40.1.Keys (IntKind.i64.wrap ((p0.Keys.length : Int) + s80)))).toArray 30 (0, 0))]) w' ∧ law37_RestoreNarrow.j5 p0 s80 t40 x96 p2 = some y84) ?_ ?_
                      · refine c_seq ?_
                        intro K129 hK129
                        refine c_reg ?_
                        refine w_val trivial rfl (fun a w hf hs => r_fa fa28_7 (hf.ev rfl)) ?_
                        refine w_val trivial rfl (fun a w hf hs => r_load1 ta22 (hf.ev rfl) (hs.sub _ _ h13) (Backup.g37 _ _)) ?_
                        refine w_val trivial rfl (fun a w hf hs => r_lenR Try.underlying22 h4 (hf.ev rfl)) ?_
                        refine w_val trivial rfl (fun a w hf hs => r_move (hf.ev rfl)) ?_
                        refine w_nil (hK129 _ _ _ ?_)
                        refine c_block ?_
                        refine c_loop (fun (s130 : (Bool × Int)) a' w' => ∃ (M131 : Heap), HLe M81 M131 ∧ Fr 167 [(2, (.int .i64 p2)), (3, (ptr b6 0)), (4, (ptr b10 0)), (7, (ptr b50 0)), (12, (.int .i64 s80)), (13, (.int .i64 (rd t40.2.1 s80))), (14, (ptr b94 0)), (15, (.bool s130.1)), (78, v48), (79, (.int .i64 (t40.2.1.length : Int))), (80, (.int .i64 s80)), (95, v3), (96, (.int .i64 (p1.Keys.length : Int))), (97, (.int .i64 s130.2))] a' ∧ St none' M w M131 (lt [.blk b50 (.cells (Table.C t40.1 v46).toArray 24 (0, 0)), .blk b94 (.cells (Key.C (rd t40.1.Keys (IntKind.i64.wrap ((p0.Keys.length : Int) + s80)))).toArray 30 (0, 0))]) w') (false, (0 : Int)) H ?_ ?_
                        · intro a w' hf hs
                          exact ⟨_, HLe.refl _, ((((((((((((((hf.nil.add (hf.get _ _ rfl)).add (hf.get _ _ rfl)).add (hf.get _ _ rfl)).add (hf.get _ _ rfl)).add (hf.get _ _ rfl)).add (hf.get _ _ rfl)).add (hf.get _ _ rfl)).add (hf.get _ _ rfl)).add (hf.get _ _ rfl)).add (hf.get _ _ rfl)).add (hf.get _ _ rfl)).add (hf.get _ _ rfl)).add (hf.get _ _ rfl)).add (hf.get _ _ rfl)), hs.selD [some 0, some 1] (by decide) rfl⟩
                        · clear H
                          intro s130 y134 H r133 a w' hJ
                          obtain ⟨M131, l132, hf, hs⟩ := hJ
                          refine c_of (c := (Cx.mk Try.prog 167 none' M w)) ?_ hf hs
                          unfold law37_RestoreNarrow.l6 at H
                          clear hf hs
                          replace h2 := h2.mono l132
                          replace h4 := h4.mono l132
                          replace h9 := l132 _ _ h9
                          replace h13 := l132 _ _ h13
                          replace h47 := h47.mono l132
                          replace h49 := h49.mono l132
                          refine c_seq ?_
                          intro K135 hK135
                          refine c_reg ?_
                          refine w_val trivial rfl (fun a w hf hs => r_lss (hf.ev rfl) (hf.ev rfl)) ?_
                          refine w_nil (hK135 _ _ _ ?_)
                          refine c_seq ?_
                          intro K136 hK136
                          refine c_if rfl (fun b137 => ?_) (fun b137 => ?_)
                          · replace H := if_t b137 H
                            refine c_skip (hK136 _ _ _ ?_)
                            refine c_seq ?_
                            intro K138 hK138
                            refine c_block ?_
                            refine c_seq ?_
                            intro K139 hK139
                            refine c_reg ?_
                            obtain ⟨g140, H⟩ := grd_s H
                            refine w_val trivial rfl (fun a w hf hs => r_iR Try.underlying22 ts30 h4 (hf.ev rfl) (hf.ev rfl) g140.1 g140.2) ?_
                            refine w_val trivial rfl (fun a w hf hs => r_loadEA ta30 ts30 h4 hs.sub g140.1 g140.2 (hf.ev rfl) rfl rfl) ?_
                            refine w_allocL (A := Key.C (⟨(0 : Int), (0 : Int), ([] : List UInt8), (0 : Int), (0 : Int), (0 : Int), (0 : Int), (0 : Int), false⟩ : Key)) tz30 trivial rfl rfl ?_
                            intro b141
                            refine w_L [.blk b50 (.cells (Table.C t40.1 v46).toArray 24 (0, 0)), .blk b94 (.cells (Key.C (rd t40.1.Keys (IntKind.i64.wrap ((p0.Keys.length : Int) + s80)))).toArray 30 (0, 0)), .blk b141 (.cells (Key.C (⟨(0 : Int), (0 : Int), ([] : List UInt8), (0 : Int), (0 : Int), (0 : Int), (0 : Int), (0 : Int), false⟩ : Key)).toArray 30 (0, 0))] rfl ?_
                            refine w_store (i := 2) (vs := Key.C (rd p1.Keys s130.2)) (A' := Key.C (rd p1.Keys s130.2)) trivial rfl rfl rfl rfl ts30 rfl (Key.F_one _) (Nat.le_of_ble_eq_true rfl) rfl ?_
                            refine w_L [.blk b50 (.cells (Table.C t40.1 v46).toArray 24 (0, 0)), .blk b94 (.cells (Key.C (rd t40.1.Keys (IntKind.i64.wrap ((p0.Keys.length : Int) + s80)))).toArray 30 (0, 0)), .blk b141 (.cells (Key.C (rd p1.Keys s130.2)).toArray 30 (0, 0))] rfl ?_
                            refine w_nil (hK139 _ _ _ ?_)
                            refine c_seq ?_
                            intro K142 hK142
                            refine c_drawW [[], [], [5, 7]] [⟨[], [14], [], none⟩, ⟨[(0, 101)], [], [(1, 0)], none⟩, ⟨[], [14], [], none⟩, ⟨[(2, 103)], [], [(1, 0)], none⟩, ⟨[], [17], [], none⟩, ⟨[(4, 105), (1, 102)], [], [(2, 0)], some (2, 0)⟩, ⟨[], [17], [], none⟩, ⟨[(6, 106), (3, 104)], [], [(2, 1)], some (2, 1)⟩] [fun v M => v = (ptr b94 0), fun v M => v = (.int .i64 ((rd t40.1.Keys (IntKind.i64.wrap ((p0.Keys.length : Int) + s80))).Id)), fun v M => v = (ptr b94 7), fun v M => v = (.int .i64 ((rd t40.1.Keys (IntKind.i64.wrap ((p0.Keys.length : Int) + s80))).Parent)), fun v M => v = (ptr b141 0), fun _ _ => True, fun v M => v = (ptr b141 7), fun _ _ => True] [[fun y M => y = .blk b50 (.cells (Table.C t40.1 v46).toArray 24 (0, 0))], [fun y M => y = .blk b94 (.cells (Key.C (rd t40.1.Keys (IntKind.i64.wrap ((p0.Keys.length : Int) + s80)))).toArray 30 (0, 0))], [fun y M => y = .blk b141 (.cells (Key.C (rd p1.Keys s130.2)).toArray 30 (0, 0)), fun y M => y = .blk b141 (.cells (Key.C ({ (rd p1.Keys s130.2) with Id := (rd t40.1.Keys (IntKind.i64.wrap ((p0.Keys.length : Int) + s80))).Id } : Key)).toArray 30 (0, 0)), fun y M => y = .blk b141 (.cells (Key.C ({ ({ (rd p1.Keys s130.2) with Id := (rd t40.1.Keys (IntKind.i64.wrap ((p0.Keys.length : Int) + s80))).Id } : Key) with Parent := (rd t40.1.Keys (IntKind.i64.wrap ((p0.Keys.length : Int) + s80))).Parent } : Key)).toArray 30 (0, 0))]] (by kernel_rfl) (by kernel_rfl) ?_ ?_ rfl ?_ (AllW.cons ?_ (AllW.cons ?_ (AllW.cons ?_ (AllW.cons ?_ (AllW.cons ?_ (AllW.cons ?_ (AllW.cons ?_ (AllW.cons ?_ AllW.nil)))))))) ?_
                            · exact (MonoA.cons (fun _ _ _ _ h => h) (MonoA.cons (fun _ _ _ _ h => h) (MonoA.cons (fun _ _ _ _ h => h) (MonoA.cons (fun _ _ _ _ h => h) (MonoA.cons (fun _ _ _ _ h => h) (MonoA.cons (fun _ _ _ _ h => h) (MonoA.cons (fun _ _ _ _ h => h) (MonoA.cons (fun _ _ _ _ h => h) MonoA.nil))))))))
                            · exact (MonoK.cons (mono_cons (fun _ _ _ _ h => h) mono_nil) (MonoK.cons (mono_cons (fun _ _ _ _ h => h) mono_nil) (MonoK.cons (mono_cons (fun _ _ _ _ h => h) (mono_cons (fun _ _ _ _ h => h) (mono_cons (fun _ _ _ _ h => h) mono_nil))) MonoK.nil)))
                            · exact (All0.cons rfl (All0.cons rfl (All0.cons rfl All0.nil)))
                            · intro a w' M143 L_ l144 hL hd hs
                              obtain ⟨x0_, L0_, rfl, hL0⟩ := lenS hL
                              obtain ⟨x1_, L1_, rfl, hL1⟩ := lenS hL0
                              obtain ⟨x2_, L2_, rfl, hL2⟩ := lenS hL1
                              obtain rfl := len0 hL2
                              refine OP.ofW (l := [(14, (ptr b94 0))]) (hd.fr.add (hd.base 14 _ rfl rfl)) hs rfl ?_
                              refine w_val trivial rfl (fun a w hf hs => r_fa fa30_0 (hf.ev rfl)) ?_
                              refine w_nil ?_
                              intro a w' hf hs
                              exact ⟨rfl, hf.df, _, _, (HLe.refl _), hs, hf.get _ _ rfl, rfl⟩
                            · intro a w' M145 L_ l146 hL hd hs
                              have e147 := hd.val 0 101 _ rfl rfl
                              obtain ⟨x0_, L0_, rfl, hL0⟩ := lenS hL
                              obtain ⟨x1_, L1_, rfl, hL1⟩ := lenS hL0
                              obtain ⟨x2_, L2_, rfl, hL2⟩ := lenS hL1
                              obtain rfl := len0 hL2
                              obtain ⟨_, hy, rfl⟩ := hd.item 1 0 _ rfl rfl
                              obtain rfl := Option.some.inj hy
                              refine OP.ofW (l := [(101, (ptr b94 0))]) (hd.fr.add e147) hs rfl ?_
                              refine w_val trivial rfl (fun a w hf hs => r_load1 ta3 (hf.ev rfl) (hs.blk (i := 1) rfl) rfl) ?_
                              refine w_nil ?_
                              intro a w' hf hs
                              exact ⟨rfl, hf.df, _, _, (HLe.refl _), hs, hf.get _ _ rfl, rfl⟩
                            · intro a w' M148 L_ l149 hL hd hs
                              obtain ⟨x0_, L0_, rfl, hL0⟩ := lenS hL
                              obtain ⟨x1_, L1_, rfl, hL1⟩ := lenS hL0
                              obtain ⟨x2_, L2_, rfl, hL2⟩ := lenS hL1
                              obtain rfl := len0 hL2
                              refine OP.ofW (l := [(14, (ptr b94 0))]) (hd.fr.add (hd.base 14 _ rfl rfl)) hs rfl ?_
                              refine w_val trivial rfl (fun a w hf hs => r_fa fa30_7 (hf.ev rfl)) ?_
                              refine w_nil ?_
                              intro a w' hf hs
                              exact ⟨rfl, hf.df, _, _, (HLe.refl _), hs, hf.get _ _ rfl, rfl⟩
                            · intro a w' M150 L_ l151 hL hd hs
                              have e152 := hd.val 2 103 _ rfl rfl
                              obtain ⟨x0_, L0_, rfl, hL0⟩ := lenS hL
                              obtain ⟨x1_, L1_, rfl, hL1⟩ := lenS hL0
                              obtain ⟨x2_, L2_, rfl, hL2⟩ := lenS hL1
                              obtain rfl := len0 hL2
                              obtain ⟨_, hy, rfl⟩ := hd.item 1 0 _ rfl rfl
                              obtain rfl := Option.some.inj hy
                              refine OP.ofW (l := [(103, (ptr b94 7))]) (hd.fr.add e152) hs rfl ?_
                              refine w_val trivial rfl (fun a w hf hs => r_load1 ta3 (hf.ev rfl) (hs.blk (i := 1) rfl) rfl) ?_
                              refine w_nil ?_
                              intro a w' hf hs
                              exact ⟨rfl, hf.df, _, _, (HLe.refl _), hs, hf.get _ _ rfl, rfl⟩
                            · intro a w' M153 L_ l154 hL hd hs
                              obtain ⟨x0_, L0_, rfl, hL0⟩ := lenS hL
                              obtain ⟨x1_, L1_, rfl, hL1⟩ := lenS hL0
                              obtain ⟨x2_, L2_, rfl, hL2⟩ := lenS hL1
                              obtain rfl := len0 hL2
                              refine OP.ofW (l := [(17, (ptr b141 0))]) (hd.fr.add (hd.base 17 _ rfl rfl)) hs rfl ?_
                              refine w_val trivial rfl (fun a w hf hs => r_fa fa30_0 (hf.ev rfl)) ?_
                              refine w_nil ?_
                              intro a w' hf hs
                              exact ⟨rfl, hf.df, _, _, (HLe.refl _), hs, hf.get _ _ rfl, rfl⟩
                            · intro a w' M155 L_ l156 hL hd hs
                              have e157 := hd.val 4 105 _ rfl rfl
                              have e158 := hd.val 1 102 _ rfl rfl
                              obtain ⟨x0_, L0_, rfl, hL0⟩ := lenS hL
                              obtain ⟨x1_, L1_, rfl, hL1⟩ := lenS hL0
                              obtain ⟨x2_, L2_, rfl, hL2⟩ := lenS hL1
                              obtain rfl := len0 hL2
                              obtain ⟨_, hy, rfl⟩ := hd.item 2 0 _ rfl rfl
                              obtain rfl := Option.some.inj hy
                              refine OP.ofW (l := [(105, (ptr b141 0)), (102, (.int .i64 ((rd t40.1.Keys (IntKind.i64.wrap ((p0.Keys.length : Int) + s80))).Id)))]) ((hd.fr.add e158).add e157) hs rfl ?_
                              refine w_store (i := 2) (vs := [(.int .i64 ((rd t40.1.Keys (IntKind.i64.wrap ((p0.Keys.length : Int) + s80))).Id))]) (A' := Key.C ({ (rd p1.Keys s130.2) with Id := (rd t40.1.Keys (IntKind.i64.wrap ((p0.Keys.length : Int) + s80))).Id } : Key)) trivial rfl rfl rfl rfl ts3 rfl (one1 rfl) (Nat.le_of_ble_eq_true rfl) rfl ?_
                              refine w_nil ?_
                              intro a w' hf hs
                              exact ⟨rfl, hf.df, _, _, (HLe.refl _), hs, trivial, ⟨.blk b141 (.cells (Key.C ({ (rd p1.Keys s130.2) with Id := (rd t40.1.Keys (IntKind.i64.wrap ((p0.Keys.length : Int) + s80))).Id } : Key)).toArray 30 (0, 0)), rfl, of_some (q := fun y M => y = .blk b141 (.cells (Key.C ({ (rd p1.Keys s130.2) with Id := (rd t40.1.Keys (IntKind.i64.wrap ((p0.Keys.length : Int) + s80))).Id } : Key)).toArray 30 (0, 0))) rfl⟩⟩
                            · intro a w' M159 L_ l160 hL hd hs
                              obtain ⟨x0_, L0_, rfl, hL0⟩ := lenS hL
                              obtain ⟨x1_, L1_, rfl, hL1⟩ := lenS hL0
                              obtain ⟨x2_, L2_, rfl, hL2⟩ := lenS hL1
                              obtain rfl := len0 hL2
                              refine OP.ofW (l := [(17, (ptr b141 0))]) (hd.fr.add (hd.base 17 _ rfl rfl)) hs rfl ?_
                              refine w_val trivial rfl (fun a w hf hs => r_fa fa30_7 (hf.ev rfl)) ?_
                              refine w_nil ?_
                              intro a w' hf hs
                              exact ⟨rfl, hf.df, _, _, (HLe.refl _), hs, hf.get _ _ rfl, rfl⟩
                            · intro a w' M161 L_ l162 hL hd hs
                              have e163 := hd.val 6 106 _ rfl rfl
                              have e164 := hd.val 3 104 _ rfl rfl
                              obtain ⟨x0_, L0_, rfl, hL0⟩ := lenS hL
                              obtain ⟨x1_, L1_, rfl, hL1⟩ := lenS hL0
                              obtain ⟨x2_, L2_, rfl, hL2⟩ := lenS hL1
                              obtain rfl := len0 hL2
                              obtain ⟨_, hy, rfl⟩ := hd.item 2 1 _ rfl rfl
                              obtain rfl := Option.some.inj hy
                              refine OP.ofW (l := [(106, (ptr b141 7)), (104, (.int .i64 ((rd t40.1.Keys (IntKind.i64.wrap ((p0.Keys.length : Int) + s80))).Parent)))]) ((hd.fr.add e164).add e163) hs rfl ?_
                              refine w_store (i := 2) (vs := [(.int .i64 ((rd t40.1.Keys (IntKind.i64.wrap ((p0.Keys.length : Int) + s80))).Parent))]) (A' := Key.C ({ ({ (rd p1.Keys s130.2) with Id := (rd t40.1.Keys (IntKind.i64.wrap ((p0.Keys.length : Int) + s80))).Id } : Key) with Parent := (rd t40.1.Keys (IntKind.i64.wrap ((p0.Keys.length : Int) + s80))).Parent } : Key)) trivial rfl rfl rfl rfl ts3 rfl (one1 rfl) (Nat.le_of_ble_eq_true rfl) rfl ?_
                              refine w_nil ?_
                              intro a w' hf hs
                              exact ⟨rfl, hf.df, _, _, (HLe.refl _), hs, trivial, ⟨.blk b141 (.cells (Key.C ({ ({ (rd p1.Keys s130.2) with Id := (rd t40.1.Keys (IntKind.i64.wrap ((p0.Keys.length : Int) + s80))).Id } : Key) with Parent := (rd t40.1.Keys (IntKind.i64.wrap ((p0.Keys.length : Int) + s80))).Parent } : Key)).toArray 30 (0, 0)), rfl, of_some (q := fun y M => y = .blk b141 (.cells (Key.C ({ ({ (rd p1.Keys s130.2) with Id := (rd t40.1.Keys (IntKind.i64.wrap ((p0.Keys.length : Int) + s80))).Id } : Key) with Parent := (rd t40.1.Keys (IntKind.i64.wrap ((p0.Keys.length : Int) + s80))).Parent } : Key)).toArray 30 (0, 0))) rfl⟩⟩
                            intro a w' M165 L_ l166 hL hdf hsz hb hv hi hs
                            replace h2 := h2.mono l166
                            replace h4 := h4.mono l166
                            replace h9 := l166 _ _ h9
                            replace h13 := l166 _ _ h13
                            replace h47 := h47.mono l166
                            replace h49 := h49.mono l166
                            obtain ⟨x0_, L0_, rfl, hL0⟩ := lenS hL
                            obtain ⟨x1_, L1_, rfl, hL1⟩ := lenS hL0
                            obtain ⟨x2_, L2_, rfl, hL2⟩ := lenS hL1
                            obtain rfl := len0 hL2
                            obtain ⟨_, hy, rfl⟩ := hi 0 _ rfl
                            obtain rfl := Option.some.inj hy
                            obtain ⟨_, hy, rfl⟩ := hi 1 _ rfl
                            obtain rfl := Option.some.inj hy
                            obtain ⟨_, hy, rfl⟩ := hi 2 _ rfl
                            obtain rfl := Option.some.inj hy
                            clear hi hy
                            refine n_of (c := (Cx.mk Try.prog 167 none' M w)) (l := [(2, (.int .i64 p2)), (3, (ptr b6 0)), (4, (ptr b10 0)), (7, (ptr b50 0)), (12, (.int .i64 s80)), (13, (.int .i64 (rd t40.2.1 s80))), (14, (ptr b94 0)), (15, (.bool s130.1)), (17, (ptr b141 0)), (78, v48), (79, (.int .i64 (t40.2.1.length : Int))), (80, (.int .i64 s80)), (95, v3), (96, (.int .i64 (p1.Keys.length : Int))), (97, (.int .i64 s130.2))]) ?_ ((((((((((((((((Fr.start hdf hsz).add (hb 97 _ rfl rfl)).add (hb 96 _ rfl rfl)).add (hb 95 _ rfl rfl)).add (hb 80 _ rfl rfl)).add (hb 79 _ rfl rfl)).add (hb 78 _ rfl rfl)).add (hb 17 _ rfl rfl)).add (hb 15 _ rfl rfl)).add (hb 14 _ rfl rfl)).add (hb 13 _ rfl rfl)).add (hb 12 _ rfl rfl)).add (hb 7 _ rfl rfl)).add (hb 4 _ rfl rfl)).add (hb 3 _ rfl rfl)).add (hb 2 _ rfl rfl)) hs
                            clear hdf hsz hb hv hs
                            refine n_id (hK142 _ _ _ ?_)
                            refine c_reg ?_
                            refine w_val trivial rfl (fun a w hf hs => r_move (hf.ev rfl)) ?_
                            refine w_val trivial rfl (fun a w hf hs => r_move (hf.ev rfl)) ?_
                            by_cases b167 : s130.1 = true
                            · replace H := if_t b167 H
                              refine w_not (Nwt.of rfl rfl b167) rfl ?_
                              refine w_not (Nwt.of rfl rfl b167) rfl ?_
                              refine w_not (Nwt.of rfl rfl b167) rfl ?_
                              refine w_val trivial rfl (fun a w hf hs => r_pickT (hf.ev rfl) b167 (hf.ev rfl)) ?_
                              refine w_val trivial rfl (fun a w hf hs => r_assign (hf.ev rfl)) ?_
                              refine w_nil (hK138 _ _ _ ?_)
                              refine c_reg ?_
                              refine w_val trivial rfl (fun a w hf hs => r_add (hf.ev rfl) (hf.ev rfl)) ?_
                              refine w_val trivial rfl (fun a w hf hs => r_move (hf.ev rfl)) ?_
                              refine w_nil ?_
                              intro a w' hf hs
                              exact ⟨_, (some_r H).symm, _, l132.trans l166, ((((((((((((((hf.nil.add (hf.get _ _ rfl)).add (hf.get _ _ rfl)).add (hf.get _ _ rfl)).add (hf.get _ _ rfl)).add (hf.get _ _ rfl)).add (hf.get _ _ rfl)).add (hf.get _ _ rfl)).add (hf.get _ _ rfl)).add (hf.get _ _ rfl)).add (hf.get _ _ rfl)).add (hf.get _ _ rfl)).add (hf.get _ _ rfl)).add (hf.get _ _ rfl)).add (hf.get _ _ rfl)), hs.selD [some 0, some 1] (by decide) rfl⟩
                            · replace b167 := Bool.eq_false_iff.2 b167
                              replace H := if_f b167 H
                              refine w_val (Wnt.of rfl rfl b167) rfl (fun a w hf hs => r_loadA ta30 ts30 (hf.ev rfl) (hs.blk (i := 1) rfl) rfl rfl) ?_
                              refine w_val (Wnt.of rfl rfl b167) rfl (fun a w hf hs => r_loadA ta30 ts30 (hf.ev rfl) (hs.blk (i := 2) rfl) rfl rfl) ?_
                              refine w_val (Wnt.of rfl rfl b167) rfl (fun a w hf hs => r_eqS eq30 (hf.ev rfl) (hf.ev rfl)) ?_
                              refine w_val trivial rfl (fun a w hf hs => r_pickF (hf.ev rfl) b167 (hf.ev rfl)) ?_
                              refine w_val trivial rfl (fun a w hf hs => r_assign (hf.ev rfl)) ?_
                              refine w_nil (hK138 _ _ _ ?_)
                              refine c_reg ?_
                              refine w_val trivial rfl (fun a w hf hs => r_add (hf.ev rfl) (hf.ev rfl)) ?_
                              refine w_val trivial rfl (fun a w hf hs => r_move (hf.ev rfl)) ?_
                              refine w_nil ?_
                              intro a w' hf hs
                              exact ⟨_, (some_r H).symm, _, l132.trans l166, ((((((((((((((hf.nil.add (hf.get _ _ rfl)).add (hf.get _ _ rfl)).add (hf.get _ _ rfl)).add (hf.get _ _ rfl)).add (hf.get _ _ rfl)).add (hf.get _ _ rfl)).add (hf.get _ _ rfl)).add (hf.get _ _ rfl)).add (hf.get _ _ rfl)).add (hf.get _ _ rfl)).add (hf.get _ _ rfl)).add (hf.get _ _ rfl)).add (hf.get _ _ rfl)).add (hf.get _ _ rfl)), hs.selD [some 0, some 1] (by decide) rfl⟩
                          · replace H := if_f b137 H
                            replace H := map_inr H r133
                            refine c_exit ?_
                            intro a w' hf hs
                            exact ⟨s130.1, _, l132, (((((((((((hf.nil.add (hf.get _ _ rfl)).add (hf.get _ _ rfl)).add (hf.get _ _ rfl)).add (hf.get _ _ rfl)).add (hf.get _ _ rfl)).add (hf.get _ _ rfl)).add (hf.get _ _ rfl)).add (hf.get _ _ rfl)).add (hf.get _ _ rfl)).add (hf.get _ _ rfl)).add (hf.get _ _ rfl)), hs.selD [some 0, some 1] (by decide) rfl, H⟩
                      · rintro a w' ⟨x96, M97, l98, hf, hs, H⟩
                        refine c_of (c := (Cx.mk Try.prog 167 none' M w)) ?_ hf hs
                        unfold law37_RestoreNarrow.j5 at H
                        clear hf hs
                        replace h2 := h2.mono l98
                        replace h4 := h4.mono l98
                        replace h9 := l98 _ _ h9
                        replace h13 := l98 _ _ h13
                        replace h47 := h47.mono l98
                        replace h49 := h49.mono l98
                        refine c_seq ?_
                        intro K99 hK99
                        refine c_reg ?_
                        refine w_val trivial rfl (fun a w hf hs => r_fa fa30_7 (hf.ev rfl)) ?_
                        refine w_val trivial rfl (fun a w hf hs => r_load1 ta3 (hf.ev rfl) (hs.blk (i := 1) rfl) rfl) ?_
                        refine w_val trivial rfl (fun a w hf hs => r_eql (hf.ev rfl) (hf.ev rfl)) ?_
                        refine w_val trivial rfl (fun a w hf hs => r_assign (hf.ev rfl)) ?_
                        refine w_nil (hK99 _ _ _ ?_)
                        refine c_cut (fun a' w' => ∃ (x100 : Bool) (M101 : Heap), HLe M97 M101 ∧ Fr 167 [(2, (.int .i64 p2)), (3, (ptr b6 0)), (4, (ptr b10 0)), (7, (ptr b50 0)), (12, (.int .i64 s80)), (13, (.int .i64 (rd t40.2.1 s80))), (14, (ptr b94 0)), (15, (.bool x96)), (18, (.bool x100)), (78, v48), (79, (.int .i64 (t40.2.1.length : Int))), (80, (.int .i64 s80))] a' ∧ St none' M w M101 (lt [.blk b50 (.cells (Table.C t40.1 v46).toArray 24 (0, 0)), .blk b94 (.cells (Key.C (rd t40.1.Keys (IntKind.i64.wrap ((p0.Keys.length : Int) + s80)))).toArray 30 (0, 0))]) w' ∧ law37_RestoreNarrow.j3 t40 p0 s80 x96 x100 p2 = some y84) ?_ ?_
                        · refine c_seq ?_
                          intro K112 hK112
                          refine c_reg ?_
                          refine w_val trivial rfl (fun a w hf hs => r_fa fa24_1 (hf.ev rfl)) ?_
                          refine w_val trivial rfl (fun a w hf hs => r_load1 ta22 (hf.ev rfl) (hs.blk (i := 0) rfl) rfl) ?_
                          refine w_val trivial rfl (fun a w hf hs => r_fa fa24_1 (hf.ev rfl)) ?_
                          refine w_val trivial rfl (fun a w hf hs => r_load1 ta22 (hf.ev rfl) (hs.sub _ _ h9) rfl) ?_
                          refine w_val trivial rfl (fun a w hf hs => r_lenR Try.underlying22 h2 (hf.ev rfl)) ?_
                          refine w_val trivial rfl (fun a w hf hs => r_move (hf.ev rfl)) ?_
                          refine w_val trivial rfl (fun a w hf hs => r_add (hf.ev rfl) (hf.ev rfl)) ?_
                          obtain ⟨g115, H⟩ := grd_s H
                          refine w_ex (Φ := fun v => RS Key.F M97 v ((t40.1.Keys.take ((IntKind.i64.wrap ((p0.Keys.length : Int) + s80))).toNat).drop ((0 : Int)).toNat)) trivial rfl (fun a w hf hs => r_slR Try.underlying22 ts30 (hf.ev rfl) h47 rfl ⟨_, hf.ev rfl⟩ g115.1 g115.2.1 g115.2.2) ?_
                          intro v113 h114
                          refine w_val trivial rfl (fun a w hf hs => r_lenR Try.underlying22 h114 (hf.ev rfl)) ?_
                          refine w_val trivial rfl (fun a w hf hs => r_move (hf.ev rfl)) ?_
                          refine w_nil (hK112 _ _ _ ?_)
                          refine c_block ?_
                          refine c_loop (fun (s116 : (Bool × Int)) a' w' => ∃ (M117 : Heap), HLe M97 M117 ∧ Fr 167 [(2, (.int .i64 p2)), (3, (ptr b6 0)), (4, (ptr b10 0)), (7, (ptr b50 0)), (12, (.int .i64 s80)), (13, (.int .i64 (rd t40.2.1 s80))), (14, (ptr b94 0)), (15, (.bool x96)), (18, (.bool s116.1)), (78, v48), (79, (.int .i64 (t40.2.1.length : Int))), (80, (.int .i64 s80)), (124, v113), (125, (.int .i64 (((t40.1.Keys.take ((IntKind.i64.wrap ((p0.Keys.length : Int) + s80))).toNat).drop ((0 : Int)).toNat).length : Int))), (126, (.int .i64 s116.2))] a' ∧ St none' M w M117 (lt [.blk b50 (.cells (Table.C t40.1 v46).toArray 24 (0, 0)), .blk b94 (.cells (Key.C (rd t40.1.Keys (IntKind.i64.wrap ((p0.Keys.length : Int) + s80)))).toArray 30 (0, 0))]) w') ((((rd t40.1.Keys (IntKind.i64.wrap ((p0.Keys.length : Int) + s80))).Parent) == (0 : Int)), (0 : Int)) H ?_ ?_
                          · intro a w' hf hs
                            exact ⟨_, HLe.refl _, (((((((((((((((hf.nil.add (hf.get _ _ rfl)).add (hf.get _ _ rfl)).add (hf.get _ _ rfl)).add (hf.get _ _ rfl)).add (hf.get _ _ rfl)).add (hf.get _ _ rfl)).add (hf.get _ _ rfl)).add (hf.get _ _ rfl)).add (hf.get _ _ rfl)).add (hf.get _ _ rfl)).add (hf.get _ _ rfl)).add (hf.get _ _ rfl)).add (hf.get _ _ rfl)).add (hf.get _ _ rfl)).add (hf.get _ _ rfl)), hs.selD [some 0, some 1] (by decide) rfl⟩
                          · clear H
                            intro s116 y120 H r119 a w' hJ
                            obtain ⟨M117, l118, hf, hs⟩ := hJ
                            refine c_of (c := (Cx.mk Try.prog 167 none' M w)) ?_ hf hs
                            unfold law37_RestoreNarrow.l4 at H
                            clear hf hs
                            replace h2 := h2.mono l118
                            replace h4 := h4.mono l118
                            replace h9 := l118 _ _ h9
                            replace h13 := l118 _ _ h13
                            replace h47 := h47.mono l118
                            replace h49 := h49.mono l118
                            replace h114 := h114.mono l118
                            refine c_seq ?_
                            intro K121 hK121
                            refine c_reg ?_
                            refine w_val trivial rfl (fun a w hf hs => r_lss (hf.ev rfl) (hf.ev rfl)) ?_
                            refine w_nil (hK121 _ _ _ ?_)
                            refine c_seq ?_
                            intro K122 hK122
                            refine c_if rfl (fun b123 => ?_) (fun b123 => ?_)
                            · replace H := if_t b123 H
                              refine c_skip (hK122 _ _ _ ?_)
                              refine c_seq ?_
                              intro K124 hK124
                              refine c_block ?_
                              refine c_seq ?_
                              intro K125 hK125
                              refine c_reg ?_
                              obtain ⟨g126, H⟩ := grd_s H
                              refine w_val trivial rfl (fun a w hf hs => r_iR Try.underlying22 ts30 h114 (hf.ev rfl) (hf.ev rfl) g126.1 g126.2) ?_
                              refine w_val trivial rfl (fun a w hf hs => r_loadEA ta30 ts30 h114 hs.sub g126.1 g126.2 (hf.ev rfl) rfl rfl) ?_
                              refine w_allocL (A := Key.C (⟨(0 : Int), (0 : Int), ([] : List UInt8), (0 : Int), (0 : Int), (0 : Int), (0 : Int), (0 : Int), false⟩ : Key)) tz30 trivial rfl rfl ?_
                              intro b127
                              refine w_L [.blk b50 (.cells (Table.C t40.1 v46).toArray 24 (0, 0)), .blk b94 (.cells (Key.C (rd t40.1.Keys (IntKind.i64.wrap ((p0.Keys.length : Int) + s80)))).toArray 30 (0, 0)), .blk b127 (.cells (Key.C (⟨(0 : Int), (0 : Int), ([] : List UInt8), (0 : Int), (0 : Int), (0 : Int), (0 : Int), (0 : Int), false⟩ : Key)).toArray 30 (0, 0))] rfl ?_
                              refine w_store (i := 2) (vs := Key.C (rd ((t40.1.Keys.take ((IntKind.i64.wrap ((p0.Keys.length : Int) + s80))).toNat).drop ((0 : Int)).toNat) s116.2)) (A' := Key.C (rd ((t40.1.Keys.take ((IntKind.i64.wrap ((p0.Keys.length : Int) + s80))).toNat).drop ((0 : Int)).toNat) s116.2)) trivial rfl rfl rfl rfl ts30 rfl (Key.F_one _) (Nat.le_of_ble_eq_true rfl) rfl ?_
                              refine w_L [.blk b50 (.cells (Table.C t40.1 v46).toArray 24 (0, 0)), .blk b94 (.cells (Key.C (rd t40.1.Keys (IntKind.i64.wrap ((p0.Keys.length : Int) + s80)))).toArray 30 (0, 0)), .blk b127 (.cells (Key.C (rd ((t40.1.Keys.take ((IntKind.i64.wrap ((p0.Keys.length : Int) + s80))).toNat).drop ((0 : Int)).toNat) s116.2)).toArray 30 (0, 0))] rfl ?_
                              refine w_nil (hK125 _ _ _ ?_)
                              refine c_reg ?_
                              refine w_val trivial rfl (fun a w hf hs => r_move (hf.ev rfl)) ?_
                              refine w_val trivial rfl (fun a w hf hs => r_move (hf.ev rfl)) ?_
                              by_cases b128 : s116.1 = true
                              · replace H := if_t b128 H
                                refine w_not (Nwt.of rfl rfl b128) rfl ?_
                                refine w_not (Nwt.of rfl rfl b128) rfl ?_
                                refine w_not (Nwt.of rfl rfl b128) rfl ?_
                                refine w_not (Nwt.of rfl rfl b128) rfl ?_
                                refine w_not (Nwt.of rfl rfl b128) rfl ?_
                                refine w_val trivial rfl (fun a w hf hs => r_pickT (hf.ev rfl) b128 (hf.ev rfl)) ?_
                                refine w_val trivial rfl (fun a w hf hs => r_assign (hf.ev rfl)) ?_
                                refine w_nil (hK124 _ _ _ ?_)
                                refine c_reg ?_
                                refine w_val trivial rfl (fun a w hf hs => r_add (hf.ev rfl) (hf.ev rfl)) ?_
                                refine w_val trivial rfl (fun a w hf hs => r_move (hf.ev rfl)) ?_
                                refine w_nil ?_
                                intro a w' hf hs
                                exact ⟨_, (some_r H).symm, _, l118.trans (HLe.refl _), (((((((((((((((hf.nil.add (hf.get _ _ rfl)).add (hf.get _ _ rfl)).add (hf.get _ _ rfl)).add (hf.get _ _ rfl)).add (hf.get _ _ rfl)).add (hf.get _ _ rfl)).add (hf.get _ _ rfl)).add (hf.get _ _ rfl)).add (hf.get _ _ rfl)).add (hf.get _ _ rfl)).add (hf.get _ _ rfl)).add (hf.get _ _ rfl)).add (hf.get _ _ rfl)).add (hf.get _ _ rfl)).add (hf.get _ _ rfl)), hs.selD [some 0, some 1] (by decide) rfl⟩
                              · replace b128 := Bool.eq_false_iff.2 b128
                                replace H := if_f b128 H
                                refine w_val (Wnt.of rfl rfl b128) rfl (fun a w hf hs => r_fa fa30_0 (hf.ev rfl)) ?_
                                refine w_val (Wnt.of rfl rfl b128) rfl (fun a w hf hs => r_load1 ta3 (hf.ev rfl) (hs.blk (i := 2) rfl) rfl) ?_
                                refine w_val (Wnt.of rfl rfl b128) rfl (fun a w hf hs => r_fa fa30_7 (hf.ev rfl)) ?_
                                refine w_val (Wnt.of rfl rfl b128) rfl (fun a w hf hs => r_load1 ta3 (hf.ev rfl) (hs.blk (i := 1) rfl) rfl) ?_
                                refine w_val (Wnt.of rfl rfl b128) rfl (fun a w hf hs => r_eql (hf.ev rfl) (hf.ev rfl)) ?_
                                refine w_val trivial rfl (fun a w hf hs => r_pickF (hf.ev rfl) b128 (hf.ev rfl)) ?_
                                refine w_val trivial rfl (fun a w hf hs => r_assign (hf.ev rfl)) ?_
                                refine w_nil (hK124 _ _ _ ?_)
                                refine c_reg ?_
                                refine w_val trivial rfl (fun a w hf hs => r_add (hf.ev rfl) (hf.ev rfl)) ?_
                                refine w_val trivial rfl (fun a w hf hs => r_move (hf.ev rfl)) ?_
                                refine w_nil ?_
                                intro a w' hf hs
                                exact ⟨_, (some_r H).symm, _, l118.trans (HLe.refl _), (((((((((((((((hf.nil.add (hf.get _ _ rfl)).add (hf.get _ _ rfl)).add (hf.get _ _ rfl)).add (hf.get _ _ rfl)).add (hf.get _ _ rfl)).add (hf.get _ _ rfl)).add (hf.get _ _ rfl)).add (hf.get _ _ rfl)).add (hf.get _ _ rfl)).add (hf.get _ _ rfl)).add (hf.get _ _ rfl)).add (hf.get _ _ rfl)).add (hf.get _ _ rfl)).add (hf.get _ _ rfl)).add (hf.get _ _ rfl)), hs.selD [some 0, some 1] (by decide) rfl⟩
                            · replace H := if_f b123 H
                              replace H := map_inr H r119
                              refine c_exit ?_
                              intro a w' hf hs
                              exact ⟨s116.1, _, l118, ((((((((((((hf.nil.add (hf.get _ _ rfl)).add (hf.get _ _ rfl)).add (hf.get _ _ rfl)).add (hf.get _ _ rfl)).add (hf.get _ _ rfl)).add (hf.get _ _ rfl)).add (hf.get _ _ rfl)).add (hf.get _ _ rfl)).add (hf.get _ _ rfl)).add (hf.get _ _ rfl)).add (hf.get _ _ rfl)).add (hf.get _ _ rfl)), hs.selD [some 0, some 1] (by decide) rfl, H⟩
                        · rintro a w' ⟨x100, M101, l102, hf, hs, H⟩
                          refine c_of (c := (Cx.mk Try.prog 167 none' M w)) ?_ hf hs
                          unfold law37_RestoreNarrow.j3 at H
                          clear hf hs
                          replace h2 := h2.mono l102
                          replace h4 := h4.mono l102
                          replace h9 := l102 _ _ h9
                          replace h13 := l102 _ _ h13
                          replace h47 := h47.mono l102
                          replace h49 := h49.mono l102
                          obtain ⟨t103, H1, H⟩ := bnd H
                          refine c_cut (fun a' w' => ∃ (M104 : Heap), HLe M101 M104 ∧ Fr 167 [(2, (.int .i64 p2)), (3, (ptr b6 0)), (4, (ptr b10 0)), (7, (ptr b50 0)), (78, v48), (79, (.int .i64 (t40.2.1.length : Int))), (80, (.int .i64 s80)), (164, (.bool t103))] a' ∧ St none' M w M104 (lt [.blk b50 (.cells (Table.C t40.1 v46).toArray 24 (0, 0)), .blk b94 (.cells (Key.C (rd t40.1.Keys (IntKind.i64.wrap ((p0.Keys.length : Int) + s80)))).toArray 30 (0, 0))]) w') ?_ ?_
                          · replace H := H1
                            clear H1
                            refine c_reg ?_
                            refine w_val trivial rfl (fun a w hf hs => r_fa fa30_0 (hf.ev rfl)) ?_
                            refine w_val trivial rfl (fun a w hf hs => r_load1 ta3 (hf.ev rfl) (hs.blk (i := 1) rfl) rfl) ?_
                            refine w_val trivial rfl (fun a w hf hs => r_move (hf.ev rfl)) ?_
                            refine w_val trivial rfl (fun a w hf hs => r_neq (hf.ev rfl) (hf.ev rfl)) ?_
                            refine w_val trivial rfl (fun a w hf hs => r_move (hf.ev rfl)) ?_
                            by_cases b106 : (((rd t40.1.Keys (IntKind.i64.wrap ((p0.Keys.length : Int) + s80))).Id) != (rd t40.2.1 s80)) = true
                            · replace H := if_t b106 H
                              refine w_not (Nwt.of rfl rfl b106) rfl ?_
                              refine w_not (Nwt.of rfl rfl b106) rfl ?_
                              refine w_not (Nwt.of rfl rfl b106) rfl ?_
                              refine w_not (Nwt.of rfl rfl b106) rfl ?_
                              refine w_not (Nwt.of rfl rfl b106) rfl ?_
                              refine w_not (Nwt.of rfl rfl b106) rfl ?_
                              refine w_val trivial rfl (fun a w hf hs => r_pickT (hf.ev rfl) b106 (hf.ev rfl)) ?_
                              refine w_val trivial rfl (fun a w hf hs => r_move (hf.ev rfl)) ?_
                              refine w_not (Nwt.of rfl rfl rfl) rfl ?_
                              refine w_not (Nwt.of rfl rfl rfl) rfl ?_
                              refine w_val trivial rfl (fun a w hf hs => r_pickT (hf.ev rfl) rfl (hf.ev rfl)) ?_
                              refine w_val trivial rfl (fun a w hf hs => r_move (hf.ev rfl)) ?_
                              refine w_not (Nwt.of rfl rfl rfl) rfl ?_
                              refine w_not (Nwt.of rfl rfl rfl) rfl ?_
                              refine w_val trivial rfl (fun a w hf hs => r_pickT (hf.ev rfl) rfl (hf.ev rfl)) ?_
                              refine w_val trivial rfl (fun a w hf hs => r_move (hf.ev rfl)) ?_
                              refine w_not (Nwt.of rfl rfl rfl) rfl ?_
                              refine w_not (Nwt.of rfl rfl rfl) rfl ?_
                              refine w_not (Nwt.of rfl rfl rfl) rfl ?_
                              refine w_not (Nwt.of rfl rfl rfl) rfl ?_
                              refine w_val trivial rfl (fun a w hf hs => r_pickT (hf.ev rfl) rfl (hf.ev rfl)) ?_
                              obtain rfl := some_r H
                              refine w_nil ?_
                              intro a w' hf hs
                              exact ⟨_, (HLe.refl _), ((((((((hf.nil.add (hf.get _ _ rfl)).add (hf.get _ _ rfl)).add (hf.get _ _ rfl)).add (hf.get _ _ rfl)).add (hf.get _ _ rfl)).add (hf.get _ _ rfl)).add (hf.get _ _ rfl)).add (hf.get _ _ rfl)), hs.sel [0, 1] (by decide) rfl⟩
                            · replace b106 := Bool.eq_false_iff.2 b106
                              replace H := if_f b106 H
                              refine w_val (Wnt.of rfl rfl b106) rfl (fun a w hf hs => r_move (hf.ev rfl)) ?_
                              refine w_val (Wnt.of rfl rfl b106) rfl (fun a w hf hs => r_fa fa24_0 (hf.ev rfl)) ?_
                              refine w_val (Wnt.of rfl rfl b106) rfl (fun a w hf hs => r_load1 ta3 (hf.ev rfl) (hs.sub _ _ h9) rfl) ?_
                              refine w_val (Wnt.of rfl rfl b106) rfl (fun a w hf hs => r_move (hf.ev rfl)) ?_
                              refine w_val (Wnt.of rfl rfl b106) rfl (fun a w hf hs => r_add (hf.ev rfl) (hf.ev rfl)) ?_
                              refine w_val (Wnt.of rfl rfl b106) rfl (fun a w hf hs => r_neq (hf.ev rfl) (hf.ev rfl)) ?_
                              refine w_val trivial rfl (fun a w hf hs => r_pickF (hf.ev rfl) b106 (hf.ev rfl)) ?_
                              refine w_val trivial rfl (fun a w hf hs => r_move (hf.ev rfl)) ?_
                              by_cases b107 : ((rd t40.2.1 s80) != (IntKind.i64.wrap (p0.Next + s80))) = true
                              · replace H := if_t b107 H
                                refine w_not (Nwt.of rfl rfl b107) rfl ?_
                                refine w_not (Nwt.of rfl rfl b107) rfl ?_
                                refine w_val trivial rfl (fun a w hf hs => r_pickT (hf.ev rfl) b107 (hf.ev rfl)) ?_
                                refine w_val trivial rfl (fun a w hf hs => r_move (hf.ev rfl)) ?_
                                refine w_not (Nwt.of rfl rfl rfl) rfl ?_
                                refine w_not (Nwt.of rfl rfl rfl) rfl ?_
                                refine w_val trivial rfl (fun a w hf hs => r_pickT (hf.ev rfl) rfl (hf.ev rfl)) ?_
                                refine w_val trivial rfl (fun a w hf hs => r_move (hf.ev rfl)) ?_
                                refine w_not (Nwt.of rfl rfl rfl) rfl ?_
                                refine w_not (Nwt.of rfl rfl rfl) rfl ?_
                                refine w_not (Nwt.of rfl rfl rfl) rfl ?_
                                refine w_not (Nwt.of rfl rfl rfl) rfl ?_
                                refine w_val trivial rfl (fun a w hf hs => r_pickT (hf.ev rfl) rfl (hf.ev rfl)) ?_
                                obtain rfl := some_r H
                                refine w_nil ?_
                                intro a w' hf hs
                                exact ⟨_, (HLe.refl _), ((((((((hf.nil.add (hf.get _ _ rfl)).add (hf.get _ _ rfl)).add (hf.get _ _ rfl)).add (hf.get _ _ rfl)).add (hf.get _ _ rfl)).add (hf.get _ _ rfl)).add (hf.get _ _ rfl)).add (hf.get _ _ rfl)), hs.sel [0, 1] (by decide) rfl⟩
                              · replace b107 := Bool.eq_false_iff.2 b107
                                replace H := if_f b107 H
                                refine w_val (Wnt.of rfl rfl b107) rfl (fun a w hf hs => r_move (hf.ev rfl)) ?_
                                refine w_val (Wnt.of rfl rfl b107) rfl (fun a w hf hs => r_not (hf.ev rfl)) ?_
                                refine w_val trivial rfl (fun a w hf hs => r_pickF (hf.ev rfl) b107 (hf.ev rfl)) ?_
                                refine w_val trivial rfl (fun a w hf hs => r_move (hf.ev rfl)) ?_
                                by_cases b108 : (!x96) = true
                                · replace H := if_t b108 H
                                  refine w_not (Nwt.of rfl rfl b108) rfl ?_
                                  refine w_not (Nwt.of rfl rfl b108) rfl ?_
                                  refine w_val trivial rfl (fun a w hf hs => r_pickT (hf.ev rfl) b108 (hf.ev rfl)) ?_
                                  refine w_val trivial rfl (fun a w hf hs => r_move (hf.ev rfl)) ?_
                                  refine w_not (Nwt.of rfl rfl rfl) rfl ?_
                                  refine w_not (Nwt.of rfl rfl rfl) rfl ?_
                                  refine w_not (Nwt.of rfl rfl rfl) rfl ?_
                                  refine w_not (Nwt.of rfl rfl rfl) rfl ?_
                                  refine w_val trivial rfl (fun a w hf hs => r_pickT (hf.ev rfl) rfl (hf.ev rfl)) ?_
                                  obtain rfl := some_r H
                                  refine w_nil ?_
                                  intro a w' hf hs
                                  exact ⟨_, (HLe.refl _), ((((((((hf.nil.add (hf.get _ _ rfl)).add (hf.get _ _ rfl)).add (hf.get _ _ rfl)).add (hf.get _ _ rfl)).add (hf.get _ _ rfl)).add (hf.get _ _ rfl)).add (hf.get _ _ rfl)).add (hf.get _ _ rfl)), hs.sel [0, 1] (by decide) rfl⟩
                                · replace b108 := Bool.eq_false_iff.2 b108
                                  replace H := if_f b108 H
                                  refine w_val (Wnt.of rfl rfl b108) rfl (fun a w hf hs => r_move (hf.ev rfl)) ?_
                                  refine w_val (Wnt.of rfl rfl b108) rfl (fun a w hf hs => r_not (hf.ev rfl)) ?_
                                  refine w_val trivial rfl (fun a w hf hs => r_pickF (hf.ev rfl) b108 (hf.ev rfl)) ?_
                                  refine w_val trivial rfl (fun a w hf hs => r_move (hf.ev rfl)) ?_
                                  by_cases b109 : (!x100) = true
                                  · replace H := if_t b109 H
                                    refine w_not (Nwt.of rfl rfl b109) rfl ?_
                                    refine w_not (Nwt.of rfl rfl b109) rfl ?_
                                    refine w_not (Nwt.of rfl rfl b109) rfl ?_
                                    refine w_not (Nwt.of rfl rfl b109) rfl ?_
                                    refine w_val trivial rfl (fun a w hf hs => r_pickT (hf.ev rfl) b109 (hf.ev rfl)) ?_
                                    obtain rfl := some_r H
                                    refine w_nil ?_
                                    intro a w' hf hs
                                    exact ⟨_, (HLe.refl _), ((((((((hf.nil.add (hf.get _ _ rfl)).add (hf.get _ _ rfl)).add (hf.get _ _ rfl)).add (hf.get _ _ rfl)).add (hf.get _ _ rfl)).add (hf.get _ _ rfl)).add (hf.get _ _ rfl)).add (hf.get _ _ rfl)), hs.sel [0, 1] (by decide) rfl⟩
                                  · replace b109 := Bool.eq_false_iff.2 b109
                                    replace H := if_f b109 H
                                    refine w_val (Wnt.of rfl rfl b109) rfl (fun a w hf hs => r_fa fa30_5 (hf.ev rfl)) ?_
                                    refine w_val (Wnt.of rfl rfl b109) rfl (fun a w hf hs => r_load1 ta3 (hf.ev rfl) (hs.blk (i := 1) rfl) rfl) ?_
                                    refine w_val (Wnt.of rfl rfl b109) rfl (fun a w hf hs => r_move (hf.ev rfl)) ?_
                                    refine w_val (Wnt.of rfl rfl b109) rfl (fun a w hf hs => r_leq (hf.ev rfl) (hf.ev rfl)) ?_
                                    refine w_val trivial rfl (fun a w hf hs => r_pickF (hf.ev rfl) b109 (hf.ev rfl)) ?_
                                    obtain rfl := some_r H
                                    refine w_nil ?_
                                    intro a w' hf hs
                                    exact ⟨_, (HLe.refl _), ((((((((hf.nil.add (hf.get _ _ rfl)).add (hf.get _ _ rfl)).add (hf.get _ _ rfl)).add (hf.get _ _ rfl)).add (hf.get _ _ rfl)).add (hf.get _ _ rfl)).add (hf.get _ _ rfl)).add (hf.get _ _ rfl)), hs.sel [0, 1] (by decide) rfl⟩
                          · clear H1
                            rintro a w' ⟨M104, l105, hf, hs⟩
                            refine c_of (c := (Cx.mk Try.prog 167 none' M w)) ?_ hf hs
                            clear hf hs
                            replace h2 := h2.mono l105
                            replace h4 := h4.mono l105
                            replace h9 := l105 _ _ h9
                            replace h13 := l105 _ _ h13
                            replace h47 := h47.mono l105
                            replace h49 := h49.mono l105
                            refine c_if rfl (fun b110 => ?_) (fun b110 => ?_)
                            · replace H := if_t b110 H
                              refine c_seq ?_
                              intro K111 hK111
                              refine c_reg ?_
                              refine w_val trivial rfl (fun a w hf hs => r_assign (hf.ev rfl)) ?_
                              refine w_nil (hK111 _ _ _ ?_)
                              obtain rfl := (r83 _ (Option.some.inj H).symm)
                              refine c_ret ?_
                              intro a w' hf hs
                              exact hret _ (.inl rfl) a w' hf.df ⟨_, _, Res.of1 rfl (RV.t hf rfl), hs.ext, rfl⟩
                            · replace H := if_f b110 H
                              refine c_skip ?_
                              intro a w' hf hs
                              exact ⟨_, (l98.trans (l102.trans l105)), (((((((hf.nil.add (hf.get _ _ rfl)).add (hf.get _ _ rfl)).add (hf.get _ _ rfl)).add (hf.get _ _ rfl)).add (hf.get _ _ rfl)).add (hf.get _ _ rfl)).add (hf.get _ _ rfl)), hs.selD [some 0] (by decide) rfl, H⟩
                    · rintro a w' ⟨M88, l89, hf, hs, H⟩
                      refine c_of (c := (Cx.mk Try.prog 167 none' M w)) ?_ hf hs
                      unfold law37_RestoreNarrow.j2 at H
                      clear hf hs
                      replace h2 := h2.mono l89
                      replace h4 := h4.mono l89
                      replace h9 := l89 _ _ h9
                      replace h13 := l89 _ _ h13
                      replace h47 := h47.mono l89
                      replace h49 := h49.mono l89
                      refine c_reg ?_
                      refine w_val trivial rfl (fun a w hf hs => r_add (hf.ev rfl) (hf.ev rfl)) ?_
                      refine w_val trivial rfl (fun a w hf hs => r_move (hf.ev rfl)) ?_
                      refine w_nil ?_
                      intro a w' hf hs
                      exact ⟨_, (some_r H).symm, _, l82.trans l89, (((((((hf.nil.add (hf.get _ _ rfl)).add (hf.get _ _ rfl)).add (hf.get _ _ rfl)).add (hf.get _ _ rfl)).add (hf.get _ _ rfl)).add (hf.get _ _ rfl)).add (hf.get _ _ rfl)), hs.selD [some 0] (by decide) rfl⟩
                  · replace H := if_f b87 H
                    replace H := map_inr H r83
                    refine c_exit ?_
                    intro a w' hf hs
                    exact ⟨_, l82, hf.nil, hs.selD [none] (by decide) rfl, H⟩
              · rintro a w' ⟨M70, l71, hf, hs, H⟩
                refine c_of (c := (Cx.mk Try.prog 167 none' M w)) ?_ hf hs
                unfold law37_RestoreNarrow.j1 at H
                clear hf hs
                replace h2 := h2.mono l71
                replace h4 := h4.mono l71
                replace h9 := l71 _ _ h9
                replace h13 := l71 _ _ h13
                replace h47 := h47.mono l71
                replace h49 := h49.mono l71
                refine c_seq ?_
                intro K72 hK72
                refine c_reg ?_
                obtain ⟨t73, e78, H⟩ := bnd H
                refine w_call cf9 trivial rfl rfl (fun w hs => law37_sanity.calls hs  _ (hs_law37_sanity _ e78) e78) ?_
                rintro _ M75 l76 rfl
                replace h2 := h2.mono l76
                replace h4 := h4.mono l76
                replace h9 := l76 _ _ h9
                replace h13 := l76 _ _ h13
                replace h47 := h47.mono l76
                replace h49 := h49.mono l76
                refine w_val trivial rfl (fun a w hf hs => r_assign (hf.ev rfl)) ?_
                refine w_nil (hK72 _ _ _ ?_)
                obtain rfl := some_r H
                refine c_ret ?_
                intro a w' hf hs
                exact hret _ (.inl rfl) a w' hf.df ⟨_, _, Res.of1 rfl (RV.t hf rfl), hs.ext, rfl⟩
set_option maxRecDepth 20000 in
theorem law37_RestoreAdmits.calls {M : Heap} {w : World} (hM : Sub M w) (hs_law37_sanity : ∀ t, law37_sanity = some t → t = true) (p0 : restore_Place) (p1 : Backup) (v1 : Value) (h2 : RS Key.F M v1 p1.Keys) (r : Bool) (hr_ : r = true) (H : law37_RestoreAdmits p0 p1 = some r) :
    Calls Try.prog 6 [(.agg (restore_Place.C p0).toArray), (.agg (Backup.C p1 v1).toArray)].toArray w (Post M w fun M' v => v = (.bool r)) := by
  refine enter 70 [(0, (.agg (restore_Place.C p0).toArray)), (1, (.agg (Backup.C p1 v1).toArray))] Try.func6 rfl rfl rfl hM ?_
  intro Q hret
  unfold law37_RestoreAdmits at H
  refine c_seq ?_
  intro K3 hK3
  refine c_reg ?_
  refine w_boxL trivial rfl rfl rfl ?_
  intro b4
  refine w_boxM trivial rfl rfl rfl ?_
  intro b5 M6 l7 h8
  replace h2 := h2.mono l7
  refine w_val trivial rfl (fun a w hf hs => r_assign (hf.ev rfl)) ?_
  refine w_nil (hK3 _ _ _ ?_)
  refine c_seq ?_
  intro K9 hK9
  obtain ⟨t10, H1, H⟩ := bnd H
  refine c_cut (fun a' w' => ∃ (M11 : Heap), HLe M6 M11 ∧ Fr 70 [(2, (ptr b4 0)), (3, (ptr b5 0)), (14, (.bool t10))] a' ∧ St none' M w M11 (lt [.blk b4 (.cells (restore_Place.C p0).toArray 32 (0, 0))]) w') ?_ ?_
  · replace H := H1
    clear H1
    refine c_reg ?_
    refine w_val trivial rfl (fun a w hf hs => r_build (is := []) (xs := []) (vs := []) (A := Table.C (⟨(0 : Int), ([] : (List Key))⟩ : Table) (.slice none 0 0)) rfl (hf.evs rfl) (built_of (pl := [(0, 1), (1, 1)]) (A0 := Table.C (⟨(0 : Int), ([] : (List Key))⟩ : Table) (.slice none 0 0)) tz24 Try.underlying24 (by kernel_rfl) rfl .nil)) ?_
    refine w_val trivial rfl (fun a w hf hs => r_loadA ta28 ts28 (hf.ev rfl) (hs.sub _ _ h8) (Backup.d0_38 _ _) (Backup.len _ _)) ?_
    obtain ⟨t13, e18, H⟩ := bnd H
    refine w_call cf7 trivial rfl rfl (fun w hs => law37_few.calls hs (⟨(0 : Int), ([] : (List Key))⟩ : Table) (.slice none 0 0) RS.none p1 v1 h2 _ e18) ?_
    rintro _ M15 l16 rfl
    replace h2 := h2.mono l16
    replace h8 := l16 _ _ h8
    refine w_val trivial rfl (fun a w hf hs => r_not (hf.ev rfl)) ?_
    refine w_val trivial rfl (fun a w hf hs => r_move (hf.ev rfl)) ?_
    by_cases b19 : (!t13) = true
    · replace H := if_t b19 H
      refine w_not (Nwt.of rfl rfl b19) rfl ?_
      refine w_not (Nwt.of rfl rfl b19) rfl ?_
      refine w_not (Nwt.of rfl rfl b19) rfl ?_
      refine w_val trivial rfl (fun a w hf hs => r_pickT (hf.ev rfl) b19 (hf.ev rfl)) ?_
      obtain rfl := some_r H
      refine w_nil ?_
      intro a w' hf hs
      exact ⟨_, l16, (((hf.nil.add (hf.get _ _ rfl)).add (hf.get _ _ rfl)).add (hf.get _ _ rfl)), hs.sel [0] (by decide) rfl⟩
    · replace b19 := Bool.eq_false_iff.2 b19
      replace H := if_f b19 H
      refine w_val (Wnt.of rfl rfl b19) rfl (fun a w hf hs => r_loadA ta28 ts28 (hf.ev rfl) (hs.sub _ _ h8) (Backup.d0_38 _ _) (Backup.len _ _)) ?_
      obtain ⟨t20, e25, H⟩ := bnd H
      refine w_call cf20 (Wnt.of rfl rfl b19) rfl rfl (fun w hs => ref36_Valid.calls hs p1 v1 h2 _ e25) ?_
      rintro _ M22 l23 rfl
      replace h2 := h2.mono l23
      replace h8 := l23 _ _ h8
      refine w_val (Wnt.of rfl rfl b19) rfl (fun a w hf hs => r_not (hf.ev rfl)) ?_
      refine w_val trivial rfl (fun a w hf hs => r_pickF (hf.ev rfl) b19 (hf.ev rfl)) ?_
      obtain rfl := some_r H
      refine w_nil ?_
      intro a w' hf hs
      exact ⟨_, (l16.trans l23), (((hf.nil.add (hf.get _ _ rfl)).add (hf.get _ _ rfl)).add (hf.get _ _ rfl)), hs.sel [0] (by decide) rfl⟩
  · clear H1
    rintro a w' ⟨M11, l12, hf, hs⟩
    refine c_of (c := (Cx.mk Try.prog 70 none' M w)) ?_ hf hs
    clear hf hs
    replace h2 := h2.mono l12
    replace h8 := l12 _ _ h8
    refine c_if rfl (fun b26 => ?_) (fun b26 => ?_)
    · replace H := if_t b26 H
      refine c_seq ?_
      intro K27 hK27
      refine c_reg ?_
      obtain ⟨t28, e33, H⟩ := bnd H
      refine w_call cf9 trivial rfl rfl (fun w hs => law37_sanity.calls hs  _ (hs_law37_sanity _ e33) e33) ?_
      rintro _ M30 l31 rfl
      replace h2 := h2.mono l31
      replace h8 := l31 _ _ h8
      refine w_val trivial rfl (fun a w hf hs => r_assign (hf.ev rfl)) ?_
      refine w_nil (hK27 _ _ _ ?_)
      obtain rfl := some_r H
      refine c_ret ?_
      intro a w' hf hs
      exact hret _ (.inl rfl) a w' hf.df ⟨_, _, Res.of1 rfl (RV.t hf rfl), hs.ext, rfl⟩
    · replace H := if_f b26 H
      refine c_skip (hK9 _ _ _ ?_)
      refine c_seq ?_
      intro K34 hK34
      refine c_reg ?_
      refine w_val trivial rfl (fun a w hf hs => r_loadA ta32 ts32 (hf.ev rfl) (hs.blk (i := 0) rfl) (restore_Place.d0_34 _) (restore_Place.len _)) ?_
      refine w_val trivial rfl (fun a w hf hs => r_loadA ta28 ts28 (hf.ev rfl) (hs.sub _ _ h8) (Backup.d0_38 _ _) (Backup.len _ _)) ?_
      obtain ⟨t35, e40, H⟩ := bnd H
      refine w_call cf18 trivial rfl rfl (fun w hs => restore_Admit.calls hs p0 p1 v1 h2 _ e40) ?_
      rintro _ M37 l38 rfl
      replace h2 := h2.mono l38
      replace h8 := l38 _ _ h8
      refine w_val trivial rfl (fun a w hf hs => r_assign (hf.ev rfl)) ?_
      refine w_nil (hK34 _ _ _ ?_)
      refine c_seq ?_
      intro K41 hK41
      refine c_block ?_
      obtain ⟨t42, H1, H⟩ := bnd H
      refine c_cut (fun a' w' => ∃ (M43 : Heap), HLe M37 M43 ∧ Fr 70 [(2, (ptr b4 0)), (3, (ptr b5 0)), (5, (.int .i64 t35)), (19, (.bool t42))] a' ∧ St none' M w M43 (lt [.blk b4 (.cells (restore_Place.C p0).toArray 32 (0, 0))]) w') ?_ ?_
      · replace H := H1
        clear H1
        refine c_reg ?_
        refine w_val trivial rfl (fun a w hf hs => r_fa fa28_0 (hf.ev rfl)) ?_
        refine w_val trivial rfl (fun a w hf hs => r_loadA ta26 ts26 (hf.ev rfl) (hs.sub _ _ h8) (Backup.d0_16 _ _) (by simp)) ?_
        refine w_val trivial rfl (fun a w hf hs => r_fa fa32_0 (hf.ev rfl)) ?_
        refine w_val trivial rfl (fun a w hf hs => r_loadA ta26 ts26 (hf.ev rfl) (hs.blk (i := 0) rfl) (restore_Place.d0_16 _) (by simp)) ?_
        refine w_val trivial rfl (fun a w hf hs => r_neS eq26 (hf.ev rfl) (hf.ev rfl)) ?_
        refine w_val trivial rfl (fun a w hf hs => r_move (hf.ev rfl)) ?_
        by_cases b45 : (!(decide (p1.Domain = p0.Domain))) = true
        · replace H := if_t b45 H
          refine w_not (Nwt.of rfl rfl b45) rfl ?_
          refine w_not (Nwt.of rfl rfl b45) rfl ?_
          refine w_not (Nwt.of rfl rfl b45) rfl ?_
          refine w_not (Nwt.of rfl rfl b45) rfl ?_
          refine w_not (Nwt.of rfl rfl b45) rfl ?_
          refine w_val trivial rfl (fun a w hf hs => r_pickT (hf.ev rfl) b45 (hf.ev rfl)) ?_
          refine w_val trivial rfl (fun a w hf hs => r_assign (hf.ev rfl)) ?_
          obtain rfl := some_r H
          refine w_nil ?_
          intro a w' hf hs
          exact ⟨_, (HLe.refl _), ((((hf.nil.add (hf.get _ _ rfl)).add (hf.get _ _ rfl)).add (hf.get _ _ rfl)).add (hf.get _ _ rfl)), hs.sel [0] (by decide) rfl⟩
        · replace b45 := Bool.eq_false_iff.2 b45
          replace H := if_f b45 H
          refine w_val (Wnt.of rfl rfl b45) rfl (fun a w hf hs => r_fa fa28_5 (hf.ev rfl)) ?_
          refine w_val (Wnt.of rfl rfl b45) rfl (fun a w hf hs => r_loadA ta26 ts26 (hf.ev rfl) (hs.sub _ _ h8) (Backup.d20_16 _ _) (by simp)) ?_
          refine w_val (Wnt.of rfl rfl b45) rfl (fun a w hf hs => r_fa fa32_1 (hf.ev rfl)) ?_
          refine w_val (Wnt.of rfl rfl b45) rfl (fun a w hf hs => r_loadA ta26 ts26 (hf.ev rfl) (hs.blk (i := 0) rfl) (restore_Place.d16_16 _) (by simp)) ?_
          refine w_val (Wnt.of rfl rfl b45) rfl (fun a w hf hs => r_neS eq26 (hf.ev rfl) (hf.ev rfl)) ?_
          refine w_val trivial rfl (fun a w hf hs => r_pickF (hf.ev rfl) b45 (hf.ev rfl)) ?_
          refine w_val trivial rfl (fun a w hf hs => r_assign (hf.ev rfl)) ?_
          obtain rfl := some_r H
          refine w_nil ?_
          intro a w' hf hs
          exact ⟨_, (HLe.refl _), ((((hf.nil.add (hf.get _ _ rfl)).add (hf.get _ _ rfl)).add (hf.get _ _ rfl)).add (hf.get _ _ rfl)), hs.sel [0] (by decide) rfl⟩
      · clear H1
        rintro a w' ⟨M43, l44, hf, hs⟩
        refine c_of (c := (Cx.mk Try.prog 70 none' M w)) ?_ hf hs
        clear hf hs
        replace h2 := h2.mono l44
        replace h8 := l44 _ _ h8
        refine c_if rfl (fun b46 => ?_) (fun b46 => ?_)
        · replace H := if_t b46 H
          obtain ⟨t47, H1, H⟩ := bnd H
          have ht_ := (some_r H).trans hr_
          refine c_cut (fun a' w' => ∃ (M48 : Heap), HLe M43 M48 ∧ Fr 70 [(4, (.bool t47))] a' ∧ St none' M w M48 (lt [.blk b4 (.cells (restore_Place.C p0).toArray 32 (0, 0))]) w') ?_ ?_
          · replace H := H1
            clear H1
            refine c_reg ?_
            obtain ⟨t57, e62, H⟩ := bnd H
            refine w_call cf9 trivial rfl rfl (fun w hs => law37_sanity.calls hs  _ (hs_law37_sanity _ e62) e62) ?_
            rintro _ M59 l60 rfl
            replace h2 := h2.mono l60
            replace h8 := l60 _ _ h8
            refine w_val trivial rfl (fun a w hf hs => r_move (hf.ev rfl)) ?_
            by_cases b63 : t57 = true
            · replace H := if_t b63 H
              refine w_val (Wnt.of rfl rfl b63) rfl (fun a w hf hs => r_move (hf.ev rfl)) ?_
              refine w_val (Wnt.of rfl rfl b63) rfl (fun a w hf hs => r_eql (hf.ev rfl) (hf.ev rfl)) ?_
              refine w_val trivial rfl (fun a w hf hs => r_pickT (hf.ev rfl) b63 (hf.ev rfl)) ?_
              refine w_val trivial rfl (fun a w hf hs => r_assign (hf.ev rfl)) ?_
              obtain rfl := some_r H
              refine w_nil ?_
              intro a w' hf hs
              exact ⟨_, l60, (hf.nil.add (hf.get _ _ rfl)), hs.sel [0] (by decide) rfl⟩
            · replace b63 := Bool.eq_false_iff.2 b63
              replace H := if_f b63 H
              exact absurd ((some_r H).trans ht_) (by decide)
          · clear H1 ht_
            rintro a w' ⟨M48, l49, hf, hs⟩
            refine c_of (c := (Cx.mk Try.prog 70 none' M w)) ?_ hf hs
            clear hf hs
            replace h2 := h2.mono l49
            replace h8 := l49 _ _ h8
            obtain rfl := some_r H
            refine c_ret ?_
            intro a w' hf hs
            exact hret _ (.inl rfl) a w' hf.df ⟨_, _, Res.of1 rfl (RV.t hf rfl), hs.ext, rfl⟩
        · replace H := if_f b46 H
          obtain ⟨t64, H1, H⟩ := bnd H
          refine c_cut (fun a' w' => ∃ (M65 : Heap), HLe M43 M65 ∧ Fr 70 [(2, (ptr b4 0)), (3, (ptr b5 0)), (5, (.int .i64 t35)), (37, (.bool t64))] a' ∧ St none' M w M65 (lt [.blk b4 (.cells (restore_Place.C p0).toArray 32 (0, 0))]) w') ?_ ?_
          · replace H := H1
            clear H1
            refine c_reg ?_
            refine w_val trivial rfl (fun a w hf hs => r_fa fa28_3 (hf.ev rfl)) ?_
            refine w_val trivial rfl (fun a w hf hs => r_load1 ta3 (hf.ev rfl) (hs.sub _ _ h8) (Backup.g18 _ _)) ?_
            refine w_val trivial rfl (fun a w hf hs => r_fa fa32_2 (hf.ev rfl)) ?_
            refine w_val trivial rfl (fun a w hf hs => r_load1 ta3 (hf.ev rfl) (hs.blk (i := 0) rfl) (restore_Place.g32 _)) ?_
            refine w_val trivial rfl (fun a w hf hs => r_gtr (hf.ev rfl) (hf.ev rfl)) ?_
            refine w_val trivial rfl (fun a w hf hs => r_move (hf.ev rfl)) ?_
            by_cases b67 : (decide (p0.Firmware < p1.Firmware)) = true
            · replace H := if_t b67 H
              refine w_not (Nwt.of rfl rfl b67) rfl ?_
              refine w_not (Nwt.of rfl rfl b67) rfl ?_
              refine w_not (Nwt.of rfl rfl b67) rfl ?_
              refine w_not (Nwt.of rfl rfl b67) rfl ?_
              refine w_not (Nwt.of rfl rfl b67) rfl ?_
              refine w_val trivial rfl (fun a w hf hs => r_pickT (hf.ev rfl) b67 (hf.ev rfl)) ?_
              refine w_val trivial rfl (fun a w hf hs => r_assign (hf.ev rfl)) ?_
              obtain rfl := some_r H
              refine w_nil ?_
              intro a w' hf hs
              exact ⟨_, (HLe.refl _), ((((hf.nil.add (hf.get _ _ rfl)).add (hf.get _ _ rfl)).add (hf.get _ _ rfl)).add (hf.get _ _ rfl)), hs.sel [0] (by decide) rfl⟩
            · replace b67 := Bool.eq_false_iff.2 b67
              replace H := if_f b67 H
              refine w_val (Wnt.of rfl rfl b67) rfl (fun a w hf hs => r_fa fa28_2 (hf.ev rfl)) ?_
              refine w_val (Wnt.of rfl rfl b67) rfl (fun a w hf hs => r_load1 ta3 (hf.ev rfl) (hs.sub _ _ h8) (Backup.g17 _ _)) ?_
              refine w_val (Wnt.of rfl rfl b67) rfl (fun a w hf hs => r_fa fa32_3 (hf.ev rfl)) ?_
              refine w_val (Wnt.of rfl rfl b67) rfl (fun a w hf hs => r_load1 ta3 (hf.ev rfl) (hs.blk (i := 0) rfl) (restore_Place.g33 _)) ?_
              refine w_val (Wnt.of rfl rfl b67) rfl (fun a w hf hs => r_lss (hf.ev rfl) (hf.ev rfl)) ?_
              refine w_val trivial rfl (fun a w hf hs => r_pickF (hf.ev rfl) b67 (hf.ev rfl)) ?_
              refine w_val trivial rfl (fun a w hf hs => r_assign (hf.ev rfl)) ?_
              obtain rfl := some_r H
              refine w_nil ?_
              intro a w' hf hs
              exact ⟨_, (HLe.refl _), ((((hf.nil.add (hf.get _ _ rfl)).add (hf.get _ _ rfl)).add (hf.get _ _ rfl)).add (hf.get _ _ rfl)), hs.sel [0] (by decide) rfl⟩
          · clear H1
            rintro a w' ⟨M65, l66, hf, hs⟩
            refine c_of (c := (Cx.mk Try.prog 70 none' M w)) ?_ hf hs
            clear hf hs
            replace h2 := h2.mono l66
            replace h8 := l66 _ _ h8
            refine c_if rfl (fun b68 => ?_) (fun b68 => ?_)
            · replace H := if_t b68 H
              obtain ⟨t69, H1, H⟩ := bnd H
              have ht_ := (some_r H).trans hr_
              refine c_cut (fun a' w' => ∃ (M70 : Heap), HLe M65 M70 ∧ Fr 70 [(4, (.bool t69))] a' ∧ St none' M w M70 (lt [.blk b4 (.cells (restore_Place.C p0).toArray 32 (0, 0))]) w') ?_ ?_
              · replace H := H1
                clear H1
                refine c_reg ?_
                obtain ⟨t79, e84, H⟩ := bnd H
                refine w_call cf9 trivial rfl rfl (fun w hs => law37_sanity.calls hs  _ (hs_law37_sanity _ e84) e84) ?_
                rintro _ M81 l82 rfl
                replace h2 := h2.mono l82
                replace h8 := l82 _ _ h8
                refine w_val trivial rfl (fun a w hf hs => r_move (hf.ev rfl)) ?_
                by_cases b85 : t79 = true
                · replace H := if_t b85 H
                  refine w_val (Wnt.of rfl rfl b85) rfl (fun a w hf hs => r_move (hf.ev rfl)) ?_
                  refine w_val (Wnt.of rfl rfl b85) rfl (fun a w hf hs => r_eql (hf.ev rfl) (hf.ev rfl)) ?_
                  refine w_val trivial rfl (fun a w hf hs => r_pickT (hf.ev rfl) b85 (hf.ev rfl)) ?_
                  refine w_val trivial rfl (fun a w hf hs => r_assign (hf.ev rfl)) ?_
                  obtain rfl := some_r H
                  refine w_nil ?_
                  intro a w' hf hs
                  exact ⟨_, l82, (hf.nil.add (hf.get _ _ rfl)), hs.sel [0] (by decide) rfl⟩
                · replace b85 := Bool.eq_false_iff.2 b85
                  replace H := if_f b85 H
                  exact absurd ((some_r H).trans ht_) (by decide)
              · clear H1 ht_
                rintro a w' ⟨M70, l71, hf, hs⟩
                refine c_of (c := (Cx.mk Try.prog 70 none' M w)) ?_ hf hs
                clear hf hs
                replace h2 := h2.mono l71
                replace h8 := l71 _ _ h8
                obtain rfl := some_r H
                refine c_ret ?_
                intro a w' hf hs
                exact hret _ (.inl rfl) a w' hf.df ⟨_, _, Res.of1 rfl (RV.t hf rfl), hs.ext, rfl⟩
            · replace H := if_f b68 H
              refine c_skip (hK41 _ _ _ ?_)
              refine c_seq ?_
              intro K86 hK86
              refine c_reg ?_
              refine w_val trivial rfl (fun a w hf hs => r_fa fa28_2 (hf.ev rfl)) ?_
              refine w_val trivial rfl (fun a w hf hs => r_load1 ta3 (hf.ev rfl) (hs.sub _ _ h8) (Backup.g17 _ _)) ?_
              refine w_val trivial rfl (fun a w hf hs => r_add (hf.ev rfl) (hf.ev rfl)) ?_
              refine w_val trivial rfl (fun a w hf hs => r_fa fa32_3 (hf.ev rfl)) ?_
              refine w_store (i := 0) (vs := [(.int .i64 (IntKind.i64.wrap (p1.Number + (1 : Int))))]) (A' := restore_Place.C ({ p0 with Number := (IntKind.i64.wrap (p1.Number + (1 : Int))) } : restore_Place)) trivial rfl rfl rfl rfl ts3 rfl (one1 rfl) (by rw [restore_Place.len]; decide) (restore_Place.s33_1 _) ?_
              refine w_nil (hK86 _ _ _ ?_)
              obtain ⟨t87, H1, H⟩ := bnd H
              have ht_ := (some_r H).trans hr_
              refine c_cut (fun a' w' => ∃ (M88 : Heap), HLe M65 M88 ∧ Fr 70 [(4, (.bool t87))] a' ∧ St none' M w M88 (lt [.blk b4 (.cells (restore_Place.C ({ p0 with Number := (IntKind.i64.wrap (p1.Number + (1 : Int))) } : restore_Place)).toArray 32 (0, 0))]) w') ?_ ?_
              · replace H := H1
                clear H1
                refine c_reg ?_
                obtain ⟨t104, e109, H⟩ := bnd H
                refine w_call cf9 trivial rfl rfl (fun w hs => law37_sanity.calls hs  _ (hs_law37_sanity _ e109) e109) ?_
                rintro _ M106 l107 rfl
                replace h2 := h2.mono l107
                replace h8 := l107 _ _ h8
                refine w_val trivial rfl (fun a w hf hs => r_move (hf.ev rfl)) ?_
                by_cases b110 : t104 = true
                · replace H := if_t b110 H
                  refine w_val (Wnt.of rfl rfl b110) rfl (fun a w hf hs => r_move (hf.ev rfl)) ?_
                  refine w_val (Wnt.of rfl rfl b110) rfl (fun a w hf hs => r_eql (hf.ev rfl) (hf.ev rfl)) ?_
                  refine w_val trivial rfl (fun a w hf hs => r_pickT (hf.ev rfl) b110 (hf.ev rfl)) ?_
                  refine w_val trivial rfl (fun a w hf hs => r_move (hf.ev rfl)) ?_
                  by_cases b111 : (t35 == (0 : Int)) = true
                  · replace H := if_t b111 H
                    refine w_val (Wnt.of rfl rfl b111) rfl (fun a w hf hs => r_loadA ta32 ts32 (hf.ev rfl) (hs.blk (i := 0) rfl) (restore_Place.d0_34 _) (restore_Place.len _)) ?_
                    refine w_val (Wnt.of rfl rfl b111) rfl (fun a w hf hs => r_loadA ta28 ts28 (hf.ev rfl) (hs.sub _ _ h8) (Backup.d0_38 _ _) (Backup.len _ _)) ?_
                    obtain ⟨t112, e117, H⟩ := bnd H
                    refine w_call cf18 (Wnt.of rfl rfl b111) rfl rfl (fun w hs => restore_Admit.calls hs ({ p0 with Number := (IntKind.i64.wrap (p1.Number + (1 : Int))) } : restore_Place) p1 v1 h2 _ e117) ?_
                    rintro _ M114 l115 rfl
                    replace h2 := h2.mono l115
                    replace h8 := l115 _ _ h8
                    refine w_val (Wnt.of rfl rfl b111) rfl (fun a w hf hs => r_eql (hf.ev rfl) (hf.ev rfl)) ?_
                    refine w_val trivial rfl (fun a w hf hs => r_pickT (hf.ev rfl) b111 (hf.ev rfl)) ?_
                    refine w_val trivial rfl (fun a w hf hs => r_assign (hf.ev rfl)) ?_
                    obtain rfl := some_r H
                    refine w_nil ?_
                    intro a w' hf hs
                    exact ⟨_, (l107.trans l115), (hf.nil.add (hf.get _ _ rfl)), hs.sel [0] (by decide) rfl⟩
                  · replace b111 := Bool.eq_false_iff.2 b111
                    replace H := if_f b111 H
                    exact absurd ((some_r H).trans ht_) (by decide)
                · replace b110 := Bool.eq_false_iff.2 b110
                  replace H := if_f b110 H
                  exact absurd ((some_r H).trans ht_) (by decide)
              · clear H1 ht_
                rintro a w' ⟨M88, l89, hf, hs⟩
                refine c_of (c := (Cx.mk Try.prog 70 none' M w)) ?_ hf hs
                clear hf hs
                replace h2 := h2.mono l89
                replace h8 := l89 _ _ h8
                obtain rfl := some_r H
                refine c_ret ?_
                intro a w' hf hs
                exact hret _ (.inl rfl) a w' hf.df ⟨_, _, Res.of1 rfl (RV.t hf rfl), hs.ext, rfl⟩
end Go.Cu
