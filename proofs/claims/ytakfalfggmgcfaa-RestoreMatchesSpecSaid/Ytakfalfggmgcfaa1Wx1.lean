/- Each Go function comes to its pure function; condition: that one is defined there. -/
import Derived.Test.Ytakfalfggmgcfaa1Wx0
import Derived.Test.Ytakfalfggmgcfaa1P
import Derived.Test.Ytakfalfggmgcfaa1S
import Derived.Shelf.Strings.Repeat
import Derived.Ground.NamesProg
import Derived.Lib.Agree
import Derived.Test.YtakfalfggmgcfaaProg
import Derived.KernelRfl
import Derived.Test.YtakfalfggmgcfaaCu18
set_option linter.unusedVariables false
set_option linter.unusedSimpArgs false
set_option maxHeartbeats 4000000
/-! The walks. -/
namespace Go.Cu
open Go.Proofs Go.Proofs.Try Go.Shelf
set_option maxRecDepth 20000 in
theorem law37_sanity.calls {M : Heap} {w : World} (hM : Sub M w)  (r : Bool) (hr_ : r = true) (H : law37_sanity  = some r) :
    Calls Try.prog 9 [].toArray w (Post M w fun M' v => v = (.bool r)) := by
  refine enter 166 [] Try.func9 rfl rfl rfl hM ?_
  intro Q hret
  unfold law37_sanity at H
  refine c_seq ?_
  intro K1 hK1
  refine c_reg ?_
  refine w_val trivial rfl (fun a w hf hs => r_assign (hf.ev rfl)) ?_
  refine w_nil (hK1 _ _ _ ?_)
  refine c_seq ?_
  intro K2 hK2
  refine c_reg ?_
  obtain ⟨t3, e8, H⟩ := bnd H
  refine w_call cf23 trivial rfl rfl (fun w hs => strings_Repeat.calls hs ([118] : List UInt8) (32 : Int) _ e8) ?_
  rintro _ M5 l6 rfl
  refine w_val trivial rfl (fun a w hf hs => r_assign (hf.ev rfl)) ?_
  refine w_nil (hK2 _ _ _ ?_)
  refine c_seq ?_
  intro K9 hK9
  refine c_reg ?_
  refine w_val trivial rfl (fun a w hf hs => r_move (hf.ev rfl)) ?_
  refine w_val trivial rfl (fun a w hf hs => r_build (is := [0, 2, 4, 5, 6]) (xs := [.const (.int .i64 (1 : Int)), .tmp 22, .const (.int .i64 (1 : Int)), .const (.int .i64 (9 : Int)), .const (.int .i64 (1 : Int))]) (vs := [(.int .i64 (1 : Int)), (str t3), (.int .i64 (1 : Int)), (.int .i64 (9 : Int)), (.int .i64 (1 : Int))]) (A := Key.C (⟨(1 : Int), (0 : Int), t3, (0 : Int), (1 : Int), (9 : Int), (1 : Int), (0 : Int), false⟩ : Key)) rfl (hf.evs rfl) (by kernel_rfl)) ?_
  refine w_allocL (A := Key.C (⟨(0 : Int), (0 : Int), ([] : List UInt8), (0 : Int), (0 : Int), (0 : Int), (0 : Int), (0 : Int), false⟩ : Key)) tz30 trivial rfl rfl ?_
  intro b10
  refine w_store (i := 0) (vs := Key.C (⟨(1 : Int), (0 : Int), t3, (0 : Int), (1 : Int), (9 : Int), (1 : Int), (0 : Int), false⟩ : Key)) (A' := Key.C (⟨(1 : Int), (0 : Int), t3, (0 : Int), (1 : Int), (9 : Int), (1 : Int), (0 : Int), false⟩ : Key)) trivial rfl rfl rfl rfl ts30 rfl (Key.F_one _) (Nat.le_of_ble_eq_true rfl) rfl ?_
  refine w_nil (hK9 _ _ _ ?_)
  refine c_seq ?_
  intro K11 hK11
  refine c_reg ?_
  refine w_val trivial rfl (fun a w hf hs => r_loadA ta30 ts30 (hf.ev rfl) (hs.blk (i := 0) rfl) rfl rfl) ?_
  refine w_bsl (F := Key.F) (es := ([(⟨(1 : Int), (0 : Int), t3, (0 : Int), (1 : Int), (9 : Int), (1 : Int), (0 : Int), false⟩ : Key)] : List Key)) (xs := [.tmp 24]) (vs := [(.agg (Key.C (⟨(1 : Int), (0 : Int), t3, (0 : Int), (1 : Int), (9 : Int), (1 : Int), (0 : Int), false⟩ : Key)).toArray)]) Try.underlying22 te30 trivial rfl rfl rfl rfl rfl (by decide) ?_
  intro v12 M13 l14 h15 c16
  refine w_val trivial rfl (fun a w hf hs => r_build (is := [0, 1]) (xs := [.const (.int .i64 (2 : Int)), .tmp 25]) (vs := [(.int .i64 (2 : Int)), v12]) (A := Table.C (⟨(2 : Int), ([(⟨(1 : Int), (0 : Int), t3, (0 : Int), (1 : Int), (9 : Int), (1 : Int), (0 : Int), false⟩ : Key)] : List Key)⟩ : Table) v12) rfl (hf.evs rfl) (built_of (pl := [(0, 1), (1, 1)]) (A0 := Table.C (⟨(0 : Int), ([] : (List Key))⟩ : Table) (.slice none 0 0)) tz24 Try.underlying24 (by kernel_rfl) rfl (.cons (vs := [(.int .i64 (2 : Int))]) (B := Table.C (⟨(2 : Int), ([] : (List Key))⟩ : Table) (.slice none 0 0)) rfl rfl rfl (by rw [Table.len]; decide) rfl (.cons (vs := [v12]) (B := Table.C (⟨(2 : Int), ([(⟨(1 : Int), (0 : Int), t3, (0 : Int), (1 : Int), (9 : Int), (1 : Int), (0 : Int), false⟩ : Key)] : List Key)⟩ : Table) v12) rfl (h15.cells1) rfl (by rw [Table.len]; decide) rfl .nil)))) ?_
  refine w_allocL (A := Table.C (⟨(0 : Int), ([] : (List Key))⟩ : Table) (.slice none 0 0)) tz24 trivial rfl rfl ?_
  intro b17
  refine w_store (i := 1) (vs := Table.C (⟨(2 : Int), ([(⟨(1 : Int), (0 : Int), t3, (0 : Int), (1 : Int), (9 : Int), (1 : Int), (0 : Int), false⟩ : Key)] : List Key)⟩ : Table) v12) (A' := Table.C (⟨(2 : Int), ([(⟨(1 : Int), (0 : Int), t3, (0 : Int), (1 : Int), (9 : Int), (1 : Int), (0 : Int), false⟩ : Key)] : List Key)⟩ : Table) v12) trivial rfl rfl rfl rfl ts24 rfl (Table.C_one _ h15.one) (Nat.le_of_ble_eq_true rfl) rfl ?_
  refine w_nil (hK11 _ _ _ ?_)
  refine c_seq ?_
  intro K18 hK18
  refine c_reg ?_
  refine w_val trivial rfl (fun a w hf hs => r_loadA ta30 ts30 (hf.ev rfl) (hs.blk (i := 0) rfl) rfl rfl) ?_
  refine w_allocL (A := Key.C (⟨(0 : Int), (0 : Int), ([] : List UInt8), (0 : Int), (0 : Int), (0 : Int), (0 : Int), (0 : Int), false⟩ : Key)) tz30 trivial rfl rfl ?_
  intro b19
  refine w_L [.blk b10 (.cells (Key.C (⟨(1 : Int), (0 : Int), t3, (0 : Int), (1 : Int), (9 : Int), (1 : Int), (0 : Int), false⟩ : Key)).toArray 30 (0, 0)), .blk b17 (.cells (Table.C (⟨(2 : Int), ([(⟨(1 : Int), (0 : Int), t3, (0 : Int), (1 : Int), (9 : Int), (1 : Int), (0 : Int), false⟩ : Key)] : List Key)⟩ : Table) v12).toArray 24 (0, 0)), .blk b19 (.cells (Key.C (⟨(0 : Int), (0 : Int), ([] : List UInt8), (0 : Int), (0 : Int), (0 : Int), (0 : Int), (0 : Int), false⟩ : Key)).toArray 30 (0, 0))] rfl ?_
  refine w_store (i := 2) (vs := Key.C (⟨(1 : Int), (0 : Int), t3, (0 : Int), (1 : Int), (9 : Int), (1 : Int), (0 : Int), false⟩ : Key)) (A' := Key.C (⟨(1 : Int), (0 : Int), t3, (0 : Int), (1 : Int), (9 : Int), (1 : Int), (0 : Int), false⟩ : Key)) trivial rfl rfl rfl rfl ts30 rfl (Key.F_one _) (Nat.le_of_ble_eq_true rfl) rfl ?_
  refine w_L [.blk b10 (.cells (Key.C (⟨(1 : Int), (0 : Int), t3, (0 : Int), (1 : Int), (9 : Int), (1 : Int), (0 : Int), false⟩ : Key)).toArray 30 (0, 0)), .blk b17 (.cells (Table.C (⟨(2 : Int), ([(⟨(1 : Int), (0 : Int), t3, (0 : Int), (1 : Int), (9 : Int), (1 : Int), (0 : Int), false⟩ : Key)] : List Key)⟩ : Table) v12).toArray 24 (0, 0)), .blk b19 (.cells (Key.C (⟨(1 : Int), (0 : Int), t3, (0 : Int), (1 : Int), (9 : Int), (1 : Int), (0 : Int), false⟩ : Key)).toArray 30 (0, 0))] rfl ?_
  refine w_nil (hK18 _ _ _ ?_)
  refine c_seq ?_
  intro K20 hK20
  refine c_reg ?_
  refine w_val trivial rfl (fun a w hf hs => r_fa fa30_0 (hf.ev rfl)) ?_
  refine w_store (i := 2) (vs := [(.int .i64 (4 : Int))]) (A' := Key.C (⟨(4 : Int), (0 : Int), t3, (0 : Int), (1 : Int), (9 : Int), (1 : Int), (0 : Int), false⟩ : Key)) trivial rfl rfl rfl rfl ts3 rfl (one1 rfl) (Nat.le_of_ble_eq_true rfl) rfl ?_
  refine w_L [.blk b10 (.cells (Key.C (⟨(1 : Int), (0 : Int), t3, (0 : Int), (1 : Int), (9 : Int), (1 : Int), (0 : Int), false⟩ : Key)).toArray 30 (0, 0)), .blk b17 (.cells (Table.C (⟨(2 : Int), ([(⟨(1 : Int), (0 : Int), t3, (0 : Int), (1 : Int), (9 : Int), (1 : Int), (0 : Int), false⟩ : Key)] : List Key)⟩ : Table) v12).toArray 24 (0, 0)), .blk b19 (.cells (Key.C (⟨(4 : Int), (0 : Int), t3, (0 : Int), (1 : Int), (9 : Int), (1 : Int), (0 : Int), false⟩ : Key)).toArray 30 (0, 0))] rfl ?_
  refine w_val trivial rfl (fun a w hf hs => r_fa fa30_7 (hf.ev rfl)) ?_
  refine w_store (i := 2) (vs := [(.int .i64 (1 : Int))]) (A' := Key.C (⟨(4 : Int), (0 : Int), t3, (0 : Int), (1 : Int), (9 : Int), (1 : Int), (1 : Int), false⟩ : Key)) trivial rfl rfl rfl rfl ts3 rfl (one1 rfl) (Nat.le_of_ble_eq_true rfl) rfl ?_
  refine w_L [.blk b10 (.cells (Key.C (⟨(1 : Int), (0 : Int), t3, (0 : Int), (1 : Int), (9 : Int), (1 : Int), (0 : Int), false⟩ : Key)).toArray 30 (0, 0)), .blk b17 (.cells (Table.C (⟨(2 : Int), ([(⟨(1 : Int), (0 : Int), t3, (0 : Int), (1 : Int), (9 : Int), (1 : Int), (0 : Int), false⟩ : Key)] : List Key)⟩ : Table) v12).toArray 24 (0, 0)), .blk b19 (.cells (Key.C (⟨(4 : Int), (0 : Int), t3, (0 : Int), (1 : Int), (9 : Int), (1 : Int), (1 : Int), false⟩ : Key)).toArray 30 (0, 0))] rfl ?_
  refine w_val trivial rfl (fun a w hf hs => r_fa fa30_6 (hf.ev rfl)) ?_
  refine w_store (i := 2) (vs := [(.int .i64 (2 : Int))]) (A' := Key.C (⟨(4 : Int), (0 : Int), t3, (0 : Int), (1 : Int), (9 : Int), (2 : Int), (1 : Int), false⟩ : Key)) trivial rfl rfl rfl rfl ts3 rfl (one1 rfl) (Nat.le_of_ble_eq_true rfl) rfl ?_
  refine w_L [.blk b10 (.cells (Key.C (⟨(1 : Int), (0 : Int), t3, (0 : Int), (1 : Int), (9 : Int), (1 : Int), (0 : Int), false⟩ : Key)).toArray 30 (0, 0)), .blk b17 (.cells (Table.C (⟨(2 : Int), ([(⟨(1 : Int), (0 : Int), t3, (0 : Int), (1 : Int), (9 : Int), (1 : Int), (0 : Int), false⟩ : Key)] : List Key)⟩ : Table) v12).toArray 24 (0, 0)), .blk b19 (.cells (Key.C (⟨(4 : Int), (0 : Int), t3, (0 : Int), (1 : Int), (9 : Int), (2 : Int), (1 : Int), false⟩ : Key)).toArray 30 (0, 0))] rfl ?_
  refine w_nil (hK20 _ _ _ ?_)
  refine c_seq ?_
  intro K21 hK21
  refine c_reg ?_
  refine w_val trivial rfl (fun a w hf hs => r_loadA ta30 ts30 (hf.ev rfl) (hs.blk (i := 0) rfl) rfl rfl) ?_
  refine w_allocL (A := Key.C (⟨(0 : Int), (0 : Int), ([] : List UInt8), (0 : Int), (0 : Int), (0 : Int), (0 : Int), (0 : Int), false⟩ : Key)) tz30 trivial rfl rfl ?_
  intro b22
  refine w_L [.blk b10 (.cells (Key.C (⟨(1 : Int), (0 : Int), t3, (0 : Int), (1 : Int), (9 : Int), (1 : Int), (0 : Int), false⟩ : Key)).toArray 30 (0, 0)), .blk b17 (.cells (Table.C (⟨(2 : Int), ([(⟨(1 : Int), (0 : Int), t3, (0 : Int), (1 : Int), (9 : Int), (1 : Int), (0 : Int), false⟩ : Key)] : List Key)⟩ : Table) v12).toArray 24 (0, 0)), .blk b19 (.cells (Key.C (⟨(4 : Int), (0 : Int), t3, (0 : Int), (1 : Int), (9 : Int), (2 : Int), (1 : Int), false⟩ : Key)).toArray 30 (0, 0)), .blk b22 (.cells (Key.C (⟨(0 : Int), (0 : Int), ([] : List UInt8), (0 : Int), (0 : Int), (0 : Int), (0 : Int), (0 : Int), false⟩ : Key)).toArray 30 (0, 0))] rfl ?_
  refine w_store (i := 3) (vs := Key.C (⟨(1 : Int), (0 : Int), t3, (0 : Int), (1 : Int), (9 : Int), (1 : Int), (0 : Int), false⟩ : Key)) (A' := Key.C (⟨(1 : Int), (0 : Int), t3, (0 : Int), (1 : Int), (9 : Int), (1 : Int), (0 : Int), false⟩ : Key)) trivial rfl rfl rfl rfl ts30 rfl (Key.F_one _) (Nat.le_of_ble_eq_true rfl) rfl ?_
  refine w_L [.blk b10 (.cells (Key.C (⟨(1 : Int), (0 : Int), t3, (0 : Int), (1 : Int), (9 : Int), (1 : Int), (0 : Int), false⟩ : Key)).toArray 30 (0, 0)), .blk b17 (.cells (Table.C (⟨(2 : Int), ([(⟨(1 : Int), (0 : Int), t3, (0 : Int), (1 : Int), (9 : Int), (1 : Int), (0 : Int), false⟩ : Key)] : List Key)⟩ : Table) v12).toArray 24 (0, 0)), .blk b19 (.cells (Key.C (⟨(4 : Int), (0 : Int), t3, (0 : Int), (1 : Int), (9 : Int), (2 : Int), (1 : Int), false⟩ : Key)).toArray 30 (0, 0)), .blk b22 (.cells (Key.C (⟨(1 : Int), (0 : Int), t3, (0 : Int), (1 : Int), (9 : Int), (1 : Int), (0 : Int), false⟩ : Key)).toArray 30 (0, 0))] rfl ?_
  refine w_nil (hK21 _ _ _ ?_)
  refine c_seq ?_
  intro K23 hK23
  refine c_reg ?_
  refine w_val trivial rfl (fun a w hf hs => r_fa fa30_0 (hf.ev rfl)) ?_
  refine w_store (i := 3) (vs := [(.int .i64 (6 : Int))]) (A' := Key.C (⟨(6 : Int), (0 : Int), t3, (0 : Int), (1 : Int), (9 : Int), (1 : Int), (0 : Int), false⟩ : Key)) trivial rfl rfl rfl rfl ts3 rfl (one1 rfl) (Nat.le_of_ble_eq_true rfl) rfl ?_
  refine w_L [.blk b10 (.cells (Key.C (⟨(1 : Int), (0 : Int), t3, (0 : Int), (1 : Int), (9 : Int), (1 : Int), (0 : Int), false⟩ : Key)).toArray 30 (0, 0)), .blk b17 (.cells (Table.C (⟨(2 : Int), ([(⟨(1 : Int), (0 : Int), t3, (0 : Int), (1 : Int), (9 : Int), (1 : Int), (0 : Int), false⟩ : Key)] : List Key)⟩ : Table) v12).toArray 24 (0, 0)), .blk b19 (.cells (Key.C (⟨(4 : Int), (0 : Int), t3, (0 : Int), (1 : Int), (9 : Int), (2 : Int), (1 : Int), false⟩ : Key)).toArray 30 (0, 0)), .blk b22 (.cells (Key.C (⟨(6 : Int), (0 : Int), t3, (0 : Int), (1 : Int), (9 : Int), (1 : Int), (0 : Int), false⟩ : Key)).toArray 30 (0, 0))] rfl ?_
  refine w_val trivial rfl (fun a w hf hs => r_fa fa30_5 (hf.ev rfl)) ?_
  refine w_store (i := 3) (vs := [(.int .i64 (5 : Int))]) (A' := Key.C (⟨(6 : Int), (0 : Int), t3, (0 : Int), (1 : Int), (5 : Int), (1 : Int), (0 : Int), false⟩ : Key)) trivial rfl rfl rfl rfl ts3 rfl (one1 rfl) (Nat.le_of_ble_eq_true rfl) rfl ?_
  refine w_L [.blk b10 (.cells (Key.C (⟨(1 : Int), (0 : Int), t3, (0 : Int), (1 : Int), (9 : Int), (1 : Int), (0 : Int), false⟩ : Key)).toArray 30 (0, 0)), .blk b17 (.cells (Table.C (⟨(2 : Int), ([(⟨(1 : Int), (0 : Int), t3, (0 : Int), (1 : Int), (9 : Int), (1 : Int), (0 : Int), false⟩ : Key)] : List Key)⟩ : Table) v12).toArray 24 (0, 0)), .blk b19 (.cells (Key.C (⟨(4 : Int), (0 : Int), t3, (0 : Int), (1 : Int), (9 : Int), (2 : Int), (1 : Int), false⟩ : Key)).toArray 30 (0, 0)), .blk b22 (.cells (Key.C (⟨(6 : Int), (0 : Int), t3, (0 : Int), (1 : Int), (5 : Int), (1 : Int), (0 : Int), false⟩ : Key)).toArray 30 (0, 0))] rfl ?_
  refine w_nil (hK23 _ _ _ ?_)
  refine c_seq ?_
  intro K24 hK24
  refine c_reg ?_
  refine w_val trivial rfl (fun a w hf hs => r_loadA ta30 ts30 (hf.ev rfl) (hs.blk (i := 0) rfl) rfl rfl) ?_
  refine w_val trivial rfl (fun a w hf hs => r_loadA ta30 ts30 (hf.ev rfl) (hs.blk (i := 2) rfl) rfl rfl) ?_
  refine w_val trivial rfl (fun a w hf hs => r_loadA ta30 ts30 (hf.ev rfl) (hs.blk (i := 3) rfl) rfl rfl) ?_
  refine w_bsl (F := Key.F) (es := ([(⟨(1 : Int), (0 : Int), t3, (0 : Int), (1 : Int), (9 : Int), (1 : Int), (0 : Int), false⟩ : Key), (⟨(4 : Int), (0 : Int), t3, (0 : Int), (1 : Int), (9 : Int), (2 : Int), (1 : Int), false⟩ : Key), (⟨(6 : Int), (0 : Int), t3, (0 : Int), (1 : Int), (5 : Int), (1 : Int), (0 : Int), false⟩ : Key)] : List Key)) (xs := [.tmp 34, .tmp 35, .tmp 36]) (vs := [(.agg (Key.C (⟨(1 : Int), (0 : Int), t3, (0 : Int), (1 : Int), (9 : Int), (1 : Int), (0 : Int), false⟩ : Key)).toArray), (.agg (Key.C (⟨(4 : Int), (0 : Int), t3, (0 : Int), (1 : Int), (9 : Int), (2 : Int), (1 : Int), false⟩ : Key)).toArray), (.agg (Key.C (⟨(6 : Int), (0 : Int), t3, (0 : Int), (1 : Int), (5 : Int), (1 : Int), (0 : Int), false⟩ : Key)).toArray)]) Try.underlying22 te30 trivial rfl rfl rfl rfl rfl (by decide) ?_
  intro v25 M26 l27 h28 c29
  replace h15 := h15.mono l27
  refine w_val trivial rfl (fun a w hf hs => r_build (is := [2, 6, 7]) (xs := [.const (.int .i64 (2 : Int)), .const (str ([109] : List UInt8)), .tmp 37]) (vs := [(.int .i64 (2 : Int)), (str ([109] : List UInt8)), v25]) (A := Backup.C ({ ({ ({ ({ ({ ({ ({ ({ (default : Backup) with Domain := (Vector.replicate 16 (0 : Int)) } : Backup) with Epoch := (0 : Int) } : Backup) with Firmware := (0 : Int) } : Backup) with Time := (0 : Int) } : Backup) with Policy := (Vector.replicate 16 (0 : Int)) } : Backup) with Number := (2 : Int) } : Backup) with Module := ([109] : List UInt8) } : Backup) with Keys := ([(⟨(1 : Int), (0 : Int), t3, (0 : Int), (1 : Int), (9 : Int), (1 : Int), (0 : Int), false⟩ : Key), (⟨(4 : Int), (0 : Int), t3, (0 : Int), (1 : Int), (9 : Int), (2 : Int), (1 : Int), false⟩ : Key), (⟨(6 : Int), (0 : Int), t3, (0 : Int), (1 : Int), (5 : Int), (1 : Int), (0 : Int), false⟩ : Key)] : List Key) } : Backup) v25) rfl (hf.evs rfl) (built_of (pl := [(0, 16), (16, 1), (17, 1), (18, 1), (19, 1), (20, 16), (36, 1), (37, 1)]) (A0 := Backup.C ({ ({ ({ ({ ({ ({ ({ ({ (default : Backup) with Domain := (Vector.replicate 16 (0 : Int)) } : Backup) with Epoch := (0 : Int) } : Backup) with Number := (0 : Int) } : Backup) with Firmware := (0 : Int) } : Backup) with Time := (0 : Int) } : Backup) with Policy := (Vector.replicate 16 (0 : Int)) } : Backup) with Module := ([] : List UInt8) } : Backup) with Keys := ([] : (List Key)) } : Backup) (.slice none 0 0)) tz28 Try.underlying28 (by kernel_rfl) rfl (.cons (vs := [(.int .i64 (2 : Int))]) (B := Backup.C ({ ({ ({ ({ ({ ({ ({ ({ (default : Backup) with Domain := (Vector.replicate 16 (0 : Int)) } : Backup) with Epoch := (0 : Int) } : Backup) with Firmware := (0 : Int) } : Backup) with Time := (0 : Int) } : Backup) with Policy := (Vector.replicate 16 (0 : Int)) } : Backup) with Module := ([] : List UInt8) } : Backup) with Keys := ([] : (List Key)) } : Backup) with Number := (2 : Int) } : Backup) (.slice none 0 0)) rfl rfl rfl (by rw [Backup.len]; decide) (Backup.s17_1 _ _) (.cons (vs := [(str ([109] : List UInt8))]) (B := Backup.C ({ ({ ({ ({ ({ ({ ({ ({ (default : Backup) with Domain := (Vector.replicate 16 (0 : Int)) } : Backup) with Epoch := (0 : Int) } : Backup) with Firmware := (0 : Int) } : Backup) with Time := (0 : Int) } : Backup) with Policy := (Vector.replicate 16 (0 : Int)) } : Backup) with Keys := ([] : (List Key)) } : Backup) with Number := (2 : Int) } : Backup) with Module := ([109] : List UInt8) } : Backup) (.slice none 0 0)) rfl rfl rfl (by rw [Backup.len]; decide) (Backup.s36_1 _ _) (.cons (vs := [v25]) (B := Backup.C ({ ({ ({ ({ ({ ({ ({ ({ (default : Backup) with Domain := (Vector.replicate 16 (0 : Int)) } : Backup) with Epoch := (0 : Int) } : Backup) with Firmware := (0 : Int) } : Backup) with Time := (0 : Int) } : Backup) with Policy := (Vector.replicate 16 (0 : Int)) } : Backup) with Number := (2 : Int) } : Backup) with Module := ([109] : List UInt8) } : Backup) with Keys := ([(⟨(1 : Int), (0 : Int), t3, (0 : Int), (1 : Int), (9 : Int), (1 : Int), (0 : Int), false⟩ : Key), (⟨(4 : Int), (0 : Int), t3, (0 : Int), (1 : Int), (9 : Int), (2 : Int), (1 : Int), false⟩ : Key), (⟨(6 : Int), (0 : Int), t3, (0 : Int), (1 : Int), (5 : Int), (1 : Int), (0 : Int), false⟩ : Key)] : List Key) } : Backup) v25) rfl (h28.cells1) rfl (by rw [Backup.len]; decide) (Backup.s37_1 _ _) .nil))))) ?_
  refine w_allocL (A := Backup.C ({ ({ ({ ({ ({ ({ ({ ({ (default : Backup) with Domain := (Vector.replicate 16 (0 : Int)) } : Backup) with Epoch := (0 : Int) } : Backup) with Number := (0 : Int) } : Backup) with Firmware := (0 : Int) } : Backup) with Time := (0 : Int) } : Backup) with Policy := (Vector.replicate 16 (0 : Int)) } : Backup) with Module := ([] : List UInt8) } : Backup) with Keys := ([] : (List Key)) } : Backup) (.slice none 0 0)) tz28 trivial rfl rfl ?_
  intro b30
  refine w_L [.blk b10 (.cells (Key.C (⟨(1 : Int), (0 : Int), t3, (0 : Int), (1 : Int), (9 : Int), (1 : Int), (0 : Int), false⟩ : Key)).toArray 30 (0, 0)), .blk b17 (.cells (Table.C (⟨(2 : Int), ([(⟨(1 : Int), (0 : Int), t3, (0 : Int), (1 : Int), (9 : Int), (1 : Int), (0 : Int), false⟩ : Key)] : List Key)⟩ : Table) v12).toArray 24 (0, 0)), .blk b19 (.cells (Key.C (⟨(4 : Int), (0 : Int), t3, (0 : Int), (1 : Int), (9 : Int), (2 : Int), (1 : Int), false⟩ : Key)).toArray 30 (0, 0)), .blk b22 (.cells (Key.C (⟨(6 : Int), (0 : Int), t3, (0 : Int), (1 : Int), (5 : Int), (1 : Int), (0 : Int), false⟩ : Key)).toArray 30 (0, 0)), .blk b30 (.cells (Backup.C ({ ({ ({ ({ ({ ({ ({ ({ (default : Backup) with Domain := (Vector.replicate 16 (0 : Int)) } : Backup) with Epoch := (0 : Int) } : Backup) with Number := (0 : Int) } : Backup) with Firmware := (0 : Int) } : Backup) with Time := (0 : Int) } : Backup) with Policy := (Vector.replicate 16 (0 : Int)) } : Backup) with Module := ([] : List UInt8) } : Backup) with Keys := ([] : (List Key)) } : Backup) (.slice none 0 0)).toArray 28 (0, 0))] rfl ?_
  obtain ⟨z31, e33, H⟩ := bnd H
  have e32 := some_r e33
  refine w_store (i := 4) (vs := Backup.C ({ ({ ({ ({ ({ ({ ({ ({ (default : Backup) with Domain := (Vector.replicate 16 (0 : Int)) } : Backup) with Epoch := (0 : Int) } : Backup) with Firmware := (0 : Int) } : Backup) with Time := (0 : Int) } : Backup) with Policy := (Vector.replicate 16 (0 : Int)) } : Backup) with Number := (2 : Int) } : Backup) with Module := ([109] : List UInt8) } : Backup) with Keys := ([(⟨(1 : Int), (0 : Int), t3, (0 : Int), (1 : Int), (9 : Int), (1 : Int), (0 : Int), false⟩ : Key), (⟨(4 : Int), (0 : Int), t3, (0 : Int), (1 : Int), (9 : Int), (2 : Int), (1 : Int), false⟩ : Key), (⟨(6 : Int), (0 : Int), t3, (0 : Int), (1 : Int), (5 : Int), (1 : Int), (0 : Int), false⟩ : Key)] : List Key) } : Backup) v25) (A' := Backup.C z31 v25) trivial rfl rfl rfl rfl ts28 (Backup.len _ _) (Backup.C_one _ h28.one) (by rw [Backup.len]; decide) (by rw [← e32]; exact (splice_all _ _ (by simp [Backup.C]))) ?_
  have h34 : RS Key.F M26 v25 z31.Keys := by rw [← e32]; exact h28
  clear e33 e32
  refine w_L [.blk b10 (.cells (Key.C (⟨(1 : Int), (0 : Int), t3, (0 : Int), (1 : Int), (9 : Int), (1 : Int), (0 : Int), false⟩ : Key)).toArray 30 (0, 0)), .blk b17 (.cells (Table.C (⟨(2 : Int), ([(⟨(1 : Int), (0 : Int), t3, (0 : Int), (1 : Int), (9 : Int), (1 : Int), (0 : Int), false⟩ : Key)] : List Key)⟩ : Table) v12).toArray 24 (0, 0)), .blk b19 (.cells (Key.C (⟨(4 : Int), (0 : Int), t3, (0 : Int), (1 : Int), (9 : Int), (2 : Int), (1 : Int), false⟩ : Key)).toArray 30 (0, 0)), .blk b22 (.cells (Key.C (⟨(6 : Int), (0 : Int), t3, (0 : Int), (1 : Int), (5 : Int), (1 : Int), (0 : Int), false⟩ : Key)).toArray 30 (0, 0)), .blk b30 (.cells (Backup.C z31 v25).toArray 28 (0, 0))] rfl ?_
  refine w_nil (hK24 _ _ _ ?_)
  refine c_seq ?_
  intro K35 hK35
  refine c_reg ?_
  refine w_val trivial rfl (fun a w hf hs => r_loadA ta24 ts24 (hf.ev rfl) (hs.blk (i := 1) rfl) rfl rfl) ?_
  refine w_val trivial rfl (fun a w hf hs => r_loadA ta28 ts28 (hf.ev rfl) (hs.blk (i := 4) rfl) (Backup.d0_38 _ _) (Backup.len _ _)) ?_
  obtain ⟨t36, e41, H⟩ := bnd H
  refine w_call cf10 trivial rfl rfl (fun w hs => restore_Plan.calls hs (⟨(2 : Int), ([(⟨(1 : Int), (0 : Int), t3, (0 : Int), (1 : Int), (9 : Int), (1 : Int), (0 : Int), false⟩ : Key)] : List Key)⟩ : Table) v12 h15 z31 v25 h34 (5 : Int) _ e41) ?_
  rintro v5039 M38 l39 ⟨v42, v44, hv_, h43, h45⟩
  replace hv_ := hv_.symm
  subst hv_
  replace h15 := h15.mono l39
  replace h28 := h28.mono l39
  replace h34 := h34.mono l39
  refine w_val trivial rfl (fun a w hf hs => r_move (hf.ev rfl)) ?_
  refine w_val trivial rfl (fun a w hf hs => r_extract (hf.ev rfl) rfl) ?_
  refine w_val trivial rfl (fun a w hf hs => r_extract (hf.ev rfl) rfl) ?_
  refine w_val trivial rfl (fun a w hf hs => r_extract (hf.ev rfl) rfl) ?_
  refine w_allocL (A := Table.C (⟨(0 : Int), ([] : (List Key))⟩ : Table) (.slice none 0 0)) tz24 trivial rfl rfl ?_
  intro b46
  refine w_L [.blk b10 (.cells (Key.C (⟨(1 : Int), (0 : Int), t3, (0 : Int), (1 : Int), (9 : Int), (1 : Int), (0 : Int), false⟩ : Key)).toArray 30 (0, 0)), .blk b17 (.cells (Table.C (⟨(2 : Int), ([(⟨(1 : Int), (0 : Int), t3, (0 : Int), (1 : Int), (9 : Int), (1 : Int), (0 : Int), false⟩ : Key)] : List Key)⟩ : Table) v12).toArray 24 (0, 0)), .blk b19 (.cells (Key.C (⟨(4 : Int), (0 : Int), t3, (0 : Int), (1 : Int), (9 : Int), (2 : Int), (1 : Int), false⟩ : Key)).toArray 30 (0, 0)), .blk b22 (.cells (Key.C (⟨(6 : Int), (0 : Int), t3, (0 : Int), (1 : Int), (5 : Int), (1 : Int), (0 : Int), false⟩ : Key)).toArray 30 (0, 0)), .blk b30 (.cells (Backup.C z31 v25).toArray 28 (0, 0)), .blk b46 (.cells (Table.C (⟨(0 : Int), ([] : (List Key))⟩ : Table) (.slice none 0 0)).toArray 24 (0, 0))] rfl ?_
  refine w_store (i := 5) (vs := Table.C t36.1 v42) (A' := Table.C t36.1 v42) trivial rfl rfl rfl rfl ts24 rfl (Table.C_one _ h43.one) (Nat.le_of_ble_eq_true rfl) rfl ?_
  refine w_L [.blk b10 (.cells (Key.C (⟨(1 : Int), (0 : Int), t3, (0 : Int), (1 : Int), (9 : Int), (1 : Int), (0 : Int), false⟩ : Key)).toArray 30 (0, 0)), .blk b17 (.cells (Table.C (⟨(2 : Int), ([(⟨(1 : Int), (0 : Int), t3, (0 : Int), (1 : Int), (9 : Int), (1 : Int), (0 : Int), false⟩ : Key)] : List Key)⟩ : Table) v12).toArray 24 (0, 0)), .blk b19 (.cells (Key.C (⟨(4 : Int), (0 : Int), t3, (0 : Int), (1 : Int), (9 : Int), (2 : Int), (1 : Int), false⟩ : Key)).toArray 30 (0, 0)), .blk b22 (.cells (Key.C (⟨(6 : Int), (0 : Int), t3, (0 : Int), (1 : Int), (5 : Int), (1 : Int), (0 : Int), false⟩ : Key)).toArray 30 (0, 0)), .blk b30 (.cells (Backup.C z31 v25).toArray 28 (0, 0)), .blk b46 (.cells (Table.C t36.1 v42).toArray 24 (0, 0))] rfl ?_
  refine w_val trivial rfl (fun a w hf hs => r_assign (hf.ev rfl)) ?_
  refine w_val trivial rfl (fun a w hf hs => r_assign (hf.ev rfl)) ?_
  refine w_nil (hK35 _ _ _ ?_)
  refine c_seq ?_
  intro K47 hK47
  obtain ⟨t48, H1, H⟩ := bnd H
  have ht_ := ne_tr H hr_
  refine c_cut (fun a' w' => ∃ (M49 : Heap), HLe M38 M49 ∧ Fr 166 [(3, (ptr b17 0)), (4, (ptr b19 0)), (6, (ptr b30 0)), (7, (ptr b46 0)), (8, v44), (58, (.bool t48))] a' ∧ St none' M w M49 (lt [.blk b10 (.cells (Key.C (⟨(1 : Int), (0 : Int), t3, (0 : Int), (1 : Int), (9 : Int), (1 : Int), (0 : Int), false⟩ : Key)).toArray 30 (0, 0)), .blk b17 (.cells (Table.C (⟨(2 : Int), ([(⟨(1 : Int), (0 : Int), t3, (0 : Int), (1 : Int), (9 : Int), (1 : Int), (0 : Int), false⟩ : Key)] : List Key)⟩ : Table) v12).toArray 24 (0, 0)), .blk b19 (.cells (Key.C (⟨(4 : Int), (0 : Int), t3, (0 : Int), (1 : Int), (9 : Int), (2 : Int), (1 : Int), false⟩ : Key)).toArray 30 (0, 0)), .blk b22 (.cells (Key.C (⟨(6 : Int), (0 : Int), t3, (0 : Int), (1 : Int), (5 : Int), (1 : Int), (0 : Int), false⟩ : Key)).toArray 30 (0, 0)), .blk b30 (.cells (Backup.C z31 v25).toArray 28 (0, 0)), .blk b46 (.cells (Table.C t36.1 v42).toArray 24 (0, 0))]) w') ?_ ?_
  · replace H := H1
    clear H1
    refine c_reg ?_
    refine w_val trivial rfl (fun a w hf hs => r_move (hf.ev rfl)) ?_
    refine w_val trivial rfl (fun a w hf hs => r_neq (hf.ev rfl) (hf.ev rfl)) ?_
    refine w_val trivial rfl (fun a w hf hs => r_move (hf.ev rfl)) ?_
    by_cases b5037 : (t36.2.2 != (0 : Int)) = true
    · replace H := if_t b5037 H
      exact absurd ((some_r H).trans ht_) (by decide)
    · replace b5037 := Bool.eq_false_iff.2 b5037
      replace H := if_f b5037 H
      refine w_val (Wnt.of rfl rfl b5037) rfl (fun a w hf hs => r_move (hf.ev rfl)) ?_
      refine w_val (Wnt.of rfl rfl b5037) rfl (fun a w hf hs => r_lenR Try.underlying36 h45 (hf.ev rfl)) ?_
      refine w_val (Wnt.of rfl rfl b5037) rfl (fun a w hf hs => r_neq (hf.ev rfl) (hf.ev rfl)) ?_
      refine w_val trivial rfl (fun a w hf hs => r_pickF (hf.ev rfl) b5037 (hf.ev rfl)) ?_
      refine w_val trivial rfl (fun a w hf hs => r_move (hf.ev rfl)) ?_
      by_cases b5038 : ((t36.2.1.length : Int) != (1 : Int)) = true
      · replace H := if_t b5038 H
        exact absurd ((some_r H).trans ht_) (by decide)
      · replace b5038 := Bool.eq_false_iff.2 b5038
        replace H := if_f b5038 H
        refine w_val (Wnt.of rfl rfl b5038) rfl (fun a w hf hs => r_fa fa24_1 (hf.ev rfl)) ?_
        refine w_val (Wnt.of rfl rfl b5038) rfl (fun a w hf hs => r_load1 ta22 (hf.ev rfl) (hs.blk (i := 5) rfl) rfl) ?_
        refine w_val (Wnt.of rfl rfl b5038) rfl (fun a w hf hs => r_lenR Try.underlying22 h43 (hf.ev rfl)) ?_
        refine w_val (Wnt.of rfl rfl b5038) rfl (fun a w hf hs => r_neq (hf.ev rfl) (hf.ev rfl)) ?_
        refine w_val trivial rfl (fun a w hf hs => r_pickF (hf.ev rfl) b5038 (hf.ev rfl)) ?_
        obtain rfl := some_r H
        refine w_nil ?_
        intro a w' hf hs
        exact ⟨_, (HLe.refl _), ((((((hf.nil.add (hf.get _ _ rfl)).add (hf.get _ _ rfl)).add (hf.get _ _ rfl)).add (hf.get _ _ rfl)).add (hf.get _ _ rfl)).add (hf.get _ _ rfl)), hs.sel [0, 1, 2, 3, 4, 5] (by decide) rfl⟩
  · clear H1 ht_
    rintro a w' ⟨M49, l50, hf, hs⟩
    refine c_of (c := (Cx.mk Try.prog 166 none' M w)) ?_ hf hs
    clear hf hs
    replace h15 := h15.mono l50
    replace h28 := h28.mono l50
    replace h34 := h34.mono l50
    replace h43 := h43.mono l50
    replace h45 := h45.mono l50
    refine c_if rfl (fun b53 => ?_) (fun b53 => ?_)
    · replace H := if_t b53 H
      refine c_seq ?_
      intro K54 hK54
      refine c_reg ?_
      refine w_val trivial rfl (fun a w hf hs => r_assign (hf.ev rfl)) ?_
      refine w_nil (hK54 _ _ _ ?_)
      obtain rfl := some_r H
      refine c_ret ?_
      intro a w' hf hs
      exact hret _ (.inl rfl) a w' hf.df ⟨_, _, Res.of1 rfl (RV.t hf rfl), hs.ext, rfl⟩
    · replace H := if_f b53 H
      refine c_skip (hK47 _ _ _ ?_)
      refine c_seq ?_
      intro K55 hK55
      refine c_reg ?_
      refine w_val trivial rfl (fun a w hf hs => r_loadA ta24 ts24 (hf.ev rfl) (hs.blk (i := 5) rfl) rfl rfl) ?_
      refine w_val trivial rfl (fun a w hf hs => r_loadA ta28 ts28 (hf.ev rfl) (hs.blk (i := 4) rfl) (Backup.d0_38 _ _) (Backup.len _ _)) ?_
      obtain ⟨t56, e61, H⟩ := bnd H
      refine w_call cf10 trivial rfl rfl (fun w hs => restore_Plan.calls hs t36.1 v42 h43 z31 v25 h34 (5 : Int) _ e61) ?_
      rintro v5036 M58 l59 ⟨v62, v64, hv_, h63, h65⟩
      replace hv_ := hv_.symm
      subst hv_
      replace h15 := h15.mono l59
      replace h28 := h28.mono l59
      replace h34 := h34.mono l59
      replace h43 := h43.mono l59
      replace h45 := h45.mono l59
      refine w_val trivial rfl (fun a w hf hs => r_move (hf.ev rfl)) ?_
      refine w_val trivial rfl (fun a w hf hs => r_extract (hf.ev rfl) rfl) ?_
      refine w_val trivial rfl (fun a w hf hs => r_extract (hf.ev rfl) rfl) ?_
      refine w_val trivial rfl (fun a w hf hs => r_extract (hf.ev rfl) rfl) ?_
      refine w_allocL (A := Table.C (⟨(0 : Int), ([] : (List Key))⟩ : Table) (.slice none 0 0)) tz24 trivial rfl rfl ?_
      intro b66
      refine w_L [.blk b10 (.cells (Key.C (⟨(1 : Int), (0 : Int), t3, (0 : Int), (1 : Int), (9 : Int), (1 : Int), (0 : Int), false⟩ : Key)).toArray 30 (0, 0)), .blk b17 (.cells (Table.C (⟨(2 : Int), ([(⟨(1 : Int), (0 : Int), t3, (0 : Int), (1 : Int), (9 : Int), (1 : Int), (0 : Int), false⟩ : Key)] : List Key)⟩ : Table) v12).toArray 24 (0, 0)), .blk b19 (.cells (Key.C (⟨(4 : Int), (0 : Int), t3, (0 : Int), (1 : Int), (9 : Int), (2 : Int), (1 : Int), false⟩ : Key)).toArray 30 (0, 0)), .blk b22 (.cells (Key.C (⟨(6 : Int), (0 : Int), t3, (0 : Int), (1 : Int), (5 : Int), (1 : Int), (0 : Int), false⟩ : Key)).toArray 30 (0, 0)), .blk b30 (.cells (Backup.C z31 v25).toArray 28 (0, 0)), .blk b46 (.cells (Table.C t36.1 v42).toArray 24 (0, 0)), .blk b66 (.cells (Table.C (⟨(0 : Int), ([] : (List Key))⟩ : Table) (.slice none 0 0)).toArray 24 (0, 0))] rfl ?_
      refine w_store (i := 6) (vs := Table.C t56.1 v62) (A' := Table.C t56.1 v62) trivial rfl rfl rfl rfl ts24 rfl (Table.C_one _ h63.one) (Nat.le_of_ble_eq_true rfl) rfl ?_
      refine w_L [.blk b10 (.cells (Key.C (⟨(1 : Int), (0 : Int), t3, (0 : Int), (1 : Int), (9 : Int), (1 : Int), (0 : Int), false⟩ : Key)).toArray 30 (0, 0)), .blk b17 (.cells (Table.C (⟨(2 : Int), ([(⟨(1 : Int), (0 : Int), t3, (0 : Int), (1 : Int), (9 : Int), (1 : Int), (0 : Int), false⟩ : Key)] : List Key)⟩ : Table) v12).toArray 24 (0, 0)), .blk b19 (.cells (Key.C (⟨(4 : Int), (0 : Int), t3, (0 : Int), (1 : Int), (9 : Int), (2 : Int), (1 : Int), false⟩ : Key)).toArray 30 (0, 0)), .blk b22 (.cells (Key.C (⟨(6 : Int), (0 : Int), t3, (0 : Int), (1 : Int), (5 : Int), (1 : Int), (0 : Int), false⟩ : Key)).toArray 30 (0, 0)), .blk b30 (.cells (Backup.C z31 v25).toArray 28 (0, 0)), .blk b46 (.cells (Table.C t36.1 v42).toArray 24 (0, 0)), .blk b66 (.cells (Table.C t56.1 v62).toArray 24 (0, 0))] rfl ?_
      refine w_val trivial rfl (fun a w hf hs => r_assign (hf.ev rfl)) ?_
      refine w_val trivial rfl (fun a w hf hs => r_assign (hf.ev rfl)) ?_
      refine w_nil (hK55 _ _ _ ?_)
      refine c_seq ?_
      intro K67 hK67
      refine c_reg ?_
      refine w_val trivial rfl (fun a w hf hs => r_loadA ta24 ts24 (hf.ev rfl) (hs.blk (i := 5) rfl) rfl rfl) ?_
      refine w_val trivial rfl (fun a w hf hs => r_loadA ta30 ts30 (hf.ev rfl) (hs.blk (i := 2) rfl) rfl rfl) ?_
      obtain ⟨t68, e73, H⟩ := bnd H
      refine w_call cf12 trivial rfl rfl (fun w hs => restore_Twin.calls hs t36.1 v42 h43 (⟨(4 : Int), (0 : Int), t3, (0 : Int), (1 : Int), (9 : Int), (2 : Int), (1 : Int), false⟩ : Key) _ e73) ?_
      rintro _ M70 l71 rfl
      replace h15 := h15.mono l71
      replace h28 := h28.mono l71
      replace h34 := h34.mono l71
      replace h43 := h43.mono l71
      replace h45 := h45.mono l71
      replace h63 := h63.mono l71
      replace h65 := h65.mono l71
      refine w_val trivial rfl (fun a w hf hs => r_move (hf.ev rfl)) ?_
      refine w_val trivial rfl (fun a w hf hs => r_extract (hf.ev rfl) rfl) ?_
      refine w_val trivial rfl (fun a w hf hs => r_extract (hf.ev rfl) rfl) ?_
      refine w_val trivial rfl (fun a w hf hs => r_assign (hf.ev rfl)) ?_
      refine w_val trivial rfl (fun a w hf hs => r_assign (hf.ev rfl)) ?_
      refine w_nil (hK67 _ _ _ ?_)
      refine c_seq ?_
      intro K74 hK74
      refine c_reg ?_
      refine w_val trivial rfl (fun a w hf hs => r_loadA ta24 ts24 (hf.ev rfl) (hs.blk (i := 1) rfl) rfl rfl) ?_
      refine w_val trivial rfl (fun a w hf hs => r_loadA ta30 ts30 (hf.ev rfl) (hs.blk (i := 2) rfl) rfl rfl) ?_
      obtain ⟨t75, e80, H⟩ := bnd H
      refine w_call cf12 trivial rfl rfl (fun w hs => restore_Twin.calls hs (⟨(2 : Int), ([(⟨(1 : Int), (0 : Int), t3, (0 : Int), (1 : Int), (9 : Int), (1 : Int), (0 : Int), false⟩ : Key)] : List Key)⟩ : Table) v12 h15 (⟨(4 : Int), (0 : Int), t3, (0 : Int), (1 : Int), (9 : Int), (2 : Int), (1 : Int), false⟩ : Key) _ e80) ?_
      rintro _ M77 l78 rfl
      replace h15 := h15.mono l78
      replace h28 := h28.mono l78
      replace h34 := h34.mono l78
      replace h43 := h43.mono l78
      replace h45 := h45.mono l78
      replace h63 := h63.mono l78
      replace h65 := h65.mono l78
      refine w_val trivial rfl (fun a w hf hs => r_move (hf.ev rfl)) ?_
      refine w_val trivial rfl (fun a w hf hs => r_extract (hf.ev rfl) rfl) ?_
      refine w_val trivial rfl (fun a w hf hs => r_extract (hf.ev rfl) rfl) ?_
      refine w_val trivial rfl (fun a w hf hs => r_assign (hf.ev rfl)) ?_
      refine w_val trivial rfl (fun a w hf hs => r_assign (hf.ev rfl)) ?_
      refine w_nil (hK74 _ _ _ ?_)
      refine c_seq ?_
      intro K81 hK81
      refine c_reg ?_
      refine w_val trivial rfl (fun a w hf hs => r_loadA ta30 ts30 (hf.ev rfl) (hs.blk (i := 2) rfl) rfl rfl) ?_
      refine w_allocL (A := Key.C (⟨(0 : Int), (0 : Int), ([] : List UInt8), (0 : Int), (0 : Int), (0 : Int), (0 : Int), (0 : Int), false⟩ : Key)) tz30 trivial rfl rfl ?_
      intro b82
      refine w_L [.blk b10 (.cells (Key.C (⟨(1 : Int), (0 : Int), t3, (0 : Int), (1 : Int), (9 : Int), (1 : Int), (0 : Int), false⟩ : Key)).toArray 30 (0, 0)), .blk b17 (.cells (Table.C (⟨(2 : Int), ([(⟨(1 : Int), (0 : Int), t3, (0 : Int), (1 : Int), (9 : Int), (1 : Int), (0 : Int), false⟩ : Key)] : List Key)⟩ : Table) v12).toArray 24 (0, 0)), .blk b19 (.cells (Key.C (⟨(4 : Int), (0 : Int), t3, (0 : Int), (1 : Int), (9 : Int), (2 : Int), (1 : Int), false⟩ : Key)).toArray 30 (0, 0)), .blk b22 (.cells (Key.C (⟨(6 : Int), (0 : Int), t3, (0 : Int), (1 : Int), (5 : Int), (1 : Int), (0 : Int), false⟩ : Key)).toArray 30 (0, 0)), .blk b30 (.cells (Backup.C z31 v25).toArray 28 (0, 0)), .blk b46 (.cells (Table.C t36.1 v42).toArray 24 (0, 0)), .blk b66 (.cells (Table.C t56.1 v62).toArray 24 (0, 0)), .blk b82 (.cells (Key.C (⟨(0 : Int), (0 : Int), ([] : List UInt8), (0 : Int), (0 : Int), (0 : Int), (0 : Int), (0 : Int), false⟩ : Key)).toArray 30 (0, 0))] rfl ?_
      refine w_store (i := 7) (vs := Key.C (⟨(4 : Int), (0 : Int), t3, (0 : Int), (1 : Int), (9 : Int), (2 : Int), (1 : Int), false⟩ : Key)) (A' := Key.C (⟨(4 : Int), (0 : Int), t3, (0 : Int), (1 : Int), (9 : Int), (2 : Int), (1 : Int), false⟩ : Key)) trivial rfl rfl rfl rfl ts30 rfl (Key.F_one _) (Nat.le_of_ble_eq_true rfl) rfl ?_
      refine w_L [.blk b10 (.cells (Key.C (⟨(1 : Int), (0 : Int), t3, (0 : Int), (1 : Int), (9 : Int), (1 : Int), (0 : Int), false⟩ : Key)).toArray 30 (0, 0)), .blk b17 (.cells (Table.C (⟨(2 : Int), ([(⟨(1 : Int), (0 : Int), t3, (0 : Int), (1 : Int), (9 : Int), (1 : Int), (0 : Int), false⟩ : Key)] : List Key)⟩ : Table) v12).toArray 24 (0, 0)), .blk b19 (.cells (Key.C (⟨(4 : Int), (0 : Int), t3, (0 : Int), (1 : Int), (9 : Int), (2 : Int), (1 : Int), false⟩ : Key)).toArray 30 (0, 0)), .blk b22 (.cells (Key.C (⟨(6 : Int), (0 : Int), t3, (0 : Int), (1 : Int), (5 : Int), (1 : Int), (0 : Int), false⟩ : Key)).toArray 30 (0, 0)), .blk b30 (.cells (Backup.C z31 v25).toArray 28 (0, 0)), .blk b46 (.cells (Table.C t36.1 v42).toArray 24 (0, 0)), .blk b66 (.cells (Table.C t56.1 v62).toArray 24 (0, 0)), .blk b82 (.cells (Key.C (⟨(4 : Int), (0 : Int), t3, (0 : Int), (1 : Int), (9 : Int), (2 : Int), (1 : Int), false⟩ : Key)).toArray 30 (0, 0))] rfl ?_
      refine w_nil (hK81 _ _ _ ?_)
      refine c_seq ?_
      intro K83 hK83
      refine c_reg ?_
      refine w_val trivial rfl (fun a w hf hs => r_fa fa30_0 (hf.ev rfl)) ?_
      refine w_store (i := 7) (vs := [(.int .i64 (2 : Int))]) (A' := Key.C (⟨(2 : Int), (0 : Int), t3, (0 : Int), (1 : Int), (9 : Int), (2 : Int), (1 : Int), false⟩ : Key)) trivial rfl rfl rfl rfl ts3 rfl (one1 rfl) (Nat.le_of_ble_eq_true rfl) rfl ?_
      refine w_L [.blk b10 (.cells (Key.C (⟨(1 : Int), (0 : Int), t3, (0 : Int), (1 : Int), (9 : Int), (1 : Int), (0 : Int), false⟩ : Key)).toArray 30 (0, 0)), .blk b17 (.cells (Table.C (⟨(2 : Int), ([(⟨(1 : Int), (0 : Int), t3, (0 : Int), (1 : Int), (9 : Int), (1 : Int), (0 : Int), false⟩ : Key)] : List Key)⟩ : Table) v12).toArray 24 (0, 0)), .blk b19 (.cells (Key.C (⟨(4 : Int), (0 : Int), t3, (0 : Int), (1 : Int), (9 : Int), (2 : Int), (1 : Int), false⟩ : Key)).toArray 30 (0, 0)), .blk b22 (.cells (Key.C (⟨(6 : Int), (0 : Int), t3, (0 : Int), (1 : Int), (5 : Int), (1 : Int), (0 : Int), false⟩ : Key)).toArray 30 (0, 0)), .blk b30 (.cells (Backup.C z31 v25).toArray 28 (0, 0)), .blk b46 (.cells (Table.C t36.1 v42).toArray 24 (0, 0)), .blk b66 (.cells (Table.C t56.1 v62).toArray 24 (0, 0)), .blk b82 (.cells (Key.C (⟨(2 : Int), (0 : Int), t3, (0 : Int), (1 : Int), (9 : Int), (2 : Int), (1 : Int), false⟩ : Key)).toArray 30 (0, 0))] rfl ?_
      refine w_nil (hK83 _ _ _ ?_)
      refine c_seq ?_
      intro K84 hK84
      refine c_reg ?_
      refine w_val trivial rfl (fun a w hf hs => r_build (is := [3]) (xs := [.const (.int .i64 (2 : Int))]) (vs := [(.int .i64 (2 : Int))]) (A := restore_Place.C ({ ({ ({ ({ (default : restore_Place) with Domain := (Vector.replicate 16 (0 : Int)) } : restore_Place) with Policy := (Vector.replicate 16 (0 : Int)) } : restore_Place) with Firmware := (0 : Int) } : restore_Place) with Number := (2 : Int) } : restore_Place)) rfl (hf.evs rfl) (built_of (pl := [(0, 16), (16, 16), (32, 1), (33, 1)]) (A0 := restore_Place.C ({ ({ ({ ({ (default : restore_Place) with Domain := (Vector.replicate 16 (0 : Int)) } : restore_Place) with Policy := (Vector.replicate 16 (0 : Int)) } : restore_Place) with Firmware := (0 : Int) } : restore_Place) with Number := (0 : Int) } : restore_Place)) tz32 Try.underlying32 (by kernel_rfl) rfl (.cons (vs := [(.int .i64 (2 : Int))]) (B := restore_Place.C ({ ({ ({ ({ (default : restore_Place) with Domain := (Vector.replicate 16 (0 : Int)) } : restore_Place) with Policy := (Vector.replicate 16 (0 : Int)) } : restore_Place) with Firmware := (0 : Int) } : restore_Place) with Number := (2 : Int) } : restore_Place)) rfl rfl rfl (by rw [restore_Place.len]; decide) (restore_Place.s33_1 _) .nil))) ?_
      refine w_allocL (A := restore_Place.C ({ ({ ({ ({ (default : restore_Place) with Domain := (Vector.replicate 16 (0 : Int)) } : restore_Place) with Policy := (Vector.replicate 16 (0 : Int)) } : restore_Place) with Firmware := (0 : Int) } : restore_Place) with Number := (0 : Int) } : restore_Place)) tz32 trivial rfl rfl ?_
      intro b85
      refine w_L [.blk b10 (.cells (Key.C (⟨(1 : Int), (0 : Int), t3, (0 : Int), (1 : Int), (9 : Int), (1 : Int), (0 : Int), false⟩ : Key)).toArray 30 (0, 0)), .blk b17 (.cells (Table.C (⟨(2 : Int), ([(⟨(1 : Int), (0 : Int), t3, (0 : Int), (1 : Int), (9 : Int), (1 : Int), (0 : Int), false⟩ : Key)] : List Key)⟩ : Table) v12).toArray 24 (0, 0)), .blk b19 (.cells (Key.C (⟨(4 : Int), (0 : Int), t3, (0 : Int), (1 : Int), (9 : Int), (2 : Int), (1 : Int), false⟩ : Key)).toArray 30 (0, 0)), .blk b22 (.cells (Key.C (⟨(6 : Int), (0 : Int), t3, (0 : Int), (1 : Int), (5 : Int), (1 : Int), (0 : Int), false⟩ : Key)).toArray 30 (0, 0)), .blk b30 (.cells (Backup.C z31 v25).toArray 28 (0, 0)), .blk b46 (.cells (Table.C t36.1 v42).toArray 24 (0, 0)), .blk b66 (.cells (Table.C t56.1 v62).toArray 24 (0, 0)), .blk b82 (.cells (Key.C (⟨(2 : Int), (0 : Int), t3, (0 : Int), (1 : Int), (9 : Int), (2 : Int), (1 : Int), false⟩ : Key)).toArray 30 (0, 0)), .blk b85 (.cells (restore_Place.C ({ ({ ({ ({ (default : restore_Place) with Domain := (Vector.replicate 16 (0 : Int)) } : restore_Place) with Policy := (Vector.replicate 16 (0 : Int)) } : restore_Place) with Firmware := (0 : Int) } : restore_Place) with Number := (0 : Int) } : restore_Place)).toArray 32 (0, 0))] rfl ?_
      obtain ⟨z86, e88, H⟩ := bnd H
      have e87 := some_r e88
      refine w_store (i := 8) (vs := restore_Place.C ({ ({ ({ ({ (default : restore_Place) with Domain := (Vector.replicate 16 (0 : Int)) } : restore_Place) with Policy := (Vector.replicate 16 (0 : Int)) } : restore_Place) with Firmware := (0 : Int) } : restore_Place) with Number := (2 : Int) } : restore_Place)) (A' := restore_Place.C z86) trivial rfl rfl rfl rfl ts32 (restore_Place.len _) (restore_Place.F_one _) (by rw [restore_Place.len]; decide) (by rw [← e87]; exact (splice_all _ _ (by simp [restore_Place.C]))) ?_
      clear e88 e87
      refine w_L [.blk b10 (.cells (Key.C (⟨(1 : Int), (0 : Int), t3, (0 : Int), (1 : Int), (9 : Int), (1 : Int), (0 : Int), false⟩ : Key)).toArray 30 (0, 0)), .blk b17 (.cells (Table.C (⟨(2 : Int), ([(⟨(1 : Int), (0 : Int), t3, (0 : Int), (1 : Int), (9 : Int), (1 : Int), (0 : Int), false⟩ : Key)] : List Key)⟩ : Table) v12).toArray 24 (0, 0)), .blk b19 (.cells (Key.C (⟨(4 : Int), (0 : Int), t3, (0 : Int), (1 : Int), (9 : Int), (2 : Int), (1 : Int), false⟩ : Key)).toArray 30 (0, 0)), .blk b22 (.cells (Key.C (⟨(6 : Int), (0 : Int), t3, (0 : Int), (1 : Int), (5 : Int), (1 : Int), (0 : Int), false⟩ : Key)).toArray 30 (0, 0)), .blk b30 (.cells (Backup.C z31 v25).toArray 28 (0, 0)), .blk b46 (.cells (Table.C t36.1 v42).toArray 24 (0, 0)), .blk b66 (.cells (Table.C t56.1 v62).toArray 24 (0, 0)), .blk b82 (.cells (Key.C (⟨(2 : Int), (0 : Int), t3, (0 : Int), (1 : Int), (9 : Int), (2 : Int), (1 : Int), false⟩ : Key)).toArray 30 (0, 0)), .blk b85 (.cells (restore_Place.C z86).toArray 32 (0, 0))] rfl ?_
      refine w_nil (hK84 _ _ _ ?_)
      refine c_seq ?_
      intro K89 hK89
      refine c_reg ?_
      refine w_val trivial rfl (fun a w hf hs => r_build (is := [3]) (xs := [.const (.int .i64 (3 : Int))]) (vs := [(.int .i64 (3 : Int))]) (A := restore_Place.C ({ ({ ({ ({ (default : restore_Place) with Domain := (Vector.replicate 16 (0 : Int)) } : restore_Place) with Policy := (Vector.replicate 16 (0 : Int)) } : restore_Place) with Firmware := (0 : Int) } : restore_Place) with Number := (3 : Int) } : restore_Place)) rfl (hf.evs rfl) (built_of (pl := [(0, 16), (16, 16), (32, 1), (33, 1)]) (A0 := restore_Place.C ({ ({ ({ ({ (default : restore_Place) with Domain := (Vector.replicate 16 (0 : Int)) } : restore_Place) with Policy := (Vector.replicate 16 (0 : Int)) } : restore_Place) with Firmware := (0 : Int) } : restore_Place) with Number := (0 : Int) } : restore_Place)) tz32 Try.underlying32 (by kernel_rfl) rfl (.cons (vs := [(.int .i64 (3 : Int))]) (B := restore_Place.C ({ ({ ({ ({ (default : restore_Place) with Domain := (Vector.replicate 16 (0 : Int)) } : restore_Place) with Policy := (Vector.replicate 16 (0 : Int)) } : restore_Place) with Firmware := (0 : Int) } : restore_Place) with Number := (3 : Int) } : restore_Place)) rfl rfl rfl (by rw [restore_Place.len]; decide) (restore_Place.s33_1 _) .nil))) ?_
      refine w_val trivial rfl (fun a w hf hs => r_loadA ta28 ts28 (hf.ev rfl) (hs.blk (i := 4) rfl) (Backup.d0_38 _ _) (Backup.len _ _)) ?_
      obtain ⟨t90, e95, H⟩ := bnd H
      refine w_call cf18 trivial rfl rfl (fun w hs => restore_Admit.calls hs ({ ({ ({ ({ (default : restore_Place) with Domain := (Vector.replicate 16 (0 : Int)) } : restore_Place) with Policy := (Vector.replicate 16 (0 : Int)) } : restore_Place) with Firmware := (0 : Int) } : restore_Place) with Number := (3 : Int) } : restore_Place) z31 v25 h34 _ e95) ?_
      rintro _ M92 l93 rfl
      replace h15 := h15.mono l93
      replace h28 := h28.mono l93
      replace h34 := h34.mono l93
      replace h43 := h43.mono l93
      replace h45 := h45.mono l93
      replace h63 := h63.mono l93
      replace h65 := h65.mono l93
      refine w_val trivial rfl (fun a w hf hs => r_assign (hf.ev rfl)) ?_
      refine w_nil (hK89 _ _ _ ?_)
      refine c_seq ?_
      intro K96 hK96
      refine c_reg ?_
      refine w_val trivial rfl (fun a w hf hs => r_build (is := [0]) (xs := [.const (.int .u8 (1 : Int))]) (vs := [(.int .u8 (1 : Int))]) (A := vI .u8 (#v[(1 : Int), 0, 0, 0, 0, 0, 0, 0, 0, 0, 0, 0, 0, 0, 0, 0] : Vector Int 16)) rfl (hf.evs rfl) (by kernel_rfl)) ?_
      refine w_val trivial rfl (fun a w hf hs => r_build (is := [3, 1]) (xs := [.const (.int .i64 (2 : Int)), .tmp 84]) (vs := [(.int .i64 (2 : Int)), (.agg (vI .u8 (#v[(1 : Int), 0, 0, 0, 0, 0, 0, 0, 0, 0, 0, 0, 0, 0, 0, 0] : Vector Int 16)).toArray)]) (A := restore_Place.C ({ ({ ({ ({ (default : restore_Place) with Domain := (Vector.replicate 16 (0 : Int)) } : restore_Place) with Firmware := (0 : Int) } : restore_Place) with Number := (2 : Int) } : restore_Place) with Policy := (#v[(1 : Int), 0, 0, 0, 0, 0, 0, 0, 0, 0, 0, 0, 0, 0, 0, 0] : Vector Int 16) } : restore_Place)) rfl (hf.evs rfl) (built_of (pl := [(0, 16), (16, 16), (32, 1), (33, 1)]) (A0 := restore_Place.C ({ ({ ({ ({ (default : restore_Place) with Domain := (Vector.replicate 16 (0 : Int)) } : restore_Place) with Policy := (Vector.replicate 16 (0 : Int)) } : restore_Place) with Firmware := (0 : Int) } : restore_Place) with Number := (0 : Int) } : restore_Place)) tz32 Try.underlying32 (by kernel_rfl) rfl (.cons (vs := [(.int .i64 (2 : Int))]) (B := restore_Place.C ({ ({ ({ ({ (default : restore_Place) with Domain := (Vector.replicate 16 (0 : Int)) } : restore_Place) with Policy := (Vector.replicate 16 (0 : Int)) } : restore_Place) with Firmware := (0 : Int) } : restore_Place) with Number := (2 : Int) } : restore_Place)) rfl rfl rfl (by rw [restore_Place.len]; decide) (restore_Place.s33_1 _) (.cons (vs := vI .u8 (#v[(1 : Int), 0, 0, 0, 0, 0, 0, 0, 0, 0, 0, 0, 0, 0, 0, 0] : Vector Int 16)) (B := restore_Place.C ({ ({ ({ ({ (default : restore_Place) with Domain := (Vector.replicate 16 (0 : Int)) } : restore_Place) with Firmware := (0 : Int) } : restore_Place) with Number := (2 : Int) } : restore_Place) with Policy := (#v[(1 : Int), 0, 0, 0, 0, 0, 0, 0, 0, 0, 0, 0, 0, 0, 0, 0] : Vector Int 16) } : restore_Place)) rfl rfl (by simp) (by rw [restore_Place.len]; decide) (restore_Place.s16_16 _) .nil)))) ?_
      refine w_val trivial rfl (fun a w hf hs => r_loadA ta28 ts28 (hf.ev rfl) (hs.blk (i := 4) rfl) (Backup.d0_38 _ _) (Backup.len _ _)) ?_
      obtain ⟨t97, e102, H⟩ := bnd H
      refine w_call cf18 trivial rfl rfl (fun w hs => restore_Admit.calls hs ({ ({ ({ ({ (default : restore_Place) with Domain := (Vector.replicate 16 (0 : Int)) } : restore_Place) with Firmware := (0 : Int) } : restore_Place) with Number := (2 : Int) } : restore_Place) with Policy := (#v[(1 : Int), 0, 0, 0, 0, 0, 0, 0, 0, 0, 0, 0, 0, 0, 0, 0] : Vector Int 16) } : restore_Place) z31 v25 h34 _ e102) ?_
      rintro _ M99 l100 rfl
      replace h15 := h15.mono l100
      replace h28 := h28.mono l100
      replace h34 := h34.mono l100
      replace h43 := h43.mono l100
      replace h45 := h45.mono l100
      replace h63 := h63.mono l100
      replace h65 := h65.mono l100
      refine w_val trivial rfl (fun a w hf hs => r_assign (hf.ev rfl)) ?_
      refine w_nil (hK96 _ _ _ ?_)
      obtain ⟨t103, H1, H⟩ := bnd H
      have ht_ := (some_r H).trans hr_
      refine c_cut (fun a' w' => ∃ (M104 : Heap), HLe M99 M104 ∧ Fr 166 [(0, (.bool t103))] a' ∧ St none' M w M104 (lt [.blk b10 (.cells (Key.C (⟨(1 : Int), (0 : Int), t3, (0 : Int), (1 : Int), (9 : Int), (1 : Int), (0 : Int), false⟩ : Key)).toArray 30 (0, 0)), .blk b17 (.cells (Table.C (⟨(2 : Int), ([(⟨(1 : Int), (0 : Int), t3, (0 : Int), (1 : Int), (9 : Int), (1 : Int), (0 : Int), false⟩ : Key)] : List Key)⟩ : Table) v12).toArray 24 (0, 0)), .blk b19 (.cells (Key.C (⟨(4 : Int), (0 : Int), t3, (0 : Int), (1 : Int), (9 : Int), (2 : Int), (1 : Int), false⟩ : Key)).toArray 30 (0, 0)), .blk b22 (.cells (Key.C (⟨(6 : Int), (0 : Int), t3, (0 : Int), (1 : Int), (5 : Int), (1 : Int), (0 : Int), false⟩ : Key)).toArray 30 (0, 0)), .blk b30 (.cells (Backup.C z31 v25).toArray 28 (0, 0)), .blk b46 (.cells (Table.C t36.1 v42).toArray 24 (0, 0)), .blk b66 (.cells (Table.C t56.1 v62).toArray 24 (0, 0)), .blk b82 (.cells (Key.C (⟨(2 : Int), (0 : Int), t3, (0 : Int), (1 : Int), (9 : Int), (2 : Int), (1 : Int), false⟩ : Key)).toArray 30 (0, 0)), .blk b85 (.cells (restore_Place.C z86).toArray 32 (0, 0))]) w') ?_ ?_
      · replace H := H1
        clear H1
        obtain ⟨g2576, H⟩ := grd_s H
        by_cases b2586 : ((rd t36.2.1 (0 : Int)) == (2 : Int)) = true
        · replace H := if_t b2586 H
          obtain ⟨g2598, H⟩ := grd_s H
          by_cases b2618 : (decide ((rd t36.1.Keys (1 : Int)) = (⟨(2 : Int), (0 : Int), t3, (0 : Int), (1 : Int), (9 : Int), (2 : Int), (1 : Int), false⟩ : Key))) = true
          · replace H := if_t b2618 H
            by_cases b2637 : (t36.1.Next == (3 : Int)) = true
            · replace H := if_t b2637 H
              by_cases b2656 : ((t56.2.1.length : Int) == (0 : Int)) = true
              · replace H := if_t b2656 H
                by_cases b2671 : (t56.2.2 == (0 : Int)) = true
                · replace H := if_t b2671 H
                  obtain ⟨t2683, e2688, H⟩ := bnd H
                  by_cases b2696 : t2683 = true
                  · replace H := if_t b2696 H
                    by_cases b2711 : (t68.1 == (2 : Int)) = true
                    · replace H := if_t b2711 H
                      by_cases b2722 : t68.2 = true
                      · replace H := if_t b2722 H
                        by_cases b2737 : (!t75.2) = true
                        · replace H := if_t b2737 H
                          obtain ⟨t2749, e2754, H⟩ := bnd H
                          by_cases b2762 : t2749 = true
                          · replace H := if_t b2762 H
                            obtain ⟨t2774, e2779, H⟩ := bnd H
                            by_cases b2791 : (!t2774) = true
                            · replace H := if_t b2791 H
                              obtain ⟨t2803, e2808, H⟩ := bnd H
                              by_cases b2816 : t2803 = true
                              · replace H := if_t b2816 H
                                obtain ⟨t2828, e2833, H⟩ := bnd H
                                by_cases b2845 : (t2828 == (0 : Int)) = true
                                · replace H := if_t b2845 H
                                  by_cases b2860 : (t90 == (20 : Int)) = true
                                  · replace H := if_t b2860 H
                                    by_cases b2875 : (t97 == (10 : Int)) = true
                                    · replace H := if_t b2875 H
                                      obtain ⟨t2887, e2892, H⟩ := bnd H
                                      refine c_drawP [([], [8]), ([(0, 88)], []), ([(1, 89)], []), ([(2, 90)], []), ([(3, 91)], []), ([(4, 92)], [7]), ([(5, 93), (4, 92)], []), ([(6, 94), (4, 92)], []), ([(7, 95), (4, 92)], []), ([(4, 92)], [17]), ([(8, 96), (9, 97), (4, 92)], []), ([(4, 92), (10, 98)], []), ([(11, 99)], []), ([(12, 100)], [7]), ([(13, 101), (12, 100)], []), ([(14, 102), (12, 100)], []), ([(12, 100), (15, 103)], []), ([(16, 104)], []), ([(17, 105)], [11]), ([(18, 106), (17, 105)], []), ([(19, 107), (17, 105)], []), ([(17, 105), (20, 108)], []), ([(21, 109)], []), ([(22, 110)], [12]), ([(23, 111), (22, 110)], []), ([(22, 110), (24, 112)], []), ([(25, 113)], []), ([(26, 114)], [7]), ([(26, 114)], [10]), ([(27, 115), (28, 116), (26, 114)], []), ([(26, 114), (29, 117)], []), ([(30, 118)], []), ([(31, 119)], [13]), ([(32, 120), (31, 119)], []), ([(31, 119), (33, 121)], []), ([(34, 122)], []), ([(35, 123)], [14]), ([(35, 123), (36, 124)], []), ([(37, 125)], []), ([(38, 126)], [16]), ([(39, 127), (38, 126)], []), ([(38, 126), (40, 128)], []), ([(41, 129)], []), ([(42, 130)], [7]), ([(42, 130)], [6]), ([(43, 131), (44, 132), (42, 130)], []), ([(42, 130), (45, 133)], []), ([(46, 134)], []), ([(47, 135)], [3]), ([(47, 135)], [6]), ([(48, 136), (49, 137), (47, 135)], []), ([(50, 138), (47, 135)], []), ([(47, 135), (51, 139)], []), ([(52, 140)], []), ([(53, 141)], [3]), ([(53, 141)], [6]), ([(54, 142), (55, 143), (53, 141)], []), ([(53, 141), (56, 144)], []), ([(57, 145)], []), ([(58, 146)], [18]), ([(58, 146)], [6]), ([(59, 147), (60, 148), (58, 146)], []), ([(61, 149), (58, 146)], []), ([(58, 146), (62, 150)], []), ([(63, 151)], []), ([(64, 152)], [19]), ([(65, 153), (64, 152)], []), ([(64, 152), (66, 154)], []), ([(67, 155)], []), ([(68, 156)], [20]), ([(69, 157), (68, 156)], []), ([(68, 156), (70, 158)], []), ([(71, 159)], []), ([(72, 160)], [18]), ([(72, 160)], []), ([(73, 161), (74, 162), (72, 160)], []), ([(75, 163), (72, 160)], []), ([(72, 160), (76, 164)], []), ([(77, 165)], [])] [fun v M => v = v44, fun v M => v = (eP v44 (0 : Int) 1 0), fun v M => v = (.int .i64 (rd t36.2.1 (0 : Int))), fun v M => v = (.bool ((rd t36.2.1 (0 : Int)) == (2 : Int))), fun v M => v = (.bool ((rd t36.2.1 (0 : Int)) == (2 : Int))), fun v M => v = (ptr b46 1), fun v M => v = v42, fun v M => v = (eP v42 (1 : Int) 9 0), fun v M => v = (.agg (Key.C (rd t36.1.Keys (1 : Int))).toArray), fun v M => v = (.agg (Key.C (⟨(2 : Int), (0 : Int), t3, (0 : Int), (1 : Int), (9 : Int), (2 : Int), (1 : Int), false⟩ : Key)).toArray), fun v M => v = (.bool (decide ((rd t36.1.Keys (1 : Int)) = (⟨(2 : Int), (0 : Int), t3, (0 : Int), (1 : Int), (9 : Int), (2 : Int), (1 : Int), false⟩ : Key)))), fun v M => v = (.bool (decide ((rd t36.1.Keys (1 : Int)) = (⟨(2 : Int), (0 : Int), t3, (0 : Int), (1 : Int), (9 : Int), (2 : Int), (1 : Int), false⟩ : Key)))), fun v M => v = (.bool (decide ((rd t36.1.Keys (1 : Int)) = (⟨(2 : Int), (0 : Int), t3, (0 : Int), (1 : Int), (9 : Int), (2 : Int), (1 : Int), false⟩ : Key)))), fun v M => v = (ptr b46 0), fun v M => v = (.int .i64 t36.1.Next), fun v M => v = (.bool (t36.1.Next == (3 : Int))), fun v M => v = (.bool (t36.1.Next == (3 : Int))), fun v M => v = (.bool (t36.1.Next == (3 : Int))), fun v M => v = v64, fun v M => v = (.int .i64 (t56.2.1.length : Int)), fun v M => v = (.bool ((t56.2.1.length : Int) == (0 : Int))), fun v M => v = (.bool ((t56.2.1.length : Int) == (0 : Int))), fun v M => v = (.bool ((t56.2.1.length : Int) == (0 : Int))), fun v M => v = (.int .i64 t56.2.2), fun v M => v = (.bool (t56.2.2 == (0 : Int))), fun v M => v = (.bool (t56.2.2 == (0 : Int))), fun v M => v = (.bool (t56.2.2 == (0 : Int))), fun v M => v = (.agg (Table.C t36.1 v42).toArray), fun v M => v = (.agg (Table.C t56.1 v62).toArray), fun v M => v = (.bool t2683), fun v M => v = (.bool t2683), fun v M => v = (.bool t2683), fun v M => v = (.int .i64 t68.1), fun v M => v = (.bool (t68.1 == (2 : Int))), fun v M => v = (.bool (t68.1 == (2 : Int))), fun v M => v = (.bool (t68.1 == (2 : Int))), fun v M => v = (.bool t68.2), fun v M => v = (.bool t68.2), fun v M => v = (.bool t68.2), fun v M => v = (.bool t75.2), fun v M => v = (.bool (!t75.2)), fun v M => v = (.bool (!t75.2)), fun v M => v = (.bool (!t75.2)), fun v M => v = (.agg (Table.C t36.1 v42).toArray), fun v M => v = (.agg (Backup.C z31 v25).toArray), fun v M => v = (.bool t2749), fun v M => v = (.bool t2749), fun v M => v = (.bool t2749), fun v M => v = (.agg (Table.C (⟨(2 : Int), ([(⟨(1 : Int), (0 : Int), t3, (0 : Int), (1 : Int), (9 : Int), (1 : Int), (0 : Int), false⟩ : Key)] : List Key)⟩ : Table) v12).toArray), fun v M => v = (.agg (Backup.C z31 v25).toArray), fun v M => v = (.bool t2774), fun v M => v = (.bool (!t2774)), fun v M => v = (.bool (!t2774)), fun v M => v = (.bool (!t2774)), fun v M => v = (.agg (Table.C (⟨(2 : Int), ([(⟨(1 : Int), (0 : Int), t3, (0 : Int), (1 : Int), (9 : Int), (1 : Int), (0 : Int), false⟩ : Key)] : List Key)⟩ : Table) v12).toArray), fun v M => v = (.agg (Backup.C z31 v25).toArray), fun v M => v = (.bool t2803), fun v M => v = (.bool t2803), fun v M => v = (.bool t2803), fun v M => v = (.agg (restore_Place.C z86).toArray), fun v M => v = (.agg (Backup.C z31 v25).toArray), fun v M => v = (.int .i64 t2828), fun v M => v = (.bool (t2828 == (0 : Int))), fun v M => v = (.bool (t2828 == (0 : Int))), fun v M => v = (.bool (t2828 == (0 : Int))), fun v M => v = (.int .i64 t90), fun v M => v = (.bool (t90 == (20 : Int))), fun v M => v = (.bool (t90 == (20 : Int))), fun v M => v = (.bool (t90 == (20 : Int))), fun v M => v = (.int .i64 t97), fun v M => v = (.bool (t97 == (10 : Int))), fun v M => v = (.bool (t97 == (10 : Int))), fun v M => v = (.bool (t97 == (10 : Int))), fun v M => v = (.agg (restore_Place.C z86).toArray), fun v M => v = (.agg (Backup.C ({ ({ ({ ({ ({ ({ ({ ({ (default : Backup) with Domain := (Vector.replicate 16 (0 : Int)) } : Backup) with Epoch := (0 : Int) } : Backup) with Number := (0 : Int) } : Backup) with Firmware := (0 : Int) } : Backup) with Time := (0 : Int) } : Backup) with Policy := (Vector.replicate 16 (0 : Int)) } : Backup) with Module := ([] : List UInt8) } : Backup) with Keys := ([] : (List Key)) } : Backup) (.slice none 0 0)).toArray), fun v M => v = (.int .i64 t2887), fun v M => v = (.bool (t2887 == (1 : Int))), fun v M => v = (.bool (t2887 == (1 : Int))), fun v M => v = (.bool (t2887 == (1 : Int)))] (by kernel_rfl) (by kernel_rfl) ?_ (AllT.cons ?_ (AllT.cons ?_ (AllT.cons ?_ (AllT.cons ?_ (AllT.cons ?_ (AllT.cons ?_ (AllT.cons ?_ (AllT.cons ?_ (AllT.cons ?_ (AllT.cons ?_ (AllT.cons ?_ (AllT.cons ?_ (AllT.cons ?_ (AllT.cons ?_ (AllT.cons ?_ (AllT.cons ?_ (AllT.cons ?_ (AllT.cons ?_ (AllT.cons ?_ (AllT.cons ?_ (AllT.cons ?_ (AllT.cons ?_ (AllT.cons ?_ (AllT.cons ?_ (AllT.cons ?_ (AllT.cons ?_ (AllT.cons ?_ (AllT.cons ?_ (AllT.cons ?_ (AllT.cons ?_ (AllT.cons ?_ (AllT.cons ?_ (AllT.cons ?_ (AllT.cons ?_ (AllT.cons ?_ (AllT.cons ?_ (AllT.cons ?_ (AllT.cons ?_ (AllT.cons ?_ (AllT.cons ?_ (AllT.cons ?_ (AllT.cons ?_ (AllT.cons ?_ (AllT.cons ?_ (AllT.cons ?_ (AllT.cons ?_ (AllT.cons ?_ (AllT.cons ?_ (AllT.cons ?_ (AllT.cons ?_ (AllT.cons ?_ (AllT.cons ?_ (AllT.cons ?_ (AllT.cons ?_ (AllT.cons ?_ (AllT.cons ?_ (AllT.cons ?_ (AllT.cons ?_ (AllT.cons ?_ (AllT.cons ?_ (AllT.cons ?_ (AllT.cons ?_ (AllT.cons ?_ (AllT.cons ?_ (AllT.cons ?_ (AllT.cons ?_ (AllT.cons ?_ (AllT.cons ?_ (AllT.cons ?_ (AllT.cons ?_ (AllT.cons ?_ (AllT.cons ?_ (AllT.cons ?_ (AllT.cons ?_ (AllT.cons ?_ (AllT.cons ?_ (AllT.cons ?_ (AllT.cons ?_ (AllT.cons ?_ AllT.nil))))))))))))))))))))))))))))))))))))))))))))))))))))))))))))))))))))))))))))))) ?_
                                      · exact (MonoA.cons (fun _ _ _ _ h => h) (MonoA.cons (fun _ _ _ _ h => h) (MonoA.cons (fun _ _ _ _ h => h) (MonoA.cons (fun _ _ _ _ h => h) (MonoA.cons (fun _ _ _ _ h => h) (MonoA.cons (fun _ _ _ _ h => h) (MonoA.cons (fun _ _ _ _ h => h) (MonoA.cons (fun _ _ _ _ h => h) (MonoA.cons (fun _ _ _ _ h => h) (MonoA.cons (fun _ _ _ _ h => h) (MonoA.cons (fun _ _ _ _ h => h) (MonoA.cons (fun _ _ _ _ h => h) (MonoA.cons (fun _ _ _ _ h => h) (MonoA.cons (fun _ _ _ _ h => h) (MonoA.cons (fun _ _ _ _ h => h) (MonoA.cons (fun _ _ _ _ h => h) (MonoA.cons (fun _ _ _ _ h => h) (MonoA.cons (fun _ _ _ _ h => h) (MonoA.cons (fun _ _ _ _ h => h) (MonoA.cons (fun _ _ _ _ h => h) (MonoA.cons (fun _ _ _ _ h => h) (MonoA.cons (fun _ _ _ _ h => h) (MonoA.cons (fun _ _ _ _ h => h) (MonoA.cons (fun _ _ _ _ h => h) (MonoA.cons (fun _ _ _ _ h => h) (MonoA.cons (fun _ _ _ _ h => h) (MonoA.cons (fun _ _ _ _ h => h) (MonoA.cons (fun _ _ _ _ h => h) (MonoA.cons (fun _ _ _ _ h => h) (MonoA.cons (fun _ _ _ _ h => h) (MonoA.cons (fun _ _ _ _ h => h) (MonoA.cons (fun _ _ _ _ h => h) (MonoA.cons (fun _ _ _ _ h => h) (MonoA.cons (fun _ _ _ _ h => h) (MonoA.cons (fun _ _ _ _ h => h) (MonoA.cons (fun _ _ _ _ h => h) (MonoA.cons (fun _ _ _ _ h => h) (MonoA.cons (fun _ _ _ _ h => h) (MonoA.cons (fun _ _ _ _ h => h) (MonoA.cons (fun _ _ _ _ h => h) (MonoA.cons (fun _ _ _ _ h => h) (MonoA.cons (fun _ _ _ _ h => h) (MonoA.cons (fun _ _ _ _ h => h) (MonoA.cons (fun _ _ _ _ h => h) (MonoA.cons (fun _ _ _ _ h => h) (MonoA.cons (fun _ _ _ _ h => h) (MonoA.cons (fun _ _ _ _ h => h) (MonoA.cons (fun _ _ _ _ h => h) (MonoA.cons (fun _ _ _ _ h => h) (MonoA.cons (fun _ _ _ _ h => h) (MonoA.cons (fun _ _ _ _ h => h) (MonoA.cons (fun _ _ _ _ h => h) (MonoA.cons (fun _ _ _ _ h => h) (MonoA.cons (fun _ _ _ _ h => h) (MonoA.cons (fun _ _ _ _ h => h) (MonoA.cons (fun _ _ _ _ h => h) (MonoA.cons (fun _ _ _ _ h => h) (MonoA.cons (fun _ _ _ _ h => h) (MonoA.cons (fun _ _ _ _ h => h) (MonoA.cons (fun _ _ _ _ h => h) (MonoA.cons (fun _ _ _ _ h => h) (MonoA.cons (fun _ _ _ _ h => h) (MonoA.cons (fun _ _ _ _ h => h) (MonoA.cons (fun _ _ _ _ h => h) (MonoA.cons (fun _ _ _ _ h => h) (MonoA.cons (fun _ _ _ _ h => h) (MonoA.cons (fun _ _ _ _ h => h) (MonoA.cons (fun _ _ _ _ h => h) (MonoA.cons (fun _ _ _ _ h => h) (MonoA.cons (fun _ _ _ _ h => h) (MonoA.cons (fun _ _ _ _ h => h) (MonoA.cons (fun _ _ _ _ h => h) (MonoA.cons (fun _ _ _ _ h => h) (MonoA.cons (fun _ _ _ _ h => h) (MonoA.cons (fun _ _ _ _ h => h) (MonoA.cons (fun _ _ _ _ h => h) (MonoA.cons (fun _ _ _ _ h => h) (MonoA.cons (fun _ _ _ _ h => h) (MonoA.cons (fun _ _ _ _ h => h) MonoA.nil)))))))))))))))))))))))))))))))))))))))))))))))))))))))))))))))))))))))))))))))
                                      · intro a w' M2571 l2572 hd hs
                                        replace h45 := h45.mono l2572
                                        refine OP.ofW (l := [(8, v44)]) (hd.fr.add (hd.base 8 _ rfl rfl)) hs rfl ?_
                                        refine w_val trivial rfl (fun a w hf hs => r_move (hf.ev rfl)) ?_
                                        refine w_nil ?_
                                        intro a w' hf hs
                                        exact ⟨rfl, hf.df, _, (HLe.refl _), hs, hf.get _ _ rfl⟩
                                      · intro a w' M2573 l2574 hd hs
                                        have e2575 := hd.val 0 88 _ rfl rfl
                                        replace h45 := h45.mono l2574
                                        refine OP.ofW (l := [(88, v44)]) (hd.fr.add e2575) hs rfl ?_
                                        refine w_val trivial rfl (fun a w hf hs => r_iR Try.underlying36 ts3 h45 (hf.ev rfl) (hf.ev rfl) g2576.1 g2576.2) ?_
                                        refine w_nil ?_
                                        intro a w' hf hs
                                        exact ⟨rfl, hf.df, _, (HLe.refl _), hs, hf.get _ _ rfl⟩
                                      · intro a w' M2577 l2578 hd hs
                                        have e2579 := hd.val 1 89 _ rfl rfl
                                        replace h45 := h45.mono l2578
                                        refine OP.ofW (l := [(89, (eP v44 (0 : Int) 1 0))]) (hd.fr.add e2579) hs rfl ?_
                                        refine w_val trivial rfl (fun a w hf hs => r_loadE1 ta3 h45 hs.sub g2576.1 g2576.2 (hf.ev rfl) rfl) ?_
                                        refine w_nil ?_
                                        intro a w' hf hs
                                        exact ⟨rfl, hf.df, _, (HLe.refl _), hs, hf.get _ _ rfl⟩
                                      · intro a w' M2580 l2581 hd hs
                                        have e2582 := hd.val 2 90 _ rfl rfl
                                        refine OP.ofW (l := [(90, (.int .i64 (rd t36.2.1 (0 : Int))))]) (hd.fr.add e2582) hs rfl ?_
                                        refine w_val trivial rfl (fun a w hf hs => r_eql (hf.ev rfl) (hf.ev rfl)) ?_
                                        refine w_nil ?_
                                        intro a w' hf hs
                                        exact ⟨rfl, hf.df, _, (HLe.refl _), hs, hf.get _ _ rfl⟩
                                      · intro a w' M2583 l2584 hd hs
                                        have e2585 := hd.val 3 91 _ rfl rfl
                                        refine OP.ofW (l := [(91, (.bool ((rd t36.2.1 (0 : Int)) == (2 : Int))))]) (hd.fr.add e2585) hs rfl ?_
                                        refine w_val trivial rfl (fun a w hf hs => r_move (hf.ev rfl)) ?_
                                        refine w_nil ?_
                                        intro a w' hf hs
                                        exact ⟨rfl, hf.df, _, (HLe.refl _), hs, hf.get _ _ rfl⟩
                                      · intro a w' M2587 l2588 hd hs
                                        have e2589 := hd.val 4 92 _ rfl rfl
                                        refine OP.ofW (l := [(7, (ptr b46 0)), (92, (.bool ((rd t36.2.1 (0 : Int)) == (2 : Int))))]) ((hd.fr.add e2589).add (hd.base 7 _ rfl rfl)) hs rfl ?_
                                        refine w_val (Wnt.of rfl rfl b2586) rfl (fun a w hf hs => r_fa fa24_1 (hf.ev rfl)) ?_
                                        refine w_nil ?_
                                        intro a w' hf hs
                                        exact ⟨rfl, hf.df, _, (HLe.refl _), hs, hf.get _ _ rfl⟩
                                      · intro a w' M2590 l2591 hd hs
                                        have e2592 := hd.val 5 93 _ rfl rfl
                                        have e2593 := hd.val 4 92 _ rfl rfl
                                        refine OP.ofW (l := [(93, (ptr b46 1)), (92, (.bool ((rd t36.2.1 (0 : Int)) == (2 : Int))))]) ((hd.fr.add e2593).add e2592) hs rfl ?_
                                        refine w_val (Wnt.of rfl rfl b2586) rfl (fun a w hf hs => r_load1 ta22 (hf.ev rfl) (hs.blk (i := 5) rfl) rfl) ?_
                                        refine w_nil ?_
                                        intro a w' hf hs
                                        exact ⟨rfl, hf.df, _, (HLe.refl _), hs, hf.get _ _ rfl⟩
                                      · intro a w' M2594 l2595 hd hs
                                        have e2596 := hd.val 6 94 _ rfl rfl
                                        replace h43 := h43.mono l2595
                                        have e2597 := hd.val 4 92 _ rfl rfl
                                        refine OP.ofW (l := [(94, v42), (92, (.bool ((rd t36.2.1 (0 : Int)) == (2 : Int))))]) ((hd.fr.add e2597).add e2596) hs rfl ?_
                                        refine w_val (Wnt.of rfl rfl b2586) rfl (fun a w hf hs => r_iR Try.underlying22 ts30 h43 (hf.ev rfl) (hf.ev rfl) g2598.1 g2598.2) ?_
                                        refine w_nil ?_
                                        intro a w' hf hs
                                        exact ⟨rfl, hf.df, _, (HLe.refl _), hs, hf.get _ _ rfl⟩
                                      · intro a w' M2599 l2600 hd hs
                                        have e2601 := hd.val 7 95 _ rfl rfl
                                        replace h43 := h43.mono l2600
                                        have e2602 := hd.val 4 92 _ rfl rfl
                                        refine OP.ofW (l := [(95, (eP v42 (1 : Int) 9 0)), (92, (.bool ((rd t36.2.1 (0 : Int)) == (2 : Int))))]) ((hd.fr.add e2602).add e2601) hs rfl ?_
                                        refine w_val (Wnt.of rfl rfl b2586) rfl (fun a w hf hs => r_loadEA ta30 ts30 h43 hs.sub g2598.1 g2598.2 (hf.ev rfl) rfl rfl) ?_
                                        refine w_nil ?_
                                        intro a w' hf hs
                                        exact ⟨rfl, hf.df, _, (HLe.refl _), hs, hf.get _ _ rfl⟩
                                      · intro a w' M2603 l2604 hd hs
                                        have e2605 := hd.val 4 92 _ rfl rfl
                                        refine OP.ofW (l := [(17, (ptr b82 0)), (92, (.bool ((rd t36.2.1 (0 : Int)) == (2 : Int))))]) ((hd.fr.add e2605).add (hd.base 17 _ rfl rfl)) hs rfl ?_
                                        refine w_val (Wnt.of rfl rfl b2586) rfl (fun a w hf hs => r_loadA ta30 ts30 (hf.ev rfl) (hs.blk (i := 7) rfl) rfl rfl) ?_
                                        refine w_nil ?_
                                        intro a w' hf hs
                                        exact ⟨rfl, hf.df, _, (HLe.refl _), hs, hf.get _ _ rfl⟩
                                      · intro a w' M2606 l2607 hd hs
                                        have e2608 := hd.val 8 96 _ rfl rfl
                                        have e2609 := hd.val 9 97 _ rfl rfl
                                        have e2610 := hd.val 4 92 _ rfl rfl
                                        refine OP.ofW (l := [(96, (.agg (Key.C (rd t36.1.Keys (1 : Int))).toArray)), (97, (.agg (Key.C (⟨(2 : Int), (0 : Int), t3, (0 : Int), (1 : Int), (9 : Int), (2 : Int), (1 : Int), false⟩ : Key)).toArray)), (92, (.bool ((rd t36.2.1 (0 : Int)) == (2 : Int))))]) (((hd.fr.add e2610).add e2609).add e2608) hs rfl ?_
                                        refine w_val (Wnt.of rfl rfl b2586) rfl (fun a w hf hs => r_eqS eq30 (hf.ev rfl) (hf.ev rfl)) ?_
                                        refine w_nil ?_
                                        intro a w' hf hs
                                        exact ⟨rfl, hf.df, _, (HLe.refl _), hs, hf.get _ _ rfl⟩
                                      · intro a w' M2611 l2612 hd hs
                                        have e2613 := hd.val 4 92 _ rfl rfl
                                        have e2614 := hd.val 10 98 _ rfl rfl
                                        refine OP.ofW (l := [(92, (.bool ((rd t36.2.1 (0 : Int)) == (2 : Int)))), (98, (.bool (decide ((rd t36.1.Keys (1 : Int)) = (⟨(2 : Int), (0 : Int), t3, (0 : Int), (1 : Int), (9 : Int), (2 : Int), (1 : Int), false⟩ : Key)))))]) ((hd.fr.add e2614).add e2613) hs rfl ?_
                                        refine w_val trivial rfl (fun a w hf hs => r_pickT (hf.ev rfl) b2586 (hf.ev rfl)) ?_
                                        refine w_nil ?_
                                        intro a w' hf hs
                                        exact ⟨rfl, hf.df, _, (HLe.refl _), hs, hf.get _ _ rfl⟩
                                      · intro a w' M2615 l2616 hd hs
                                        have e2617 := hd.val 11 99 _ rfl rfl
                                        refine OP.ofW (l := [(99, (.bool (decide ((rd t36.1.Keys (1 : Int)) = (⟨(2 : Int), (0 : Int), t3, (0 : Int), (1 : Int), (9 : Int), (2 : Int), (1 : Int), false⟩ : Key)))))]) (hd.fr.add e2617) hs rfl ?_
                                        refine w_val trivial rfl (fun a w hf hs => r_move (hf.ev rfl)) ?_
                                        refine w_nil ?_
                                        intro a w' hf hs
                                        exact ⟨rfl, hf.df, _, (HLe.refl _), hs, hf.get _ _ rfl⟩
                                      · intro a w' M2619 l2620 hd hs
                                        have e2621 := hd.val 12 100 _ rfl rfl
                                        refine OP.ofW (l := [(7, (ptr b46 0)), (100, (.bool (decide ((rd t36.1.Keys (1 : Int)) = (⟨(2 : Int), (0 : Int), t3, (0 : Int), (1 : Int), (9 : Int), (2 : Int), (1 : Int), false⟩ : Key)))))]) ((hd.fr.add e2621).add (hd.base 7 _ rfl rfl)) hs rfl ?_
                                        refine w_val (Wnt.of rfl rfl b2618) rfl (fun a w hf hs => r_fa fa24_0 (hf.ev rfl)) ?_
                                        refine w_nil ?_
                                        intro a w' hf hs
                                        exact ⟨rfl, hf.df, _, (HLe.refl _), hs, hf.get _ _ rfl⟩
                                      · intro a w' M2622 l2623 hd hs
                                        have e2624 := hd.val 13 101 _ rfl rfl
                                        have e2625 := hd.val 12 100 _ rfl rfl
                                        refine OP.ofW (l := [(101, (ptr b46 0)), (100, (.bool (decide ((rd t36.1.Keys (1 : Int)) = (⟨(2 : Int), (0 : Int), t3, (0 : Int), (1 : Int), (9 : Int), (2 : Int), (1 : Int), false⟩ : Key)))))]) ((hd.fr.add e2625).add e2624) hs rfl ?_
                                        refine w_val (Wnt.of rfl rfl b2618) rfl (fun a w hf hs => r_load1 ta3 (hf.ev rfl) (hs.blk (i := 5) rfl) rfl) ?_
                                        refine w_nil ?_
                                        intro a w' hf hs
                                        exact ⟨rfl, hf.df, _, (HLe.refl _), hs, hf.get _ _ rfl⟩
                                      · intro a w' M2626 l2627 hd hs
                                        have e2628 := hd.val 14 102 _ rfl rfl
                                        have e2629 := hd.val 12 100 _ rfl rfl
                                        refine OP.ofW (l := [(102, (.int .i64 t36.1.Next)), (100, (.bool (decide ((rd t36.1.Keys (1 : Int)) = (⟨(2 : Int), (0 : Int), t3, (0 : Int), (1 : Int), (9 : Int), (2 : Int), (1 : Int), false⟩ : Key)))))]) ((hd.fr.add e2629).add e2628) hs rfl ?_
                                        refine w_val (Wnt.of rfl rfl b2618) rfl (fun a w hf hs => r_eql (hf.ev rfl) (hf.ev rfl)) ?_
                                        refine w_nil ?_
                                        intro a w' hf hs
                                        exact ⟨rfl, hf.df, _, (HLe.refl _), hs, hf.get _ _ rfl⟩
                                      · intro a w' M2630 l2631 hd hs
                                        have e2632 := hd.val 12 100 _ rfl rfl
                                        have e2633 := hd.val 15 103 _ rfl rfl
                                        refine OP.ofW (l := [(100, (.bool (decide ((rd t36.1.Keys (1 : Int)) = (⟨(2 : Int), (0 : Int), t3, (0 : Int), (1 : Int), (9 : Int), (2 : Int), (1 : Int), false⟩ : Key))))), (103, (.bool (t36.1.Next == (3 : Int))))]) ((hd.fr.add e2633).add e2632) hs rfl ?_
                                        refine w_val trivial rfl (fun a w hf hs => r_pickT (hf.ev rfl) b2618 (hf.ev rfl)) ?_
                                        refine w_nil ?_
                                        intro a w' hf hs
                                        exact ⟨rfl, hf.df, _, (HLe.refl _), hs, hf.get _ _ rfl⟩
                                      · intro a w' M2634 l2635 hd hs
                                        have e2636 := hd.val 16 104 _ rfl rfl
                                        refine OP.ofW (l := [(104, (.bool (t36.1.Next == (3 : Int))))]) (hd.fr.add e2636) hs rfl ?_
                                        refine w_val trivial rfl (fun a w hf hs => r_move (hf.ev rfl)) ?_
                                        refine w_nil ?_
                                        intro a w' hf hs
                                        exact ⟨rfl, hf.df, _, (HLe.refl _), hs, hf.get _ _ rfl⟩
                                      · intro a w' M2638 l2639 hd hs
                                        replace h65 := h65.mono l2639
                                        have e2640 := hd.val 17 105 _ rfl rfl
                                        refine OP.ofW (l := [(11, v64), (105, (.bool (t36.1.Next == (3 : Int))))]) ((hd.fr.add e2640).add (hd.base 11 _ rfl rfl)) hs rfl ?_
                                        refine w_val (Wnt.of rfl rfl b2637) rfl (fun a w hf hs => r_move (hf.ev rfl)) ?_
                                        refine w_nil ?_
                                        intro a w' hf hs
                                        exact ⟨rfl, hf.df, _, (HLe.refl _), hs, hf.get _ _ rfl⟩
                                      · intro a w' M2641 l2642 hd hs
                                        have e2643 := hd.val 18 106 _ rfl rfl
                                        replace h65 := h65.mono l2642
                                        have e2644 := hd.val 17 105 _ rfl rfl
                                        refine OP.ofW (l := [(106, v64), (105, (.bool (t36.1.Next == (3 : Int))))]) ((hd.fr.add e2644).add e2643) hs rfl ?_
                                        refine w_val (Wnt.of rfl rfl b2637) rfl (fun a w hf hs => r_lenR Try.underlying36 h65 (hf.ev rfl)) ?_
                                        refine w_nil ?_
                                        intro a w' hf hs
                                        exact ⟨rfl, hf.df, _, (HLe.refl _), hs, hf.get _ _ rfl⟩
                                      · intro a w' M2645 l2646 hd hs
                                        have e2647 := hd.val 19 107 _ rfl rfl
                                        have e2648 := hd.val 17 105 _ rfl rfl
                                        refine OP.ofW (l := [(107, (.int .i64 (t56.2.1.length : Int))), (105, (.bool (t36.1.Next == (3 : Int))))]) ((hd.fr.add e2648).add e2647) hs rfl ?_
                                        refine w_val (Wnt.of rfl rfl b2637) rfl (fun a w hf hs => r_eql (hf.ev rfl) (hf.ev rfl)) ?_
                                        refine w_nil ?_
                                        intro a w' hf hs
                                        exact ⟨rfl, hf.df, _, (HLe.refl _), hs, hf.get _ _ rfl⟩
                                      · intro a w' M2649 l2650 hd hs
                                        have e2651 := hd.val 17 105 _ rfl rfl
                                        have e2652 := hd.val 20 108 _ rfl rfl
                                        refine OP.ofW (l := [(105, (.bool (t36.1.Next == (3 : Int)))), (108, (.bool ((t56.2.1.length : Int) == (0 : Int))))]) ((hd.fr.add e2652).add e2651) hs rfl ?_
                                        refine w_val trivial rfl (fun a w hf hs => r_pickT (hf.ev rfl) b2637 (hf.ev rfl)) ?_
                                        refine w_nil ?_
                                        intro a w' hf hs
                                        exact ⟨rfl, hf.df, _, (HLe.refl _), hs, hf.get _ _ rfl⟩
                                      · intro a w' M2653 l2654 hd hs
                                        have e2655 := hd.val 21 109 _ rfl rfl
                                        refine OP.ofW (l := [(109, (.bool ((t56.2.1.length : Int) == (0 : Int))))]) (hd.fr.add e2655) hs rfl ?_
                                        refine w_val trivial rfl (fun a w hf hs => r_move (hf.ev rfl)) ?_
                                        refine w_nil ?_
                                        intro a w' hf hs
                                        exact ⟨rfl, hf.df, _, (HLe.refl _), hs, hf.get _ _ rfl⟩
                                      · intro a w' M2657 l2658 hd hs
                                        have e2659 := hd.val 22 110 _ rfl rfl
                                        refine OP.ofW (l := [(12, (.int .i64 t56.2.2)), (110, (.bool ((t56.2.1.length : Int) == (0 : Int))))]) ((hd.fr.add e2659).add (hd.base 12 _ rfl rfl)) hs rfl ?_
                                        refine w_val (Wnt.of rfl rfl b2656) rfl (fun a w hf hs => r_move (hf.ev rfl)) ?_
                                        refine w_nil ?_
                                        intro a w' hf hs
                                        exact ⟨rfl, hf.df, _, (HLe.refl _), hs, hf.get _ _ rfl⟩
                                      · intro a w' M2660 l2661 hd hs
                                        have e2662 := hd.val 23 111 _ rfl rfl
                                        have e2663 := hd.val 22 110 _ rfl rfl
                                        refine OP.ofW (l := [(111, (.int .i64 t56.2.2)), (110, (.bool ((t56.2.1.length : Int) == (0 : Int))))]) ((hd.fr.add e2663).add e2662) hs rfl ?_
                                        refine w_val (Wnt.of rfl rfl b2656) rfl (fun a w hf hs => r_eql (hf.ev rfl) (hf.ev rfl)) ?_
                                        refine w_nil ?_
                                        intro a w' hf hs
                                        exact ⟨rfl, hf.df, _, (HLe.refl _), hs, hf.get _ _ rfl⟩
                                      · intro a w' M2664 l2665 hd hs
                                        have e2666 := hd.val 22 110 _ rfl rfl
                                        have e2667 := hd.val 24 112 _ rfl rfl
                                        refine OP.ofW (l := [(110, (.bool ((t56.2.1.length : Int) == (0 : Int)))), (112, (.bool (t56.2.2 == (0 : Int))))]) ((hd.fr.add e2667).add e2666) hs rfl ?_
                                        refine w_val trivial rfl (fun a w hf hs => r_pickT (hf.ev rfl) b2656 (hf.ev rfl)) ?_
                                        refine w_nil ?_
                                        intro a w' hf hs
                                        exact ⟨rfl, hf.df, _, (HLe.refl _), hs, hf.get _ _ rfl⟩
                                      · intro a w' M2668 l2669 hd hs
                                        have e2670 := hd.val 25 113 _ rfl rfl
                                        refine OP.ofW (l := [(113, (.bool (t56.2.2 == (0 : Int))))]) (hd.fr.add e2670) hs rfl ?_
                                        refine w_val trivial rfl (fun a w hf hs => r_move (hf.ev rfl)) ?_
                                        refine w_nil ?_
                                        intro a w' hf hs
                                        exact ⟨rfl, hf.df, _, (HLe.refl _), hs, hf.get _ _ rfl⟩
                                      · intro a w' M2672 l2673 hd hs
                                        have e2674 := hd.val 26 114 _ rfl rfl
                                        refine OP.ofW (l := [(7, (ptr b46 0)), (114, (.bool (t56.2.2 == (0 : Int))))]) ((hd.fr.add e2674).add (hd.base 7 _ rfl rfl)) hs rfl ?_
                                        refine w_val (Wnt.of rfl rfl b2671) rfl (fun a w hf hs => r_loadA ta24 ts24 (hf.ev rfl) (hs.blk (i := 5) rfl) rfl rfl) ?_
                                        refine w_nil ?_
                                        intro a w' hf hs
                                        exact ⟨rfl, hf.df, _, (HLe.refl _), hs, hf.get _ _ rfl⟩
                                      · intro a w' M2675 l2676 hd hs
                                        have e2677 := hd.val 26 114 _ rfl rfl
                                        refine OP.ofW (l := [(10, (ptr b66 0)), (114, (.bool (t56.2.2 == (0 : Int))))]) ((hd.fr.add e2677).add (hd.base 10 _ rfl rfl)) hs rfl ?_
                                        refine w_val (Wnt.of rfl rfl b2671) rfl (fun a w hf hs => r_loadA ta24 ts24 (hf.ev rfl) (hs.blk (i := 6) rfl) rfl rfl) ?_
                                        refine w_nil ?_
                                        intro a w' hf hs
                                        exact ⟨rfl, hf.df, _, (HLe.refl _), hs, hf.get _ _ rfl⟩
                                      · intro a w' M2678 l2679 hd hs
                                        have e2680 := hd.val 27 115 _ rfl rfl
                                        replace h43 := h43.mono l2679
                                        have e2681 := hd.val 28 116 _ rfl rfl
                                        replace h63 := h63.mono l2679
                                        have e2682 := hd.val 26 114 _ rfl rfl
                                        refine OP.ofW (l := [(115, (.agg (Table.C t36.1 v42).toArray)), (116, (.agg (Table.C t56.1 v62).toArray)), (114, (.bool (t56.2.2 == (0 : Int))))]) (((hd.fr.add e2682).add e2681).add e2680) hs rfl ?_
                                        refine w_call cf14 (Wnt.of rfl rfl b2671) rfl rfl (fun w hs => ref27_Same.calls hs t36.1 v42 h43 t56.1 v62 h63 _ e2688) ?_
                                        rintro _ M2685 l2686 rfl
                                        replace h43 := h43.mono l2686
                                        replace h63 := h63.mono l2686
                                        refine w_nil ?_
                                        intro a w' hf hs
                                        exact ⟨rfl, hf.df, _, l2686, hs, hf.get _ _ rfl⟩
                                      · intro a w' M2689 l2690 hd hs
                                        have e2691 := hd.val 26 114 _ rfl rfl
                                        have e2692 := hd.val 29 117 _ rfl rfl
                                        refine OP.ofW (l := [(114, (.bool (t56.2.2 == (0 : Int)))), (117, (.bool t2683))]) ((hd.fr.add e2692).add e2691) hs rfl ?_
                                        refine w_val trivial rfl (fun a w hf hs => r_pickT (hf.ev rfl) b2671 (hf.ev rfl)) ?_
                                        refine w_nil ?_
                                        intro a w' hf hs
                                        exact ⟨rfl, hf.df, _, (HLe.refl _), hs, hf.get _ _ rfl⟩
                                      · intro a w' M2693 l2694 hd hs
                                        have e2695 := hd.val 30 118 _ rfl rfl
                                        refine OP.ofW (l := [(118, (.bool t2683))]) (hd.fr.add e2695) hs rfl ?_
                                        refine w_val trivial rfl (fun a w hf hs => r_move (hf.ev rfl)) ?_
                                        refine w_nil ?_
                                        intro a w' hf hs
                                        exact ⟨rfl, hf.df, _, (HLe.refl _), hs, hf.get _ _ rfl⟩
                                      · intro a w' M2697 l2698 hd hs
                                        have e2699 := hd.val 31 119 _ rfl rfl
                                        refine OP.ofW (l := [(13, (.int .i64 t68.1)), (119, (.bool t2683))]) ((hd.fr.add e2699).add (hd.base 13 _ rfl rfl)) hs rfl ?_
                                        refine w_val (Wnt.of rfl rfl b2696) rfl (fun a w hf hs => r_move (hf.ev rfl)) ?_
                                        refine w_nil ?_
                                        intro a w' hf hs
                                        exact ⟨rfl, hf.df, _, (HLe.refl _), hs, hf.get _ _ rfl⟩
                                      · intro a w' M2700 l2701 hd hs
                                        have e2702 := hd.val 32 120 _ rfl rfl
                                        have e2703 := hd.val 31 119 _ rfl rfl
                                        refine OP.ofW (l := [(120, (.int .i64 t68.1)), (119, (.bool t2683))]) ((hd.fr.add e2703).add e2702) hs rfl ?_
                                        refine w_val (Wnt.of rfl rfl b2696) rfl (fun a w hf hs => r_eql (hf.ev rfl) (hf.ev rfl)) ?_
                                        refine w_nil ?_
                                        intro a w' hf hs
                                        exact ⟨rfl, hf.df, _, (HLe.refl _), hs, hf.get _ _ rfl⟩
                                      · intro a w' M2704 l2705 hd hs
                                        have e2706 := hd.val 31 119 _ rfl rfl
                                        have e2707 := hd.val 33 121 _ rfl rfl
                                        refine OP.ofW (l := [(119, (.bool t2683)), (121, (.bool (t68.1 == (2 : Int))))]) ((hd.fr.add e2707).add e2706) hs rfl ?_
                                        refine w_val trivial rfl (fun a w hf hs => r_pickT (hf.ev rfl) b2696 (hf.ev rfl)) ?_
                                        refine w_nil ?_
                                        intro a w' hf hs
                                        exact ⟨rfl, hf.df, _, (HLe.refl _), hs, hf.get _ _ rfl⟩
                                      · intro a w' M2708 l2709 hd hs
                                        have e2710 := hd.val 34 122 _ rfl rfl
                                        refine OP.ofW (l := [(122, (.bool (t68.1 == (2 : Int))))]) (hd.fr.add e2710) hs rfl ?_
                                        refine w_val trivial rfl (fun a w hf hs => r_move (hf.ev rfl)) ?_
                                        refine w_nil ?_
                                        intro a w' hf hs
                                        exact ⟨rfl, hf.df, _, (HLe.refl _), hs, hf.get _ _ rfl⟩
                                      · intro a w' M2712 l2713 hd hs
                                        have e2714 := hd.val 35 123 _ rfl rfl
                                        refine OP.ofW (l := [(14, (.bool t68.2)), (123, (.bool (t68.1 == (2 : Int))))]) ((hd.fr.add e2714).add (hd.base 14 _ rfl rfl)) hs rfl ?_
                                        refine w_val (Wnt.of rfl rfl b2711) rfl (fun a w hf hs => r_move (hf.ev rfl)) ?_
                                        refine w_nil ?_
                                        intro a w' hf hs
                                        exact ⟨rfl, hf.df, _, (HLe.refl _), hs, hf.get _ _ rfl⟩
                                      · intro a w' M2715 l2716 hd hs
                                        have e2717 := hd.val 35 123 _ rfl rfl
                                        have e2718 := hd.val 36 124 _ rfl rfl
                                        refine OP.ofW (l := [(123, (.bool (t68.1 == (2 : Int)))), (124, (.bool t68.2))]) ((hd.fr.add e2718).add e2717) hs rfl ?_
                                        refine w_val trivial rfl (fun a w hf hs => r_pickT (hf.ev rfl) b2711 (hf.ev rfl)) ?_
                                        refine w_nil ?_
                                        intro a w' hf hs
                                        exact ⟨rfl, hf.df, _, (HLe.refl _), hs, hf.get _ _ rfl⟩
                                      · intro a w' M2719 l2720 hd hs
                                        have e2721 := hd.val 37 125 _ rfl rfl
                                        refine OP.ofW (l := [(125, (.bool t68.2))]) (hd.fr.add e2721) hs rfl ?_
                                        refine w_val trivial rfl (fun a w hf hs => r_move (hf.ev rfl)) ?_
                                        refine w_nil ?_
                                        intro a w' hf hs
                                        exact ⟨rfl, hf.df, _, (HLe.refl _), hs, hf.get _ _ rfl⟩
                                      · intro a w' M2723 l2724 hd hs
                                        have e2725 := hd.val 38 126 _ rfl rfl
                                        refine OP.ofW (l := [(16, (.bool t75.2)), (126, (.bool t68.2))]) ((hd.fr.add e2725).add (hd.base 16 _ rfl rfl)) hs rfl ?_
                                        refine w_val (Wnt.of rfl rfl b2722) rfl (fun a w hf hs => r_move (hf.ev rfl)) ?_
                                        refine w_nil ?_
                                        intro a w' hf hs
                                        exact ⟨rfl, hf.df, _, (HLe.refl _), hs, hf.get _ _ rfl⟩
                                      · intro a w' M2726 l2727 hd hs
                                        have e2728 := hd.val 39 127 _ rfl rfl
                                        have e2729 := hd.val 38 126 _ rfl rfl
                                        refine OP.ofW (l := [(127, (.bool t75.2)), (126, (.bool t68.2))]) ((hd.fr.add e2729).add e2728) hs rfl ?_
                                        refine w_val (Wnt.of rfl rfl b2722) rfl (fun a w hf hs => r_not (hf.ev rfl)) ?_
                                        refine w_nil ?_
                                        intro a w' hf hs
                                        exact ⟨rfl, hf.df, _, (HLe.refl _), hs, hf.get _ _ rfl⟩
                                      · intro a w' M2730 l2731 hd hs
                                        have e2732 := hd.val 38 126 _ rfl rfl
                                        have e2733 := hd.val 40 128 _ rfl rfl
                                        refine OP.ofW (l := [(126, (.bool t68.2)), (128, (.bool (!t75.2)))]) ((hd.fr.add e2733).add e2732) hs rfl ?_
                                        refine w_val trivial rfl (fun a w hf hs => r_pickT (hf.ev rfl) b2722 (hf.ev rfl)) ?_
                                        refine w_nil ?_
                                        intro a w' hf hs
                                        exact ⟨rfl, hf.df, _, (HLe.refl _), hs, hf.get _ _ rfl⟩
                                      · intro a w' M2734 l2735 hd hs
                                        have e2736 := hd.val 41 129 _ rfl rfl
                                        refine OP.ofW (l := [(129, (.bool (!t75.2)))]) (hd.fr.add e2736) hs rfl ?_
                                        refine w_val trivial rfl (fun a w hf hs => r_move (hf.ev rfl)) ?_
                                        refine w_nil ?_
                                        intro a w' hf hs
                                        exact ⟨rfl, hf.df, _, (HLe.refl _), hs, hf.get _ _ rfl⟩
                                      · intro a w' M2738 l2739 hd hs
                                        have e2740 := hd.val 42 130 _ rfl rfl
                                        refine OP.ofW (l := [(7, (ptr b46 0)), (130, (.bool (!t75.2)))]) ((hd.fr.add e2740).add (hd.base 7 _ rfl rfl)) hs rfl ?_
                                        refine w_val (Wnt.of rfl rfl b2737) rfl (fun a w hf hs => r_loadA ta24 ts24 (hf.ev rfl) (hs.blk (i := 5) rfl) rfl rfl) ?_
                                        refine w_nil ?_
                                        intro a w' hf hs
                                        exact ⟨rfl, hf.df, _, (HLe.refl _), hs, hf.get _ _ rfl⟩
                                      · intro a w' M2741 l2742 hd hs
                                        have e2743 := hd.val 42 130 _ rfl rfl
                                        refine OP.ofW (l := [(6, (ptr b30 0)), (130, (.bool (!t75.2)))]) ((hd.fr.add e2743).add (hd.base 6 _ rfl rfl)) hs rfl ?_
                                        refine w_val (Wnt.of rfl rfl b2737) rfl (fun a w hf hs => r_loadA ta28 ts28 (hf.ev rfl) (hs.blk (i := 4) rfl) (Backup.d0_38 _ _) (Backup.len _ _)) ?_
                                        refine w_nil ?_
                                        intro a w' hf hs
                                        exact ⟨rfl, hf.df, _, (HLe.refl _), hs, hf.get _ _ rfl⟩
                                      · intro a w' M2744 l2745 hd hs
                                        have e2746 := hd.val 43 131 _ rfl rfl
                                        replace h43 := h43.mono l2745
                                        have e2747 := hd.val 44 132 _ rfl rfl
                                        replace h34 := h34.mono l2745
                                        have e2748 := hd.val 42 130 _ rfl rfl
                                        refine OP.ofW (l := [(131, (.agg (Table.C t36.1 v42).toArray)), (132, (.agg (Backup.C z31 v25).toArray)), (130, (.bool (!t75.2)))]) (((hd.fr.add e2748).add e2747).add e2746) hs rfl ?_
                                        refine w_call cf16 (Wnt.of rfl rfl b2737) rfl rfl (fun w hs => restore_Holds.calls hs t36.1 v42 h43 z31 v25 h34 (5 : Int) _ e2754) ?_
                                        rintro _ M2751 l2752 rfl
                                        replace h43 := h43.mono l2752
                                        replace h34 := h34.mono l2752
                                        refine w_nil ?_
                                        intro a w' hf hs
                                        exact ⟨rfl, hf.df, _, l2752, hs, hf.get _ _ rfl⟩
                                      · intro a w' M2755 l2756 hd hs
                                        have e2757 := hd.val 42 130 _ rfl rfl
                                        have e2758 := hd.val 45 133 _ rfl rfl
                                        refine OP.ofW (l := [(130, (.bool (!t75.2))), (133, (.bool t2749))]) ((hd.fr.add e2758).add e2757) hs rfl ?_
                                        refine w_val trivial rfl (fun a w hf hs => r_pickT (hf.ev rfl) b2737 (hf.ev rfl)) ?_
                                        refine w_nil ?_
                                        intro a w' hf hs
                                        exact ⟨rfl, hf.df, _, (HLe.refl _), hs, hf.get _ _ rfl⟩
                                      · intro a w' M2759 l2760 hd hs
                                        have e2761 := hd.val 46 134 _ rfl rfl
                                        refine OP.ofW (l := [(134, (.bool t2749))]) (hd.fr.add e2761) hs rfl ?_
                                        refine w_val trivial rfl (fun a w hf hs => r_move (hf.ev rfl)) ?_
                                        refine w_nil ?_
                                        intro a w' hf hs
                                        exact ⟨rfl, hf.df, _, (HLe.refl _), hs, hf.get _ _ rfl⟩
                                      · intro a w' M2763 l2764 hd hs
                                        have e2765 := hd.val 47 135 _ rfl rfl
                                        refine OP.ofW (l := [(3, (ptr b17 0)), (135, (.bool t2749))]) ((hd.fr.add e2765).add (hd.base 3 _ rfl rfl)) hs rfl ?_
                                        refine w_val (Wnt.of rfl rfl b2762) rfl (fun a w hf hs => r_loadA ta24 ts24 (hf.ev rfl) (hs.blk (i := 1) rfl) rfl rfl) ?_
                                        refine w_nil ?_
                                        intro a w' hf hs
                                        exact ⟨rfl, hf.df, _, (HLe.refl _), hs, hf.get _ _ rfl⟩
                                      · intro a w' M2766 l2767 hd hs
                                        have e2768 := hd.val 47 135 _ rfl rfl
                                        refine OP.ofW (l := [(6, (ptr b30 0)), (135, (.bool t2749))]) ((hd.fr.add e2768).add (hd.base 6 _ rfl rfl)) hs rfl ?_
                                        refine w_val (Wnt.of rfl rfl b2762) rfl (fun a w hf hs => r_loadA ta28 ts28 (hf.ev rfl) (hs.blk (i := 4) rfl) (Backup.d0_38 _ _) (Backup.len _ _)) ?_
                                        refine w_nil ?_
                                        intro a w' hf hs
                                        exact ⟨rfl, hf.df, _, (HLe.refl _), hs, hf.get _ _ rfl⟩
                                      · intro a w' M2769 l2770 hd hs
                                        have e2771 := hd.val 48 136 _ rfl rfl
                                        replace h15 := h15.mono l2770
                                        have e2772 := hd.val 49 137 _ rfl rfl
                                        replace h34 := h34.mono l2770
                                        have e2773 := hd.val 47 135 _ rfl rfl
                                        refine OP.ofW (l := [(136, (.agg (Table.C (⟨(2 : Int), ([(⟨(1 : Int), (0 : Int), t3, (0 : Int), (1 : Int), (9 : Int), (1 : Int), (0 : Int), false⟩ : Key)] : List Key)⟩ : Table) v12).toArray)), (137, (.agg (Backup.C z31 v25).toArray)), (135, (.bool t2749))]) (((hd.fr.add e2773).add e2772).add e2771) hs rfl ?_
                                        refine w_call cf16 (Wnt.of rfl rfl b2762) rfl rfl (fun w hs => restore_Holds.calls hs (⟨(2 : Int), ([(⟨(1 : Int), (0 : Int), t3, (0 : Int), (1 : Int), (9 : Int), (1 : Int), (0 : Int), false⟩ : Key)] : List Key)⟩ : Table) v12 h15 z31 v25 h34 (5 : Int) _ e2779) ?_
                                        rintro _ M2776 l2777 rfl
                                        replace h15 := h15.mono l2777
                                        replace h34 := h34.mono l2777
                                        refine w_nil ?_
                                        intro a w' hf hs
                                        exact ⟨rfl, hf.df, _, l2777, hs, hf.get _ _ rfl⟩
                                      · intro a w' M2780 l2781 hd hs
                                        have e2782 := hd.val 50 138 _ rfl rfl
                                        have e2783 := hd.val 47 135 _ rfl rfl
                                        refine OP.ofW (l := [(138, (.bool t2774)), (135, (.bool t2749))]) ((hd.fr.add e2783).add e2782) hs rfl ?_
                                        refine w_val (Wnt.of rfl rfl b2762) rfl (fun a w hf hs => r_not (hf.ev rfl)) ?_
                                        refine w_nil ?_
                                        intro a w' hf hs
                                        exact ⟨rfl, hf.df, _, (HLe.refl _), hs, hf.get _ _ rfl⟩
                                      · intro a w' M2784 l2785 hd hs
                                        have e2786 := hd.val 47 135 _ rfl rfl
                                        have e2787 := hd.val 51 139 _ rfl rfl
                                        refine OP.ofW (l := [(135, (.bool t2749)), (139, (.bool (!t2774)))]) ((hd.fr.add e2787).add e2786) hs rfl ?_
                                        refine w_val trivial rfl (fun a w hf hs => r_pickT (hf.ev rfl) b2762 (hf.ev rfl)) ?_
                                        refine w_nil ?_
                                        intro a w' hf hs
                                        exact ⟨rfl, hf.df, _, (HLe.refl _), hs, hf.get _ _ rfl⟩
                                      · intro a w' M2788 l2789 hd hs
                                        have e2790 := hd.val 52 140 _ rfl rfl
                                        refine OP.ofW (l := [(140, (.bool (!t2774)))]) (hd.fr.add e2790) hs rfl ?_
                                        refine w_val trivial rfl (fun a w hf hs => r_move (hf.ev rfl)) ?_
                                        refine w_nil ?_
                                        intro a w' hf hs
                                        exact ⟨rfl, hf.df, _, (HLe.refl _), hs, hf.get _ _ rfl⟩
                                      · intro a w' M2792 l2793 hd hs
                                        have e2794 := hd.val 53 141 _ rfl rfl
                                        refine OP.ofW (l := [(3, (ptr b17 0)), (141, (.bool (!t2774)))]) ((hd.fr.add e2794).add (hd.base 3 _ rfl rfl)) hs rfl ?_
                                        refine w_val (Wnt.of rfl rfl b2791) rfl (fun a w hf hs => r_loadA ta24 ts24 (hf.ev rfl) (hs.blk (i := 1) rfl) rfl rfl) ?_
                                        refine w_nil ?_
                                        intro a w' hf hs
                                        exact ⟨rfl, hf.df, _, (HLe.refl _), hs, hf.get _ _ rfl⟩
                                      · intro a w' M2795 l2796 hd hs
                                        have e2797 := hd.val 53 141 _ rfl rfl
                                        refine OP.ofW (l := [(6, (ptr b30 0)), (141, (.bool (!t2774)))]) ((hd.fr.add e2797).add (hd.base 6 _ rfl rfl)) hs rfl ?_
                                        refine w_val (Wnt.of rfl rfl b2791) rfl (fun a w hf hs => r_loadA ta28 ts28 (hf.ev rfl) (hs.blk (i := 4) rfl) (Backup.d0_38 _ _) (Backup.len _ _)) ?_
                                        refine w_nil ?_
                                        intro a w' hf hs
                                        exact ⟨rfl, hf.df, _, (HLe.refl _), hs, hf.get _ _ rfl⟩
                                      · intro a w' M2798 l2799 hd hs
                                        have e2800 := hd.val 54 142 _ rfl rfl
                                        replace h15 := h15.mono l2799
                                        have e2801 := hd.val 55 143 _ rfl rfl
                                        replace h34 := h34.mono l2799
                                        have e2802 := hd.val 53 141 _ rfl rfl
                                        refine OP.ofW (l := [(142, (.agg (Table.C (⟨(2 : Int), ([(⟨(1 : Int), (0 : Int), t3, (0 : Int), (1 : Int), (9 : Int), (1 : Int), (0 : Int), false⟩ : Key)] : List Key)⟩ : Table) v12).toArray)), (143, (.agg (Backup.C z31 v25).toArray)), (141, (.bool (!t2774)))]) (((hd.fr.add e2802).add e2801).add e2800) hs rfl ?_
                                        refine w_call cf16 (Wnt.of rfl rfl b2791) rfl rfl (fun w hs => restore_Holds.calls hs (⟨(2 : Int), ([(⟨(1 : Int), (0 : Int), t3, (0 : Int), (1 : Int), (9 : Int), (1 : Int), (0 : Int), false⟩ : Key)] : List Key)⟩ : Table) v12 h15 z31 v25 h34 (9 : Int) _ e2808) ?_
                                        rintro _ M2805 l2806 rfl
                                        replace h15 := h15.mono l2806
                                        replace h34 := h34.mono l2806
                                        refine w_nil ?_
                                        intro a w' hf hs
                                        exact ⟨rfl, hf.df, _, l2806, hs, hf.get _ _ rfl⟩
                                      · intro a w' M2809 l2810 hd hs
                                        have e2811 := hd.val 53 141 _ rfl rfl
                                        have e2812 := hd.val 56 144 _ rfl rfl
                                        refine OP.ofW (l := [(141, (.bool (!t2774))), (144, (.bool t2803))]) ((hd.fr.add e2812).add e2811) hs rfl ?_
                                        refine w_val trivial rfl (fun a w hf hs => r_pickT (hf.ev rfl) b2791 (hf.ev rfl)) ?_
                                        refine w_nil ?_
                                        intro a w' hf hs
                                        exact ⟨rfl, hf.df, _, (HLe.refl _), hs, hf.get _ _ rfl⟩
                                      · intro a w' M2813 l2814 hd hs
                                        have e2815 := hd.val 57 145 _ rfl rfl
                                        refine OP.ofW (l := [(145, (.bool t2803))]) (hd.fr.add e2815) hs rfl ?_
                                        refine w_val trivial rfl (fun a w hf hs => r_move (hf.ev rfl)) ?_
                                        refine w_nil ?_
                                        intro a w' hf hs
                                        exact ⟨rfl, hf.df, _, (HLe.refl _), hs, hf.get _ _ rfl⟩
                                      · intro a w' M2817 l2818 hd hs
                                        have e2819 := hd.val 58 146 _ rfl rfl
                                        refine OP.ofW (l := [(18, (ptr b85 0)), (146, (.bool t2803))]) ((hd.fr.add e2819).add (hd.base 18 _ rfl rfl)) hs rfl ?_
                                        refine w_val (Wnt.of rfl rfl b2816) rfl (fun a w hf hs => r_loadA ta32 ts32 (hf.ev rfl) (hs.blk (i := 8) rfl) (restore_Place.d0_34 _) (restore_Place.len _)) ?_
                                        refine w_nil ?_
                                        intro a w' hf hs
                                        exact ⟨rfl, hf.df, _, (HLe.refl _), hs, hf.get _ _ rfl⟩
                                      · intro a w' M2820 l2821 hd hs
                                        have e2822 := hd.val 58 146 _ rfl rfl
                                        refine OP.ofW (l := [(6, (ptr b30 0)), (146, (.bool t2803))]) ((hd.fr.add e2822).add (hd.base 6 _ rfl rfl)) hs rfl ?_
                                        refine w_val (Wnt.of rfl rfl b2816) rfl (fun a w hf hs => r_loadA ta28 ts28 (hf.ev rfl) (hs.blk (i := 4) rfl) (Backup.d0_38 _ _) (Backup.len _ _)) ?_
                                        refine w_nil ?_
                                        intro a w' hf hs
                                        exact ⟨rfl, hf.df, _, (HLe.refl _), hs, hf.get _ _ rfl⟩
                                      · intro a w' M2823 l2824 hd hs
                                        have e2825 := hd.val 59 147 _ rfl rfl
                                        have e2826 := hd.val 60 148 _ rfl rfl
                                        replace h34 := h34.mono l2824
                                        have e2827 := hd.val 58 146 _ rfl rfl
                                        refine OP.ofW (l := [(147, (.agg (restore_Place.C z86).toArray)), (148, (.agg (Backup.C z31 v25).toArray)), (146, (.bool t2803))]) (((hd.fr.add e2827).add e2826).add e2825) hs rfl ?_
                                        refine w_call cf18 (Wnt.of rfl rfl b2816) rfl rfl (fun w hs => restore_Admit.calls hs z86 z31 v25 h34 _ e2833) ?_
                                        rintro _ M2830 l2831 rfl
                                        replace h34 := h34.mono l2831
                                        refine w_nil ?_
                                        intro a w' hf hs
                                        exact ⟨rfl, hf.df, _, l2831, hs, hf.get _ _ rfl⟩
                                      · intro a w' M2834 l2835 hd hs
                                        have e2836 := hd.val 61 149 _ rfl rfl
                                        have e2837 := hd.val 58 146 _ rfl rfl
                                        refine OP.ofW (l := [(149, (.int .i64 t2828)), (146, (.bool t2803))]) ((hd.fr.add e2837).add e2836) hs rfl ?_
                                        refine w_val (Wnt.of rfl rfl b2816) rfl (fun a w hf hs => r_eql (hf.ev rfl) (hf.ev rfl)) ?_
                                        refine w_nil ?_
                                        intro a w' hf hs
                                        exact ⟨rfl, hf.df, _, (HLe.refl _), hs, hf.get _ _ rfl⟩
                                      · intro a w' M2838 l2839 hd hs
                                        have e2840 := hd.val 58 146 _ rfl rfl
                                        have e2841 := hd.val 62 150 _ rfl rfl
                                        refine OP.ofW (l := [(146, (.bool t2803)), (150, (.bool (t2828 == (0 : Int))))]) ((hd.fr.add e2841).add e2840) hs rfl ?_
                                        refine w_val trivial rfl (fun a w hf hs => r_pickT (hf.ev rfl) b2816 (hf.ev rfl)) ?_
                                        refine w_nil ?_
                                        intro a w' hf hs
                                        exact ⟨rfl, hf.df, _, (HLe.refl _), hs, hf.get _ _ rfl⟩
                                      · intro a w' M2842 l2843 hd hs
                                        have e2844 := hd.val 63 151 _ rfl rfl
                                        refine OP.ofW (l := [(151, (.bool (t2828 == (0 : Int))))]) (hd.fr.add e2844) hs rfl ?_
                                        refine w_val trivial rfl (fun a w hf hs => r_move (hf.ev rfl)) ?_
                                        refine w_nil ?_
                                        intro a w' hf hs
                                        exact ⟨rfl, hf.df, _, (HLe.refl _), hs, hf.get _ _ rfl⟩
                                      · intro a w' M2846 l2847 hd hs
                                        have e2848 := hd.val 64 152 _ rfl rfl
                                        refine OP.ofW (l := [(19, (.int .i64 t90)), (152, (.bool (t2828 == (0 : Int))))]) ((hd.fr.add e2848).add (hd.base 19 _ rfl rfl)) hs rfl ?_
                                        refine w_val (Wnt.of rfl rfl b2845) rfl (fun a w hf hs => r_move (hf.ev rfl)) ?_
                                        refine w_nil ?_
                                        intro a w' hf hs
                                        exact ⟨rfl, hf.df, _, (HLe.refl _), hs, hf.get _ _ rfl⟩
                                      · intro a w' M2849 l2850 hd hs
                                        have e2851 := hd.val 65 153 _ rfl rfl
                                        have e2852 := hd.val 64 152 _ rfl rfl
                                        refine OP.ofW (l := [(153, (.int .i64 t90)), (152, (.bool (t2828 == (0 : Int))))]) ((hd.fr.add e2852).add e2851) hs rfl ?_
                                        refine w_val (Wnt.of rfl rfl b2845) rfl (fun a w hf hs => r_eql (hf.ev rfl) (hf.ev rfl)) ?_
                                        refine w_nil ?_
                                        intro a w' hf hs
                                        exact ⟨rfl, hf.df, _, (HLe.refl _), hs, hf.get _ _ rfl⟩
                                      · intro a w' M2853 l2854 hd hs
                                        have e2855 := hd.val 64 152 _ rfl rfl
                                        have e2856 := hd.val 66 154 _ rfl rfl
                                        refine OP.ofW (l := [(152, (.bool (t2828 == (0 : Int)))), (154, (.bool (t90 == (20 : Int))))]) ((hd.fr.add e2856).add e2855) hs rfl ?_
                                        refine w_val trivial rfl (fun a w hf hs => r_pickT (hf.ev rfl) b2845 (hf.ev rfl)) ?_
                                        refine w_nil ?_
                                        intro a w' hf hs
                                        exact ⟨rfl, hf.df, _, (HLe.refl _), hs, hf.get _ _ rfl⟩
                                      · intro a w' M2857 l2858 hd hs
                                        have e2859 := hd.val 67 155 _ rfl rfl
                                        refine OP.ofW (l := [(155, (.bool (t90 == (20 : Int))))]) (hd.fr.add e2859) hs rfl ?_
                                        refine w_val trivial rfl (fun a w hf hs => r_move (hf.ev rfl)) ?_
                                        refine w_nil ?_
                                        intro a w' hf hs
                                        exact ⟨rfl, hf.df, _, (HLe.refl _), hs, hf.get _ _ rfl⟩
                                      · intro a w' M2861 l2862 hd hs
                                        have e2863 := hd.val 68 156 _ rfl rfl
                                        refine OP.ofW (l := [(20, (.int .i64 t97)), (156, (.bool (t90 == (20 : Int))))]) ((hd.fr.add e2863).add (hd.base 20 _ rfl rfl)) hs rfl ?_
                                        refine w_val (Wnt.of rfl rfl b2860) rfl (fun a w hf hs => r_move (hf.ev rfl)) ?_
                                        refine w_nil ?_
                                        intro a w' hf hs
                                        exact ⟨rfl, hf.df, _, (HLe.refl _), hs, hf.get _ _ rfl⟩
                                      · intro a w' M2864 l2865 hd hs
                                        have e2866 := hd.val 69 157 _ rfl rfl
                                        have e2867 := hd.val 68 156 _ rfl rfl
                                        refine OP.ofW (l := [(157, (.int .i64 t97)), (156, (.bool (t90 == (20 : Int))))]) ((hd.fr.add e2867).add e2866) hs rfl ?_
                                        refine w_val (Wnt.of rfl rfl b2860) rfl (fun a w hf hs => r_eql (hf.ev rfl) (hf.ev rfl)) ?_
                                        refine w_nil ?_
                                        intro a w' hf hs
                                        exact ⟨rfl, hf.df, _, (HLe.refl _), hs, hf.get _ _ rfl⟩
                                      · intro a w' M2868 l2869 hd hs
                                        have e2870 := hd.val 68 156 _ rfl rfl
                                        have e2871 := hd.val 70 158 _ rfl rfl
                                        refine OP.ofW (l := [(156, (.bool (t90 == (20 : Int)))), (158, (.bool (t97 == (10 : Int))))]) ((hd.fr.add e2871).add e2870) hs rfl ?_
                                        refine w_val trivial rfl (fun a w hf hs => r_pickT (hf.ev rfl) b2860 (hf.ev rfl)) ?_
                                        refine w_nil ?_
                                        intro a w' hf hs
                                        exact ⟨rfl, hf.df, _, (HLe.refl _), hs, hf.get _ _ rfl⟩
                                      · intro a w' M2872 l2873 hd hs
                                        have e2874 := hd.val 71 159 _ rfl rfl
                                        refine OP.ofW (l := [(159, (.bool (t97 == (10 : Int))))]) (hd.fr.add e2874) hs rfl ?_
                                        refine w_val trivial rfl (fun a w hf hs => r_move (hf.ev rfl)) ?_
                                        refine w_nil ?_
                                        intro a w' hf hs
                                        exact ⟨rfl, hf.df, _, (HLe.refl _), hs, hf.get _ _ rfl⟩
                                      · intro a w' M2876 l2877 hd hs
                                        have e2878 := hd.val 72 160 _ rfl rfl
                                        refine OP.ofW (l := [(18, (ptr b85 0)), (160, (.bool (t97 == (10 : Int))))]) ((hd.fr.add e2878).add (hd.base 18 _ rfl rfl)) hs rfl ?_
                                        refine w_val (Wnt.of rfl rfl b2875) rfl (fun a w hf hs => r_loadA ta32 ts32 (hf.ev rfl) (hs.blk (i := 8) rfl) (restore_Place.d0_34 _) (restore_Place.len _)) ?_
                                        refine w_nil ?_
                                        intro a w' hf hs
                                        exact ⟨rfl, hf.df, _, (HLe.refl _), hs, hf.get _ _ rfl⟩
                                      · intro a w' M2879 l2880 hd hs
                                        have e2881 := hd.val 72 160 _ rfl rfl
                                        refine OP.ofW (l := [(160, (.bool (t97 == (10 : Int))))]) (hd.fr.add e2881) hs rfl ?_
                                        refine w_val (Wnt.of rfl rfl b2875) rfl (fun a w hf hs => r_build (is := []) (xs := []) (vs := []) (A := Backup.C ({ ({ ({ ({ ({ ({ ({ ({ (default : Backup) with Domain := (Vector.replicate 16 (0 : Int)) } : Backup) with Epoch := (0 : Int) } : Backup) with Number := (0 : Int) } : Backup) with Firmware := (0 : Int) } : Backup) with Time := (0 : Int) } : Backup) with Policy := (Vector.replicate 16 (0 : Int)) } : Backup) with Module := ([] : List UInt8) } : Backup) with Keys := ([] : (List Key)) } : Backup) (.slice none 0 0)) rfl (hf.evs rfl) (built_of (pl := [(0, 16), (16, 1), (17, 1), (18, 1), (19, 1), (20, 16), (36, 1), (37, 1)]) (A0 := Backup.C ({ ({ ({ ({ ({ ({ ({ ({ (default : Backup) with Domain := (Vector.replicate 16 (0 : Int)) } : Backup) with Epoch := (0 : Int) } : Backup) with Number := (0 : Int) } : Backup) with Firmware := (0 : Int) } : Backup) with Time := (0 : Int) } : Backup) with Policy := (Vector.replicate 16 (0 : Int)) } : Backup) with Module := ([] : List UInt8) } : Backup) with Keys := ([] : (List Key)) } : Backup) (.slice none 0 0)) tz28 Try.underlying28 (by kernel_rfl) rfl .nil)) ?_
                                        refine w_nil ?_
                                        intro a w' hf hs
                                        exact ⟨rfl, hf.df, _, (HLe.refl _), hs, hf.get _ _ rfl⟩
                                      · intro a w' M2882 l2883 hd hs
                                        have e2884 := hd.val 73 161 _ rfl rfl
                                        have e2885 := hd.val 74 162 _ rfl rfl
                                        have e2886 := hd.val 72 160 _ rfl rfl
                                        refine OP.ofW (l := [(161, (.agg (restore_Place.C z86).toArray)), (162, (.agg (Backup.C ({ ({ ({ ({ ({ ({ ({ ({ (default : Backup) with Domain := (Vector.replicate 16 (0 : Int)) } : Backup) with Epoch := (0 : Int) } : Backup) with Number := (0 : Int) } : Backup) with Firmware := (0 : Int) } : Backup) with Time := (0 : Int) } : Backup) with Policy := (Vector.replicate 16 (0 : Int)) } : Backup) with Module := ([] : List UInt8) } : Backup) with Keys := ([] : (List Key)) } : Backup) (.slice none 0 0)).toArray)), (160, (.bool (t97 == (10 : Int))))]) (((hd.fr.add e2886).add e2885).add e2884) hs rfl ?_
                                        refine w_call cf18 (Wnt.of rfl rfl b2875) rfl rfl (fun w hs => restore_Admit.calls hs z86 ({ ({ ({ ({ ({ ({ ({ ({ (default : Backup) with Domain := (Vector.replicate 16 (0 : Int)) } : Backup) with Epoch := (0 : Int) } : Backup) with Number := (0 : Int) } : Backup) with Firmware := (0 : Int) } : Backup) with Time := (0 : Int) } : Backup) with Policy := (Vector.replicate 16 (0 : Int)) } : Backup) with Module := ([] : List UInt8) } : Backup) with Keys := ([] : (List Key)) } : Backup) (.slice none 0 0) RS.none _ e2892) ?_
                                        rintro _ M2889 l2890 rfl
                                        refine w_nil ?_
                                        intro a w' hf hs
                                        exact ⟨rfl, hf.df, _, l2890, hs, hf.get _ _ rfl⟩
                                      · intro a w' M2893 l2894 hd hs
                                        have e2895 := hd.val 75 163 _ rfl rfl
                                        have e2896 := hd.val 72 160 _ rfl rfl
                                        refine OP.ofW (l := [(163, (.int .i64 t2887)), (160, (.bool (t97 == (10 : Int))))]) ((hd.fr.add e2896).add e2895) hs rfl ?_
                                        refine w_val (Wnt.of rfl rfl b2875) rfl (fun a w hf hs => r_eql (hf.ev rfl) (hf.ev rfl)) ?_
                                        refine w_nil ?_
                                        intro a w' hf hs
                                        exact ⟨rfl, hf.df, _, (HLe.refl _), hs, hf.get _ _ rfl⟩
                                      · intro a w' M2897 l2898 hd hs
                                        have e2899 := hd.val 72 160 _ rfl rfl
                                        have e2900 := hd.val 76 164 _ rfl rfl
                                        refine OP.ofW (l := [(160, (.bool (t97 == (10 : Int)))), (164, (.bool (t2887 == (1 : Int))))]) ((hd.fr.add e2900).add e2899) hs rfl ?_
                                        refine w_val trivial rfl (fun a w hf hs => r_pickT (hf.ev rfl) b2875 (hf.ev rfl)) ?_
                                        refine w_nil ?_
                                        intro a w' hf hs
                                        exact ⟨rfl, hf.df, _, (HLe.refl _), hs, hf.get _ _ rfl⟩
                                      · intro a w' M2901 l2902 hd hs
                                        have e2903 := hd.val 77 165 _ rfl rfl
                                        refine OP.ofW (l := [(165, (.bool (t2887 == (1 : Int))))]) (hd.fr.add e2903) hs rfl ?_
                                        refine w_val trivial rfl (fun a w hf hs => r_assign (hf.ev rfl)) ?_
                                        refine w_nil ?_
                                        intro a w' hf hs
                                        exact ⟨rfl, hf.df, _, (HLe.refl _), hs, hf.get _ _ rfl⟩
                                      intro a w' M2904 l2905 hdf hsz hb hv hs
                                      replace h15 := h15.mono l2905
                                      replace h28 := h28.mono l2905
                                      replace h34 := h34.mono l2905
                                      replace h43 := h43.mono l2905
                                      replace h45 := h45.mono l2905
                                      replace h63 := h63.mono l2905
                                      replace h65 := h65.mono l2905
                                      have e2906 := hv 78 0 _ rfl rfl
                                      refine n_of (c := (Cx.mk Try.prog 166 none' M w)) (l := [(0, (.bool (t2887 == (1 : Int))))]) ?_ ((Fr.start hdf hsz).add e2906) hs
                                      clear hdf hsz hb hv hs e2906
                                      obtain rfl := some_r H
                                      refine n_id ?_
                                      intro a w' hf hs
                                      exact ⟨_, l2905, (hf.nil.add (hf.get _ _ rfl)), hs.sel [0, 1, 2, 3, 4, 5, 6, 7, 8] (by decide) rfl⟩
                                    · replace b2875 := Bool.eq_false_iff.2 b2875
                                      replace H := if_f b2875 H
                                      exact absurd ((some_r H).trans ht_) (by decide)
                                  · replace b2860 := Bool.eq_false_iff.2 b2860
                                    replace H := if_f b2860 H
                                    exact absurd ((some_r H).trans ht_) (by decide)
                                · replace b2845 := Bool.eq_false_iff.2 b2845
                                  replace H := if_f b2845 H
                                  exact absurd ((some_r H).trans ht_) (by decide)
                              · replace b2816 := Bool.eq_false_iff.2 b2816
                                replace H := if_f b2816 H
                                exact absurd ((some_r H).trans ht_) (by decide)
                            · replace b2791 := Bool.eq_false_iff.2 b2791
                              replace H := if_f b2791 H
                              exact absurd ((some_r H).trans ht_) (by decide)
                          · replace b2762 := Bool.eq_false_iff.2 b2762
                            replace H := if_f b2762 H
                            exact absurd ((some_r H).trans ht_) (by decide)
                        · replace b2737 := Bool.eq_false_iff.2 b2737
                          replace H := if_f b2737 H
                          exact absurd ((some_r H).trans ht_) (by decide)
                      · replace b2722 := Bool.eq_false_iff.2 b2722
                        replace H := if_f b2722 H
                        exact absurd ((some_r H).trans ht_) (by decide)
                    · replace b2711 := Bool.eq_false_iff.2 b2711
                      replace H := if_f b2711 H
                      exact absurd ((some_r H).trans ht_) (by decide)
                  · replace b2696 := Bool.eq_false_iff.2 b2696
                    replace H := if_f b2696 H
                    exact absurd ((some_r H).trans ht_) (by decide)
                · replace b2671 := Bool.eq_false_iff.2 b2671
                  replace H := if_f b2671 H
                  exact absurd ((some_r H).trans ht_) (by decide)
              · replace b2656 := Bool.eq_false_iff.2 b2656
                replace H := if_f b2656 H
                exact absurd ((some_r H).trans ht_) (by decide)
            · replace b2637 := Bool.eq_false_iff.2 b2637
              replace H := if_f b2637 H
              exact absurd ((some_r H).trans ht_) (by decide)
          · replace b2618 := Bool.eq_false_iff.2 b2618
            replace H := if_f b2618 H
            exact absurd ((some_r H).trans ht_) (by decide)
        · replace b2586 := Bool.eq_false_iff.2 b2586
          replace H := if_f b2586 H
          exact absurd ((some_r H).trans ht_) (by decide)
      · clear H1 ht_
        rintro a w' ⟨M104, l105, hf, hs⟩
        refine c_of (c := (Cx.mk Try.prog 166 none' M w)) ?_ hf hs
        clear hf hs
        replace h15 := h15.mono l105
        replace h28 := h28.mono l105
        replace h34 := h34.mono l105
        replace h43 := h43.mono l105
        replace h45 := h45.mono l105
        replace h63 := h63.mono l105
        replace h65 := h65.mono l105
        obtain rfl := some_r H
        refine c_ret ?_
        intro a w' hf hs
        exact hret _ (.inl rfl) a w' hf.df ⟨_, _, Res.of1 rfl (RV.t hf rfl), hs.ext, rfl⟩
set_option maxRecDepth 20000 in
theorem ref36_within.calls {M : Heap} {w : World} (hM : Sub M w) (p0 : Int) (p1 : Int) (r : Bool) (H : ref36_within p0 p1 = some r) :
    Calls Try.prog 33 [(.int .i64 p0), (.int .i64 p1)].toArray w (Post M w fun M' v => v = (.bool r)) := by
  refine enter 12 [(0, (.int .i64 p0)), (1, (.int .i64 p1))] Try.func33 rfl rfl rfl hM ?_
  intro Q hret
  unfold ref36_within at H
  refine c_seq ?_
  intro K1 hK1
  refine c_reg ?_
  refine w_val trivial rfl (fun a w hf hs => r_assign (hf.ev rfl)) ?_
  refine w_nil (hK1 _ _ _ ?_)
  obtain ⟨t2, H1, H⟩ := bnd H
  refine c_cut (fun a' w' => ∃ (M3 : Heap), HLe M M3 ∧ Fr 12 [(4, (.bool t2))] a' ∧ St none' M w M3 (lt []) w') ?_ ?_
  · replace H := H1
    clear H1
    refine c_reg ?_
    refine w_val trivial rfl (fun a w hf hs => r_move (hf.ev rfl)) ?_
    refine w_val trivial rfl (fun a w hf hs => r_geq (hf.ev rfl) (hf.ev rfl)) ?_
    refine w_val trivial rfl (fun a w hf hs => r_move (hf.ev rfl)) ?_
    by_cases b5 : (decide ((0 : Int) ≤ p0)) = true
    · replace H := if_t b5 H
      refine w_val (Wnt.of rfl rfl b5) rfl (fun a w hf hs => r_move (hf.ev rfl)) ?_
      refine w_val (Wnt.of rfl rfl b5) rfl (fun a w hf hs => r_move (hf.ev rfl)) ?_
      refine w_val (Wnt.of rfl rfl b5) rfl (fun a w hf hs => r_leq (hf.ev rfl) (hf.ev rfl)) ?_
      refine w_val trivial rfl (fun a w hf hs => r_pickT (hf.ev rfl) b5 (hf.ev rfl)) ?_
      refine w_val trivial rfl (fun a w hf hs => r_assign (hf.ev rfl)) ?_
      obtain rfl := some_r H
      refine w_nil ?_
      intro a w' hf hs
      exact ⟨_, (HLe.refl _), (hf.nil.add (hf.get _ _ rfl)), hs.sel [] (by decide) rfl⟩
    · replace b5 := Bool.eq_false_iff.2 b5
      replace H := if_f b5 H
      refine w_not (Nwt.of rfl rfl b5) rfl ?_
      refine w_not (Nwt.of rfl rfl b5) rfl ?_
      refine w_not (Nwt.of rfl rfl b5) rfl ?_
      refine w_val trivial rfl (fun a w hf hs => r_pickF (hf.ev rfl) b5 (hf.ev rfl)) ?_
      refine w_val trivial rfl (fun a w hf hs => r_assign (hf.ev rfl)) ?_
      obtain rfl := some_r H
      refine w_nil ?_
      intro a w' hf hs
      exact ⟨_, (HLe.refl _), (hf.nil.add (hf.get _ _ rfl)), hs.sel [] (by decide) rfl⟩
  · clear H1
    rintro a w' ⟨M3, l4, hf, hs⟩
    refine c_of (c := (Cx.mk Try.prog 12 none' M w)) ?_ hf hs
    clear hf hs
    obtain rfl := some_r H
    refine c_ret ?_
    intro a w' hf hs
    exact hret _ (.inl rfl) a w' hf.df ⟨_, _, Res.of1 rfl (RV.t hf rfl), hs.ext, rfl⟩
set_option maxRecDepth 20000 in
theorem ref36_Valid.calls {M : Heap} {w : World} (hM : Sub M w) (p0 : Backup) (v1 : Value) (h2 : RS Key.F M v1 p0.Keys) (r : Bool) (H : ref36_Valid p0 = some r) :
    Calls Try.prog 20 [(.agg (Backup.C p0 v1).toArray)].toArray w (Post M w fun M' v => v = (.bool r)) := by
  refine enter 86 [(0, (.agg (Backup.C p0 v1).toArray))] Try.func20 rfl rfl rfl hM ?_
  intro Q hret
  unfold ref36_Valid at H
  refine c_seq ?_
  intro K3 hK3
  refine c_reg ?_
  refine w_boxM trivial rfl rfl rfl ?_
  intro b4 M5 l6 h7
  replace h2 := h2.mono l6
  refine w_val trivial rfl (fun a w hf hs => r_assign (hf.ev rfl)) ?_
  refine w_nil (hK3 _ _ _ ?_)
  refine c_seq ?_
  intro K8 hK8
  obtain ⟨t9, H1, H⟩ := bnd H
  refine c_cut (fun a' w' => ∃ (M10 : Heap), HLe M5 M10 ∧ Fr 86 [(1, (ptr b4 0)), (45, (.bool t9))] a' ∧ St none' M w M10 (lt []) w') ?_ ?_
  · replace H := H1
    clear H1
    refine c_reg ?_
    refine w_val trivial rfl (fun a w hf hs => r_fa fa28_1 (hf.ev rfl)) ?_
    refine w_val trivial rfl (fun a w hf hs => r_load1 ta3 (hf.ev rfl) (hs.sub _ _ h7) (Backup.g16 _ _)) ?_
    obtain ⟨t12, e17, H⟩ := bnd H
    refine w_call cf33 trivial rfl rfl (fun w hs => ref36_within.calls hs p0.Epoch (2147483647 : Int) _ e17) ?_
    rintro _ M14 l15 rfl
    replace h2 := h2.mono l15
    replace h7 := l15 _ _ h7
    refine w_val trivial rfl (fun a w hf hs => r_not (hf.ev rfl)) ?_
    refine w_val trivial rfl (fun a w hf hs => r_move (hf.ev rfl)) ?_
    by_cases b18 : (!t12) = true
    · replace H := if_t b18 H
      refine w_not (Nwt.of rfl rfl b18) rfl ?_
      refine w_not (Nwt.of rfl rfl b18) rfl ?_
      refine w_not (Nwt.of rfl rfl b18) rfl ?_
      refine w_not (Nwt.of rfl rfl b18) rfl ?_
      refine w_val trivial rfl (fun a w hf hs => r_pickT (hf.ev rfl) b18 (hf.ev rfl)) ?_
      refine w_val trivial rfl (fun a w hf hs => r_move (hf.ev rfl)) ?_
      refine w_not (Nwt.of rfl rfl rfl) rfl ?_
      refine w_not (Nwt.of rfl rfl rfl) rfl ?_
      refine w_not (Nwt.of rfl rfl rfl) rfl ?_
      refine w_not (Nwt.of rfl rfl rfl) rfl ?_
      refine w_val trivial rfl (fun a w hf hs => r_pickT (hf.ev rfl) rfl (hf.ev rfl)) ?_
      refine w_val trivial rfl (fun a w hf hs => r_move (hf.ev rfl)) ?_
      refine w_not (Nwt.of rfl rfl rfl) rfl ?_
      refine w_not (Nwt.of rfl rfl rfl) rfl ?_
      refine w_not (Nwt.of rfl rfl rfl) rfl ?_
      refine w_not (Nwt.of rfl rfl rfl) rfl ?_
      refine w_val trivial rfl (fun a w hf hs => r_pickT (hf.ev rfl) rfl (hf.ev rfl)) ?_
      refine w_val trivial rfl (fun a w hf hs => r_move (hf.ev rfl)) ?_
      refine w_not (Nwt.of rfl rfl rfl) rfl ?_
      refine w_not (Nwt.of rfl rfl rfl) rfl ?_
      refine w_not (Nwt.of rfl rfl rfl) rfl ?_
      refine w_not (Nwt.of rfl rfl rfl) rfl ?_
      refine w_val trivial rfl (fun a w hf hs => r_pickT (hf.ev rfl) rfl (hf.ev rfl)) ?_
      refine w_val trivial rfl (fun a w hf hs => r_move (hf.ev rfl)) ?_
      refine w_not (Nwt.of rfl rfl rfl) rfl ?_
      refine w_not (Nwt.of rfl rfl rfl) rfl ?_
      refine w_not (Nwt.of rfl rfl rfl) rfl ?_
      refine w_not (Nwt.of rfl rfl rfl) rfl ?_
      refine w_val trivial rfl (fun a w hf hs => r_pickT (hf.ev rfl) rfl (hf.ev rfl)) ?_
      refine w_val trivial rfl (fun a w hf hs => r_move (hf.ev rfl)) ?_
      refine w_not (Nwt.of rfl rfl rfl) rfl ?_
      refine w_not (Nwt.of rfl rfl rfl) rfl ?_
      refine w_not (Nwt.of rfl rfl rfl) rfl ?_
      refine w_not (Nwt.of rfl rfl rfl) rfl ?_
      refine w_val trivial rfl (fun a w hf hs => r_pickT (hf.ev rfl) rfl (hf.ev rfl)) ?_
      obtain rfl := some_r H
      refine w_nil ?_
      intro a w' hf hs
      exact ⟨_, l15, ((hf.nil.add (hf.get _ _ rfl)).add (hf.get _ _ rfl)), hs.sel [] (by decide) rfl⟩
    · replace b18 := Bool.eq_false_iff.2 b18
      replace H := if_f b18 H
      refine w_val (Wnt.of rfl rfl b18) rfl (fun a w hf hs => r_fa fa28_2 (hf.ev rfl)) ?_
      refine w_val (Wnt.of rfl rfl b18) rfl (fun a w hf hs => r_load1 ta3 (hf.ev rfl) (hs.sub _ _ h7) (Backup.g17 _ _)) ?_
      obtain ⟨t19, e24, H⟩ := bnd H
      refine w_call cf33 (Wnt.of rfl rfl b18) rfl rfl (fun w hs => ref36_within.calls hs p0.Number (2147483647 : Int) _ e24) ?_
      rintro _ M21 l22 rfl
      replace h2 := h2.mono l22
      replace h7 := l22 _ _ h7
      refine w_val (Wnt.of rfl rfl b18) rfl (fun a w hf hs => r_not (hf.ev rfl)) ?_
      refine w_val trivial rfl (fun a w hf hs => r_pickF (hf.ev rfl) b18 (hf.ev rfl)) ?_
      refine w_val trivial rfl (fun a w hf hs => r_move (hf.ev rfl)) ?_
      by_cases b25 : (!t19) = true
      · replace H := if_t b25 H
        refine w_not (Nwt.of rfl rfl b25) rfl ?_
        refine w_not (Nwt.of rfl rfl b25) rfl ?_
        refine w_not (Nwt.of rfl rfl b25) rfl ?_
        refine w_not (Nwt.of rfl rfl b25) rfl ?_
        refine w_val trivial rfl (fun a w hf hs => r_pickT (hf.ev rfl) b25 (hf.ev rfl)) ?_
        refine w_val trivial rfl (fun a w hf hs => r_move (hf.ev rfl)) ?_
        refine w_not (Nwt.of rfl rfl rfl) rfl ?_
        refine w_not (Nwt.of rfl rfl rfl) rfl ?_
        refine w_not (Nwt.of rfl rfl rfl) rfl ?_
        refine w_not (Nwt.of rfl rfl rfl) rfl ?_
        refine w_val trivial rfl (fun a w hf hs => r_pickT (hf.ev rfl) rfl (hf.ev rfl)) ?_
        refine w_val trivial rfl (fun a w hf hs => r_move (hf.ev rfl)) ?_
        refine w_not (Nwt.of rfl rfl rfl) rfl ?_
        refine w_not (Nwt.of rfl rfl rfl) rfl ?_
        refine w_not (Nwt.of rfl rfl rfl) rfl ?_
        refine w_not (Nwt.of rfl rfl rfl) rfl ?_
        refine w_val trivial rfl (fun a w hf hs => r_pickT (hf.ev rfl) rfl (hf.ev rfl)) ?_
        refine w_val trivial rfl (fun a w hf hs => r_move (hf.ev rfl)) ?_
        refine w_not (Nwt.of rfl rfl rfl) rfl ?_
        refine w_not (Nwt.of rfl rfl rfl) rfl ?_
        refine w_not (Nwt.of rfl rfl rfl) rfl ?_
        refine w_not (Nwt.of rfl rfl rfl) rfl ?_
        refine w_val trivial rfl (fun a w hf hs => r_pickT (hf.ev rfl) rfl (hf.ev rfl)) ?_
        refine w_val trivial rfl (fun a w hf hs => r_move (hf.ev rfl)) ?_
        refine w_not (Nwt.of rfl rfl rfl) rfl ?_
        refine w_not (Nwt.of rfl rfl rfl) rfl ?_
        refine w_not (Nwt.of rfl rfl rfl) rfl ?_
        refine w_not (Nwt.of rfl rfl rfl) rfl ?_
        refine w_val trivial rfl (fun a w hf hs => r_pickT (hf.ev rfl) rfl (hf.ev rfl)) ?_
        obtain rfl := some_r H
        refine w_nil ?_
        intro a w' hf hs
        exact ⟨_, (l15.trans l22), ((hf.nil.add (hf.get _ _ rfl)).add (hf.get _ _ rfl)), hs.sel [] (by decide) rfl⟩
      · replace b25 := Bool.eq_false_iff.2 b25
        replace H := if_f b25 H
        refine w_val (Wnt.of rfl rfl b25) rfl (fun a w hf hs => r_fa fa28_3 (hf.ev rfl)) ?_
        refine w_val (Wnt.of rfl rfl b25) rfl (fun a w hf hs => r_load1 ta3 (hf.ev rfl) (hs.sub _ _ h7) (Backup.g18 _ _)) ?_
        obtain ⟨t26, e31, H⟩ := bnd H
        refine w_call cf33 (Wnt.of rfl rfl b25) rfl rfl (fun w hs => ref36_within.calls hs p0.Firmware (2147483647 : Int) _ e31) ?_
        rintro _ M28 l29 rfl
        replace h2 := h2.mono l29
        replace h7 := l29 _ _ h7
        refine w_val (Wnt.of rfl rfl b25) rfl (fun a w hf hs => r_not (hf.ev rfl)) ?_
        refine w_val trivial rfl (fun a w hf hs => r_pickF (hf.ev rfl) b25 (hf.ev rfl)) ?_
        refine w_val trivial rfl (fun a w hf hs => r_move (hf.ev rfl)) ?_
        by_cases b32 : (!t26) = true
        · replace H := if_t b32 H
          refine w_not (Nwt.of rfl rfl b32) rfl ?_
          refine w_not (Nwt.of rfl rfl b32) rfl ?_
          refine w_not (Nwt.of rfl rfl b32) rfl ?_
          refine w_not (Nwt.of rfl rfl b32) rfl ?_
          refine w_val trivial rfl (fun a w hf hs => r_pickT (hf.ev rfl) b32 (hf.ev rfl)) ?_
          refine w_val trivial rfl (fun a w hf hs => r_move (hf.ev rfl)) ?_
          refine w_not (Nwt.of rfl rfl rfl) rfl ?_
          refine w_not (Nwt.of rfl rfl rfl) rfl ?_
          refine w_not (Nwt.of rfl rfl rfl) rfl ?_
          refine w_not (Nwt.of rfl rfl rfl) rfl ?_
          refine w_val trivial rfl (fun a w hf hs => r_pickT (hf.ev rfl) rfl (hf.ev rfl)) ?_
          refine w_val trivial rfl (fun a w hf hs => r_move (hf.ev rfl)) ?_
          refine w_not (Nwt.of rfl rfl rfl) rfl ?_
          refine w_not (Nwt.of rfl rfl rfl) rfl ?_
          refine w_not (Nwt.of rfl rfl rfl) rfl ?_
          refine w_not (Nwt.of rfl rfl rfl) rfl ?_
          refine w_val trivial rfl (fun a w hf hs => r_pickT (hf.ev rfl) rfl (hf.ev rfl)) ?_
          refine w_val trivial rfl (fun a w hf hs => r_move (hf.ev rfl)) ?_
          refine w_not (Nwt.of rfl rfl rfl) rfl ?_
          refine w_not (Nwt.of rfl rfl rfl) rfl ?_
          refine w_not (Nwt.of rfl rfl rfl) rfl ?_
          refine w_not (Nwt.of rfl rfl rfl) rfl ?_
          refine w_val trivial rfl (fun a w hf hs => r_pickT (hf.ev rfl) rfl (hf.ev rfl)) ?_
          obtain rfl := some_r H
          refine w_nil ?_
          intro a w' hf hs
          exact ⟨_, (l15.trans (l22.trans l29)), ((hf.nil.add (hf.get _ _ rfl)).add (hf.get _ _ rfl)), hs.sel [] (by decide) rfl⟩
        · replace b32 := Bool.eq_false_iff.2 b32
          replace H := if_f b32 H
          refine w_val (Wnt.of rfl rfl b32) rfl (fun a w hf hs => r_fa fa28_4 (hf.ev rfl)) ?_
          refine w_val (Wnt.of rfl rfl b32) rfl (fun a w hf hs => r_load1 ta3 (hf.ev rfl) (hs.sub _ _ h7) (Backup.g19 _ _)) ?_
          obtain ⟨t33, e38, H⟩ := bnd H
          refine w_call cf33 (Wnt.of rfl rfl b32) rfl rfl (fun w hs => ref36_within.calls hs p0.Time (1099511627776 : Int) _ e38) ?_
          rintro _ M35 l36 rfl
          replace h2 := h2.mono l36
          replace h7 := l36 _ _ h7
          refine w_val (Wnt.of rfl rfl b32) rfl (fun a w hf hs => r_not (hf.ev rfl)) ?_
          refine w_val trivial rfl (fun a w hf hs => r_pickF (hf.ev rfl) b32 (hf.ev rfl)) ?_
          refine w_val trivial rfl (fun a w hf hs => r_move (hf.ev rfl)) ?_
          by_cases b39 : (!t33) = true
          · replace H := if_t b39 H
            refine w_not (Nwt.of rfl rfl b39) rfl ?_
            refine w_not (Nwt.of rfl rfl b39) rfl ?_
            refine w_not (Nwt.of rfl rfl b39) rfl ?_
            refine w_not (Nwt.of rfl rfl b39) rfl ?_
            refine w_val trivial rfl (fun a w hf hs => r_pickT (hf.ev rfl) b39 (hf.ev rfl)) ?_
            refine w_val trivial rfl (fun a w hf hs => r_move (hf.ev rfl)) ?_
            refine w_not (Nwt.of rfl rfl rfl) rfl ?_
            refine w_not (Nwt.of rfl rfl rfl) rfl ?_
            refine w_not (Nwt.of rfl rfl rfl) rfl ?_
            refine w_not (Nwt.of rfl rfl rfl) rfl ?_
            refine w_val trivial rfl (fun a w hf hs => r_pickT (hf.ev rfl) rfl (hf.ev rfl)) ?_
            refine w_val trivial rfl (fun a w hf hs => r_move (hf.ev rfl)) ?_
            refine w_not (Nwt.of rfl rfl rfl) rfl ?_
            refine w_not (Nwt.of rfl rfl rfl) rfl ?_
            refine w_not (Nwt.of rfl rfl rfl) rfl ?_
            refine w_not (Nwt.of rfl rfl rfl) rfl ?_
            refine w_val trivial rfl (fun a w hf hs => r_pickT (hf.ev rfl) rfl (hf.ev rfl)) ?_
            obtain rfl := some_r H
            refine w_nil ?_
            intro a w' hf hs
            exact ⟨_, (l15.trans (l22.trans (l29.trans l36))), ((hf.nil.add (hf.get _ _ rfl)).add (hf.get _ _ rfl)), hs.sel [] (by decide) rfl⟩
          · replace b39 := Bool.eq_false_iff.2 b39
            replace H := if_f b39 H
            refine w_val (Wnt.of rfl rfl b39) rfl (fun a w hf hs => r_fa fa28_6 (hf.ev rfl)) ?_
            refine w_val (Wnt.of rfl rfl b39) rfl (fun a w hf hs => r_load1 ta9 (hf.ev rfl) (hs.sub _ _ h7) (Backup.g36 _ _)) ?_
            refine w_val (Wnt.of rfl rfl b39) rfl (fun a w hf hs => r_slen Try.underlying9 (hf.ev rfl)) ?_
            refine w_val (Wnt.of rfl rfl b39) rfl (fun a w hf hs => r_lss (hf.ev rfl) (hf.ev rfl)) ?_
            refine w_val trivial rfl (fun a w hf hs => r_pickF (hf.ev rfl) b39 (hf.ev rfl)) ?_
            refine w_val trivial rfl (fun a w hf hs => r_move (hf.ev rfl)) ?_
            by_cases b40 : (decide ((p0.Module.length : Int) < (1 : Int))) = true
            · replace H := if_t b40 H
              refine w_not (Nwt.of rfl rfl b40) rfl ?_
              refine w_not (Nwt.of rfl rfl b40) rfl ?_
              refine w_not (Nwt.of rfl rfl b40) rfl ?_
              refine w_not (Nwt.of rfl rfl b40) rfl ?_
              refine w_val trivial rfl (fun a w hf hs => r_pickT (hf.ev rfl) b40 (hf.ev rfl)) ?_
              refine w_val trivial rfl (fun a w hf hs => r_move (hf.ev rfl)) ?_
              refine w_not (Nwt.of rfl rfl rfl) rfl ?_
              refine w_not (Nwt.of rfl rfl rfl) rfl ?_
              refine w_not (Nwt.of rfl rfl rfl) rfl ?_
              refine w_not (Nwt.of rfl rfl rfl) rfl ?_
              refine w_val trivial rfl (fun a w hf hs => r_pickT (hf.ev rfl) rfl (hf.ev rfl)) ?_
              obtain rfl := some_r H
              refine w_nil ?_
              intro a w' hf hs
              exact ⟨_, (l15.trans (l22.trans (l29.trans l36))), ((hf.nil.add (hf.get _ _ rfl)).add (hf.get _ _ rfl)), hs.sel [] (by decide) rfl⟩
            · replace b40 := Bool.eq_false_iff.2 b40
              replace H := if_f b40 H
              refine w_val (Wnt.of rfl rfl b40) rfl (fun a w hf hs => r_fa fa28_6 (hf.ev rfl)) ?_
              refine w_val (Wnt.of rfl rfl b40) rfl (fun a w hf hs => r_load1 ta9 (hf.ev rfl) (hs.sub _ _ h7) (Backup.g36 _ _)) ?_
              refine w_val (Wnt.of rfl rfl b40) rfl (fun a w hf hs => r_slen Try.underlying9 (hf.ev rfl)) ?_
              refine w_val (Wnt.of rfl rfl b40) rfl (fun a w hf hs => r_gtr (hf.ev rfl) (hf.ev rfl)) ?_
              refine w_val trivial rfl (fun a w hf hs => r_pickF (hf.ev rfl) b40 (hf.ev rfl)) ?_
              refine w_val trivial rfl (fun a w hf hs => r_move (hf.ev rfl)) ?_
              by_cases b41 : (decide ((12 : Int) < (p0.Module.length : Int))) = true
              · replace H := if_t b41 H
                refine w_not (Nwt.of rfl rfl b41) rfl ?_
                refine w_not (Nwt.of rfl rfl b41) rfl ?_
                refine w_not (Nwt.of rfl rfl b41) rfl ?_
                refine w_not (Nwt.of rfl rfl b41) rfl ?_
                refine w_val trivial rfl (fun a w hf hs => r_pickT (hf.ev rfl) b41 (hf.ev rfl)) ?_
                obtain rfl := some_r H
                refine w_nil ?_
                intro a w' hf hs
                exact ⟨_, (l15.trans (l22.trans (l29.trans l36))), ((hf.nil.add (hf.get _ _ rfl)).add (hf.get _ _ rfl)), hs.sel [] (by decide) rfl⟩
              · replace b41 := Bool.eq_false_iff.2 b41
                replace H := if_f b41 H
                refine w_val (Wnt.of rfl rfl b41) rfl (fun a w hf hs => r_fa fa28_7 (hf.ev rfl)) ?_
                refine w_val (Wnt.of rfl rfl b41) rfl (fun a w hf hs => r_load1 ta22 (hf.ev rfl) (hs.sub _ _ h7) (Backup.g37 _ _)) ?_
                refine w_val (Wnt.of rfl rfl b41) rfl (fun a w hf hs => r_lenR Try.underlying22 h2 (hf.ev rfl)) ?_
                refine w_val (Wnt.of rfl rfl b41) rfl (fun a w hf hs => r_gtr (hf.ev rfl) (hf.ev rfl)) ?_
                refine w_val trivial rfl (fun a w hf hs => r_pickF (hf.ev rfl) b41 (hf.ev rfl)) ?_
                obtain rfl := some_r H
                refine w_nil ?_
                intro a w' hf hs
                exact ⟨_, (l15.trans (l22.trans (l29.trans l36))), ((hf.nil.add (hf.get _ _ rfl)).add (hf.get _ _ rfl)), hs.sel [] (by decide) rfl⟩
  · clear H1
    rintro a w' ⟨M10, l11, hf, hs⟩
    refine c_of (c := (Cx.mk Try.prog 86 none' M w)) ?_ hf hs
    clear hf hs
    replace h2 := h2.mono l11
    replace h7 := l11 _ _ h7
    refine c_if rfl (fun b42 => ?_) (fun b42 => ?_)
    · replace H := if_t b42 H
      refine c_seq ?_
      intro K43 hK43
      refine c_reg ?_
      refine w_val trivial rfl (fun a w hf hs => r_assign (hf.ev rfl)) ?_
      refine w_nil (hK43 _ _ _ ?_)
      obtain rfl := some_r H
      refine c_ret ?_
      intro a w' hf hs
      exact hret _ (.inl rfl) a w' hf.df ⟨_, _, Res.of1 rfl (RV.t hf rfl), hs.ext, rfl⟩
    · replace H := if_f b42 H
      refine c_skip (hK8 _ _ _ ?_)
      refine c_seq ?_
      intro K44 hK44
      refine c_reg ?_
      refine w_val trivial rfl (fun a w hf hs => r_assign (hf.ev rfl)) ?_
      refine w_nil (hK44 _ _ _ ?_)
      refine c_cut (fun a' w' => ∃ (M45 : Heap), HLe M10 M45 ∧ Fr 86 [] a' ∧ St none' M w M45 (lt []) w' ∧ ref36_Valid.j1  = some r) ?_ ?_
      · refine c_seq ?_
        intro K48 hK48
        refine c_reg ?_
        refine w_val trivial rfl (fun a w hf hs => r_assign (hf.ev rfl)) ?_
        refine w_nil (hK48 _ _ _ ?_)
        refine c_block ?_
        refine c_loop (fun (s49 : (Int × Int)) a' w' => ∃ (M50 : Heap), HLe M10 M50 ∧ Fr 86 [(1, (ptr b4 0)), (3, (.int .i64 s49.1)), (4, (.int .i64 s49.2))] a' ∧ St none' M w M50 (lt []) w') ((0 : Int), (0 : Int)) H ?_ ?_
        · intro a w' hf hs
          exact ⟨_, HLe.refl _, (((hf.nil.add (hf.get _ _ rfl)).add (hf.get _ _ rfl)).add (hf.get _ _ rfl)), hs.selD [] (by decide) rfl⟩
        · clear H
          intro s49 y53 H r52 a w' hJ
          obtain ⟨M50, l51, hf, hs⟩ := hJ
          refine c_of (c := (Cx.mk Try.prog 86 none' M w)) ?_ hf hs
          unfold ref36_Valid.l2 at H
          clear hf hs
          replace h2 := h2.mono l51
          replace h7 := l51 _ _ h7
          refine c_seq ?_
          intro K54 hK54
          refine c_seq ?_
          intro K55 hK55
          refine c_reg ?_
          refine w_val trivial rfl (fun a w hf hs => r_move (hf.ev rfl)) ?_
          refine w_val trivial rfl (fun a w hf hs => r_fa fa28_7 (hf.ev rfl)) ?_
          refine w_val trivial rfl (fun a w hf hs => r_load1 ta22 (hf.ev rfl) (hs.sub _ _ h7) (Backup.g37 _ _)) ?_
          refine w_val trivial rfl (fun a w hf hs => r_lenR Try.underlying22 h2 (hf.ev rfl)) ?_
          refine w_val trivial rfl (fun a w hf hs => r_lss (hf.ev rfl) (hf.ev rfl)) ?_
          refine w_nil (hK55 _ _ _ ?_)
          refine c_if rfl (fun b56 => ?_) (fun b56 => ?_)
          · replace H := if_t b56 H
            refine c_skip (hK54 _ _ _ ?_)
            refine c_seq ?_
            intro K57 hK57
            refine c_block ?_
            refine c_seq ?_
            intro K58 hK58
            refine c_reg ?_
            refine w_val trivial rfl (fun a w hf hs => r_fa fa28_7 (hf.ev rfl)) ?_
            refine w_val trivial rfl (fun a w hf hs => r_load1 ta22 (hf.ev rfl) (hs.sub _ _ h7) (Backup.g37 _ _)) ?_
            refine w_val trivial rfl (fun a w hf hs => r_move (hf.ev rfl)) ?_
            obtain ⟨g59, H⟩ := grd_s H
            refine w_val trivial rfl (fun a w hf hs => r_iR Try.underlying22 ts30 h2 (hf.ev rfl) (hf.ev rfl) g59.1 g59.2) ?_
            refine w_val trivial rfl (fun a w hf hs => r_loadEA ta30 ts30 h2 hs.sub g59.1 g59.2 (hf.ev rfl) rfl rfl) ?_
            obtain ⟨t60, e65, H⟩ := bnd H
            refine w_call cf22 trivial rfl rfl (fun w hs => ref27_Valid.calls hs (rd p0.Keys s49.2) _ e65) ?_
            rintro _ M62 l63 rfl
            replace h2 := h2.mono l63
            replace h7 := l63 _ _ h7
            refine w_val trivial rfl (fun a w hf hs => r_assign (hf.ev rfl)) ?_
            refine w_nil (hK58 _ _ _ ?_)
            refine c_seq ?_
            intro K66 hK66
            obtain ⟨t67, H1, H⟩ := bnd H
            refine c_cut (fun a' w' => ∃ (M68 : Heap), HLe M62 M68 ∧ Fr 86 [(1, (ptr b4 0)), (4, (.int .i64 s49.2)), (79, (.bool t67))] a' ∧ St none' M w M68 (lt []) w') ?_ ?_
            · replace H := H1
              clear H1
              refine c_reg ?_
              refine w_val trivial rfl (fun a w hf hs => r_move (hf.ev rfl)) ?_
              refine w_val trivial rfl (fun a w hf hs => r_not (hf.ev rfl)) ?_
              refine w_val trivial rfl (fun a w hf hs => r_move (hf.ev rfl)) ?_
              by_cases b70 : (!t60) = true
              · replace H := if_t b70 H
                refine w_not (Nwt.of rfl rfl b70) rfl ?_
                refine w_not (Nwt.of rfl rfl b70) rfl ?_
                refine w_not (Nwt.of rfl rfl b70) rfl ?_
                refine w_not (Nwt.of rfl rfl b70) rfl ?_
                refine w_not (Nwt.of rfl rfl b70) rfl ?_
                refine w_not (Nwt.of rfl rfl b70) rfl ?_
                refine w_not (Nwt.of rfl rfl b70) rfl ?_
                refine w_not (Nwt.of rfl rfl b70) rfl ?_
                refine w_val trivial rfl (fun a w hf hs => r_pickT (hf.ev rfl) b70 (hf.ev rfl)) ?_
                refine w_val trivial rfl (fun a w hf hs => r_move (hf.ev rfl)) ?_
                refine w_not (Nwt.of rfl rfl rfl) rfl ?_
                refine w_not (Nwt.of rfl rfl rfl) rfl ?_
                refine w_not (Nwt.of rfl rfl rfl) rfl ?_
                refine w_not (Nwt.of rfl rfl rfl) rfl ?_
                refine w_not (Nwt.of rfl rfl rfl) rfl ?_
                refine w_not (Nwt.of rfl rfl rfl) rfl ?_
                refine w_not (Nwt.of rfl rfl rfl) rfl ?_
                refine w_val trivial rfl (fun a w hf hs => r_pickT (hf.ev rfl) rfl (hf.ev rfl)) ?_
                obtain rfl := some_r H
                refine w_nil ?_
                intro a w' hf hs
                exact ⟨_, (HLe.refl _), (((hf.nil.add (hf.get _ _ rfl)).add (hf.get _ _ rfl)).add (hf.get _ _ rfl)), hs.sel [] (by decide) rfl⟩
              · replace b70 := Bool.eq_false_iff.2 b70
                replace H := if_f b70 H
                refine w_val (Wnt.of rfl rfl b70) rfl (fun a w hf hs => r_fa fa28_7 (hf.ev rfl)) ?_
                refine w_val (Wnt.of rfl rfl b70) rfl (fun a w hf hs => r_load1 ta22 (hf.ev rfl) (hs.sub _ _ h7) (Backup.g37 _ _)) ?_
                refine w_val (Wnt.of rfl rfl b70) rfl (fun a w hf hs => r_move (hf.ev rfl)) ?_
                obtain ⟨g71, H⟩ := grd_s H
                refine w_val (Wnt.of rfl rfl b70) rfl (fun a w hf hs => r_iR Try.underlying22 ts30 h2 (hf.ev rfl) (hf.ev rfl) g71.1 g71.2) ?_
                refine w_val (Wnt.of rfl rfl b70) rfl (fun a w hf hs => r_faE fa30_0 h2 g71.1 g71.2 (hf.ev rfl)) ?_
                refine w_val (Wnt.of rfl rfl b70) rfl (fun a w hf hs => r_loadE1 ta3 h2 hs.sub g71.1 g71.2 (hf.ev rfl) rfl) ?_
                refine w_val (Wnt.of rfl rfl b70) rfl (fun a w hf hs => r_move (hf.ev rfl)) ?_
                refine w_val (Wnt.of rfl rfl b70) rfl (fun a w hf hs => r_leq (hf.ev rfl) (hf.ev rfl)) ?_
                refine w_val trivial rfl (fun a w hf hs => r_pickF (hf.ev rfl) b70 (hf.ev rfl)) ?_
                refine w_val trivial rfl (fun a w hf hs => r_move (hf.ev rfl)) ?_
                by_cases b72 : (decide (((rd p0.Keys s49.2).Id) ≤ s49.1)) = true
                · replace H := if_t b72 H
                  refine w_not (Nwt.of rfl rfl b72) rfl ?_
                  refine w_not (Nwt.of rfl rfl b72) rfl ?_
                  refine w_not (Nwt.of rfl rfl b72) rfl ?_
                  refine w_not (Nwt.of rfl rfl b72) rfl ?_
                  refine w_not (Nwt.of rfl rfl b72) rfl ?_
                  refine w_not (Nwt.of rfl rfl b72) rfl ?_
                  refine w_not (Nwt.of rfl rfl b72) rfl ?_
                  refine w_val trivial rfl (fun a w hf hs => r_pickT (hf.ev rfl) b72 (hf.ev rfl)) ?_
                  obtain rfl := some_r H
                  refine w_nil ?_
                  intro a w' hf hs
                  exact ⟨_, (HLe.refl _), (((hf.nil.add (hf.get _ _ rfl)).add (hf.get _ _ rfl)).add (hf.get _ _ rfl)), hs.sel [] (by decide) rfl⟩
                · replace b72 := Bool.eq_false_iff.2 b72
                  replace H := if_f b72 H
                  refine w_val (Wnt.of rfl rfl b72) rfl (fun a w hf hs => r_fa fa28_7 (hf.ev rfl)) ?_
                  refine w_val (Wnt.of rfl rfl b72) rfl (fun a w hf hs => r_load1 ta22 (hf.ev rfl) (hs.sub _ _ h7) (Backup.g37 _ _)) ?_
                  refine w_val (Wnt.of rfl rfl b72) rfl (fun a w hf hs => r_move (hf.ev rfl)) ?_
                  obtain ⟨g73, H⟩ := grd_s H
                  refine w_val (Wnt.of rfl rfl b72) rfl (fun a w hf hs => r_iR Try.underlying22 ts30 h2 (hf.ev rfl) (hf.ev rfl) g73.1 g73.2) ?_
                  refine w_val (Wnt.of rfl rfl b72) rfl (fun a w hf hs => r_faE fa30_0 h2 g73.1 g73.2 (hf.ev rfl)) ?_
                  refine w_val (Wnt.of rfl rfl b72) rfl (fun a w hf hs => r_loadE1 ta3 h2 hs.sub g73.1 g73.2 (hf.ev rfl) rfl) ?_
                  refine w_val (Wnt.of rfl rfl b72) rfl (fun a w hf hs => r_gtr (hf.ev rfl) (hf.ev rfl)) ?_
                  refine w_val trivial rfl (fun a w hf hs => r_pickF (hf.ev rfl) b72 (hf.ev rfl)) ?_
                  obtain rfl := some_r H
                  refine w_nil ?_
                  intro a w' hf hs
                  exact ⟨_, (HLe.refl _), (((hf.nil.add (hf.get _ _ rfl)).add (hf.get _ _ rfl)).add (hf.get _ _ rfl)), hs.sel [] (by decide) rfl⟩
            · clear H1
              rintro a w' ⟨M68, l69, hf, hs⟩
              refine c_of (c := (Cx.mk Try.prog 86 none' M w)) ?_ hf hs
              clear hf hs
              replace h2 := h2.mono l69
              replace h7 := l69 _ _ h7
              refine c_if rfl (fun b74 => ?_) (fun b74 => ?_)
              · replace H := if_t b74 H
                refine c_seq ?_
                intro K75 hK75
                refine c_reg ?_
                refine w_val trivial rfl (fun a w hf hs => r_assign (hf.ev rfl)) ?_
                refine w_nil (hK75 _ _ _ ?_)
                obtain rfl := (r52 _ (Option.some.inj H).symm)
                refine c_ret ?_
                intro a w' hf hs
                exact hret _ (.inl rfl) a w' hf.df ⟨_, _, Res.of1 rfl (RV.t hf rfl), hs.ext, rfl⟩
              · replace H := if_f b74 H
                refine c_skip (hK66 _ _ _ ?_)
                refine c_reg ?_
                refine w_val trivial rfl (fun a w hf hs => r_fa fa28_7 (hf.ev rfl)) ?_
                refine w_val trivial rfl (fun a w hf hs => r_load1 ta22 (hf.ev rfl) (hs.sub _ _ h7) (Backup.g37 _ _)) ?_
                refine w_val trivial rfl (fun a w hf hs => r_move (hf.ev rfl)) ?_
                obtain ⟨g76, H⟩ := grd_s H
                refine w_val trivial rfl (fun a w hf hs => r_iR Try.underlying22 ts30 h2 (hf.ev rfl) (hf.ev rfl) g76.1 g76.2) ?_
                refine w_val trivial rfl (fun a w hf hs => r_faE fa30_0 h2 g76.1 g76.2 (hf.ev rfl)) ?_
                refine w_val trivial rfl (fun a w hf hs => r_loadE1 ta3 h2 hs.sub g76.1 g76.2 (hf.ev rfl) rfl) ?_
                refine w_val trivial rfl (fun a w hf hs => r_assign (hf.ev rfl)) ?_
                refine w_nil (hK57 _ _ _ ?_)
                refine c_reg ?_
                refine w_val trivial rfl (fun a w hf hs => r_move (hf.ev rfl)) ?_
                refine w_val trivial rfl (fun a w hf hs => r_add (hf.ev rfl) (hf.ev rfl)) ?_
                refine w_val trivial rfl (fun a w hf hs => r_assign (hf.ev rfl)) ?_
                refine w_nil ?_
                intro a w' hf hs
                exact ⟨_, (some_r H).symm, _, l51.trans (l63.trans l69), (((hf.nil.add (hf.get _ _ rfl)).add (hf.get _ _ rfl)).add (hf.get _ _ rfl)), hs.selD [] (by decide) rfl⟩
          · replace H := if_f b56 H
            replace H := map_inr H r52
            refine c_exit ?_
            intro a w' hf hs
            exact ⟨_, l51, hf.nil, hs.selD [] (by decide) rfl, H⟩
      · rintro a w' ⟨M45, l46, hf, hs, H⟩
        refine c_of (c := (Cx.mk Try.prog 86 none' M w)) ?_ hf hs
        unfold ref36_Valid.j1 at H
        clear hf hs
        replace h2 := h2.mono l46
        replace h7 := l46 _ _ h7
        refine c_seq ?_
        intro K47 hK47
        refine c_reg ?_
        refine w_val trivial rfl (fun a w hf hs => r_assign (hf.ev rfl)) ?_
        refine w_nil (hK47 _ _ _ ?_)
        obtain rfl := some_r H
        refine c_ret ?_
        intro a w' hf hs
        exact hret _ (.inl rfl) a w' hf.df ⟨_, _, Res.of1 rfl (RV.t hf rfl), hs.ext, rfl⟩
set_option maxRecDepth 20000 in
theorem ref37_alike.calls {M : Heap} {w : World} (hM : Sub M w) (p0 : Key) (p1 : Key) (r : Bool) (H : ref37_alike p0 p1 = some r) :
    Calls Try.prog 30 [(.agg (Key.C p0).toArray), (.agg (Key.C p1).toArray)].toArray w (Post M w fun M' v => v = (.bool r)) := by
  refine enter 14 [(0, (.agg (Key.C p0).toArray)), (1, (.agg (Key.C p1).toArray))] Try.func30 rfl rfl rfl hM ?_
  intro Q hret
  unfold ref37_alike at H
  refine c_seq ?_
  intro K1 hK1
  refine c_reg ?_
  refine w_boxL trivial rfl rfl rfl ?_
  intro b2
  refine w_boxM trivial rfl rfl rfl ?_
  intro b3 M4 l5 h6
  refine w_val trivial rfl (fun a w hf hs => r_assign (hf.ev rfl)) ?_
  refine w_nil (hK1 _ _ _ ?_)
  refine c_seq ?_
  intro K7 hK7
  refine c_reg ?_
  refine w_val trivial rfl (fun a w hf hs => r_fa fa30_0 (hf.ev rfl)) ?_
  refine w_val trivial rfl (fun a w hf hs => r_load1 ta3 (hf.ev rfl) (hs.sub _ _ h6) rfl) ?_
  refine w_val trivial rfl (fun a w hf hs => r_fa fa30_0 (hf.ev rfl)) ?_
  refine w_store (i := 0) (vs := [(.int .i64 p1.Id)]) (A' := Key.C ({ p0 with Id := p1.Id } : Key)) trivial rfl rfl rfl rfl ts3 rfl (one1 rfl) (Nat.le_of_ble_eq_true rfl) rfl ?_
  refine w_nil (hK7 _ _ _ ?_)
  refine c_seq ?_
  intro K8 hK8
  refine c_reg ?_
  refine w_val trivial rfl (fun a w hf hs => r_fa fa30_7 (hf.ev rfl)) ?_
  refine w_val trivial rfl (fun a w hf hs => r_load1 ta3 (hf.ev rfl) (hs.sub _ _ h6) rfl) ?_
  refine w_val trivial rfl (fun a w hf hs => r_fa fa30_7 (hf.ev rfl)) ?_
  refine w_store (i := 0) (vs := [(.int .i64 p1.Parent)]) (A' := Key.C ({ ({ p0 with Id := p1.Id } : Key) with Parent := p1.Parent } : Key)) trivial rfl rfl rfl rfl ts3 rfl (one1 rfl) (Nat.le_of_ble_eq_true rfl) rfl ?_
  refine w_nil (hK8 _ _ _ ?_)
  refine c_seq ?_
  intro K9 hK9
  refine c_reg ?_
  refine w_val trivial rfl (fun a w hf hs => r_loadA ta30 ts30 (hf.ev rfl) (hs.blk (i := 0) rfl) rfl rfl) ?_
  refine w_val trivial rfl (fun a w hf hs => r_loadA ta30 ts30 (hf.ev rfl) (hs.sub _ _ h6) rfl rfl) ?_
  refine w_val trivial rfl (fun a w hf hs => r_eqS eq30 (hf.ev rfl) (hf.ev rfl)) ?_
  refine w_val trivial rfl (fun a w hf hs => r_assign (hf.ev rfl)) ?_
  refine w_nil (hK9 _ _ _ ?_)
  obtain rfl := some_r H
  refine c_ret ?_
  intro a w' hf hs
  exact hret _ (.inl rfl) a w' hf.df ⟨_, _, Res.of1 rfl (RV.t hf rfl), hs.ext, rfl⟩
set_option maxRecDepth 20000 in
theorem ref37_Twin.calls {M : Heap} {w : World} (hM : Sub M w) (p0 : Table) (v1 : Value) (h2 : RS Key.F M v1 p0.Keys) (p1 : Key) (r : (Int × Bool)) (H : ref37_Twin p0 p1 = some r) :
    Calls Try.prog 13 [(.agg (Table.C p0 v1).toArray), (.agg (Key.C p1).toArray)].toArray w (Post M w fun M' v => v = .tuple #[(.int .i64 r.1), (.bool r.2)]) := by
  refine enter 27 [(0, (.agg (Table.C p0 v1).toArray)), (1, (.agg (Key.C p1).toArray))] Try.func13 rfl rfl rfl hM ?_
  intro Q hret
  unfold ref37_Twin at H
  refine c_seq ?_
  intro K3 hK3
  refine c_reg ?_
  refine w_boxM trivial rfl rfl rfl ?_
  intro b4 M5 l6 h7
  replace h2 := h2.mono l6
  refine w_boxM trivial rfl rfl rfl ?_
  intro b8 M9 l10 h11
  replace h2 := h2.mono l10
  replace h7 := l10 _ _ h7
  refine w_val trivial rfl (fun a w hf hs => r_assign (hf.ev rfl)) ?_
  refine w_val trivial rfl (fun a w hf hs => r_assign (hf.ev rfl)) ?_
  refine w_nil (hK3 _ _ _ ?_)
  refine c_cut (fun a' w' => ∃ (M12 : Heap), HLe M9 M12 ∧ Fr 27 [] a' ∧ St none' M w M12 (lt []) w' ∧ ref37_Twin.j1  = some r) ?_ ?_
  · refine c_seq ?_
    intro K15 hK15
    refine c_reg ?_
    refine w_val trivial rfl (fun a w hf hs => r_assign (hf.ev rfl)) ?_
    refine w_nil (hK15 _ _ _ ?_)
    refine c_block ?_
    refine c_loop (fun (s16 : Int) a' w' => ∃ (M17 : Heap), HLe M9 M17 ∧ Fr 27 [(2, (ptr b4 0)), (3, (ptr b8 0)), (6, (.int .i64 s16))] a' ∧ St none' M w M17 (lt []) w') (0 : Int) H ?_ ?_
    · intro a w' hf hs
      exact ⟨_, HLe.refl _, (((hf.nil.add (hf.get _ _ rfl)).add (hf.get _ _ rfl)).add (hf.get _ _ rfl)), hs.selD [] (by decide) rfl⟩
    · clear H
      intro s16 y20 H r19 a w' hJ
      obtain ⟨M17, l18, hf, hs⟩ := hJ
      refine c_of (c := (Cx.mk Try.prog 27 none' M w)) ?_ hf hs
      unfold ref37_Twin.l2 at H
      clear hf hs
      replace h2 := h2.mono l18
      replace h7 := l18 _ _ h7
      replace h11 := l18 _ _ h11
      refine c_seq ?_
      intro K21 hK21
      refine c_seq ?_
      intro K22 hK22
      refine c_reg ?_
      refine w_val trivial rfl (fun a w hf hs => r_move (hf.ev rfl)) ?_
      refine w_val trivial rfl (fun a w hf hs => r_fa fa24_1 (hf.ev rfl)) ?_
      refine w_val trivial rfl (fun a w hf hs => r_load1 ta22 (hf.ev rfl) (hs.sub _ _ h7) rfl) ?_
      refine w_val trivial rfl (fun a w hf hs => r_lenR Try.underlying22 h2 (hf.ev rfl)) ?_
      refine w_val trivial rfl (fun a w hf hs => r_lss (hf.ev rfl) (hf.ev rfl)) ?_
      refine w_nil (hK22 _ _ _ ?_)
      refine c_if rfl (fun b23 => ?_) (fun b23 => ?_)
      · replace H := if_t b23 H
        refine c_skip (hK21 _ _ _ ?_)
        refine c_seq ?_
        intro K24 hK24
        refine c_block ?_
        refine c_seq ?_
        intro K25 hK25
        obtain ⟨g37, H⟩ := grd_s H
        obtain ⟨t47, e52, H⟩ := bnd H
        refine c_drawP [([], [2]), ([(0, 14)], []), ([], [6]), ([(1, 15), (2, 16)], []), ([(3, 17)], []), ([], [3]), ([(4, 18), (5, 19)], [])] [fun v M => v = (ptr b4 1), fun v M => v = v1, fun v M => v = (.int .i64 s16), fun v M => v = (eP v1 s16 9 0), fun v M => v = (.agg (Key.C (rd p0.Keys s16)).toArray), fun v M => v = (.agg (Key.C p1).toArray), fun v M => v = (.bool t47)] (by kernel_rfl) (by kernel_rfl) ?_ (AllT.cons ?_ (AllT.cons ?_ (AllT.cons ?_ (AllT.cons ?_ (AllT.cons ?_ (AllT.cons ?_ (AllT.cons ?_ AllT.nil))))))) ?_
        · exact (MonoA.cons (fun _ _ _ _ h => h) (MonoA.cons (fun _ _ _ _ h => h) (MonoA.cons (fun _ _ _ _ h => h) (MonoA.cons (fun _ _ _ _ h => h) (MonoA.cons (fun _ _ _ _ h => h) (MonoA.cons (fun _ _ _ _ h => h) (MonoA.cons (fun _ _ _ _ h => h) MonoA.nil)))))))
        · intro a w' M26 l27 hd hs
          replace h7 := l27 _ _ h7
          replace h2 := h2.mono l27
          refine OP.ofW (l := [(2, (ptr b4 0))]) (hd.fr.add (hd.base 2 _ rfl rfl)) hs rfl ?_
          refine w_val trivial rfl (fun a w hf hs => r_fa fa24_1 (hf.ev rfl)) ?_
          refine w_nil ?_
          intro a w' hf hs
          exact ⟨rfl, hf.df, _, (HLe.refl _), hs, hf.get _ _ rfl⟩
        · intro a w' M28 l29 hd hs
          have e30 := hd.val 0 14 _ rfl rfl
          replace h7 := l29 _ _ h7
          replace h2 := h2.mono l29
          refine OP.ofW (l := [(14, (ptr b4 1))]) (hd.fr.add e30) hs rfl ?_
          refine w_val trivial rfl (fun a w hf hs => r_load1 ta22 (hf.ev rfl) (hs.sub _ _ h7) rfl) ?_
          refine w_nil ?_
          intro a w' hf hs
          exact ⟨rfl, hf.df, _, (HLe.refl _), hs, hf.get _ _ rfl⟩
        · intro a w' M31 l32 hd hs
          refine OP.ofW (l := [(6, (.int .i64 s16))]) (hd.fr.add (hd.base 6 _ rfl rfl)) hs rfl ?_
          refine w_val trivial rfl (fun a w hf hs => r_move (hf.ev rfl)) ?_
          refine w_nil ?_
          intro a w' hf hs
          exact ⟨rfl, hf.df, _, (HLe.refl _), hs, hf.get _ _ rfl⟩
        · intro a w' M33 l34 hd hs
          have e35 := hd.val 1 15 _ rfl rfl
          replace h2 := h2.mono l34
          have e36 := hd.val 2 16 _ rfl rfl
          refine OP.ofW (l := [(15, v1), (16, (.int .i64 s16))]) ((hd.fr.add e36).add e35) hs rfl ?_
          refine w_val trivial rfl (fun a w hf hs => r_iR Try.underlying22 ts30 h2 (hf.ev rfl) (hf.ev rfl) g37.1 g37.2) ?_
          refine w_nil ?_
          intro a w' hf hs
          exact ⟨rfl, hf.df, _, (HLe.refl _), hs, hf.get _ _ rfl⟩
        · intro a w' M38 l39 hd hs
          have e40 := hd.val 3 17 _ rfl rfl
          replace h2 := h2.mono l39
          refine OP.ofW (l := [(17, (eP v1 s16 9 0))]) (hd.fr.add e40) hs rfl ?_
          refine w_val trivial rfl (fun a w hf hs => r_loadEA ta30 ts30 h2 hs.sub g37.1 g37.2 (hf.ev rfl) rfl rfl) ?_
          refine w_nil ?_
          intro a w' hf hs
          exact ⟨rfl, hf.df, _, (HLe.refl _), hs, hf.get _ _ rfl⟩
        · intro a w' M41 l42 hd hs
          replace h11 := l42 _ _ h11
          refine OP.ofW (l := [(3, (ptr b8 0))]) (hd.fr.add (hd.base 3 _ rfl rfl)) hs rfl ?_
          refine w_val trivial rfl (fun a w hf hs => r_loadA ta30 ts30 (hf.ev rfl) (hs.sub _ _ h11) rfl rfl) ?_
          refine w_nil ?_
          intro a w' hf hs
          exact ⟨rfl, hf.df, _, (HLe.refl _), hs, hf.get _ _ rfl⟩
        · intro a w' M43 l44 hd hs
          have e45 := hd.val 4 18 _ rfl rfl
          have e46 := hd.val 5 19 _ rfl rfl
          refine OP.ofW (l := [(18, (.agg (Key.C (rd p0.Keys s16)).toArray)), (19, (.agg (Key.C p1).toArray))]) ((hd.fr.add e46).add e45) hs rfl ?_
          refine w_call cf30 trivial rfl rfl (fun w hs => ref37_alike.calls hs (rd p0.Keys s16) p1 _ e52) ?_
          rintro _ M49 l50 rfl
          refine w_nil ?_
          intro a w' hf hs
          exact ⟨rfl, hf.df, _, l50, hs, hf.get _ _ rfl⟩
        intro a w' M53 l54 hdf hsz hb hv hs
        replace h2 := h2.mono l54
        replace h7 := l54 _ _ h7
        replace h11 := l54 _ _ h11
        have e55 := hv 6 20 _ rfl rfl
        refine n_of (c := (Cx.mk Try.prog 27 none' M w)) (l := [(2, (ptr b4 0)), (3, (ptr b8 0)), (6, (.int .i64 s16)), (20, (.bool t47))]) ?_ (((((Fr.start hdf hsz).add e55).add (hb 6 _ rfl rfl)).add (hb 3 _ rfl rfl)).add (hb 2 _ rfl rfl)) hs
        clear hdf hsz hb hv hs e55
        refine n_id (hK25 _ _ _ ?_)
        refine c_if rfl (fun b56 => ?_) (fun b56 => ?_)
        · replace H := if_t b56 H
          refine c_seq ?_
          intro K57 hK57
          refine c_reg ?_
          refine w_val trivial rfl (fun a w hf hs => r_fa fa24_1 (hf.ev rfl)) ?_
          refine w_val trivial rfl (fun a w hf hs => r_load1 ta22 (hf.ev rfl) (hs.sub _ _ h7) rfl) ?_
          refine w_val trivial rfl (fun a w hf hs => r_move (hf.ev rfl)) ?_
          obtain ⟨g58, H⟩ := grd_s H
          refine w_val trivial rfl (fun a w hf hs => r_iR Try.underlying22 ts30 h2 (hf.ev rfl) (hf.ev rfl) g58.1 g58.2) ?_
          refine w_val trivial rfl (fun a w hf hs => r_faE fa30_0 h2 g58.1 g58.2 (hf.ev rfl)) ?_
          refine w_val trivial rfl (fun a w hf hs => r_loadE1 ta3 h2 hs.sub g58.1 g58.2 (hf.ev rfl) rfl) ?_
          refine w_val trivial rfl (fun a w hf hs => r_assign (hf.ev rfl)) ?_
          refine w_val trivial rfl (fun a w hf hs => r_assign (hf.ev rfl)) ?_
          refine w_nil (hK57 _ _ _ ?_)
          obtain rfl := (r19 _ (Option.some.inj H).symm)
          refine c_ret ?_
          intro a w' hf hs
          exact hret _ (.inl rfl) a w' hf.df ⟨_, _, Res.of2 rfl (RV.t hf rfl) (RV.t hf rfl), hs.ext, rfl⟩
        · replace H := if_f b56 H
          refine c_skip (hK24 _ _ _ ?_)
          refine c_reg ?_
          refine w_val trivial rfl (fun a w hf hs => r_move (hf.ev rfl)) ?_
          refine w_val trivial rfl (fun a w hf hs => r_add (hf.ev rfl) (hf.ev rfl)) ?_
          refine w_val trivial rfl (fun a w hf hs => r_assign (hf.ev rfl)) ?_
          refine w_nil ?_
          intro a w' hf hs
          exact ⟨_, (some_r H).symm, _, l18.trans l54, (((hf.nil.add (hf.get _ _ rfl)).add (hf.get _ _ rfl)).add (hf.get _ _ rfl)), hs.selD [] (by decide) rfl⟩
      · replace H := if_f b23 H
        replace H := map_inr H r19
        refine c_exit ?_
        intro a w' hf hs
        exact ⟨_, l18, hf.nil, hs.selD [] (by decide) rfl, H⟩
  · rintro a w' ⟨M12, l13, hf, hs, H⟩
    refine c_of (c := (Cx.mk Try.prog 27 none' M w)) ?_ hf hs
    unfold ref37_Twin.j1 at H
    clear hf hs
    replace h2 := h2.mono l13
    replace h7 := l13 _ _ h7
    replace h11 := l13 _ _ h11
    refine c_seq ?_
    intro K14 hK14
    refine c_reg ?_
    refine w_val trivial rfl (fun a w hf hs => r_assign (hf.ev rfl)) ?_
    refine w_val trivial rfl (fun a w hf hs => r_assign (hf.ev rfl)) ?_
    refine w_nil (hK14 _ _ _ ?_)
    obtain rfl := some_r H
    refine c_ret ?_
    intro a w' hf hs
    exact hret _ (.inl rfl) a w' hf.df ⟨_, _, Res.of2 rfl (RV.t hf rfl) (RV.t hf rfl), hs.ext, rfl⟩
set_option maxRecDepth 20000 in
theorem ref27_Add.calls {M : Heap} {w : World} (hM : Sub M w) (p0 : Table) (v1 : Value) (h2 : RS Key.F M v1 p0.Keys) (p1 : Key) (r : ref27_Added) (H : ref27_Add p0 p1 = some r) :
    Calls Try.prog 27 [(.agg (Table.C p0 v1).toArray), (.agg (Key.C p1).toArray)].toArray w (Post M w fun M' v => ∃ v96, v = (.agg (ref27_Added.C r v96).toArray) ∧ RS Key.F M' v96 r.T.Keys) := by
  refine enter 47 [(0, (.agg (Table.C p0 v1).toArray)), (1, (.agg (Key.C p1).toArray))] Try.func27 rfl rfl rfl hM ?_
  intro Q hret
  unfold ref27_Add at H
  refine c_seq ?_
  intro K3 hK3
  refine c_reg ?_
  refine w_boxM trivial rfl rfl rfl ?_
  intro b4 M5 l6 h7
  replace h2 := h2.mono l6
  refine w_boxL trivial rfl rfl rfl ?_
  intro b8
  refine w_allocL (A := ref27_Added.C (⟨(⟨(0 : Int), ([] : (List Key))⟩ : Table), (0 : Int), (0 : Int)⟩ : ref27_Added) (.slice none 0 0)) tz66 trivial rfl rfl ?_
  intro b9
  refine w_nil (hK3 _ _ _ ?_)
  refine c_seq ?_
  intro K10 hK10
  refine c_reg ?_
  refine w_val trivial rfl (fun a w hf hs => r_loadA ta30 ts30 (hf.ev rfl) (hs.blk (i := 0) rfl) rfl rfl) ?_
  obtain ⟨t11, e16, H⟩ := bnd H
  refine w_call cf22 trivial rfl rfl (fun w hs => ref27_Valid.calls hs p1 _ e16) ?_
  rintro _ M13 l14 rfl
  replace h2 := h2.mono l14
  replace h7 := l14 _ _ h7
  refine w_val trivial rfl (fun a w hf hs => r_assign (hf.ev rfl)) ?_
  refine w_nil (hK10 _ _ _ ?_)
  refine c_seq ?_
  intro K17 hK17
  obtain ⟨t18, H1, H⟩ := bnd H
  refine c_cut (fun a' w' => ∃ (M19 : Heap), HLe M13 M19 ∧ Fr 47 [(2, (ptr b4 0)), (3, (ptr b8 0)), (4, (ptr b9 0)), (17, (.bool t18))] a' ∧ St none' M w M19 (lt [.blk b8 (.cells (Key.C p1).toArray 30 (0, 0)), .blk b9 (.cells (ref27_Added.C (⟨(⟨(0 : Int), ([] : (List Key))⟩ : Table), (0 : Int), (0 : Int)⟩ : ref27_Added) (.slice none 0 0)).toArray 66 (0, 0))]) w') ?_ ?_
  · replace H := H1
    clear H1
    refine c_reg ?_
    refine w_val trivial rfl (fun a w hf hs => r_move (hf.ev rfl)) ?_
    refine w_val trivial rfl (fun a w hf hs => r_not (hf.ev rfl)) ?_
    refine w_val trivial rfl (fun a w hf hs => r_move (hf.ev rfl)) ?_
    by_cases b21 : (!t11) = true
    · replace H := if_t b21 H
      refine w_not (Nwt.of rfl rfl b21) rfl ?_
      refine w_not (Nwt.of rfl rfl b21) rfl ?_
      refine w_not (Nwt.of rfl rfl b21) rfl ?_
      refine w_not (Nwt.of rfl rfl b21) rfl ?_
      refine w_not (Nwt.of rfl rfl b21) rfl ?_
      refine w_val trivial rfl (fun a w hf hs => r_pickT (hf.ev rfl) b21 (hf.ev rfl)) ?_
      obtain rfl := some_r H
      refine w_nil ?_
      intro a w' hf hs
      exact ⟨_, (HLe.refl _), ((((hf.nil.add (hf.get _ _ rfl)).add (hf.get _ _ rfl)).add (hf.get _ _ rfl)).add (hf.get _ _ rfl)), hs.sel [0, 1] (by decide) rfl⟩
    · replace b21 := Bool.eq_false_iff.2 b21
      replace H := if_f b21 H
      refine w_val (Wnt.of rfl rfl b21) rfl (fun a w hf hs => r_fa fa30_7 (hf.ev rfl)) ?_
      refine w_val (Wnt.of rfl rfl b21) rfl (fun a w hf hs => r_load1 ta3 (hf.ev rfl) (hs.blk (i := 0) rfl) rfl) ?_
      refine w_val (Wnt.of rfl rfl b21) rfl (fun a w hf hs => r_fa fa24_0 (hf.ev rfl)) ?_
      refine w_val (Wnt.of rfl rfl b21) rfl (fun a w hf hs => r_load1 ta3 (hf.ev rfl) (hs.sub _ _ h7) rfl) ?_
      refine w_val (Wnt.of rfl rfl b21) rfl (fun a w hf hs => r_geq (hf.ev rfl) (hf.ev rfl)) ?_
      refine w_val trivial rfl (fun a w hf hs => r_pickF (hf.ev rfl) b21 (hf.ev rfl)) ?_
      obtain rfl := some_r H
      refine w_nil ?_
      intro a w' hf hs
      exact ⟨_, (HLe.refl _), ((((hf.nil.add (hf.get _ _ rfl)).add (hf.get _ _ rfl)).add (hf.get _ _ rfl)).add (hf.get _ _ rfl)), hs.sel [0, 1] (by decide) rfl⟩
  · clear H1
    rintro a w' ⟨M19, l20, hf, hs⟩
    refine c_of (c := (Cx.mk Try.prog 47 none' M w)) ?_ hf hs
    clear hf hs
    replace h2 := h2.mono l20
    replace h7 := l20 _ _ h7
    refine c_if rfl (fun b22 => ?_) (fun b22 => ?_)
    · replace H := if_t b22 H
      refine c_seq ?_
      intro K23 hK23
      refine c_reg ?_
      refine w_val trivial rfl (fun a w hf hs => r_build (is := [2]) (xs := [.const (.int .i64 (1 : Int))]) (vs := [(.int .i64 (1 : Int))]) (A := ref27_Added.C (⟨(⟨(0 : Int), ([] : (List Key))⟩ : Table), (0 : Int), (1 : Int)⟩ : ref27_Added) (.slice none 0 0)) rfl (hf.evs rfl) (built_of (pl := [(0, 2), (2, 1), (3, 1)]) (A0 := ref27_Added.C (⟨(⟨(0 : Int), ([] : (List Key))⟩ : Table), (0 : Int), (0 : Int)⟩ : ref27_Added) (.slice none 0 0)) tz66 Try.underlying66 (by kernel_rfl) rfl (.cons (vs := [(.int .i64 (1 : Int))]) (B := ref27_Added.C (⟨(⟨(0 : Int), ([] : (List Key))⟩ : Table), (0 : Int), (1 : Int)⟩ : ref27_Added) (.slice none 0 0)) rfl rfl rfl (by rw [ref27_Added.len]; decide) rfl .nil))) ?_
      refine w_store (i := 1) (vs := ref27_Added.C (⟨(⟨(0 : Int), ([] : (List Key))⟩ : Table), (0 : Int), (1 : Int)⟩ : ref27_Added) (.slice none 0 0)) (A' := ref27_Added.C (⟨(⟨(0 : Int), ([] : (List Key))⟩ : Table), (0 : Int), (1 : Int)⟩ : ref27_Added) (.slice none 0 0)) trivial rfl rfl rfl rfl ts66 rfl (ref27_Added.C_one _ rfl) (Nat.le_of_ble_eq_true rfl) rfl ?_
      refine w_nil (hK23 _ _ _ ?_)
      obtain rfl := some_r H
      refine c_ret ?_
      intro a w' hf hs
      exact hret _ (.inl rfl) a w' hf.df ⟨_, _, Res.of1 rfl ⟨_, hf.get _ _ rfl, run_loadA (hs.blk (i := 1) rfl) ta66 ts66 rfl rfl⟩, hs.ext, ⟨_, rfl, RS.none⟩⟩
    · replace H := if_f b22 H
      refine c_skip (hK17 _ _ _ ?_)
      refine c_seq ?_
      intro K24 hK24
      obtain ⟨t25, H1, H⟩ := bnd H
      refine c_cut (fun a' w' => ∃ (M26 : Heap), HLe M19 M26 ∧ Fr 47 [(2, (ptr b4 0)), (3, (ptr b8 0)), (4, (ptr b9 0)), (27, (.bool t25))] a' ∧ St none' M w M26 (lt [.blk b8 (.cells (Key.C p1).toArray 30 (0, 0)), .blk b9 (.cells (ref27_Added.C (⟨(⟨(0 : Int), ([] : (List Key))⟩ : Table), (0 : Int), (0 : Int)⟩ : ref27_Added) (.slice none 0 0)).toArray 66 (0, 0))]) w') ?_ ?_
      · replace H := H1
        clear H1
        refine c_reg ?_
        refine w_val trivial rfl (fun a w hf hs => r_fa fa24_1 (hf.ev rfl)) ?_
        refine w_val trivial rfl (fun a w hf hs => r_load1 ta22 (hf.ev rfl) (hs.sub _ _ h7) rfl) ?_
        refine w_val trivial rfl (fun a w hf hs => r_lenR Try.underlying22 h2 (hf.ev rfl)) ?_
        refine w_val trivial rfl (fun a w hf hs => r_geq (hf.ev rfl) (hf.ev rfl)) ?_
        refine w_val trivial rfl (fun a w hf hs => r_move (hf.ev rfl)) ?_
        by_cases b28 : (decide ((4096 : Int) ≤ (p0.Keys.length : Int))) = true
        · replace H := if_t b28 H
          refine w_not (Nwt.of rfl rfl b28) rfl ?_
          refine w_not (Nwt.of rfl rfl b28) rfl ?_
          refine w_not (Nwt.of rfl rfl b28) rfl ?_
          refine w_val trivial rfl (fun a w hf hs => r_pickT (hf.ev rfl) b28 (hf.ev rfl)) ?_
          obtain rfl := some_r H
          refine w_nil ?_
          intro a w' hf hs
          exact ⟨_, (HLe.refl _), ((((hf.nil.add (hf.get _ _ rfl)).add (hf.get _ _ rfl)).add (hf.get _ _ rfl)).add (hf.get _ _ rfl)), hs.sel [0, 1] (by decide) rfl⟩
        · replace b28 := Bool.eq_false_iff.2 b28
          replace H := if_f b28 H
          refine w_val (Wnt.of rfl rfl b28) rfl (fun a w hf hs => r_fa fa24_0 (hf.ev rfl)) ?_
          refine w_val (Wnt.of rfl rfl b28) rfl (fun a w hf hs => r_load1 ta3 (hf.ev rfl) (hs.sub _ _ h7) rfl) ?_
          refine w_val (Wnt.of rfl rfl b28) rfl (fun a w hf hs => r_geq (hf.ev rfl) (hf.ev rfl)) ?_
          refine w_val trivial rfl (fun a w hf hs => r_pickF (hf.ev rfl) b28 (hf.ev rfl)) ?_
          obtain rfl := some_r H
          refine w_nil ?_
          intro a w' hf hs
          exact ⟨_, (HLe.refl _), ((((hf.nil.add (hf.get _ _ rfl)).add (hf.get _ _ rfl)).add (hf.get _ _ rfl)).add (hf.get _ _ rfl)), hs.sel [0, 1] (by decide) rfl⟩
      · clear H1
        rintro a w' ⟨M26, l27, hf, hs⟩
        refine c_of (c := (Cx.mk Try.prog 47 none' M w)) ?_ hf hs
        clear hf hs
        replace h2 := h2.mono l27
        replace h7 := l27 _ _ h7
        refine c_if rfl (fun b29 => ?_) (fun b29 => ?_)
        · replace H := if_t b29 H
          refine c_seq ?_
          intro K30 hK30
          refine c_reg ?_
          refine w_val trivial rfl (fun a w hf hs => r_build (is := [2]) (xs := [.const (.int .i64 (2 : Int))]) (vs := [(.int .i64 (2 : Int))]) (A := ref27_Added.C (⟨(⟨(0 : Int), ([] : (List Key))⟩ : Table), (0 : Int), (2 : Int)⟩ : ref27_Added) (.slice none 0 0)) rfl (hf.evs rfl) (built_of (pl := [(0, 2), (2, 1), (3, 1)]) (A0 := ref27_Added.C (⟨(⟨(0 : Int), ([] : (List Key))⟩ : Table), (0 : Int), (0 : Int)⟩ : ref27_Added) (.slice none 0 0)) tz66 Try.underlying66 (by kernel_rfl) rfl (.cons (vs := [(.int .i64 (2 : Int))]) (B := ref27_Added.C (⟨(⟨(0 : Int), ([] : (List Key))⟩ : Table), (0 : Int), (2 : Int)⟩ : ref27_Added) (.slice none 0 0)) rfl rfl rfl (by rw [ref27_Added.len]; decide) rfl .nil))) ?_
          refine w_store (i := 1) (vs := ref27_Added.C (⟨(⟨(0 : Int), ([] : (List Key))⟩ : Table), (0 : Int), (2 : Int)⟩ : ref27_Added) (.slice none 0 0)) (A' := ref27_Added.C (⟨(⟨(0 : Int), ([] : (List Key))⟩ : Table), (0 : Int), (2 : Int)⟩ : ref27_Added) (.slice none 0 0)) trivial rfl rfl rfl rfl ts66 rfl (ref27_Added.C_one _ rfl) (Nat.le_of_ble_eq_true rfl) rfl ?_
          refine w_nil (hK30 _ _ _ ?_)
          obtain rfl := some_r H
          refine c_ret ?_
          intro a w' hf hs
          exact hret _ (.inl rfl) a w' hf.df ⟨_, _, Res.of1 rfl ⟨_, hf.get _ _ rfl, run_loadA (hs.blk (i := 1) rfl) ta66 ts66 rfl rfl⟩, hs.ext, ⟨_, rfl, RS.none⟩⟩
        · replace H := if_f b29 H
          refine c_skip (hK24 _ _ _ ?_)
          refine c_seq ?_
          intro K31 hK31
          refine c_reg ?_
          refine w_val trivial rfl (fun a w hf hs => r_fa fa24_0 (hf.ev rfl)) ?_
          refine w_val trivial rfl (fun a w hf hs => r_load1 ta3 (hf.ev rfl) (hs.sub _ _ h7) rfl) ?_
          refine w_val trivial rfl (fun a w hf hs => r_fa fa30_0 (hf.ev rfl)) ?_
          refine w_store (i := 0) (vs := [(.int .i64 p0.Next)]) (A' := Key.C ({ p1 with Id := p0.Next } : Key)) trivial rfl rfl rfl rfl ts3 rfl (one1 rfl) (Nat.le_of_ble_eq_true rfl) rfl ?_
          refine w_nil (hK31 _ _ _ ?_)
          refine c_seq ?_
          intro K32 hK32
          refine c_reg ?_
          refine w_val trivial rfl (fun a w hf hs => r_assign (hf.ev rfl)) ?_
          refine w_nil (hK32 _ _ _ ?_)
          refine c_seq ?_
          intro K33 hK33
          refine c_reg ?_
          refine w_val trivial rfl (fun a w hf hs => r_move (hf.ev rfl)) ?_
          refine w_val trivial rfl (fun a w hf hs => r_fa fa24_1 (hf.ev rfl)) ?_
          refine w_val trivial rfl (fun a w hf hs => r_load1 ta22 (hf.ev rfl) (hs.sub _ _ h7) rfl) ?_
          obtain ⟨g34, H⟩ := grd_s H
          refine w_row0 30 9 ?_
          refine w_app (F := Key.F) (m2 := p0.Keys) (i := 2) Try.underlying22 te30 Try.underlying22 (.inl ⟨_, rfl⟩) trivial rfl rfl rfl rfl (Src.rs Key.F_one h2) g34 ?_
          intro v35
          refine w_val trivial rfl (fun a w hf hs => r_assign (hf.ev rfl)) ?_
          refine w_nil (hK33 _ _ _ ?_)
          refine c_seq ?_
          intro K36 hK36
          obtain ⟨g65, H⟩ := grd_s H
          refine c_drawW [[], [11], [6]] [⟨[], [2], [], none⟩, ⟨[(0, 36)], [], [], none⟩, ⟨[(1, 37)], [], [], none⟩, ⟨[], [6], [], none⟩, ⟨[], [3], [(0, 0)], none⟩, ⟨[(4, 40)], [], [], none⟩, ⟨[(3, 39), (5, 41)], [], [(2, 0)], some (2, 0)⟩, ⟨[(2, 38), (6, 42)], [], [], none⟩, ⟨[], [3], [], none⟩, ⟨[(8, 44)], [], [(0, 0)], none⟩, ⟨[(7, 43), (9, 45)], [], [], none⟩, ⟨[(10, 46)], [4], [(1, 0)], some (1, 0)⟩] [fun v M => v = (ptr b4 0), fun v M => v = (.int .i64 p0.Next), fun v M => v = (.int .i64 (IntKind.i64.wrap (p0.Next + (1 : Int)))), fun v M => v = v35, fun v M => v = (.agg (Key.C ({ p1 with Id := p0.Next } : Key)).toArray), fun v M => ∃ (v52 : Value), v = v52 ∧ RS Key.F M v52 ([({ p1 with Id := p0.Next } : Key)] : List Key) ∧ ∃ A, v52 = .slice A ([({ p1 with Id := p0.Next } : Key)] : List Key).length ([({ p1 with Id := p0.Next } : Key)] : List Key).length, fun v M => ∃ (v66 : Value), v = v66 ∧ RS Key.F M v66 ((([] : (List Key)) ++ p0.Keys) ++ ([({ p1 with Id := p0.Next } : Key)] : List Key)), fun v M => ∃ (v73 : Value), v = (.agg (Table.C (⟨(IntKind.i64.wrap (p0.Next + (1 : Int))), ((([] : (List Key)) ++ p0.Keys) ++ ([({ p1 with Id := p0.Next } : Key)] : List Key))⟩ : Table) v73).toArray) ∧ RS Key.F M v73 ((([] : (List Key)) ++ p0.Keys) ++ ([({ p1 with Id := p0.Next } : Key)] : List Key)), fun v M => v = (ptr b8 0), fun v M => v = (.int .i64 p0.Next), fun v M => ∃ (v83 : Value), v = (.agg (ref27_Added.C (⟨(⟨(IntKind.i64.wrap (p0.Next + (1 : Int))), ((([] : (List Key)) ++ p0.Keys) ++ ([({ p1 with Id := p0.Next } : Key)] : List Key))⟩ : Table), p0.Next, (0 : Int)⟩ : ref27_Added) v83).toArray) ∧ RS Key.F M v83 ((([] : (List Key)) ++ p0.Keys) ++ ([({ p1 with Id := p0.Next } : Key)] : List Key)), fun _ _ => True] [[fun y M => y = .blk b8 (.cells (Key.C ({ p1 with Id := p0.Next } : Key)).toArray 30 (0, 0))], [fun y M => y = .blk b9 (.cells (ref27_Added.C (⟨(⟨(0 : Int), ([] : (List Key))⟩ : Table), (0 : Int), (0 : Int)⟩ : ref27_Added) (.slice none 0 0)).toArray 66 (0, 0)), fun y M => ∃ (v89 : Value), y = .blk b9 (.cells (ref27_Added.C (⟨(⟨(IntKind.i64.wrap (p0.Next + (1 : Int))), ((([] : (List Key)) ++ p0.Keys) ++ ([({ p1 with Id := p0.Next } : Key)] : List Key))⟩ : Table), p0.Next, (0 : Int)⟩ : ref27_Added) v89).toArray 66 (0, 0)) ∧ RS Key.F M v89 ((([] : (List Key)) ++ p0.Keys) ++ ([({ p1 with Id := p0.Next } : Key)] : List Key))], [fun y M => y = rowI Key.F v35 30 (([] : (List Key)) ++ p0.Keys), fun y M => y = dead]] (by kernel_rfl) (by kernel_rfl) ?_ ?_ rfl ?_ (AllW.cons ?_ (AllW.cons ?_ (AllW.cons ?_ (AllW.cons ?_ (AllW.cons ?_ (AllW.cons ?_ (AllW.cons ?_ (AllW.cons ?_ (AllW.cons ?_ (AllW.cons ?_ (AllW.cons ?_ (AllW.cons ?_ AllW.nil)))))))))))) ?_
          · exact (MonoA.cons (fun _ _ _ _ h => h) (MonoA.cons (fun _ _ _ _ h => h) (MonoA.cons (fun _ _ _ _ h => h) (MonoA.cons (fun _ _ _ _ h => h) (MonoA.cons (fun _ _ _ _ h => h) (MonoA.cons (fun _ _ _ hM h => by obtain ⟨v52, e_, q0, q1⟩ := h; exact ⟨v52, e_, q0.mono hM, q1⟩) (MonoA.cons (fun _ _ _ hM h => by obtain ⟨v66, e_, q0⟩ := h; exact ⟨v66, e_, q0.mono hM⟩) (MonoA.cons (fun _ _ _ hM h => by obtain ⟨v73, e_, q0⟩ := h; exact ⟨v73, e_, q0.mono hM⟩) (MonoA.cons (fun _ _ _ _ h => h) (MonoA.cons (fun _ _ _ _ h => h) (MonoA.cons (fun _ _ _ hM h => by obtain ⟨v83, e_, q0⟩ := h; exact ⟨v83, e_, q0.mono hM⟩) (MonoA.cons (fun _ _ _ _ h => h) MonoA.nil))))))))))))
          · exact (MonoK.cons (mono_cons (fun _ _ _ _ h => h) mono_nil) (MonoK.cons (mono_cons (fun _ _ _ _ h => h) (mono_cons (fun _ _ _ hM h => by obtain ⟨v89, e_, q0⟩ := h; exact ⟨v89, e_, q0.mono hM⟩) mono_nil)) (MonoK.cons (mono_cons (fun _ _ _ _ h => h) (mono_cons (fun _ _ _ _ h => h) mono_nil)) MonoK.nil)))
          · exact (All0.cons rfl (All0.cons rfl (All0.cons rfl All0.nil)))
          · intro a w' M37 L_ l38 hL hd hs
            replace h7 := l38 _ _ h7
            replace h2 := h2.mono l38
            obtain ⟨x0_, L0_, rfl, hL0⟩ := lenS hL
            obtain ⟨x1_, L1_, rfl, hL1⟩ := lenS hL0
            obtain ⟨x2_, L2_, rfl, hL2⟩ := lenS hL1
            obtain rfl := len0 hL2
            refine OP.ofW (l := [(2, (ptr b4 0))]) (hd.fr.add (hd.base 2 _ rfl rfl)) hs rfl ?_
            refine w_val trivial rfl (fun a w hf hs => r_fa fa24_0 (hf.ev rfl)) ?_
            refine w_nil ?_
            intro a w' hf hs
            exact ⟨rfl, hf.df, _, _, (HLe.refl _), hs, hf.get _ _ rfl, rfl⟩
          · intro a w' M39 L_ l40 hL hd hs
            have e41 := hd.val 0 36 _ rfl rfl
            replace h7 := l40 _ _ h7
            replace h2 := h2.mono l40
            obtain ⟨x0_, L0_, rfl, hL0⟩ := lenS hL
            obtain ⟨x1_, L1_, rfl, hL1⟩ := lenS hL0
            obtain ⟨x2_, L2_, rfl, hL2⟩ := lenS hL1
            obtain rfl := len0 hL2
            refine OP.ofW (l := [(36, (ptr b4 0))]) (hd.fr.add e41) hs rfl ?_
            refine w_val trivial rfl (fun a w hf hs => r_load1 ta3 (hf.ev rfl) (hs.sub _ _ h7) rfl) ?_
            refine w_nil ?_
            intro a w' hf hs
            exact ⟨rfl, hf.df, _, _, (HLe.refl _), hs, hf.get _ _ rfl, rfl⟩
          · intro a w' M42 L_ l43 hL hd hs
            have e44 := hd.val 1 37 _ rfl rfl
            obtain ⟨x0_, L0_, rfl, hL0⟩ := lenS hL
            obtain ⟨x1_, L1_, rfl, hL1⟩ := lenS hL0
            obtain ⟨x2_, L2_, rfl, hL2⟩ := lenS hL1
            obtain rfl := len0 hL2
            refine OP.ofW (l := [(37, (.int .i64 p0.Next))]) (hd.fr.add e44) hs rfl ?_
            refine w_val trivial rfl (fun a w hf hs => r_add (hf.ev rfl) (hf.ev rfl)) ?_
            refine w_nil ?_
            intro a w' hf hs
            exact ⟨rfl, hf.df, _, _, (HLe.refl _), hs, hf.get _ _ rfl, rfl⟩
          · intro a w' M45 L_ l46 hL hd hs
            obtain ⟨x0_, L0_, rfl, hL0⟩ := lenS hL
            obtain ⟨x1_, L1_, rfl, hL1⟩ := lenS hL0
            obtain ⟨x2_, L2_, rfl, hL2⟩ := lenS hL1
            obtain rfl := len0 hL2
            refine OP.ofW (l := [(6, v35)]) (hd.fr.add (hd.base 6 _ rfl rfl)) hs rfl ?_
            refine w_val trivial rfl (fun a w hf hs => r_move (hf.ev rfl)) ?_
            refine w_nil ?_
            intro a w' hf hs
            exact ⟨rfl, hf.df, _, _, (HLe.refl _), hs, hf.get _ _ rfl, rfl⟩
          · intro a w' M47 L_ l48 hL hd hs
            obtain ⟨x0_, L0_, rfl, hL0⟩ := lenS hL
            obtain ⟨x1_, L1_, rfl, hL1⟩ := lenS hL0
            obtain ⟨x2_, L2_, rfl, hL2⟩ := lenS hL1
            obtain rfl := len0 hL2
            obtain ⟨_, hy, rfl⟩ := hd.item 0 0 _ rfl rfl
            obtain rfl := Option.some.inj hy
            refine OP.ofW (l := [(3, (ptr b8 0))]) (hd.fr.add (hd.base 3 _ rfl rfl)) hs rfl ?_
            refine w_val trivial rfl (fun a w hf hs => r_loadA ta30 ts30 (hf.ev rfl) (hs.blk (i := 0) rfl) rfl rfl) ?_
            refine w_nil ?_
            intro a w' hf hs
            exact ⟨rfl, hf.df, _, _, (HLe.refl _), hs, hf.get _ _ rfl, rfl⟩
          · intro a w' M49 L_ l50 hL hd hs
            have e51 := hd.val 4 40 _ rfl rfl
            obtain ⟨x0_, L0_, rfl, hL0⟩ := lenS hL
            obtain ⟨x1_, L1_, rfl, hL1⟩ := lenS hL0
            obtain ⟨x2_, L2_, rfl, hL2⟩ := lenS hL1
            obtain rfl := len0 hL2
            refine OP.ofW (l := [(40, (.agg (Key.C ({ p1 with Id := p0.Next } : Key)).toArray))]) (hd.fr.add e51) hs rfl ?_
            refine w_bsl (F := Key.F) (es := ([({ p1 with Id := p0.Next } : Key)] : List Key)) (xs := [.tmp 40]) (vs := [(.agg (Key.C ({ p1 with Id := p0.Next } : Key)).toArray)]) Try.underlying22 te30 trivial rfl rfl rfl rfl rfl (by decide) ?_
            intro v52 M53 l54 h55 c56
            refine w_nil ?_
            intro a w' hf hs
            exact ⟨rfl, hf.df, _, _, l54, hs, ⟨v52, hf.get _ _ rfl, h55, c56⟩, rfl⟩
          · intro a w' M57 L_ l58 hL hd hs
            have e59 := hd.val 3 39 _ rfl rfl
            obtain ⟨v60, e64, h61, h63⟩ := hd.val 5 41 _ rfl rfl
            obtain ⟨x0_, L0_, rfl, hL0⟩ := lenS hL
            obtain ⟨x1_, L1_, rfl, hL1⟩ := lenS hL0
            obtain ⟨x2_, L2_, rfl, hL2⟩ := lenS hL1
            obtain rfl := len0 hL2
            obtain ⟨_, hy, rfl⟩ := hd.item 2 0 _ rfl rfl
            obtain rfl := Option.some.inj hy
            refine OP.ofW (l := [(39, v35), (41, v60)]) ((hd.fr.add e64).add e59) hs rfl ?_
            refine w_app (F := Key.F) (m2 := ([({ p1 with Id := p0.Next } : Key)] : List Key)) (i := 2) Try.underlying22 te30 Try.underlying22 (.inl ⟨_, rfl⟩) trivial rfl rfl rfl rfl (Src.rs Key.F_one h61) g65 ?_
            intro v66
            refine w_give 2 rfl (fun _ h => h) ?_
            intro M67 l68 h69
            replace h61 := h61.mono l68
            refine w_nil ?_
            intro a w' hf hs
            exact ⟨rfl, hf.df, _, _, l68, hs, ⟨v66, hf.get _ _ rfl, h69⟩, ⟨dead, rfl, of_some (q := fun y M => y = dead) rfl⟩⟩
          · intro a w' M70 L_ l71 hL hd hs
            have e72 := hd.val 2 38 _ rfl rfl
            obtain ⟨v73, e75, h74⟩ := hd.val 6 42 _ rfl rfl
            obtain ⟨x0_, L0_, rfl, hL0⟩ := lenS hL
            obtain ⟨x1_, L1_, rfl, hL1⟩ := lenS hL0
            obtain ⟨x2_, L2_, rfl, hL2⟩ := lenS hL1
            obtain rfl := len0 hL2
            refine OP.ofW (l := [(38, (.int .i64 (IntKind.i64.wrap (p0.Next + (1 : Int))))), (42, v73)]) ((hd.fr.add e75).add e72) hs rfl ?_
            refine w_val trivial rfl (fun a w hf hs => r_build (is := [0, 1]) (xs := [.tmp 38, .tmp 42]) (vs := [(.int .i64 (IntKind.i64.wrap (p0.Next + (1 : Int)))), v73]) (A := Table.C (⟨(IntKind.i64.wrap (p0.Next + (1 : Int))), ((([] : (List Key)) ++ p0.Keys) ++ ([({ p1 with Id := p0.Next } : Key)] : List Key))⟩ : Table) v73) rfl (hf.evs rfl) (built_of (pl := [(0, 1), (1, 1)]) (A0 := Table.C (⟨(0 : Int), ([] : (List Key))⟩ : Table) (.slice none 0 0)) tz24 Try.underlying24 (by kernel_rfl) rfl (.cons (vs := [(.int .i64 (IntKind.i64.wrap (p0.Next + (1 : Int))))]) (B := Table.C (⟨(IntKind.i64.wrap (p0.Next + (1 : Int))), ([] : (List Key))⟩ : Table) (.slice none 0 0)) rfl rfl rfl (by rw [Table.len]; decide) rfl (.cons (vs := [v73]) (B := Table.C (⟨(IntKind.i64.wrap (p0.Next + (1 : Int))), ((([] : (List Key)) ++ p0.Keys) ++ ([({ p1 with Id := p0.Next } : Key)] : List Key))⟩ : Table) v73) rfl (h74.cells1) rfl (by rw [Table.len]; decide) rfl .nil)))) ?_
            refine w_nil ?_
            intro a w' hf hs
            exact ⟨rfl, hf.df, _, _, (HLe.refl _), hs, ⟨v73, hf.get _ _ rfl, h74⟩, rfl⟩
          · intro a w' M76 L_ l77 hL hd hs
            obtain ⟨x0_, L0_, rfl, hL0⟩ := lenS hL
            obtain ⟨x1_, L1_, rfl, hL1⟩ := lenS hL0
            obtain ⟨x2_, L2_, rfl, hL2⟩ := lenS hL1
            obtain rfl := len0 hL2
            refine OP.ofW (l := [(3, (ptr b8 0))]) (hd.fr.add (hd.base 3 _ rfl rfl)) hs rfl ?_
            refine w_val trivial rfl (fun a w hf hs => r_fa fa30_0 (hf.ev rfl)) ?_
            refine w_nil ?_
            intro a w' hf hs
            exact ⟨rfl, hf.df, _, _, (HLe.refl _), hs, hf.get _ _ rfl, rfl⟩
          · intro a w' M78 L_ l79 hL hd hs
            have e80 := hd.val 8 44 _ rfl rfl
            obtain ⟨x0_, L0_, rfl, hL0⟩ := lenS hL
            obtain ⟨x1_, L1_, rfl, hL1⟩ := lenS hL0
            obtain ⟨x2_, L2_, rfl, hL2⟩ := lenS hL1
            obtain rfl := len0 hL2
            obtain ⟨_, hy, rfl⟩ := hd.item 0 0 _ rfl rfl
            obtain rfl := Option.some.inj hy
            refine OP.ofW (l := [(44, (ptr b8 0))]) (hd.fr.add e80) hs rfl ?_
            refine w_val trivial rfl (fun a w hf hs => r_load1 ta3 (hf.ev rfl) (hs.blk (i := 0) rfl) rfl) ?_
            refine w_nil ?_
            intro a w' hf hs
            exact ⟨rfl, hf.df, _, _, (HLe.refl _), hs, hf.get _ _ rfl, rfl⟩
          · intro a w' M81 L_ l82 hL hd hs
            obtain ⟨v83, e85, h84⟩ := hd.val 7 43 _ rfl rfl
            have e86 := hd.val 9 45 _ rfl rfl
            obtain ⟨x0_, L0_, rfl, hL0⟩ := lenS hL
            obtain ⟨x1_, L1_, rfl, hL1⟩ := lenS hL0
            obtain ⟨x2_, L2_, rfl, hL2⟩ := lenS hL1
            obtain rfl := len0 hL2
            refine OP.ofW (l := [(43, (.agg (Table.C (⟨(IntKind.i64.wrap (p0.Next + (1 : Int))), ((([] : (List Key)) ++ p0.Keys) ++ ([({ p1 with Id := p0.Next } : Key)] : List Key))⟩ : Table) v83).toArray)), (45, (.int .i64 p0.Next))]) ((hd.fr.add e86).add e85) hs rfl ?_
            refine w_val trivial rfl (fun a w hf hs => r_build (is := [0, 1]) (xs := [.tmp 43, .tmp 45]) (vs := [(.agg (Table.C (⟨(IntKind.i64.wrap (p0.Next + (1 : Int))), ((([] : (List Key)) ++ p0.Keys) ++ ([({ p1 with Id := p0.Next } : Key)] : List Key))⟩ : Table) v83).toArray), (.int .i64 p0.Next)]) (A := ref27_Added.C (⟨(⟨(IntKind.i64.wrap (p0.Next + (1 : Int))), ((([] : (List Key)) ++ p0.Keys) ++ ([({ p1 with Id := p0.Next } : Key)] : List Key))⟩ : Table), p0.Next, (0 : Int)⟩ : ref27_Added) v83) rfl (hf.evs rfl) (built_of (pl := [(0, 2), (2, 1), (3, 1)]) (A0 := ref27_Added.C (⟨(⟨(0 : Int), ([] : (List Key))⟩ : Table), (0 : Int), (0 : Int)⟩ : ref27_Added) (.slice none 0 0)) tz66 Try.underlying66 (by kernel_rfl) rfl (.cons (vs := Table.C (⟨(IntKind.i64.wrap (p0.Next + (1 : Int))), ((([] : (List Key)) ++ p0.Keys) ++ ([({ p1 with Id := p0.Next } : Key)] : List Key))⟩ : Table) v83) (B := ref27_Added.C (⟨(⟨(IntKind.i64.wrap (p0.Next + (1 : Int))), ((([] : (List Key)) ++ p0.Keys) ++ ([({ p1 with Id := p0.Next } : Key)] : List Key))⟩ : Table), (0 : Int), (0 : Int)⟩ : ref27_Added) v83) rfl rfl (Table.len _ _) (by rw [ref27_Added.len]; decide) rfl (.cons (vs := [(.int .i64 p0.Next)]) (B := ref27_Added.C (⟨(⟨(IntKind.i64.wrap (p0.Next + (1 : Int))), ((([] : (List Key)) ++ p0.Keys) ++ ([({ p1 with Id := p0.Next } : Key)] : List Key))⟩ : Table), p0.Next, (0 : Int)⟩ : ref27_Added) v83) rfl rfl rfl (by rw [ref27_Added.len]; decide) rfl .nil)))) ?_
            refine w_nil ?_
            intro a w' hf hs
            exact ⟨rfl, hf.df, _, _, (HLe.refl _), hs, ⟨v83, hf.get _ _ rfl, h84⟩, rfl⟩
          · intro a w' M87 L_ l88 hL hd hs
            obtain ⟨v89, e91, h90⟩ := hd.val 10 46 _ rfl rfl
            obtain ⟨x0_, L0_, rfl, hL0⟩ := lenS hL
            obtain ⟨x1_, L1_, rfl, hL1⟩ := lenS hL0
            obtain ⟨x2_, L2_, rfl, hL2⟩ := lenS hL1
            obtain rfl := len0 hL2
            obtain ⟨_, hy, rfl⟩ := hd.item 1 0 _ rfl rfl
            obtain rfl := Option.some.inj hy
            refine OP.ofW (l := [(4, (ptr b9 0)), (46, (.agg (ref27_Added.C (⟨(⟨(IntKind.i64.wrap (p0.Next + (1 : Int))), ((([] : (List Key)) ++ p0.Keys) ++ ([({ p1 with Id := p0.Next } : Key)] : List Key))⟩ : Table), p0.Next, (0 : Int)⟩ : ref27_Added) v89).toArray))]) ((hd.fr.add e91).add (hd.base 4 _ rfl rfl)) hs rfl ?_
            refine w_store (i := 1) (vs := ref27_Added.C (⟨(⟨(IntKind.i64.wrap (p0.Next + (1 : Int))), ((([] : (List Key)) ++ p0.Keys) ++ ([({ p1 with Id := p0.Next } : Key)] : List Key))⟩ : Table), p0.Next, (0 : Int)⟩ : ref27_Added) v89) (A' := ref27_Added.C (⟨(⟨(IntKind.i64.wrap (p0.Next + (1 : Int))), ((([] : (List Key)) ++ p0.Keys) ++ ([({ p1 with Id := p0.Next } : Key)] : List Key))⟩ : Table), p0.Next, (0 : Int)⟩ : ref27_Added) v89) trivial rfl rfl rfl rfl ts66 rfl (ref27_Added.C_one _ h90.one) (Nat.le_of_ble_eq_true rfl) rfl ?_
            refine w_nil ?_
            intro a w' hf hs
            exact ⟨rfl, hf.df, _, _, (HLe.refl _), hs, trivial, ⟨.blk b9 (.cells (ref27_Added.C (⟨(⟨(IntKind.i64.wrap (p0.Next + (1 : Int))), ((([] : (List Key)) ++ p0.Keys) ++ ([({ p1 with Id := p0.Next } : Key)] : List Key))⟩ : Table), p0.Next, (0 : Int)⟩ : ref27_Added) v89).toArray 66 (0, 0)), rfl, of_some (q := fun y M => ∃ (v89 : Value), y = .blk b9 (.cells (ref27_Added.C (⟨(⟨(IntKind.i64.wrap (p0.Next + (1 : Int))), ((([] : (List Key)) ++ p0.Keys) ++ ([({ p1 with Id := p0.Next } : Key)] : List Key))⟩ : Table), p0.Next, (0 : Int)⟩ : ref27_Added) v89).toArray 66 (0, 0)) ∧ RS Key.F M v89 ((([] : (List Key)) ++ p0.Keys) ++ ([({ p1 with Id := p0.Next } : Key)] : List Key))) ⟨v89, rfl, h90⟩⟩⟩
          intro a w' M92 L_ l93 hL hdf hsz hb hv hi hs
          replace h2 := h2.mono l93
          replace h7 := l93 _ _ h7
          obtain ⟨x0_, L0_, rfl, hL0⟩ := lenS hL
          obtain ⟨x1_, L1_, rfl, hL1⟩ := lenS hL0
          obtain ⟨x2_, L2_, rfl, hL2⟩ := lenS hL1
          obtain rfl := len0 hL2
          obtain ⟨_, hy, rfl⟩ := hi 0 _ rfl
          obtain rfl := Option.some.inj hy
          obtain ⟨_, hy, v94, rfl, h95⟩ := hi 1 _ rfl
          obtain rfl := Option.some.inj hy
          obtain ⟨_, hy, rfl⟩ := hi 2 _ rfl
          obtain rfl := Option.some.inj hy
          clear hi hy
          refine n_of (c := (Cx.mk Try.prog 47 none' M w)) (l := [(4, (ptr b9 0))]) ?_ ((Fr.start hdf hsz).add (hb 4 _ rfl rfl)) hs
          clear hdf hsz hb hv hs
          refine n_id (hK36 _ _ _ ?_)
          obtain rfl := some_r H
          refine c_ret ?_
          intro a w' hf hs
          exact hret _ (.inl rfl) a w' hf.df ⟨_, _, Res.of1 rfl ⟨_, hf.get _ _ rfl, run_loadA (hs.blk (i := 1) rfl) ta66 ts66 rfl rfl⟩, hs.ext, ⟨_, rfl, h95⟩⟩
end Go.Cu
