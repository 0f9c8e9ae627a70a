/- Each Go function comes to its pure function; condition: that one is defined there. -/
import Derived.Test.YtakfalfggmgcfaaGreatDoorCK1
import Derived.Shelf.Strings.OnBuilder
import Derived.Ground.NamesProg
import Derived.Lib.Agree
import Derived.Test.YtakfalfggmgcfaaGreatDoorProg
import Derived.KernelRfl
set_option linter.unusedVariables false
set_option linter.unusedSimpArgs false
set_option maxHeartbeats 4000000
set_option maxRecDepth 20000
namespace Go.Cu
open IntKind
open Vector (replicate)
variable {M : Heap} {w : World}
open Go.Proofs Go.Proofs.Tryz Go.Shelf
theorem ts24 : TSize prog 24 1 := by unfold TSize; kernel_rfl
theorem fa26_7 : FA prog 26 7 37 := FA.mk underlying26 Y ts24 (by decide) Y
theorem ta24 : TAgg prog 24 false := by unfold TAgg; kernel_rfl
theorem ts97 : TSize prog 97 9 := by unfold TSize; kernel_rfl
theorem ts9 : TSize prog 9 1 := by unfold TSize; kernel_rfl
theorem fa97_2 : FA prog 97 2 2 := FA.mk underlying97 Y ts9 (by decide) Y
theorem ta9 : TAgg prog 9 false := by unfold TAgg; kernel_rfl
theorem fa26_6 : FA prog 26 6 36 := FA.mk underlying26 Y ts9 (by decide) Y
theorem ts5 : TSize prog 5 1 := by unfold TSize; kernel_rfl
theorem fz5 : FZ prog 5 (FI .u8) 0 := ⟨ts5, ⟨1, by unfold TBytes; kernel_rfl, by decide⟩, ⟨.int .u8 0, by unfold TZero; kernel_rfl, Y⟩⟩
theorem ts3 : TSize prog 3 1 := by unfold TSize; kernel_rfl
theorem fa97_1 : FA prog 97 1 1 := FA.mk underlying97 Y ts3 (by decide) Y
theorem ta3 : TAgg prog 3 false := by unfold TAgg; kernel_rfl
theorem cf124 : CF prog 124 := CF.mk func124 (by kernel_rfl) (by kernel_rfl)
theorem fa97_3 : FA prog 97 3 3 := FA.mk underlying97 Y ts3 (by decide) Y
theorem fa97_4 : FA prog 97 4 4 := FA.mk underlying97 Y ts3 (by decide) Y
theorem fa97_5 : FA prog 97 5 5 := FA.mk underlying97 Y ts3 (by decide) Y
theorem fa97_6 : FA prog 97 6 6 := FA.mk underlying97 Y ts3 (by decide) Y
theorem fa97_7 : FA prog 97 7 7 := FA.mk underlying97 Y ts3 (by decide) Y
theorem cf167 : CF prog 167 := CF.mk func167 (by kernel_rfl) (by kernel_rfl)
theorem cf126 : CF prog 126 := CF.mk func126 (by kernel_rfl) (by kernel_rfl)
theorem cf125 : CF prog 125 := CF.mk func125 (by kernel_rfl) (by kernel_rfl)
theorem ta97 : TAgg prog 97 true := by unfold TAgg; kernel_rfl
theorem cf62 : CF prog 62 := CF.mk func62 (by kernel_rfl) (by kernel_rfl)
theorem fa97_0 : FA prog 97 0 0 := FA.mk underlying97 Y ts3 (by decide) Y
theorem tz97 : TZero prog 97 (.agg #[.int .i64 0, .int .i64 0, str [], .int .i64 0, .int .i64 0, .int .i64 0, .int .i64 0, .int .i64 0, .bool false]) := by unfold TZero; kernel_rfl
theorem fa26_1 : FA prog 26 1 16 := FA.mk underlying26 Y ts3 (by decide) Y
theorem fa26_2 : FA prog 26 2 17 := FA.mk underlying26 Y ts3 (by decide) Y
theorem fa26_3 : FA prog 26 3 18 := FA.mk underlying26 Y ts3 (by decide) Y
theorem te3 : TEl prog 3 1 := ⟨ts3, ⟨8, by unfold TBytes; kernel_rfl, by decide⟩, ⟨.int .i64 0, by unfold TZero; kernel_rfl, Y⟩⟩
theorem cf63 : CF prog 63 := CF.mk func63 (by kernel_rfl) (by kernel_rfl)
theorem fa26_4 : FA prog 26 4 19 := FA.mk underlying26 Y ts3 (by decide) Y
theorem te5 : TEl prog 5 1 := ⟨ts5, ⟨1, by unfold TBytes; kernel_rfl, by decide⟩, ⟨.int .u8 0, by unfold TZero; kernel_rfl, Y⟩⟩
theorem cf115 : CF prog 115 := CF.mk func115 (by kernel_rfl) (by kernel_rfl)
theorem ts91 : TSize prog 91 1 := by unfold TSize; kernel_rfl
theorem ta91 : TAgg prog 91 false := by unfold TAgg; kernel_rfl
theorem cf128 : CF prog 128 := CF.mk func128 (by kernel_rfl) (by kernel_rfl)
theorem ts23 : TSize prog 23 16 := by unfold TSize; kernel_rfl
theorem fa26_0 : FA prog 26 0 0 := FA.mk underlying26 Y ts23 (by decide) Y
theorem cf68 : CF prog 68 := CF.mk func68 (by kernel_rfl) (by kernel_rfl)
theorem fa26_5 : FA prog 26 5 20 := FA.mk underlying26 Y ts23 (by decide) Y
theorem cf56 : CF prog 56 := CF.mk func56 (by kernel_rfl) (by kernel_rfl)
theorem te91 : TEl prog 91 1 := ⟨ts91, ⟨24, by unfold TBytes; kernel_rfl, by decide⟩, ⟨.slice none 0 0, by unfold TZero; kernel_rfl, Y⟩⟩
theorem cf67 : CF prog 67 := CF.mk func67 (by kernel_rfl) (by kernel_rfl)
theorem tz195 : TZero prog 195 (.agg #[.int .u32 0, .int .u32 0, .int .u32 0, .int .u32 0, .int .u32 0, .int .u32 0, .int .u32 0, .int .u32 0, .int .u8 0, .int .u8 0, .int .u8 0, .int .u8 0, .int .u8 0, .int .u8 0, .int .u8 0, .int .u8 0, .int .u8 0, .int .u8 0, .int .u8 0, .int .u8 0, .int .u8 0, .int .u8 0, .int .u8 0, .int .u8 0, .int .u8 0, .int .u8 0, .int .u8 0, .int .u8 0, .int .u8 0, .int .u8 0, .int .u8 0, .int .u8 0, .int .u8 0, .int .u8 0, .int .u8 0, .int .u8 0, .int .u8 0, .int .u8 0, .int .u8 0, .int .u8 0, .int .u8 0, .int .u8 0, .int .u8 0, .int .u8 0, .int .u8 0, .int .u8 0, .int .u8 0, .int .u8 0, .int .u8 0, .int .u8 0, .int .u8 0, .int .u8 0, .int .u8 0, .int .u8 0, .int .u8 0, .int .u8 0, .int .u8 0, .int .u8 0, .int .u8 0, .int .u8 0, .int .u8 0, .int .u8 0, .int .u8 0, .int .u8 0, .int .u8 0, .int .u8 0, .int .u8 0, .int .u8 0, .int .u8 0, .int .u8 0, .int .u8 0, .int .u8 0, .int .u64 0]) := by unfold TZero; kernel_rfl
theorem ts195 : TSize prog 195 73 := by unfold TSize; kernel_rfl
theorem ta195 : TAgg prog 195 true := by unfold TAgg; kernel_rfl
theorem ta5 : TAgg prog 5 false := by unfold TAgg; kernel_rfl
theorem ts169 : TSize prog 169 1 := by unfold TSize; kernel_rfl
theorem ta169 : TAgg prog 169 false := by unfold TAgg; kernel_rfl
theorem cf205 : CF prog 205 := CF.mk func205 (by kernel_rfl) (by kernel_rfl)
theorem ta240 : TAgg prog 240 true := by unfold TAgg; kernel_rfl
theorem ts240 : TSize prog 240 64 := by unfold TSize; kernel_rfl
theorem tz240 : TZero prog 240 (.agg #[.int .u32 0, .int .u32 0, .int .u32 0, .int .u32 0, .int .u32 0, .int .u32 0, .int .u32 0, .int .u32 0, .int .u32 0, .int .u32 0, .int .u32 0, .int .u32 0, .int .u32 0, .int .u32 0, .int .u32 0, .int .u32 0, .int .u32 0, .int .u32 0, .int .u32 0, .int .u32 0, .int .u32 0, .int .u32 0, .int .u32 0, .int .u32 0, .int .u32 0, .int .u32 0, .int .u32 0, .int .u32 0, .int .u32 0, .int .u32 0, .int .u32 0, .int .u32 0, .int .u32 0, .int .u32 0, .int .u32 0, .int .u32 0, .int .u32 0, .int .u32 0, .int .u32 0, .int .u32 0, .int .u32 0, .int .u32 0, .int .u32 0, .int .u32 0, .int .u32 0, .int .u32 0, .int .u32 0, .int .u32 0, .int .u32 0, .int .u32 0, .int .u32 0, .int .u32 0, .int .u32 0, .int .u32 0, .int .u32 0, .int .u32 0, .int .u32 0, .int .u32 0, .int .u32 0, .int .u32 0, .int .u32 0, .int .u32 0, .int .u32 0, .int .u32 0]) := by unfold TZero; kernel_rfl
theorem cf196 : CF prog 196 := CF.mk func196 (by kernel_rfl) (by kernel_rfl)
theorem ta245 : TAgg prog 245 true := by unfold TAgg; kernel_rfl
theorem ts245 : TSize prog 245 4 := by unfold TSize; kernel_rfl
theorem tz245 : TZero prog 245 (.agg #[.int .u32 0, .int .u32 0, .int .u32 0, .int .u32 0]) := by unfold TZero; kernel_rfl
theorem cf197 : CF prog 197 := CF.mk func197 (by kernel_rfl) (by kernel_rfl)
theorem ta191 : TAgg prog 191 true := by unfold TAgg; kernel_rfl
theorem ts191 : TSize prog 191 8 := by unfold TSize; kernel_rfl
theorem tz191 : TZero prog 191 (.agg #[.int .u32 0, .int .u32 0, .int .u32 0, .int .u32 0, .int .u32 0, .int .u32 0, .int .u32 0, .int .u32 0]) := by unfold TZero; kernel_rfl
theorem ts193 : TSize prog 193 1 := by unfold TSize; kernel_rfl
theorem fa195_2 : FA prog 195 2 72 := FA.mk underlying195 Y ts193 (by decide) Y
theorem ta193 : TAgg prog 193 false := by unfold TAgg; kernel_rfl
theorem ts192 : TSize prog 192 64 := by unfold TSize; kernel_rfl
theorem fa195_1 : FA prog 195 1 8 := FA.mk underlying195 Y ts192 (by decide) Y
theorem fa195_0 : FA prog 195 0 0 := FA.mk underlying195 Y ts191 (by decide) Y
theorem cf175 : CF prog 175 := CF.mk func175 (by kernel_rfl) (by kernel_rfl)
theorem cf145 : CF prog 145 := CF.mk func145 (by kernel_rfl) (by kernel_rfl)
theorem ta198 : TAgg prog 198 true := by unfold TAgg; kernel_rfl
theorem ts198 : TSize prog 198 32 := by unfold TSize; kernel_rfl
theorem tz198 : TZero prog 198 (.agg #[.int .u8 0, .int .u8 0, .int .u8 0, .int .u8 0, .int .u8 0, .int .u8 0, .int .u8 0, .int .u8 0, .int .u8 0, .int .u8 0, .int .u8 0, .int .u8 0, .int .u8 0, .int .u8 0, .int .u8 0, .int .u8 0, .int .u8 0, .int .u8 0, .int .u8 0, .int .u8 0, .int .u8 0, .int .u8 0, .int .u8 0, .int .u8 0, .int .u8 0, .int .u8 0, .int .u8 0, .int .u8 0, .int .u8 0, .int .u8 0, .int .u8 0, .int .u8 0]) := by unfold TZero; kernel_rfl
theorem cf144 : CF prog 144 := CF.mk func144 (by kernel_rfl) (by kernel_rfl)
theorem cf146 : CF prog 146 := CF.mk func146 (by kernel_rfl) (by kernel_rfl)
theorem tz192 : TZero prog 192 (.agg #[.int .u8 0, .int .u8 0, .int .u8 0, .int .u8 0, .int .u8 0, .int .u8 0, .int .u8 0, .int .u8 0, .int .u8 0, .int .u8 0, .int .u8 0, .int .u8 0, .int .u8 0, .int .u8 0, .int .u8 0, .int .u8 0, .int .u8 0, .int .u8 0, .int .u8 0, .int .u8 0, .int .u8 0, .int .u8 0, .int .u8 0, .int .u8 0, .int .u8 0, .int .u8 0, .int .u8 0, .int .u8 0, .int .u8 0, .int .u8 0, .int .u8 0, .int .u8 0, .int .u8 0, .int .u8 0, .int .u8 0, .int .u8 0, .int .u8 0, .int .u8 0, .int .u8 0, .int .u8 0, .int .u8 0, .int .u8 0, .int .u8 0, .int .u8 0, .int .u8 0, .int .u8 0, .int .u8 0, .int .u8 0, .int .u8 0, .int .u8 0, .int .u8 0, .int .u8 0, .int .u8 0, .int .u8 0, .int .u8 0, .int .u8 0, .int .u8 0, .int .u8 0, .int .u8 0, .int .u8 0, .int .u8 0, .int .u8 0, .int .u8 0, .int .u8 0]) := by unfold TZero; kernel_rfl
theorem cf160 : CF prog 160 := CF.mk func160 (by kernel_rfl) (by kernel_rfl)
theorem cf161 : CF prog 161 := CF.mk func161 (by kernel_rfl) (by kernel_rfl)
theorem cf113 : CF prog 113 := CF.mk func113 (by kernel_rfl) (by kernel_rfl)
theorem fz9 : FZ prog 9 FS ([] : List UInt8) := ⟨ts9, ⟨16, by unfold TBytes; kernel_rfl, by decide⟩, ⟨str [], by unfold TZero; kernel_rfl, Y⟩⟩
theorem ts4 : TSize prog 4 1 := by unfold TSize; kernel_rfl
theorem fa97_8 : FA prog 97 8 8 := FA.mk underlying97 Y ts4 (by decide) Y
theorem ta4 : TAgg prog 4 false := by unfold TAgg; kernel_rfl
theorem te9 : TEl prog 9 1 := ⟨ts9, ⟨16, by unfold TBytes; kernel_rfl, by decide⟩, ⟨str [], by unfold TZero; kernel_rfl, Y⟩⟩
theorem cf114 : CF prog 114 := CF.mk func114 (by kernel_rfl) (by kernel_rfl)
theorem cf157 : CF prog 157 := CF.mk func157 (by kernel_rfl) (by kernel_rfl)
theorem ta209 : TAgg prog 209 true := by unfold TAgg; kernel_rfl
theorem ts209 : TSize prog 209 16 := by unfold TSize; kernel_rfl
theorem cf184 : CF prog 184 := CF.mk func184 (by kernel_rfl) (by kernel_rfl)
theorem tz209 : TZero prog 209 (.agg #[.int .u32 0, .int .u32 0, .int .u32 0, .int .u32 0, .int .u32 0, .int .u32 0, .int .u32 0, .int .u32 0, .int .u32 0, .int .u32 0, .int .u32 0, .int .u32 0, .int .u32 0, .int .u32 0, .int .u32 0, .int .u32 0]) := by unfold TZero; kernel_rfl
theorem cf202 : CF prog 202 := CF.mk func202 (by kernel_rfl) (by kernel_rfl)
theorem cf158 : CF prog 158 := CF.mk func158 (by kernel_rfl) (by kernel_rfl)
theorem cf185 : CF prog 185 := CF.mk func185 (by kernel_rfl) (by kernel_rfl)
theorem cf186 : CF prog 186 := CF.mk func186 (by kernel_rfl) (by kernel_rfl)
theorem cf159 : CF prog 159 := CF.mk func159 (by kernel_rfl) (by kernel_rfl)
theorem cf110 : CF prog 110 := CF.mk func110 (by kernel_rfl) (by kernel_rfl)
theorem cf111 : CF prog 111 := CF.mk func111 (by kernel_rfl) (by kernel_rfl)
theorem cf112 : CF prog 112 := CF.mk func112 (by kernel_rfl) (by kernel_rfl)
theorem ta26 : TAgg prog 26 true := by unfold TAgg; kernel_rfl
theorem ts26 : TSize prog 26 38 := by unfold TSize; kernel_rfl
theorem cf19 : CF prog 19 := CF.mk func19 (by kernel_rfl) (by kernel_rfl)
theorem cf22 : CF prog 22 := CF.mk func22 (by kernel_rfl) (by kernel_rfl)
theorem cf54 : CF prog 54 := CF.mk func54 (by kernel_rfl) (by kernel_rfl)
theorem cf55 : CF prog 55 := CF.mk func55 (by kernel_rfl) (by kernel_rfl)
theorem cf53 : CF prog 53 := CF.mk func53 (by kernel_rfl) (by kernel_rfl)
theorem ts31 : TSize prog 31 1 := by unfold TSize; kernel_rfl
theorem fa117_1 : FA prog 117 1 1 := FA.mk underlying117 Y ts31 (by decide) Y
theorem ta31 : TAgg prog 31 false := by unfold TAgg; kernel_rfl
theorem cf170 : CF prog 170 := CF.mk func170 (by kernel_rfl) (by kernel_rfl)
theorem cf141 : CF prog 141 := CF.mk func141 (by kernel_rfl) (by kernel_rfl)
theorem fa117_0 : FA prog 117 0 0 := FA.mk underlying117 Y ts91 (by decide) Y
theorem cf132 : CF prog 132 := CF.mk func132 (by kernel_rfl) (by kernel_rfl)
theorem cf82 : CF prog 82 := CF.mk func82 (by kernel_rfl) (by kernel_rfl)
theorem ta23 : TAgg prog 23 true := by unfold TAgg; kernel_rfl
theorem tz23 : TZero prog 23 (.agg #[.int .u8 0, .int .u8 0, .int .u8 0, .int .u8 0, .int .u8 0, .int .u8 0, .int .u8 0, .int .u8 0, .int .u8 0, .int .u8 0, .int .u8 0, .int .u8 0, .int .u8 0, .int .u8 0, .int .u8 0, .int .u8 0]) := by unfold TZero; kernel_rfl
theorem cf134 : CF prog 134 := CF.mk func134 (by kernel_rfl) (by kernel_rfl)
theorem cf192 : CF prog 192 := CF.mk func192 (by kernel_rfl) (by kernel_rfl)
theorem cf168 : CF prog 168 := CF.mk func168 (by kernel_rfl) (by kernel_rfl)
theorem cf136 : CF prog 136 := CF.mk func136 (by kernel_rfl) (by kernel_rfl)
theorem cf131 : CF prog 131 := CF.mk func131 (by kernel_rfl) (by kernel_rfl)
theorem ts117 : TSize prog 117 2 := by unfold TSize; kernel_rfl
theorem fa119_0 : FA prog 119 0 0 := FA.mk underlying119 Y ts117 (by decide) Y
theorem fa119_1 : FA prog 119 1 2 := FA.mk underlying119 Y ts9 (by decide) Y
theorem tz117 : TZero prog 117 (.agg #[.slice none 0 0, .int .i64 0]) := by unfold TZero; kernel_rfl
theorem cf133 : CF prog 133 := CF.mk func133 (by kernel_rfl) (by kernel_rfl)
theorem cf135 : CF prog 135 := CF.mk func135 (by kernel_rfl) (by kernel_rfl)
theorem cf137 : CF prog 137 := CF.mk func137 (by kernel_rfl) (by kernel_rfl)
theorem tz26 : TZero prog 26 (.agg #[.int .u8 0, .int .u8 0, .int .u8 0, .int .u8 0, .int .u8 0, .int .u8 0, .int .u8 0, .int .u8 0, .int .u8 0, .int .u8 0, .int .u8 0, .int .u8 0, .int .u8 0, .int .u8 0, .int .u8 0, .int .u8 0, .int .i64 0, .int .i64 0, .int .i64 0, .int .i64 0, .int .u8 0, .int .u8 0, .int .u8 0, .int .u8 0, .int .u8 0, .int .u8 0, .int .u8 0, .int .u8 0, .int .u8 0, .int .u8 0, .int .u8 0, .int .u8 0, .int .u8 0, .int .u8 0, .int .u8 0, .int .u8 0, str [], .slice none 0 0]) := by unfold TZero; kernel_rfl
theorem cf80 : CF prog 80 := CF.mk func80 (by kernel_rfl) (by kernel_rfl)
theorem cf140 : CF prog 140 := CF.mk func140 (by kernel_rfl) (by kernel_rfl)
theorem cf79 : CF prog 79 := CF.mk func79 (by kernel_rfl) (by kernel_rfl)
theorem cf142 : CF prog 142 := CF.mk func142 (by kernel_rfl) (by kernel_rfl)
theorem tz119 : TZero prog 119 (.agg #[.slice none 0 0, .int .i64 0, str []]) := by unfold TZero; kernel_rfl
theorem cf74 : CF prog 74 := CF.mk func74 (by kernel_rfl) (by kernel_rfl)
theorem cf78 : CF prog 78 := CF.mk func78 (by kernel_rfl) (by kernel_rfl)
theorem cf81 : CF prog 81 := CF.mk func81 (by kernel_rfl) (by kernel_rfl)
theorem te97 : TEl prog 97 9 := ⟨ts97, ⟨80, by unfold TBytes; kernel_rfl, by decide⟩, ⟨.agg #[.int .i64 0, .int .i64 0, str [], .int .i64 0, .int .i64 0, .int .i64 0, .int .i64 0, .int .i64 0, .bool false], by unfold TZero; kernel_rfl, Y⟩⟩
theorem eqi23 : Eqi prog 2 23 (fun v : (Vector Int 16) => vI .u8 v) := Eqi.arr underlying23 underlying5 ta5 ts5
theorem eq23 : EQ prog 23 (fun v : (Vector Int 16) => .agg (vI .u8 v).toArray) := EQ.mk (by kernel_rfl) eqi23 (by decide)
theorem eqi97 : Eqi prog 3 97 Key.C := Eqi.st (k := 2) underlying97 (by kernel_rfl) fun d i j w => (eqf_cons Y (part1 ta3 Y) (part1 ta3 Y) (run_equalIn_int underlying3 w) (eqf_cons Y (part1 ta3 Y) (part1 ta3 Y) (run_equalIn_int underlying3 w) (eqf_cons Y (part1 ta9 Y) (part1 ta9 Y) (run_equalIn_str underlying9 w) (eqf_cons Y (part1 ta3 Y) (part1 ta3 Y) (run_equalIn_int underlying3 w) (eqf_cons Y (part1 ta3 Y) (part1 ta3 Y) (run_equalIn_int underlying3 w) (eqf_cons Y (part1 ta3 Y) (part1 ta3 Y) (run_equalIn_int underlying3 w) (eqf_cons Y (part1 ta3 Y) (part1 ta3 Y) (run_equalIn_int underlying3 w) (eqf_cons Y (part1 ta3 Y) (part1 ta3 Y) (run_equalIn_int underlying3 w) (eqf_cons Y (part1 ta4 Y) (part1 ta4 Y) (run_equalIn_bool underlying4 w) eqf_nil))))))))).trans (congrArg (Result.ok · w) (by rw [Bool.eq_iff_iff]; cases i; cases j; simp))
theorem eq97 : EQ prog 97 (fun x : Key => .agg (Key.C x).toArray) := EQ.mk (by kernel_rfl) eqi97 (by decide)
theorem cf66 : CF prog 66 := CF.mk func66 (by kernel_rfl) (by kernel_rfl)
theorem fa28_1 : FA prog 28 1 1 := FA.mk underlying28 Y ts24 (by decide) Y
theorem cf61 : CF prog 61 := CF.mk func61 (by kernel_rfl) (by kernel_rfl)
theorem cf130 : CF prog 130 := CF.mk func130 (by kernel_rfl) (by kernel_rfl)
theorem cf73 : CF prog 73 := CF.mk func73 (by kernel_rfl) (by kernel_rfl)
theorem cf129 : CF prog 129 := CF.mk func129 (by kernel_rfl) (by kernel_rfl)
theorem ta28 : TAgg prog 28 true := by unfold TAgg; kernel_rfl
theorem ts28 : TSize prog 28 2 := by unfold TSize; kernel_rfl
theorem cf16 : CF prog 16 := CF.mk func16 (by kernel_rfl) (by kernel_rfl)
theorem cf72 : CF prog 72 := CF.mk func72 (by kernel_rfl) (by kernel_rfl)
theorem cf71 : CF prog 71 := CF.mk func71 (by kernel_rfl) (by kernel_rfl)
theorem cf52 : CF prog 52 := CF.mk func52 (by kernel_rfl) (by kernel_rfl)
theorem cf14 : CF prog 14 := CF.mk func14 (by kernel_rfl) (by kernel_rfl)
theorem cf28 : CF prog 28 := CF.mk func28 (by kernel_rfl) (by kernel_rfl)
theorem cf26 : CF prog 26 := CF.mk func26 (by kernel_rfl) (by kernel_rfl)
theorem tz28 : TZero prog 28 (.agg #[.int .i64 0, .slice none 0 0]) := by unfold TZero; kernel_rfl
theorem cf18 : CF prog 18 := CF.mk func18 (by kernel_rfl) (by kernel_rfl)
theorem cf21 : CF prog 21 := CF.mk func21 (by kernel_rfl) (by kernel_rfl)
theorem cf24 : CF prog 24 := CF.mk func24 (by kernel_rfl) (by kernel_rfl)
theorem cf127 : CF prog 127 := CF.mk func127 (by kernel_rfl) (by kernel_rfl)
theorem cf64 : CF prog 64 := CF.mk func64 (by kernel_rfl) (by kernel_rfl)
theorem cf65 : CF prog 65 := CF.mk func65 (by kernel_rfl) (by kernel_rfl)
theorem cf123 : CF prog 123 := CF.mk func123 (by kernel_rfl) (by kernel_rfl)
theorem cf60 : CF prog 60 := CF.mk func60 (by kernel_rfl) (by kernel_rfl)
theorem cf191 : CF prog 191 := CF.mk func191 (by kernel_rfl) (by kernel_rfl)
theorem cf189 : CF prog 189 := CF.mk func189 (by kernel_rfl) (by kernel_rfl)
theorem cf190 : CF prog 190 := CF.mk func190 (by kernel_rfl) (by kernel_rfl)
theorem cf166 : CF prog 166 := CF.mk func166 (by kernel_rfl) (by kernel_rfl)
theorem cf165 : CF prog 165 := CF.mk func165 (by kernel_rfl) (by kernel_rfl)
theorem cf164 : CF prog 164 := CF.mk func164 (by kernel_rfl) (by kernel_rfl)
theorem cf121 : CF prog 121 := CF.mk func121 (by kernel_rfl) (by kernel_rfl)
theorem cf120 : CF prog 120 := CF.mk func120 (by kernel_rfl) (by kernel_rfl)
theorem cf187 : CF prog 187 := CF.mk func187 (by kernel_rfl) (by kernel_rfl)
theorem ts70 : TSize prog 70 1 := by unfold TSize; kernel_rfl
theorem te70 : TEl prog 70 1 := ⟨ts70, ⟨24, by unfold TBytes; kernel_rfl, by decide⟩, ⟨.slice none 0 0, by unfold TZero; kernel_rfl, Y⟩⟩
theorem cf213 : CF prog 213 := CF.mk func213 (by kernel_rfl) (by kernel_rfl)
theorem cf203 : CF prog 203 := CF.mk func203 (by kernel_rfl) (by kernel_rfl)
theorem ta70 : TAgg prog 70 false := by unfold TAgg; kernel_rfl
theorem cf204 : CF prog 204 := CF.mk func204 (by kernel_rfl) (by kernel_rfl)
theorem cf162 : CF prog 162 := CF.mk func162 (by kernel_rfl) (by kernel_rfl)
theorem cf188 : CF prog 188 := CF.mk func188 (by kernel_rfl) (by kernel_rfl)
theorem cf163 : CF prog 163 := CF.mk func163 (by kernel_rfl) (by kernel_rfl)
theorem cf116 : CF prog 116 := CF.mk func116 (by kernel_rfl) (by kernel_rfl)
theorem cf117 : CF prog 117 := CF.mk func117 (by kernel_rfl) (by kernel_rfl)
theorem cf118 : CF prog 118 := CF.mk func118 (by kernel_rfl) (by kernel_rfl)
theorem cf119 : CF prog 119 := CF.mk func119 (by kernel_rfl) (by kernel_rfl)
theorem cf20 : CF prog 20 := CF.mk func20 (by kernel_rfl) (by kernel_rfl)
theorem cf58 : CF prog 58 := CF.mk func58 (by kernel_rfl) (by kernel_rfl)
theorem cf12 : CF prog 12 := CF.mk func12 (by kernel_rfl) (by kernel_rfl)
theorem cf13 : CF prog 13 := CF.mk func13 (by kernel_rfl) (by kernel_rfl)
theorem cf169 : CF prog 169 := CF.mk func169 (by kernel_rfl) (by kernel_rfl)
theorem cf139 : CF prog 139 := CF.mk func139 (by kernel_rfl) (by kernel_rfl)
theorem cf138 : CF prog 138 := CF.mk func138 (by kernel_rfl) (by kernel_rfl)
theorem cf75 : CF prog 75 := CF.mk func75 (by kernel_rfl) (by kernel_rfl)
theorem cf76 : CF prog 76 := CF.mk func76 (by kernel_rfl) (by kernel_rfl)
theorem cf77 : CF prog 77 := CF.mk func77 (by kernel_rfl) (by kernel_rfl)
theorem cf84 : CF prog 84 := CF.mk func84 (by kernel_rfl) (by kernel_rfl)
theorem cf27 : CF prog 27 := CF.mk func27 (by kernel_rfl) (by kernel_rfl)
theorem cf83 : CF prog 83 := CF.mk func83 (by kernel_rfl) (by kernel_rfl)
theorem cf85 : CF prog 85 := CF.mk func85 (by kernel_rfl) (by kernel_rfl)
theorem cf29 : CF prog 29 := CF.mk func29 (by kernel_rfl) (by kernel_rfl)
/-- The package variables hold what they are given. -/
structure Gl (M : Heap) : Prop where
 g0 : ∃ T f, M 0 = some (.cells (vI .u32 ref02_constants).toArray T f)
 g1 : ∃ T f, M 1 = some (.cells (vI .u32 hash_constants).toArray T f)
theorem Gl.mono {M M' : Heap} (h : Gl M) (hM : HLe M M') : Gl M' := ⟨h.g0.imp fun _ h => h.imp fun _ h => hM _ _ h, h.g1.imp fun _ h => h.imp fun _ h => hM _ _ h⟩
theorem law36_few.calls (hM : Sub M w) (p0 : Backup) (v1 : Value) (h2 : RS Key.F M v1 p0.Keys) (r : Bool) (H : law36_few p0 = some r) :
  Calls prog 12 [.agg (Backup.C p0 v1).toArray].toArray w (Post M w fun M' v => v = (.bool r)) := by
 refine enter 29 [(0, .agg (Backup.C p0 v1).toArray)] func12 Y Y Y hM ?_
 intro Q hret
 unfold law36_few at H
 refine c_sr fun _ k3 => w_boxM trivial Y Y Y ?_
 intro b4 M5 l6 h7
 replace h2 := h2.mono l6
 refine va Y Y (wk k3 ?_)
 refine c_cut (fun a' w' => ∃ (M8 : Heap), HLe M5 M8 ∧ Fr 29 [(1, ptr b4 0)] a' ∧ St none' M w M8 (lt []) w' ∧ law36_few.j1 p0 = some r) ?_ ?_
 ·refine c_seq ?_
  intro K14 k14
  refine c_reg (va Y Y (wk k14 (c_block ?_)))
  refine c_loop (fun (s15 : Int) a' w' => ∃ (M16 : Heap), HLe M5 M16 ∧ Fr 29 [(1, ptr b4 0), (3, .int .i64 s15)] a' ∧ St none' M w M16 (lt []) w') 0 H ?_ ?_
  ·intro a w' f s
   exact ⟨_, HLe.refl _, f.pk Y, s.selD [] (by decide) Y⟩
  intro s15 y19 H r18 a w' hJ
  obtain ⟨M16, l17, f, s⟩ := hJ
  refine cof f s ?_
  unfold law36_few.l2 at H
  replace h2 := h2.mono l17
  replace h7 := l17 _ _ h7
  refine c_seq fun K20 k20 => c_sr fun _ k21 => vm Y Y (v_fa fa26_7 Y Y (wv Y (fun f s => r_load1 ta24 (f.ev Y) (s.sub _ _ h7) (Backup.g37 _ _)) (wv Y (fun f s => r_lenR underlying24 h2 (f.ev Y)) (v_lss Y Y Y (wk k21 (c_if Y (fun b22 => ?_) (fun b22 => ?_)))))))
  ·replace H := if_t b22 H
   refine cs k20 (c_seq fun K23 k23 => c_block (c_sr fun _ k24 => v_fa fa26_7 Y Y (wv Y (fun f s => r_load1 ta24 (f.ev Y) (s.sub _ _ h7) (Backup.g37 _ _)) (vm Y Y ?_))))
   obtain ⟨g25, H⟩ := grd_s H
   refine wv Y (fun f s => r_iR underlying24 ts97 h2 (f.ev Y) (f.ev Y) g25.1 g25.2) (wv Y (fun f s => r_faE fa97_2 h2 g25.1 g25.2 (f.ev Y)) (wv Y (fun f s => r_loadE1 ta9 h2 s.sub g25.1 g25.2 (f.ev Y) Y) (wv Y (fun f s => r_slen underlying9 (f.ev Y)) (wv Y (fun f s => r_gtr (f.ev Y) (f.ev Y)) (wk k24 (c_if Y (fun b26 => ?_) (fun b26 => ?_)))))))
   ·replace H := if_t b26 H
    refine c_sr fun _ k27 => va Y Y (wk k27 ?_)
    obtain rfl := (r18 _ (Option.some.inj H).symm)
    exact cx1 hret Y Y Y Y
   replace H := if_f b26 H
   exact cs k23 (c_reg (vm Y Y (v_add Y Y Y (va Y Y (w_nil fun a w' f s => ⟨_, (some_r H).symm, _, l17.trans (HLe.refl _), f.pk Y, s.selD [] (by decide) Y⟩)))))
  replace H := if_f b22 H
  replace H := map_inr H r18
  refine c_exit ?_
  intro a w' f s
  exact ⟨_, l17, f.pk Y, s.selD [] (by decide) Y, H⟩
 rintro a w' ⟨M8, l9, f, s, H⟩
 refine cof f s ?_
 unfold law36_few.j1 at H
 replace h2 := h2.mono l9
 replace h7 := l9 _ _ h7
 obtain ⟨t10, H1, H⟩ := bnd H
 refine c_cut (fun a' w' => ∃ (M11 : Heap), HLe M8 M11 ∧ Fr 29 [(2, .bool t10)] a' ∧ St none' M w M11 (lt []) w') ?_ ?_
 ·replace H := H1
  refine c_reg (v_fa fa26_7 Y Y (wv Y (fun f s => r_load1 ta24 (f.ev Y) (s.sub _ _ h7) (Backup.g37 _ _)) (wv Y (fun f s => r_lenR underlying24 h2 (f.ev Y)) (wv Y (fun f s => r_leq (f.ev Y) (f.ev Y)) (vm Y Y ?_)))))
  by_cases b13 : (decide ((p0.Keys.length : Int) ≤ 40)) = true
  ·replace H := if_t b13 H
   refine wg b13 Y Y Y (fun f s => r_fa fa26_6 (f.ev Y)) (wg b13 Y Y Y (fun f s => r_load1 ta9 (f.ev Y) (s.sub _ _ h7) (Backup.g36 _ _)) (wg b13 Y Y Y (fun f s => r_slen underlying9 (f.ev Y)) (wg b13 Y Y Y (fun f s => r_leq (f.ev Y) (f.ev Y)) (wv Y (fun f s => r_pickT (f.ev Y) b13 (f.ev Y)) (va Y Y ?_)))))
   obtain rfl := some_r H
   exact w_nil fun a w' f s => ⟨_, HLe.refl _, f.pk Y, s.sel [] (by decide) Y⟩
  replace b13 := Bool.eq_false_iff.2 b13
  replace H := if_f b13 H
  refine wq b13 Y Y Y (wq b13 Y Y Y (wq b13 Y Y Y (wq b13 Y Y Y (wv Y (fun f s => r_pickF (f.ev Y) b13 (f.ev Y)) (va Y Y ?_)))))
  obtain rfl := some_r H
  exact w_nil fun a w' f s => ⟨_, HLe.refl _, f.pk Y, s.sel [] (by decide) Y⟩
 rintro a w' ⟨M11, l12, f, s⟩
 refine cof f s ?_
 obtain rfl := some_r H
 exact cx1 hret Y Y Y Y
theorem law36_value.calls (hM : Sub M w) (p0 : Int) (r : (List UInt8)) (H : law36_value p0 = some r) :
  Calls prog 52 [.int .u8 p0].toArray w (Post M w fun M' v => v = (str r)) := by
 refine enter 16 [(0, .int .u8 p0)] func52 Y Y Y hM ?_
 intro Q hret
 unfold law36_value at H
 refine c_sr fun _ k1 => va Y Y (wk k1 (c_sr fun _ k2 => ?_))
 obtain ⟨g4, H⟩ := grd_s H
 refine w_mk (F := (FI .u8)) underlying91 fz5 trivial Y Y Y g4.1 g4.2.1 g4.2.2 ?_
 intro v3
 refine va Y Y (wk k2 ?_)
 refine c_cut (fun a' w' => ∃ (x5 : (List Int)) (v6 : Value) (M7 : Heap), HLe M M7 ∧ Fr 16 [(3, v6)] a' ∧ St none' M w M7 (lt [rowI (FI .u8) v6 5 x5]) w' ∧ law36_value.j1 x5 = some r) ?_ ?_
 ·refine c_seq ?_
  intro K13 k13
  refine c_reg (va Y Y (wk k13 (c_block ?_)))
  refine c_loop (fun (s14 : ((List Int) × Int)) a' w' => ∃ (v15 : Value) (M16 : Heap), HLe M M16 ∧ Fr 16 [(0, .int .u8 p0), (3, v15), (4, .int .i64 s14.2)] a' ∧ St none' M w M16 (lt [rowI (FI .u8) v15 5 s14.1]) w') (List.replicate ((32 : Int)).toNat 0, 0) H ?_ ?_
  ·intro a w' f s
   exact ⟨v3, _, HLe.refl _, f.pk Y, s.selD [some 0] (by decide) Y⟩
  intro s14 y19 H r18 a w' hJ
  obtain ⟨v15, M16, l17, f, s⟩ := hJ
  refine cof f s ?_
  unfold law36_value.l2 at H
  refine c_seq fun K20 k20 => c_sr fun _ k21 => vm Y Y (v_lss Y Y Y (wk k21 (c_if Y (fun b22 => ?_) (fun b22 => ?_))))
  ·replace H := if_t b22 H
   refine cs k20 (c_seq fun K23 k23 => c_block (c_reg (vm Y Y (vm Y Y (vm Y Y ?_)))))
   obtain ⟨g24, H⟩ := grd_s H
   exact wv Y (fun f s => r_iW 0 s Y underlying91 ts5 (f.ev Y) (f.ev Y) g24.1 g24.2) (w_storeW (e := p0) 0 (FI.one _) trivial Y Y Y Y ts5 g24.1 g24.2 (wk k23 (c_reg (vm Y Y (v_add Y Y Y (va Y Y (w_nil fun a w' f s => ⟨_, (some_r H).symm, v15, _, l17.trans (HLe.refl _), f.pk Y, s.selD [some 0] (by decide) Y⟩)))))))
  replace H := if_f b22 H
  replace H := map_inr H r18
  refine c_exit ?_
  intro a w' f s
  exact ⟨s14.1, v15, _, l17, f.pk Y, s.selD [some 0] (by decide) Y, H⟩
 rintro a w' ⟨x5, v6, M7, l8, f, s, H⟩
 refine cof f s ?_
 unfold law36_value.j1 at H
 refine c_sr fun _ k9 => vm Y Y (w_give 0 Y (fun _ h => h) ?_)
 intro M10 l11 h12
 refine wv Y (fun f s => r_b2s underlying91 underlying5 underlying9 h12 s.sub (f.ev Y)) (va Y Y (wk k9 ?_))
 obtain rfl := some_r H
 exact cx1 hret Y Y Y Y
theorem keys_within.calls (hM : Sub M w) (p0 : Int) (p1 : Int) (p2 : Int) (r : Bool) (H : keys_within p0 p1 p2 = some r) :
  Calls prog 124 [.int .i64 p0, .int .i64 p1, .int .i64 p2].toArray w (Post M w fun M' v => v = (.bool r)) := by
 refine enter 15 [(0, .int .i64 p0), (1, .int .i64 p1), (2, .int .i64 p2)] func124 Y Y Y hM ?_
 intro Q hret
 unfold keys_within at H
 refine c_sr fun _ k1 => va Y Y (wk k1 ?_)
 obtain ⟨t2, H1, H⟩ := bnd H
 refine c_cut (fun a' w' => ∃ (M3 : Heap), HLe M M3 ∧ Fr 15 [(6, .bool t2)] a' ∧ St none' M w M3 (lt []) w') ?_ ?_
 ·replace H := H1
  refine c_reg (vm Y Y (vm Y Y (wv Y (fun f s => r_leq (f.ev Y) (f.ev Y)) (vm Y Y ?_))))
  by_cases b5 : (decide (p1 ≤ p0)) = true
  ·replace H := if_t b5 H
   refine wg b5 Y Y Y (fun f s => r_move (f.ev Y)) (wg b5 Y Y Y (fun f s => r_move (f.ev Y)) (wg b5 Y Y Y (fun f s => r_leq (f.ev Y) (f.ev Y)) (wv Y (fun f s => r_pickT (f.ev Y) b5 (f.ev Y)) (va Y Y ?_))))
   obtain rfl := some_r H
   exact w_nil fun a w' f s => ⟨_, HLe.refl _, f.pk Y, s.sel [] (by decide) Y⟩
  replace b5 := Bool.eq_false_iff.2 b5
  replace H := if_f b5 H
  refine wq b5 Y Y Y (wq b5 Y Y Y (wq b5 Y Y Y (wv Y (fun f s => r_pickF (f.ev Y) b5 (f.ev Y)) (va Y Y ?_))))
  obtain rfl := some_r H
  exact w_nil fun a w' f s => ⟨_, HLe.refl _, f.pk Y, s.sel [] (by decide) Y⟩
 rintro a w' ⟨M3, l4, f, s⟩
 refine cof f s ?_
 obtain rfl := some_r H
 exact cx1 hret Y Y Y Y
theorem keys_Valid.calls (hM : Sub M w) (p0 : Key) (r : Bool) (H : keys_Valid p0 = some r) :
  Calls prog 62 [.agg (Key.C p0).toArray].toArray w (Post M w fun M' v => v = (.bool r)) := by
 refine enter 40 [(0, .agg (Key.C p0).toArray)] func62 Y Y Y hM ?_
 intro Q hret
 unfold keys_Valid at H
 refine c_sr fun _ k1 => w_boxM trivial Y Y Y ?_
 intro b2 M3 l4 h5
 refine va Y Y (wk k1 ?_)
 obtain ⟨t6, H1, H⟩ := bnd H
 refine c_cut (fun a' w' => ∃ (M7 : Heap), HLe M3 M7 ∧ Fr 40 [(2, .bool t6)] a' ∧ St none' M w M7 (lt []) w') ?_ ?_
 ·replace H := H1
  refine c_reg (v_fa fa97_1 Y Y (wv Y (fun f s => r_load1 ta3 (f.ev Y) (s.sub _ _ h5) Y) ?_))
  obtain ⟨t9, e14, H⟩ := bnd H
  refine w_call cf124 trivial Y Y (fun w s => keys_within.calls s p0.Type_ 0 31 _ e14) ?_
  rintro _ M11 l12 rfl
  replace h5 := l12 _ _ h5
  refine vm Y Y ?_
  by_cases b15 : t9 = true
  ·replace H := if_t b15 H
   refine wg b15 Y Y Y (fun f s => r_fa fa97_2 (f.ev Y)) (wg b15 Y Y Y (fun f s => r_load1 ta9 (f.ev Y) (s.sub _ _ h5) Y) (wg b15 Y Y Y (fun f s => r_slen underlying9 (f.ev Y)) (wg b15 Y Y Y (fun f s => r_eql (f.ev Y) (f.ev Y)) (wv Y (fun f s => r_pickT (f.ev Y) b15 (f.ev Y)) (vm Y Y ?_)))))
   by_cases b16 : ((p0.Value.length : Int) == 32) = true
   ·replace H := if_t b16 H
    refine wg b16 Y Y Y (fun f s => r_fa fa97_3 (f.ev Y)) (wg b16 Y Y Y (fun f s => r_load1 ta3 (f.ev Y) (s.sub _ _ h5) Y) (wg b16 Y Y Y (fun f s => r_andNot (f.ev Y) (f.ev Y)) (wg b16 Y Y Y (fun f s => r_eql (f.ev Y) (f.ev Y)) (wv Y (fun f s => r_pickT (f.ev Y) b16 (f.ev Y)) (vm Y Y ?_)))))
    by_cases b17 : ((bits .andNot .i64 p0.Uses 956) == 0) = true
    ·replace H := if_t b17 H
     refine wg b17 Y Y Y (fun f s => r_fa fa97_4 (f.ev Y)) (wg b17 Y Y Y (fun f s => r_load1 ta3 (f.ev Y) (s.sub _ _ h5) Y) (wg b17 Y Y Y (fun f s => r_fa fa97_5 (f.ev Y)) (wg b17 Y Y Y (fun f s => r_load1 ta3 (f.ev Y) (s.sub _ _ h5) Y) ?_)))
     obtain ⟨t18, e23, H⟩ := bnd H
     refine w_call cf124 (Wnt.of Y Y b17) Y Y (fun w s => keys_within.calls s p0.Start 0 p0.End _ e23) ?_
     rintro _ M20 l21 rfl
     replace h5 := l21 _ _ h5
     refine wv Y (fun f s => r_pickT (f.ev Y) b17 (f.ev Y)) (vm Y Y ?_)
     by_cases b24 : t18 = true
     ·replace H := if_t b24 H
      refine wg b24 Y Y Y (fun f s => r_fa fa97_5 (f.ev Y)) (wg b24 Y Y Y (fun f s => r_load1 ta3 (f.ev Y) (s.sub _ _ h5) Y) ?_)
      obtain ⟨t25, e30, H⟩ := bnd H
      refine w_call cf124 (Wnt.of Y Y b24) Y Y (fun w s => keys_within.calls s p0.End 0 1099511627776 _ e30) ?_
      rintro _ M27 l28 rfl
      replace h5 := l28 _ _ h5
      refine wv Y (fun f s => r_pickT (f.ev Y) b24 (f.ev Y)) (vm Y Y ?_)
      by_cases b31 : t25 = true
      ·replace H := if_t b31 H
       refine wg b31 Y Y Y (fun f s => r_fa fa97_6 (f.ev Y)) (wg b31 Y Y Y (fun f s => r_load1 ta3 (f.ev Y) (s.sub _ _ h5) Y) ?_)
       obtain ⟨t32, e37, H⟩ := bnd H
       refine w_call cf124 (Wnt.of Y Y b31) Y Y (fun w s => keys_within.calls s p0.Version 1 2147483647 _ e37) ?_
       rintro _ M34 l35 rfl
       replace h5 := l35 _ _ h5
       refine wv Y (fun f s => r_pickT (f.ev Y) b31 (f.ev Y)) (vm Y Y ?_)
       by_cases b38 : t32 = true
       ·replace H := if_t b38 H
        refine wg b38 Y Y Y (fun f s => r_fa fa97_7 (f.ev Y)) (wg b38 Y Y Y (fun f s => r_load1 ta3 (f.ev Y) (s.sub _ _ h5) Y) ?_)
        obtain ⟨t39, e44, H⟩ := bnd H
        refine w_call cf124 (Wnt.of Y Y b38) Y Y (fun w s => keys_within.calls s p0.Parent 0 2147483647 _ e44) ?_
        rintro _ M41 l42 rfl
        refine wv Y (fun f s => r_pickT (f.ev Y) b38 (f.ev Y)) (va Y Y ?_)
        obtain rfl := some_r H
        exact w_nil fun a w' f s => ⟨_, l12.trans (l21.trans (l28.trans (l35.trans l42))), f.pk Y, s.sel [] (by decide) Y⟩
       replace b38 := Bool.eq_false_iff.2 b38
       replace H := if_f b38 H
       refine wq b38 Y Y Y (wq b38 Y Y Y (wq b38 Y Y Y (wv Y (fun f s => r_pickF (f.ev Y) b38 (f.ev Y)) (va Y Y ?_))))
       obtain rfl := some_r H
       exact w_nil fun a w' f s => ⟨_, l12.trans (l21.trans (l28.trans l35)), f.pk Y, s.sel [] (by decide) Y⟩
      replace b31 := Bool.eq_false_iff.2 b31
      replace H := if_f b31 H
      refine wq b31 Y Y Y (wq b31 Y Y Y (wq b31 Y Y Y (wv Y (fun f s => r_pickF (f.ev Y) b31 (f.ev Y)) (vm Y Y (wqs 3 Y (wv Y (fun f s => r_pickF (f.ev Y) Y (f.ev Y)) (va Y Y ?_)))))))
      obtain rfl := some_r H
      exact w_nil fun a w' f s => ⟨_, l12.trans (l21.trans l28), f.pk Y, s.sel [] (by decide) Y⟩
     replace b24 := Bool.eq_false_iff.2 b24
     replace H := if_f b24 H
     refine wq b24 Y Y Y (wq b24 Y Y Y (wq b24 Y Y Y (wv Y (fun f s => r_pickF (f.ev Y) b24 (f.ev Y)) (vm Y Y (wqs 3 Y (wv Y (fun f s => r_pickF (f.ev Y) Y (f.ev Y)) (vm Y Y (wqs 3 Y (wv Y (fun f s => r_pickF (f.ev Y) Y (f.ev Y)) (va Y Y ?_))))))))))
     obtain rfl := some_r H
     exact w_nil fun a w' f s => ⟨_, l12.trans l21, f.pk Y, s.sel [] (by decide) Y⟩
    replace b17 := Bool.eq_false_iff.2 b17
    replace H := if_f b17 H
    refine wq b17 Y Y Y (wq b17 Y Y Y (wq b17 Y Y Y (wq b17 Y Y Y (wq b17 Y Y Y (wv Y (fun f s => r_pickF (f.ev Y) b17 (f.ev Y)) (vm Y Y (wqs 3 Y (wv Y (fun f s => r_pickF (f.ev Y) Y (f.ev Y)) (vm Y Y (wqs 3 Y (wv Y (fun f s => r_pickF (f.ev Y) Y (f.ev Y)) (vm Y Y (wqs 3 Y (wv Y (fun f s => r_pickF (f.ev Y) Y (f.ev Y)) (va Y Y ?_)))))))))))))))
    obtain rfl := some_r H
    exact w_nil fun a w' f s => ⟨_, l12, f.pk Y, s.sel [] (by decide) Y⟩
   replace b16 := Bool.eq_false_iff.2 b16
   replace H := if_f b16 H
   refine wq b16 Y Y Y (wq b16 Y Y Y (wq b16 Y Y Y (wq b16 Y Y Y (wv Y (fun f s => r_pickF (f.ev Y) b16 (f.ev Y)) (vm Y Y (wqs 5 Y (wv Y (fun f s => r_pickF (f.ev Y) Y (f.ev Y)) (vm Y Y (wqs 3 Y (wv Y (fun f s => r_pickF (f.ev Y) Y (f.ev Y)) (vm Y Y (wqs 3 Y (wv Y (fun f s => r_pickF (f.ev Y) Y (f.ev Y)) (vm Y Y (wqs 3 Y (wv Y (fun f s => r_pickF (f.ev Y) Y (f.ev Y)) (va Y Y ?_)))))))))))))))))
   obtain rfl := some_r H
   exact w_nil fun a w' f s => ⟨_, l12, f.pk Y, s.sel [] (by decide) Y⟩
  replace b15 := Bool.eq_false_iff.2 b15
  replace H := if_f b15 H
  refine wq b15 Y Y Y (wq b15 Y Y Y (wq b15 Y Y Y (wq b15 Y Y Y (wv Y (fun f s => r_pickF (f.ev Y) b15 (f.ev Y)) (vm Y Y (wqs 4 Y (wv Y (fun f s => r_pickF (f.ev Y) Y (f.ev Y)) (vm Y Y (wqs 5 Y (wv Y (fun f s => r_pickF (f.ev Y) Y (f.ev Y)) (vm Y Y (wqs 3 Y (wv Y (fun f s => r_pickF (f.ev Y) Y (f.ev Y)) (vm Y Y (wqs 3 Y (wv Y (fun f s => r_pickF (f.ev Y) Y (f.ev Y)) (vm Y Y (wqs 3 Y (wv Y (fun f s => r_pickF (f.ev Y) Y (f.ev Y)) (va Y Y ?_))))))))))))))))))))
  obtain rfl := some_r H
  exact w_nil fun a w' f s => ⟨_, l12, f.pk Y, s.sel [] (by decide) Y⟩
 rintro a w' ⟨M7, l8, f, s⟩
 refine cof f s ?_
 obtain rfl := some_r H
 exact cx1 hret Y Y Y Y
theorem backup_within_1.calls (hM : Sub M w) (p0 : Int) (c0_ : Int) (cb0_ : Nat) (ch0_ : M cb0_ = some (.cells ([.int .i64 c0_]).toArray 3 (0, 0))) (r : Bool) (H : backup_within_1 p0 c0_ = some r) :
  Calls prog 126 [.int .i64 p0, ptr cb0_ 0].toArray w (Post M w fun M' v => v = (.bool r)) := by
 refine enter 11 [(0, .int .i64 p0), (1, ptr cb0_ 0)] func126 Y Y Y hM ?_
 intro Q hret
 unfold backup_within_1 at H
 refine c_sr fun _ k1 => va Y Y (wk k1 ?_)
 obtain ⟨t2, H1, H⟩ := bnd H
 refine c_cut (fun a' w' => ∃ (M3 : Heap), HLe M M3 ∧ Fr 11 [(3, .bool t2)] a' ∧ St none' M w M3 (lt []) w') ?_ ?_
 ·replace H := H1
  refine c_reg (vm Y Y (v_lss Y Y Y (vm Y Y ?_)))
  by_cases b5 : (decide (p0 < 0)) = true
  ·replace H := if_t b5 H
   refine wq b5 Y Y Y (wq b5 Y Y Y (wq b5 Y Y Y (wv Y (fun f s => r_pickT (f.ev Y) b5 (f.ev Y)) (va Y Y ?_))))
   obtain rfl := some_r H
   exact w_nil fun a w' f s => ⟨_, HLe.refl _, f.pk Y, s.sel [] (by decide) Y⟩
  replace b5 := Bool.eq_false_iff.2 b5
  replace H := if_f b5 H
  refine wg b5 Y Y Y (fun f s => r_move (f.ev Y)) (wg b5 Y Y Y (fun f s => r_load1 ta3 (f.ev Y) (s.sub _ _ ch0_) Y) (wg b5 Y Y Y (fun f s => r_gtr (f.ev Y) (f.ev Y)) (wv Y (fun f s => r_pickF (f.ev Y) b5 (f.ev Y)) (va Y Y ?_))))
  obtain rfl := some_r H
  exact w_nil fun a w' f s => ⟨_, HLe.refl _, f.pk Y, s.sel [] (by decide) Y⟩
 rintro a w' ⟨M3, l4, f, s⟩
 refine cof f s ?_
 obtain rfl := some_r H
 exact cx1 hret Y Y Y Y
theorem slices_IndexFunc_int.calls (hM : Sub M w) (p0 : (List Int)) (v1 : Value) (h2 : RS (FI .i64) M v1 p0) (p1 : (Int → Option Bool)) (p1v : Value) (p1h : FnS prog M p1v (Value.int .i64) Value.bool p1) (r : Int) (H : slices_IndexFunc_int p0 p1 = some r) :
  Calls prog 167 [v1, p1v].toArray w (Post M w fun M' v => v = (.int .i64 r)) := by
 refine enter 19 [(0, v1), (1, p1v)] func167 Y Y Y hM ?_
 intro Q hret
 unfold slices_IndexFunc_int at H
 refine c_sr fun _ k3 => va Y Y (wk k3 ?_)
 refine c_cut (fun a' w' => ∃ (M4 : Heap), HLe M M4 ∧ Fr 19 [] a' ∧ St none' M w M4 (lt []) w' ∧ slices_IndexFunc_int.j1  = some r) ?_ ?_
 ·refine c_seq ?_
  intro K7 k7
  refine c_reg (vm Y Y (wv Y (fun f s => r_lenR underlying70 h2 (f.ev Y)) (vm Y Y (wk k7 (c_block ?_)))))
  refine c_loop (fun (s8 : Int) a' w' => ∃ (M9 : Heap), HLe M M9 ∧ Fr 19 [(0, v1), (1, p1v), (7, .int .i64 (p0.length : Int)), (8, .int .i64 s8)] a' ∧ St none' M w M9 (lt []) w') 0 H ?_ ?_
  ·intro a w' f s
   exact ⟨_, HLe.refl _, f.pk Y, s.selD [] (by decide) Y⟩
  intro s8 y12 H r11 a w' hJ
  obtain ⟨M9, l10, f, s⟩ := hJ
  refine cof f s ?_
  unfold slices_IndexFunc_int.l2 at H
  replace h2 := h2.mono l10
  replace p1h := p1h.mono l10
  refine c_sr fun _ k13 => v_lss Y Y Y (wk k13 (c_seq fun K14 k14 => c_if Y (fun b15 => ?_) (fun b15 => ?_)))
  ·replace H := if_t b15 H
   refine cs k14 (c_seq fun K16 k16 => c_block (c_sr fun _ k17 => vm Y Y (va Y Y (wk k17 (c_sr fun _ k18 => vm Y Y (vm Y Y (vm Y Y ?_)))))))
   obtain ⟨g19, H⟩ := grd_s H
   refine wv Y (fun f s => r_iR underlying70 ts3 h2 (f.ev Y) (f.ev Y) g19.1 g19.2) (wv Y (fun f s => r_loadE1 ta3 h2 s.sub g19.1 g19.2 (f.ev Y) Y) ?_)
   obtain ⟨t20, e25, H⟩ := bnd H
   refine w_callV trivial Y Y Y (fun _ h => by cases h) (fun w s => p1h _ w _ _ (HLe.refl _) s e25) ?_
   rintro _ M22 l23 rfl
   refine wk k18 (c_if Y (fun b26 => ?_) (fun b26 => ?_))
   ·replace H := if_t b26 H
    refine c_sr fun _ k27 => vm Y Y (va Y Y (wk k27 ?_))
    obtain rfl := (r11 _ (Option.some.inj H).symm)
    exact cx1 hret Y Y Y Y
   replace H := if_f b26 H
   exact cs k16 (c_reg (v_add Y Y Y (vm Y Y (w_nil fun a w' f s => ⟨_, (some_r H).symm, _, l10.trans l23, f.pk Y, s.selD [] (by decide) Y⟩))))
  replace H := if_f b15 H
  replace H := map_inr H r11
  refine c_exit ?_
  intro a w' f s
  exact ⟨_, l10, f.nil, s.selD [] (by decide) Y, H⟩
 rintro a w' ⟨M4, l5, f, s, H⟩
 refine cof f s ?_
 unfold slices_IndexFunc_int.j1 at H
 refine c_sr fun _ k6 => va Y Y (wk k6 ?_)
 obtain rfl := some_r H
 exact cx1 hret Y Y Y Y
theorem slices_ContainsFunc_int.calls (hM : Sub M w) (p0 : (List Int)) (v1 : Value) (h2 : RS (FI .i64) M v1 p0) (p1 : (Int → Option Bool)) (p1v : Value) (p1h : FnS prog M p1v (Value.int .i64) Value.bool p1) (r : Bool) (H : slices_ContainsFunc_int p0 p1 = some r) :
  Calls prog 125 [v1, p1v].toArray w (Post M w fun M' v => v = (.bool r)) := by
 refine enter 9 [(0, v1), (1, p1v)] func125 Y Y Y hM ?_
 intro Q hret
 unfold slices_ContainsFunc_int at H
 refine c_sr fun _ k3 => va Y Y (wk k3 (c_sr fun _ k4 => vm Y Y (vm Y Y ?_)))
 obtain ⟨t5, e10, H⟩ := bnd H
 refine w_call cf167 trivial Y Y (fun w s => slices_IndexFunc_int.calls s p0 v1 h2 p1 p1v p1h _ e10) ?_
 rintro _ M7 l8 rfl
 refine wv Y (fun f s => r_geq (f.ev Y) (f.ev Y)) (va Y Y (wk k4 ?_))
 obtain rfl := some_r H
 exact cx1 hret Y Y Y Y
theorem backup_within.calls (hM : Sub M w) (p0 : Int) (p1 : (List Int)) (v1 : Value) (h2 : RS (FI .i64) M v1 p1) (r : Bool) (H : backup_within p0 p1 = some r) :
  Calls prog 63 [.int .i64 p0, v1].toArray w (Post M w fun M' v => v = (.bool r)) := by
 refine enter 9 [(0, .int .i64 p0), (1, v1)] func63 Y Y Y hM ?_
 intro Q hret
 unfold backup_within at H
 refine c_sr fun _ k3 => w_boxM trivial Y Y Y ?_
 intro b4 M5 l6 h7
 replace h2 := h2.mono l6
 refine va Y Y (wk k3 (c_sr fun _ k8 => vm Y Y (wv Y (fun f s => r_makeFunc (f.evs Y)) ?_)))
 obtain ⟨t9, e14, H⟩ := bnd H
 refine w_call cf125 trivial Y Y (fun w s => slices_ContainsFunc_int.calls s p1 v1 h2 (fun x => backup_within_1 x p0) (.func (.func 126) #[] #[ptr b4 0]) (FnS.of cf126 fun M' w x r hM s hp => Calls.mono (backup_within_1.calls s x p0 b4 (hM _ _ h7) _ hp) fun e w' q => q) _ e14) ?_
 rintro _ M11 l12 rfl
 refine wv Y (fun f s => r_not (f.ev Y)) (va Y Y (wk k8 ?_))
 obtain rfl := some_r H
 exact cx1 hret Y Y Y Y
theorem backup_Valid.calls (hM : Sub M w) (p0 : Backup) (v1 : Value) (h2 : RS Key.F M v1 p0.Keys) (r : Bool) (H : backup_Valid p0 = some r) :
  Calls prog 19 [.agg (Backup.C p0 v1).toArray].toArray w (Post M w fun M' v => v = (.bool r)) := by
 refine enter 58 [(0, .agg (Backup.C p0 v1).toArray)] func19 Y Y Y hM ?_
 intro Q hret
 unfold backup_Valid at H
 refine c_sr fun _ k3 => w_boxM trivial Y Y Y ?_
 intro b4 M5 l6 h7
 replace h2 := h2.mono l6
 refine va Y Y (wk k3 (c_sr fun _ k8 => va Y Y (wk k8 ?_)))
 refine c_cut (fun a' w' => ∃ (M9 : Heap), HLe M5 M9 ∧ Fr 58 [(1, ptr b4 0)] a' ∧ St none' M w M9 (lt []) w' ∧ backup_Valid.j1 p0 = some r) ?_ ?_
 ·refine c_seq ?_
  intro K50 k50
  refine c_reg (v_fa fa26_7 Y Y (wv Y (fun f s => r_load1 ta24 (f.ev Y) (s.sub _ _ h7) (Backup.g37 _ _)) (wv Y (fun f s => r_lenR underlying24 h2 (f.ev Y)) (vm Y Y (wk k50 (c_block ?_))))))
  refine c_loop (fun (s51 : (Int × Int)) a' w' => ∃ (M52 : Heap), HLe M5 M52 ∧ Fr 58 [(1, ptr b4 0), (3, .int .i64 s51.1), (7, v1), (8, .int .i64 (p0.Keys.length : Int)), (9, .int .i64 s51.2)] a' ∧ St none' M w M52 (lt []) w') (0, 0) H ?_ ?_
  ·intro a w' f s
   exact ⟨_, HLe.refl _, f.pk Y, s.selD [] (by decide) Y⟩
  intro s51 y55 H r54 a w' hJ
  obtain ⟨M52, l53, f, s⟩ := hJ
  refine cof f s ?_
  unfold backup_Valid.l2 at H
  replace h2 := h2.mono l53
  replace h7 := l53 _ _ h7
  refine c_sr fun _ k56 => v_lss Y Y Y (wk k56 (c_seq fun K57 k57 => c_if Y (fun b58 => ?_) (fun b58 => ?_)))
  ·replace H := if_t b58 H
   refine cs k57 (c_seq fun K59 k59 => c_block (c_sr fun _ k60 => ?_))
   obtain ⟨g61, H⟩ := grd_s H
   refine wv Y (fun f s => r_iR underlying24 ts97 h2 (f.ev Y) (f.ev Y) g61.1 g61.2) (wv Y (fun f s => r_loadEA ta97 ts97 h2 s.sub g61.1 g61.2 (f.ev Y) Y Y) (w_allocL (A := Key.C (⟨0, 0, [], 0, 0, 0, 0, 0, false⟩ : Key)) tz97 trivial Y Y ?_))
   intro b62
   refine w_store (i := 0) (A' := Key.C (rd p0.Keys s51.2)) trivial Y Y Y Y ts97 Y (Key.F_one _) (Nat.le_of_ble_eq_true Y) Y (wk k60 (c_seq fun K63 k63 => ?_))
   obtain ⟨t64, H1, H⟩ := bnd H
   refine c_cut (fun a' w' => ∃ (M65 : Heap), HLe M52 M65 ∧ Fr 58 [(1, ptr b4 0), (5, ptr b62 0), (7, v1), (8, .int .i64 (p0.Keys.length : Int)), (9, .int .i64 s51.2), (26, .bool t64)] a' ∧ St none' M w M65 (lt [bk b62 (Key.C (rd p0.Keys s51.2)) 97]) w') ?_ ?_
   ·replace H := H1
    refine c_reg (wv Y (fun f s => r_loadA ta97 ts97 (f.ev Y) (s.blk (i := 0) Y) Y Y) ?_)
    obtain ⟨t67, e72, H⟩ := bnd H
    refine w_call cf62 trivial Y Y (fun w s => keys_Valid.calls s (rd p0.Keys s51.2) _ e72) ?_
    rintro _ M69 l70 rfl
    replace h2 := h2.mono l70
    replace h7 := l70 _ _ h7
    refine wv Y (fun f s => r_not (f.ev Y)) (vm Y Y ?_)
    by_cases b73 : (!t67) = true
    ·replace H := if_t b73 H
     refine wq b73 Y Y Y (wq b73 Y Y Y (wq b73 Y Y Y (wq b73 Y Y Y (wv Y (fun f s => r_pickT (f.ev Y) b73 (f.ev Y)) (vm Y Y (wqs 3 Y (wv Y (fun f s => r_pickT (f.ev Y) Y (f.ev Y)) ?_)))))))
     obtain rfl := some_r H
     exact w_nil fun a w' f s => ⟨_, l70, f.pk Y, s.sel [0] (by decide) Y⟩
    replace b73 := Bool.eq_false_iff.2 b73
    replace H := if_f b73 H
    refine wg b73 Y Y Y (fun f s => r_fa fa97_0 (f.ev Y)) (wg b73 Y Y Y (fun f s => r_load1 ta3 (f.ev Y) (s.blk (i := 0) Y) Y) (wg b73 Y Y Y (fun f s => r_move (f.ev Y)) (wg b73 Y Y Y (fun f s => r_leq (f.ev Y) (f.ev Y)) (wv Y (fun f s => r_pickF (f.ev Y) b73 (f.ev Y)) (vm Y Y ?_)))))
    by_cases b74 : (decide (((rd p0.Keys s51.2).Id) ≤ s51.1)) = true
    ·replace H := if_t b74 H
     refine wq b74 Y Y Y (wq b74 Y Y Y (wq b74 Y Y Y (wv Y (fun f s => r_pickT (f.ev Y) b74 (f.ev Y)) ?_)))
     obtain rfl := some_r H
     exact w_nil fun a w' f s => ⟨_, l70, f.pk Y, s.sel [0] (by decide) Y⟩
    replace b74 := Bool.eq_false_iff.2 b74
    replace H := if_f b74 H
    refine wg b74 Y Y Y (fun f s => r_fa fa97_0 (f.ev Y)) (wg b74 Y Y Y (fun f s => r_load1 ta3 (f.ev Y) (s.blk (i := 0) Y) Y) (wg b74 Y Y Y (fun f s => r_gtr (f.ev Y) (f.ev Y)) (wv Y (fun f s => r_pickF (f.ev Y) b74 (f.ev Y)) ?_)))
    obtain rfl := some_r H
    exact w_nil fun a w' f s => ⟨_, l70, f.pk Y, s.sel [0] (by decide) Y⟩
   rintro a w' ⟨M65, l66, f, s⟩
   refine cof f s ?_
   replace h2 := h2.mono l66
   replace h7 := l66 _ _ h7
   refine c_if Y (fun b75 => ?_) (fun b75 => ?_)
   ·replace H := if_t b75 H
    refine c_sr fun _ k76 => va Y Y (wk k76 ?_)
    obtain rfl := (r54 _ (Option.some.inj H).symm)
    exact cx1 hret Y Y Y Y
   replace H := if_f b75 H
   exact cs k63 (c_reg (v_fa fa97_0 Y Y (wv Y (fun f s => r_load1 ta3 (f.ev Y) (s.blk (i := 0) Y) Y) (va Y Y (wk k59 (c_reg (v_add Y Y Y (vm Y Y (w_nil fun a w' f s => ⟨_, (some_r H).symm, _, l53.trans l66, f.pk Y, s.selD [] (by decide) Y⟩)))))))))
  replace H := if_f b58 H
  replace H := map_inr H r54
  refine c_exit ?_
  intro a w' f s
  exact ⟨_, l53, f.pk Y, s.selD [] (by decide) Y, H⟩
 rintro a w' ⟨M9, l10, f, s, H⟩
 refine cof f s ?_
 unfold backup_Valid.j1 at H
 replace h2 := h2.mono l10
 replace h7 := l10 _ _ h7
 obtain ⟨t11, H1, H⟩ := bnd H
 refine c_cut (fun a' w' => ∃ (M12 : Heap), HLe M9 M12 ∧ Fr 58 [(2, .bool t11)] a' ∧ St none' M w M12 (lt []) w') ?_ ?_
 ·replace H := H1
  refine c_reg (v_fa fa26_1 Y Y (wv Y (fun f s => r_load1 ta3 (f.ev Y) (s.sub _ _ h7) (Backup.g16 _ _)) (v_fa fa26_2 Y Y (wv Y (fun f s => r_load1 ta3 (f.ev Y) (s.sub _ _ h7) (Backup.g17 _ _)) (v_fa fa26_3 Y Y (wv Y (fun f s => r_load1 ta3 (f.ev Y) (s.sub _ _ h7) (Backup.g18 _ _)) (w_bsl (F := (FI .i64)) (es := ([p0.Epoch, p0.Number, p0.Firmware] : List Int)) (xs := [.tmp 31, .tmp 33, .tmp 35]) underlying70 te3 trivial Y Y Y Y Y (by decide) ?_)))))))
  intro v14 M15 l16 h17 c18
  replace h2 := h2.mono l16
  replace h7 := l16 _ _ h7
  obtain ⟨t19, e24, H⟩ := bnd H
  refine w_call cf63 trivial Y Y (fun w s => backup_within.calls s 2147483647 ([p0.Epoch, p0.Number, p0.Firmware] : List Int) v14 h17 _ e24) ?_
  rintro _ M21 l22 rfl
  replace h2 := h2.mono l22
  replace h7 := l22 _ _ h7
  refine vm Y Y ?_
  by_cases b25 : t19 = true
  ·replace H := if_t b25 H
   refine wg b25 Y Y Y (fun f s => r_fa fa26_4 (f.ev Y)) (wg b25 Y Y Y (fun f s => r_load1 ta3 (f.ev Y) (s.sub _ _ h7) (Backup.g19 _ _)) (w_bsl (F := (FI .i64)) (es := ([p0.Time] : List Int)) (xs := [.tmp 40]) underlying70 te3 (Wnt.of Y Y b25) Y Y Y Y Y (by decide) ?_))
   intro v26 M27 l28 h29 c30
   replace h2 := h2.mono l28
   replace h7 := l28 _ _ h7
   obtain ⟨t31, e36, H⟩ := bnd H
   refine w_call cf63 (Wnt.of Y Y b25) Y Y (fun w s => backup_within.calls s 1099511627776 ([p0.Time] : List Int) v26 h29 _ e36) ?_
   rintro _ M33 l34 rfl
   replace h2 := h2.mono l34
   replace h7 := l34 _ _ h7
   refine wv Y (fun f s => r_pickT (f.ev Y) b25 (f.ev Y)) (vm Y Y ?_)
   by_cases b37 : t31 = true
   ·replace H := if_t b37 H
    refine wg b37 Y Y Y (fun f s => r_fa fa26_6 (f.ev Y)) (wg b37 Y Y Y (fun f s => r_load1 ta9 (f.ev Y) (s.sub _ _ h7) (Backup.g36 _ _)) (wg b37 Y Y Y (fun f s => r_slen underlying9 (f.ev Y)) (wg b37 Y Y Y (fun f s => r_sub (f.ev Y) (f.ev Y)) (w_bsl (F := (FI .i64)) (es := ([i64.wrap ((p0.Module.length : Int) - 1)] : List Int)) (xs := [.tmp 48]) underlying70 te3 (Wnt.of Y Y b37) Y Y Y Y Y (by decide) ?_))))
    intro v38 M39 l40 h41 c42
    replace h2 := h2.mono l40
    replace h7 := l40 _ _ h7
    obtain ⟨t43, e48, H⟩ := bnd H
    refine w_call cf63 (Wnt.of Y Y b37) Y Y (fun w s => backup_within.calls s 11 ([i64.wrap ((p0.Module.length : Int) - 1)] : List Int) v38 h41 _ e48) ?_
    rintro _ M45 l46 rfl
    replace h2 := h2.mono l46
    replace h7 := l46 _ _ h7
    refine wv Y (fun f s => r_pickT (f.ev Y) b37 (f.ev Y)) (vm Y Y ?_)
    by_cases b49 : t43 = true
    ·replace H := if_t b49 H
     refine wg b49 Y Y Y (fun f s => r_fa fa26_7 (f.ev Y)) (wg b49 Y Y Y (fun f s => r_load1 ta24 (f.ev Y) (s.sub _ _ h7) (Backup.g37 _ _)) (wg b49 Y Y Y (fun f s => r_lenR underlying24 h2 (f.ev Y)) (wg b49 Y Y Y (fun f s => r_leq (f.ev Y) (f.ev Y)) (wv Y (fun f s => r_pickT (f.ev Y) b49 (f.ev Y)) (va Y Y ?_)))))
     obtain rfl := some_r H
     exact w_nil fun a w' f s => ⟨_, l16.trans (l22.trans (l28.trans (l34.trans (l40.trans l46)))), f.pk Y, s.sel [] (by decide) Y⟩
    replace b49 := Bool.eq_false_iff.2 b49
    replace H := if_f b49 H
    refine wq b49 Y Y Y (wq b49 Y Y Y (wq b49 Y Y Y (wq b49 Y Y Y (wv Y (fun f s => r_pickF (f.ev Y) b49 (f.ev Y)) (va Y Y ?_)))))
    obtain rfl := some_r H
    exact w_nil fun a w' f s => ⟨_, l16.trans (l22.trans (l28.trans (l34.trans (l40.trans l46)))), f.pk Y, s.sel [] (by decide) Y⟩
   replace b37 := Bool.eq_false_iff.2 b37
   replace H := if_f b37 H
   refine wq b37 Y Y Y (wq b37 Y Y Y (wq b37 Y Y Y (wq b37 Y Y Y (wq b37 Y Y Y (wq b37 Y Y Y (wv Y (fun f s => r_pickF (f.ev Y) b37 (f.ev Y)) (vm Y Y (wqs 4 Y (wv Y (fun f s => r_pickF (f.ev Y) Y (f.ev Y)) (va Y Y ?_))))))))))
   obtain rfl := some_r H
   exact w_nil fun a w' f s => ⟨_, l16.trans (l22.trans (l28.trans l34)), f.pk Y, s.sel [] (by decide) Y⟩
  replace b25 := Bool.eq_false_iff.2 b25
  replace H := if_f b25 H
  refine wq b25 Y Y Y (wq b25 Y Y Y (wq b25 Y Y Y (wq b25 Y Y Y (wv Y (fun f s => r_pickF (f.ev Y) b25 (f.ev Y)) (vm Y Y (wqs 6 Y (wv Y (fun f s => r_pickF (f.ev Y) Y (f.ev Y)) (vm Y Y (wqs 4 Y (wv Y (fun f s => r_pickF (f.ev Y) Y (f.ev Y)) (va Y Y ?_)))))))))))
  obtain rfl := some_r H
  exact w_nil fun a w' f s => ⟨_, l16.trans l22, f.pk Y, s.sel [] (by decide) Y⟩
 rintro a w' ⟨M12, l13, f, s⟩
 refine cof f s ?_
 obtain rfl := some_r H
 exact cx1 hret Y Y Y Y
theorem wire_Int.callsR (hM : Sub M w) (p0 : Int) (r : (List Int)) (H : wire_Int p0 = some r) :
  Calls prog 115 [.int .i64 p0].toArray w (PostI none' M w fun M' x v => x = rowI (FI .u8) v 5 r) := by
 refine enterR 47 [(0, .int .i64 p0)] func115 Y Y Y hM ?_
 intro Q hret
 unfold wire_Int at H
 refine c_sr fun _ k1 => va Y Y (wk k1 (c_scope (c_sr fun _ k2 => vm Y Y (wv Y (fun f s => r_conv underlying3 underlying193 (f.ev Y)) (va Y Y (va Y Y (wk k2 ?_)))))))
 refine c_cut (fun a' w' => ∃ (x3 : Int) (x4 : Int) (M5 : Heap), HLe M M5 ∧ Fr 47 [(3, .int .u64 x3), (4, .int .u8 x4)] a' ∧ St none' M w M5 (lt []) w' ∧ wire_Int.j5 x3 x4 = some r) ?_ ?_
 ·refine c_seq ?_
  intro K50 k50
  refine c_reg (vm Y Y (v_lss Y Y Y (wk k50 (c_if Y (fun b51 => ?_) (fun b51 => ?_)))))
  ·replace H := if_t b51 H
   exact c_reg (vm Y Y (wv Y (fun f s => r_com (f.ev Y)) (va Y Y (va Y Y (w_nil fun a w' f s => ⟨bits .xor .u64 u64.max (u64.wrap p0), 255, _, HLe.refl _, f.pk Y, s.selD [] (by decide) Y, H⟩)))))
  replace H := if_f b51 H
  refine c_skip ?_
  intro a w' f s
  exact ⟨u64.wrap p0, 0, _, HLe.refl _, f.pk Y, s.selD [] (by decide) Y, H⟩
 rintro a w' ⟨x3, x4, M5, l6, f, s, H⟩
 refine cof f s ?_
 unfold wire_Int.j5 at H
 refine c_sr fun _ k7 => va Y Y (wk k7 (c_seq fun K8 k8 => c_label (k8 _ _ _ ?_)))
 refine c_cut (fun a' w' => ∃ (x9 : Int) (M10 : Heap), HLe M5 M10 ∧ Fr 47 [(3, .int .u64 x3), (4, .int .u8 x4), (5, .int .i64 x9)] a' ∧ St none' M w M10 (lt []) w' ∧ wire_Int.j3 x3 x4 x9 = some r) ?_ ?_
 ·refine c_block ?_
  refine c_loop (fun (s38 : Int) a' w' => ∃ (M39 : Heap), HLe M5 M39 ∧ Fr 47 [(3, .int .u64 x3), (4, .int .u8 x4), (5, .int .i64 s38)] a' ∧ St none' M w M39 (lt []) w') 8 H ?_ ?_
  ·intro a w' f s
   exact ⟨_, HLe.refl _, f.pk Y, s.selD [] (by decide) Y⟩
  intro s38 y42 H r41 a w' hJ
  obtain ⟨M39, l40, f, s⟩ := hJ
  refine cof f s ?_
  unfold wire_Int.l4 at H
  refine c_seq fun K43 k43 => c_sr fun _ k44 => vm Y Y (wv Y (fun f s => r_gtr (f.ev Y) (f.ev Y)) (wk k44 (c_if Y (fun b45 => ?_) (fun b45 => ?_))))
  ·replace H := if_t b45 H
   refine cs k43 (c_block (c_seq fun K46 k46 => c_sr fun _ k47 => vm Y Y (vm Y Y (wv Y (fun f s => r_sub (f.ev Y) (f.ev Y)) (wv Y (fun f s => r_mul (f.ev Y) (f.ev Y)) ?_)))))
   obtain ⟨g48, H⟩ := grd_s H
   refine wv Y (fun f s => r_shr (f.ev Y) (f.ev Y) g48) (wv Y (fun f s => r_gtr (f.ev Y) (f.ev Y)) (wk k47 (c_if Y (fun b49 => ?_) (fun b49 => ?_))))
   ·replace H := if_t b49 H
    replace H := map_inr H r41
    refine c_exit ?_
    intro a w' f s
    exact ⟨s38, _, l40, f.pk Y, s.selD [] (by decide) Y, H⟩
   replace H := if_f b49 H
   exact cs k46 (c_reg (vm Y Y (wv Y (fun f s => r_sub (f.ev Y) (f.ev Y)) (va Y Y (w_nil fun a w' f s => ⟨_, (some_r H).symm, _, l40.trans (HLe.refl _), f.pk Y, s.selD [] (by decide) Y⟩)))))
  replace H := if_f b45 H
  replace H := map_inr H r41
  refine c_exit ?_
  intro a w' f s
  exact ⟨s38, _, l40, f.pk Y, s.selD [] (by decide) Y, H⟩
 rintro a w' ⟨x9, M10, l11, f, s, H⟩
 refine cof f s ?_
 unfold wire_Int.j3 at H
 refine c_sr fun _ k12 => vm Y Y (v_add Y Y Y (wv Y (fun f s => r_conv underlying3 underlying5 (f.ev Y)) (vm Y Y (wv Y (fun f s => r_xor (f.ev Y) (f.ev Y)) (w_bslW (F := (FI .u8)) (es := ([bits .xor .u8 (u8.wrap (i64.wrap (128 + x9))) x4] : List Int)) (xs := [.tmp 28]) (vs := [.int .u8 (bits .xor .u8 (u8.wrap (i64.wrap (128 + x9))) x4)]) underlying91 te5 trivial Y Y Y Y Y (by decide) ?_)))))
 intro v13
 refine va Y Y (wk k12 ?_)
 refine c_cut (fun a' w' => ∃ (x14 : (List Int)) (v15 : Value) (M16 : Heap), HLe M10 M16 ∧ Fr 47 [(6, v15)] a' ∧ St none' M w M16 (lt [rowI (FI .u8) v15 5 x14]) w' ∧ wire_Int.j1 x14 = some r) ?_ ?_
 ·refine c_seq ?_
  intro K19 k19
  refine c_reg (vm Y Y (wv Y (fun f s => r_sub (f.ev Y) (f.ev Y)) (va Y Y (wk k19 (c_block ?_)))))
  refine c_loop (fun (s20 : ((List Int) × Int)) a' w' => ∃ (v21 : Value) (M22 : Heap), HLe M10 M22 ∧ Fr 47 [(3, .int .u64 x3), (4, .int .u8 x4), (6, v21), (7, .int .i64 s20.2)] a' ∧ St none' M w M22 (lt [rowI (FI .u8) v21 5 s20.1]) w') (([bits .xor .u8 (u8.wrap (i64.wrap (128 + x9))) x4] : List Int), i64.wrap (x9 - 1)) H ?_ ?_
  ·intro a w' f s
   exact ⟨v13, _, HLe.refl _, f.pk Y, s.selD [some 0] (by decide) Y⟩
  intro s20 y25 H r24 a w' hJ
  obtain ⟨v21, M22, l23, f, s⟩ := hJ
  refine cof f s ?_
  unfold wire_Int.l2 at H
  refine c_seq fun K26 k26 => c_sr fun _ k27 => vm Y Y (wv Y (fun f s => r_geq (f.ev Y) (f.ev Y)) (wk k27 (c_if Y (fun b28 => ?_) (fun b28 => ?_))))
  ·replace H := if_t b28 H
   refine cs k26 (c_seq fun K29 k29 => c_block (c_reg (vm Y Y (vm Y Y (vm Y Y (wv Y (fun f s => r_mul (f.ev Y) (f.ev Y)) ?_))))))
   obtain ⟨g30, H⟩ := grd_s H
   refine wv Y (fun f s => r_shr (f.ev Y) (f.ev Y) g30) (wv Y (fun f s => r_conv underlying193 underlying5 (f.ev Y)) (vm Y Y (wv Y (fun f s => r_xor (f.ev Y) (f.ev Y)) (w_bsl (F := (FI .u8)) (es := ([bits .xor .u8 (u8.wrap (shrI .u64 x3 (i64.wrap (8 * s20.2)))) x4] : List Int)) (xs := [.tmp 43]) underlying91 te5 trivial Y Y Y Y Y (by decide) ?_))))
   intro v31 M32 l33 h34 c35
   obtain ⟨g36, H⟩ := grd_s H
   refine w_app (F := (FI .u8)) (m2 := ([bits .xor .u8 (u8.wrap (shrI .u64 x3 (i64.wrap (8 * s20.2)))) x4] : List Int)) (i := 0) underlying91 te5 underlying91 (.inl ⟨_, Y⟩) trivial Y Y Y Y (Src.rs (FI.one _) h34) g36 ?_
   intro v37
   exact va Y Y (wk k29 (c_reg (vm Y Y (wv Y (fun f s => r_sub (f.ev Y) (f.ev Y)) (va Y Y (w_nil fun a w' f s => ⟨_, (some_r H).symm, v37, _, l23.trans l33, f.pk Y, s.selD [some 0] (by decide) Y⟩))))))
  replace H := if_f b28 H
  replace H := map_inr H r24
  refine c_exit ?_
  intro a w' f s
  exact ⟨s20.1, v21, _, l23, f.pk Y, s.selD [some 0] (by decide) Y, H⟩
 rintro a w' ⟨x14, v15, M16, l17, f, s, H⟩
 refine cof f s ?_
 unfold wire_Int.j1 at H
 refine c_sr fun _ k18 => vm Y Y (va Y Y (wk k18 ?_))
 obtain rfl := some_r H
 exact cx hret Y fun f s => ⟨_, _, _, Res.of1 Y (RV.t f Y), s.sel [0] (by decide) Y, Y⟩
theorem wire_Int.calls (hM : Sub M w) (p0 : Int) (r : (List Int)) (H : wire_Int p0 = some r) :
  Calls prog 115 [.int .i64 p0].toArray w (Post M w fun M' v => ∃ v52, v = v52 ∧ RS (FI .u8) M' v52 r) := by
 exact postR (wire_Int.callsR hM p0 r H)
theorem wire_Ints.callsR (hM : Sub M w) (p0 : (List Int)) (v1 : Value) (h2 : RS (FI .i64) M v1 p0) (r : (List Int)) (H : wire_Ints p0 = some r) :
  Calls prog 68 [v1].toArray w (PostI none' M w fun M' x v => x = rowI (FI .u8) v 5 r) := by
 refine enterR 21 [(0, v1)] func68 Y Y Y hM ?_
 intro Q hret
 unfold wire_Ints at H
 refine c_sr fun _ k3 => va Y Y (wk k3 (c_sr fun _ k4 => vm Y Y (wv Y (fun f s => r_lenR underlying70 h2 (f.ev Y)) ?_)))
 obtain ⟨t5, e6, H⟩ := bnd H
 refine w_callR cf115 trivial Y Y (fun w s => wire_Int.callsR s (p0.length : Int) _ e6) ?_
 rintro v9 M7 _ l8 rfl
 replace h2 := h2.mono l8
 refine va Y Y (wk k4 ?_)
 refine c_cut (fun a' w' => ∃ (x10 : (List Int)) (v11 : Value) (M12 : Heap), HLe M7 M12 ∧ Fr 21 [(3, v11)] a' ∧ St none' M w M12 (lt [rowI (FI .u8) v11 5 x10]) w' ∧ wire_Ints.j1 x10 = some r) ?_ ?_
 ·refine c_seq ?_
  intro K15 k15
  refine c_reg (vm Y Y (wv Y (fun f s => r_lenR underlying70 h2 (f.ev Y)) (vm Y Y (wk k15 (c_block ?_)))))
  refine c_loop (fun (s16 : ((List Int) × Int)) a' w' => ∃ (v17 : Value) (M18 : Heap), HLe M7 M18 ∧ Fr 21 [(3, v17), (9, v1), (10, .int .i64 (p0.length : Int)), (11, .int .i64 s16.2)] a' ∧ St none' M w M18 (lt [rowI (FI .u8) v17 5 s16.1]) w') (t5, 0) H ?_ ?_
  ·intro a w' f s
   exact ⟨v9, _, HLe.refl _, f.pk Y, s.selD [some 0] (by decide) Y⟩
  intro s16 y21 H r20 a w' hJ
  obtain ⟨v17, M18, l19, f, s⟩ := hJ
  refine cof f s ?_
  unfold wire_Ints.l2 at H
  replace h2 := h2.mono l19
  refine c_sr fun _ k22 => v_lss Y Y Y (wk k22 (c_seq fun K23 k23 => c_if Y (fun b24 => ?_) (fun b24 => ?_)))
  ·replace H := if_t b24 H
   refine cs k23 (c_seq fun K25 k25 => c_block (c_sr fun _ k26 => ?_))
   obtain ⟨g27, H⟩ := grd_s H
   refine wv Y (fun f s => r_iR underlying70 ts3 h2 (f.ev Y) (f.ev Y) g27.1 g27.2) (wv Y (fun f s => r_loadE1 ta3 h2 s.sub g27.1 g27.2 (f.ev Y) Y) (va Y Y (wk k26 (c_reg (vm Y Y (vm Y Y ?_))))))
   obtain ⟨t28, e33, H⟩ := bnd H
   refine w_call cf115 trivial Y Y (fun w s => wire_Int.calls s (rd p0 s16.2) _ e33) ?_
   rintro v38 M30 l31 ⟨v34, hv_, h35⟩
   replace hv_ := hv_.symm
   subst hv_
   obtain ⟨g36, H⟩ := grd_s H
   refine w_app (F := (FI .u8)) (m2 := t28) (i := 0) underlying91 te5 underlying91 (.inl ⟨_, Y⟩) trivial Y Y Y Y (Src.rs (FI.one _) h35) g36 ?_
   intro v37
   exact va Y Y (wk k25 (c_reg (v_add Y Y Y (vm Y Y (w_nil fun a w' f s => ⟨_, (some_r H).symm, v37, _, l19.trans l31, f.pk Y, s.selD [some 0] (by decide) Y⟩)))))
  replace H := if_f b24 H
  replace H := map_inr H r20
  refine c_exit ?_
  intro a w' f s
  exact ⟨s16.1, v17, _, l19, f.pk Y, s.selD [some 0] (by decide) Y, H⟩
 rintro a w' ⟨x10, v11, M12, l13, f, s, H⟩
 refine cof f s ?_
 unfold wire_Ints.j1 at H
 refine c_sr fun _ k14 => vm Y Y (va Y Y (wk k14 ?_))
 obtain rfl := some_r H
 exact cx hret Y fun f s => ⟨_, _, _, Res.of1 Y (RV.t f Y), s.sel [0] (by decide) Y, Y⟩
theorem wire_Ints.calls (hM : Sub M w) (p0 : (List Int)) (v1 : Value) (h2 : RS (FI .i64) M v1 p0) (r : (List Int)) (H : wire_Ints p0 = some r) :
  Calls prog 68 [v1].toArray w (Post M w fun M' v => ∃ v39, v = v39 ∧ RS (FI .u8) M' v39 r) := by
 exact postR (wire_Ints.callsR hM p0 v1 h2 r H)
theorem wire_Bytes.callsR (hM : Sub M w) (p0 : (List UInt8)) (r : (List Int)) (H : wire_Bytes p0 = some r) :
  Calls prog 56 [str p0].toArray w (PostI none' M w fun M' x v => x = rowI (FI .u8) v 5 r) := by
 refine enterR 8 [(0, str p0)] func56 Y Y Y hM ?_
 intro Q hret
 unfold wire_Bytes at H
 refine c_sr fun _ k1 => va Y Y (wk k1 (c_sr fun _ k2 => vm Y Y (wv Y (fun f s => r_slen underlying9 (f.ev Y)) ?_)))
 obtain ⟨t3, e4, H⟩ := bnd H
 refine w_callR cf115 trivial Y Y (fun w s => wire_Int.callsR s (p0.length : Int) _ e4) ?_
 rintro v7 M5 _ l6 rfl
 refine vm Y Y ?_
 obtain ⟨g8, H⟩ := grd_s H
 refine w_app (F := (FI .u8)) (m2 := (bytesI p0)) (i := 0) underlying91 te5 underlying9 (.inr Y) trivial Y Y Y Y (srcStrB _) g8 ?_
 intro v9
 refine va Y Y (wk k2 ?_)
 obtain rfl := some_r H
 exact cx hret Y fun f s => ⟨_, _, _, Res.of1 Y (RV.t f Y), s.sel [0] (by decide) Y, Y⟩
theorem wire_Bytes.calls (hM : Sub M w) (p0 : (List UInt8)) (r : (List Int)) (H : wire_Bytes p0 = some r) :
  Calls prog 56 [str p0].toArray w (Post M w fun M' v => ∃ v10, v = v10 ∧ RS (FI .u8) M' v10 r) := by
 exact postR (wire_Bytes.callsR hM p0 r H)
theorem fGrow : laysGrow_ren.f 4 = 128 := by kernel_rfl
theorem tGrow : laysGrow_ren.t 25 = 5 := by kernel_rfl
theorem infoGrow : (prog.info? 5).map (fun i => (i.zero, i.size, i.bytes)) = some (some (.int .u8 0), 1, 1) := by kernel_rfl
theorem slices_Grow_byte.callsR (hM : Sub M w) (p1 : Int) (r : List Int) (H : slices_Grow_byte p1 = some r) :
  Calls prog 128 [.slice none 0 0, .int .i64 p1].toArray w (PostI none' M w fun M' x v => x = rowI (FI .u8) v 5 r) := by
 unfold slices_Grow_byte at H
 obtain ⟨g, H⟩ := grd_s H
 obtain rfl := some_r H
 obtain ⟨c, rfl⟩ := Int.eq_ofNat_of_zero_le g.1
 have hc : c ≤ 140737488355328 := by omega
 by_cases h0 : c = 0
 ·subst h0
  have h := Go.Proofs.Any8.slices_Grow_room laysGrow none 0 0 0 w (by omega) (by omega) (by omega) (by omega)
  rw [fGrow] at h
  refine Calls.mono h ?_
  rintro e w' ⟨rfl, rfl⟩
  exact ⟨_, M, _, Y, (St.start hM).row0 5 1, Y⟩
 ·cases hi : prog.info? 5 with
  | none => have := infoGrow; rw [hi] at this; cases this
  | some i0 =>
   have hm := infoGrow
   rw [hi] at hm
   obtain ⟨hz, s, hb⟩ : i0.zero = some (.int .u8 0) ∧ i0.size = 1 ∧ i0.bytes = 1 := by
    simpa using hm
   have h := Go.Proofs.Any8.slices_Grow_grow laysGrow i0 (.int .u8 0) (by rw [tGrow]; exact hi) hz (by omega) none 0 0 c [] w (by omega) (by omega) (by rw [hb]; omega) (by omega) (by simp) (fun _ => Y) (fun a h => by cases h)
   rw [fGrow, tGrow] at h
   refine Calls.mono h ?_
   rintro e w' ⟨rfl, rfl⟩
   obtain ⟨cap, hcap⟩ : ∃ cap, cap = grownCap w (0 + c) 0 5 := ⟨_, Y⟩
   have hge : 0 + c ≤ cap := by rw [hcap]; exact grownCap_ge w (0 + c) 0 5
   refine ⟨_, M, .row (.slice (some ⟨w.heap.size, 0, none⟩) 0 (grownCap w (0 + c) 0 5)) 5 1 0 [], Y, ?_, Y⟩
   rw [← hcap]
   have hd : w.drew.heap.size = w.heap.size := Y
   have := (St.start (X := none') hM).drew.newL (o := .cells (([] : List Value).toArray ++ Builtin.zeroCells (Value.cells (.int .u8 0)) (0 + c - 0) ++ Builtin.zeroCells (Value.cells (.int .u8 0)) (cap - (0 + c))) 5) (x := .row (.slice (some ⟨w.heap.size, 0, none⟩) 0 cap) 5 1 0 []) (by
    refine ⟨cap, (([] : List Value).toArray ++ Builtin.zeroCells (Value.cells (.int .u8 0)) (0 + c - 0) ++ Builtin.zeroCells (Value.cells (.int .u8 0)) (cap - (0 + c))).toList, (0, 0), Y, Y, Nat.zero_le _, ?_, by simp, ?_⟩
    ·have e1 : (Value.cells (.int .u8 0)).size = 1 := Y
     simp [Builtin.zeroCells, e1]; omega
    ·rw [alloc_get]; simp)
   exact this
theorem slices_Concat_byte.calls (hM : Sub M w) (p0 : (List (List Int))) (v1 : Value) (h2 : RSS (FI .u8) M v1 p0) (r : (List Int)) (H : slices_Concat_byte p0 = some r) :
  Calls prog 67 [v1].toArray w (Post M w fun M' v => ∃ v56, v = v56 ∧ RS (FI .u8) M' v56 r) := by
 refine enter 36 [(0, v1)] func67 Y Y Y hM ?_
 intro Q hret
 unfold slices_Concat_byte at H
 refine c_sr fun _ k3 => va Y Y (wk k3 (c_sr fun _ k4 => va Y Y (wk k4 ?_)))
 refine c_cut (fun a' w' => ∃ (x5 : Int) (M6 : Heap), HLe M M6 ∧ Fr 36 [(0, v1), (3, .int .i64 x5)] a' ∧ St none' M w M6 (lt []) w' ∧ slices_Concat_byte.j3 x5 p0 = some r) ?_ ?_
 ·refine c_seq ?_
  intro K39 k39
  refine c_reg (vm Y Y (wv Y (fun f s => r_lenSS underlying179 h2 (f.ev Y)) (vm Y Y (wk k39 (c_block ?_)))))
  refine c_loop (fun (s40 : (Int × Int)) a' w' => ∃ (M41 : Heap), HLe M M41 ∧ Fr 36 [(0, v1), (3, .int .i64 s40.1), (9, v1), (10, .int .i64 (p0.length : Int)), (11, .int .i64 s40.2)] a' ∧ St none' M w M41 (lt []) w') (0, 0) H ?_ ?_
  ·intro a w' f s
   exact ⟨_, HLe.refl _, f.pk Y, s.selD [] (by decide) Y⟩
  intro s40 y44 H r43 a w' hJ
  obtain ⟨M41, l42, f, s⟩ := hJ
  refine cof f s ?_
  unfold slices_Concat_byte.l4 at H
  replace h2 := h2.mono l42
  refine c_sr fun _ k45 => v_lss Y Y Y (wk k45 (c_seq fun K46 k46 => c_if Y (fun b47 => ?_) (fun b47 => ?_)))
  ·replace H := if_t b47 H
   refine cs k46 (c_seq fun K48 k48 => c_block (c_sr fun _ k49 => ?_))
   obtain ⟨g50, H⟩ := grd_s H
   refine wv Y (fun f s => r_iSS underlying179 ts91 h2 (f.ev Y) (f.ev Y) g50.1 g50.2) (w_ex (Φ := fun v => RS (FI .u8) M41 v (rd p0 s40.2)) trivial Y (fun a w f s => r_loadSS ta91 h2 (St.sub s) g50.1 g50.2 (f.ev Y)) ?_)
   intro v51 h52
   refine va Y Y (wk k49 (c_sr fun _ k53 => vm Y Y (vm Y Y (wv Y (fun f s => r_lenR underlying91 h52 (f.ev Y)) (v_add Y Y Y (va Y Y (wk k53 (c_sr fun _ k54 => vm Y Y (v_lss Y Y Y (wk k54 (c_if Y (fun b55 => ?_) (fun b55 => ?_))))))))))))
   ·replace H := if_t b55 H
    cases H
   replace H := if_f b55 H
   exact cs k48 (c_reg (v_add Y Y Y (vm Y Y (w_nil fun a w' f s => ⟨_, (some_r H).symm, _, l42.trans (HLe.refl _), f.pk Y, s.selD [] (by decide) Y⟩))))
  replace H := if_f b47 H
  replace H := map_inr H r43
  refine c_exit ?_
  intro a w' f s
  exact ⟨s40.1, _, l42, f.pk Y, s.selD [] (by decide) Y, H⟩
 rintro a w' ⟨x5, M6, l7, f, s, H⟩
 refine cof f s ?_
 unfold slices_Concat_byte.j3 at H
 replace h2 := h2.mono l7
 refine c_sr fun _ k8 => vm Y Y ?_
 obtain ⟨t9, e10, H⟩ := bnd H
 refine w_callR cf128 trivial Y Y (fun w s => slices_Grow_byte.callsR s x5 _ e10) ?_
 rintro v13 M11 _ l12 rfl
 replace h2 := h2.mono l12
 refine va Y Y (wk k8 ?_)
 refine c_cut (fun a' w' => ∃ (x14 : (List Int)) (v15 : Value) (M16 : Heap), HLe M11 M16 ∧ Fr 36 [(6, v15)] a' ∧ St none' M w M16 (lt [rowI (FI .u8) v15 5 x14]) w' ∧ slices_Concat_byte.j1 x14 = some r) ?_ ?_
 ·refine c_seq ?_
  intro K22 k22
  refine c_reg (vm Y Y (wv Y (fun f s => r_lenSS underlying179 h2 (f.ev Y)) (vm Y Y (wk k22 (c_block ?_)))))
  refine c_loop (fun (s23 : ((List Int) × Int)) a' w' => ∃ (v24 : Value) (M25 : Heap), HLe M11 M25 ∧ Fr 36 [(6, v24), (25, v1), (26, .int .i64 (p0.length : Int)), (27, .int .i64 s23.2)] a' ∧ St none' M w M25 (lt [rowI (FI .u8) v24 5 s23.1]) w') (t9, 0) H ?_ ?_
  ·intro a w' f s
   exact ⟨v13, _, HLe.refl _, f.pk Y, s.selD [some 0] (by decide) Y⟩
  intro s23 y28 H r27 a w' hJ
  obtain ⟨v24, M25, l26, f, s⟩ := hJ
  refine cof f s ?_
  unfold slices_Concat_byte.l2 at H
  replace h2 := h2.mono l26
  refine c_sr fun _ k29 => v_lss Y Y Y (wk k29 (c_seq fun K30 k30 => c_if Y (fun b31 => ?_) (fun b31 => ?_)))
  ·replace H := if_t b31 H
   refine cs k30 (c_seq fun K32 k32 => c_block (c_sr fun _ k33 => ?_))
   obtain ⟨g34, H⟩ := grd_s H
   refine wv Y (fun f s => r_iSS underlying179 ts91 h2 (f.ev Y) (f.ev Y) g34.1 g34.2) (w_ex (Φ := fun v => RS (FI .u8) M25 v (rd p0 s23.2)) trivial Y (fun a w f s => r_loadSS ta91 h2 (St.sub s) g34.1 g34.2 (f.ev Y)) ?_)
   intro v35 h36
   refine va Y Y (wk k33 (c_reg (vm Y Y (vm Y Y ?_))))
   obtain ⟨g37, H⟩ := grd_s H
   refine w_app (F := (FI .u8)) (m2 := (rd p0 s23.2)) (i := 0) underlying91 te5 underlying91 (.inl ⟨_, Y⟩) trivial Y Y Y Y (Src.rs (FI.one _) h36) g37 ?_
   intro v38
   exact va Y Y (wk k32 (c_reg (v_add Y Y Y (vm Y Y (w_nil fun a w' f s => ⟨_, (some_r H).symm, v38, _, l26.trans (HLe.refl _), f.pk Y, s.selD [some 0] (by decide) Y⟩)))))
  replace H := if_f b31 H
  replace H := map_inr H r27
  refine c_exit ?_
  intro a w' f s
  exact ⟨s23.1, v24, _, l26, f.pk Y, s.selD [some 0] (by decide) Y, H⟩
 rintro a w' ⟨x14, v15, M16, l17, f, s, H⟩
 refine cof f s ?_
 unfold slices_Concat_byte.j1 at H
 refine c_sr fun _ k18 => vm Y Y (va Y Y (wk k18 ?_))
 obtain rfl := some_r H
 refine c_ret (n_give 0 Y (fun _ h => h) ?_)
 intro M19 l20 h21
 intro a w' f s
 exact hret _ (.inl Y) a w' f.df ⟨_, _, Res.of1 Y (RV.t f Y), s.ext, ⟨_, Y, h21⟩⟩
theorem backup_Header.calls (hM : Sub M w) (p0 : Backup) (v1 : Value) (h2 : RS Key.F M v1 p0.Keys) (r : (List UInt8)) (H : backup_Header p0 = some r) :
  Calls prog 22 [.agg (Backup.C p0 v1).toArray].toArray w (Post M w fun M' v => v = (str r)) := by
 refine enter 23 [(0, .agg (Backup.C p0 v1).toArray)] func22 Y Y Y hM ?_
 intro Q hret
 unfold backup_Header at H
 refine c_sr fun _ k3 => w_boxM trivial Y Y Y ?_
 intro b4 M5 l6 h7
 refine va Y Y (wk k3 (c_seq fun K8 k8 => ?_))
 obtain ⟨t52, e57, H⟩ := bnd H
 obtain ⟨t74, e79, H⟩ := bnd H
 obtain ⟨t104, e109, H⟩ := bnd H
 refine c_drawP [([], [1]), ([(0, 3)], []), ([], [1]), ([(2, 5)], []), ([], [1]), ([(4, 7)], []), ([], [1]), ([(6, 9)], []), ([], [1]), ([(8, 11)], []), ([(3, 6), (5, 8), (7, 10), (9, 12)], []), ([(10, 13)], []), ([], [1]), ([(12, 15)], []), ([], [1]), ([(14, 17)], []), ([(15, 18)], []), ([(1, 4), (11, 14), (13, 16), (16, 19)], []), ([(17, 20)], []), ([(18, 21)], []), ([(19, 22)], [])] [vq (ptr b4 0), vq (vw b4 0 16 ((0 : Int)).toNat ((16 : Int)).toNat), vq (ptr b4 16), vq (.int .i64 p0.Epoch), vq (ptr b4 17), vq (.int .i64 p0.Number), vq (ptr b4 18), vq (.int .i64 p0.Firmware), vq (ptr b4 19), vq (.int .i64 p0.Time), fun v M => ∃ (v40 : Value), v = v40 ∧ RS (FI .i64) M v40 ([p0.Epoch, p0.Number, p0.Firmware, p0.Time] : List Int) ∧ ∃ A, v40 = .slice A ([p0.Epoch, p0.Number, p0.Firmware, p0.Time] : List Int).length ([p0.Epoch, p0.Number, p0.Firmware, p0.Time] : List Int).length, fun v M => ∃ (v58 : Value), v = v58 ∧ RS (FI .u8) M v58 t52, vq (ptr b4 20), vq (vw b4 20 16 ((0 : Int)).toNat ((16 : Int)).toNat), vq (ptr b4 36), vq (str p0.Module), fun v M => ∃ (v80 : Value), v = v80 ∧ RS (FI .u8) M v80 t74, fun v M => ∃ (v93 : Value), v = v93 ∧ RSS (FI .u8) M v93 ([(p0.Domain.toList.take ((16 : Int)).toNat).drop ((0 : Int)).toNat, t52, (p0.Policy.toList.take ((16 : Int)).toNat).drop ((0 : Int)).toNat, t74] : (List (List Int))), fun v M => ∃ (v110 : Value), v = v110 ∧ RS (FI .u8) M v110 t104, vq (str (intsB t104)), vq (str (intsB t104))] (by kernel_rfl) (by kernel_rfl) ?_ (aT ?_ (aT ?_ (aT ?_ (aT ?_ (aT ?_ (aT ?_ (aT ?_ (aT ?_ (aT ?_ (aT ?_ (aT ?_ (aT ?_ (aT ?_ (aT ?_ (aT ?_ (aT ?_ (aT ?_ (aT ?_ (aT ?_ (aT ?_ (aT ?_ AllT.nil))))))))))))))))))))) ?_
 ·exact (mC (mC (mC (mC (mC (mC (mC (mC (mC (mC (MonoA.cons (fun _ _ _ hM h => by obtain ⟨v40, e_, q0, q1⟩ := h; exact ⟨v40, e_, q0.mono hM, q1⟩) (MonoA.cons (fun _ _ _ hM h => by obtain ⟨v58, e_, q0⟩ := h; exact ⟨v58, e_, q0.mono hM⟩) (mC (mC (mC (mC (MonoA.cons (fun _ _ _ hM h => by obtain ⟨v80, e_, q0⟩ := h; exact ⟨v80, e_, q0.mono hM⟩) (MonoA.cons (fun _ _ _ hM h => by obtain ⟨v93, e_, q0⟩ := h; exact ⟨v93, e_, q0.mono hM⟩) (MonoA.cons (fun _ _ _ hM h => by obtain ⟨v110, e_, q0⟩ := h; exact ⟨v110, e_, q0.mono hM⟩) (mC (mC MonoA.nil)))))))))))))))))))))
 ·intro a w' _ l10 hd s
  replace h7 := l10 _ _ h7
  exact pv (hd.fr.add (hd.base 1 _ Y Y)) s Y (fun f s => r_fa fa26_0 (f.ev Y)) Y
 ·intro a w' _ l12 hd s
  replace h7 := l12 _ _ h7
  exact pv (hd.fr.add (hd.val 0 3 _ Y Y)) s Y (fun f s => r_view underlying23 ts5 (f.ev Y) Y Y (by decide) (by decide) (by decide)) Y
 ·intro a w' _ l15 hd s
  replace h7 := l15 _ _ h7
  exact pv (hd.fr.add (hd.base 1 _ Y Y)) s Y (fun f s => r_fa fa26_1 (f.ev Y)) Y
 ·intro a w' _ l17 hd s
  exact pv (hd.fr.add (hd.val 2 5 _ Y Y)) s Y (fun f s => r_load1 ta3 (f.ev Y) (s.sub _ _ (l17 _ _ h7)) (Backup.g16 _ _)) Y
 ·intro a w' _ l20 hd s
  replace h7 := l20 _ _ h7
  exact pv (hd.fr.add (hd.base 1 _ Y Y)) s Y (fun f s => r_fa fa26_2 (f.ev Y)) Y
 ·intro a w' _ l22 hd s
  exact pv (hd.fr.add (hd.val 4 7 _ Y Y)) s Y (fun f s => r_load1 ta3 (f.ev Y) (s.sub _ _ (l22 _ _ h7)) (Backup.g17 _ _)) Y
 ·intro a w' _ l25 hd s
  replace h7 := l25 _ _ h7
  exact pv (hd.fr.add (hd.base 1 _ Y Y)) s Y (fun f s => r_fa fa26_3 (f.ev Y)) Y
 ·intro a w' _ l27 hd s
  exact pv (hd.fr.add (hd.val 6 9 _ Y Y)) s Y (fun f s => r_load1 ta3 (f.ev Y) (s.sub _ _ (l27 _ _ h7)) (Backup.g18 _ _)) Y
 ·intro a w' _ l30 hd s
  replace h7 := l30 _ _ h7
  exact pv (hd.fr.add (hd.base 1 _ Y Y)) s Y (fun f s => r_fa fa26_4 (f.ev Y)) Y
 ·intro a w' _ l32 hd s
  exact pv (hd.fr.add (hd.val 8 11 _ Y Y)) s Y (fun f s => r_load1 ta3 (f.ev Y) (s.sub _ _ (l32 _ _ h7)) (Backup.g19 _ _)) Y
 ·intro a w' _ _ hd s
  have e36 := hd.val 3 6 _ Y Y
  have e37 := hd.val 5 8 _ Y Y
  have e38 := hd.val 7 10 _ Y Y
  have e39 := hd.val 9 12 _ Y Y
  refine OP.ofW ((((hd.fr.add e39).add e38).add e37).add e36) s Y (w_bsl (F := (FI .i64)) (es := ([p0.Epoch, p0.Number, p0.Firmware, p0.Time] : List Int)) (xs := [.tmp 6, .tmp 8, .tmp 10, .tmp 12]) underlying70 te3 trivial Y Y Y Y Y (by decide) ?_)
  intro v40 M41 l42 h43 c44
  exact w_nil fun a w' f s => ⟨Y, f.df, _, l42, s, ⟨v40, f.get _ _ Y, h43, c44⟩⟩
 ·intro a w' _ _ hd s
  obtain ⟨v47, e51, h48, h50⟩ := hd.val 10 13 _ Y Y
  refine OP.ofW (hd.fr.add e51) s Y (w_call cf68 trivial Y Y (fun w s => wire_Ints.calls s ([p0.Epoch, p0.Number, p0.Firmware, p0.Time] : List Int) v47 h48 _ e57) ?_)
  rintro v60 M54 l55 ⟨v58, hv_, h59⟩
  replace hv_ := hv_.symm
  subst hv_
  exact w_nil fun a w' f s => ⟨Y, f.df, _, l55, s, ⟨v58, f.get _ _ Y, h59⟩⟩
 ·intro a w' _ l62 hd s
  replace h7 := l62 _ _ h7
  exact pv (hd.fr.add (hd.base 1 _ Y Y)) s Y (fun f s => r_fa fa26_5 (f.ev Y)) Y
 ·intro a w' _ l64 hd s
  replace h7 := l64 _ _ h7
  exact pv (hd.fr.add (hd.val 12 15 _ Y Y)) s Y (fun f s => r_view underlying23 ts5 (f.ev Y) Y Y (by decide) (by decide) (by decide)) Y
 ·intro a w' _ l67 hd s
  replace h7 := l67 _ _ h7
  exact pv (hd.fr.add (hd.base 1 _ Y Y)) s Y (fun f s => r_fa fa26_6 (f.ev Y)) Y
 ·intro a w' _ l69 hd s
  exact pv (hd.fr.add (hd.val 14 17 _ Y Y)) s Y (fun f s => r_load1 ta9 (f.ev Y) (s.sub _ _ (l69 _ _ h7)) (Backup.g36 _ _)) Y
 ·intro a w' _ _ hd s
  have e73 := hd.val 15 18 _ Y Y
  refine OP.ofW (hd.fr.add e73) s Y (w_call cf56 trivial Y Y (fun w s => wire_Bytes.calls s p0.Module _ e79) ?_)
  rintro v82 M76 l77 ⟨v80, hv_, h81⟩
  replace hv_ := hv_.symm
  subst hv_
  exact w_nil fun a w' f s => ⟨Y, f.df, _, l77, s, ⟨v80, f.get _ _ Y, h81⟩⟩
 ·intro a w' M83 l84 hd s
  have e85 := hd.val 1 4 _ Y Y
  replace h7 := l84 _ _ h7
  obtain ⟨v86, e88, h87⟩ := hd.val 11 14 _ Y Y
  have e89 := hd.val 13 16 _ Y Y
  obtain ⟨v90, e92, h91⟩ := hd.val 16 19 _ Y Y
  refine OP.ofW ((((hd.fr.add e92).add e89).add e88).add e85) s Y (w_bsl (F := FVl) (es := [vw b4 0 16 ((0 : Int)).toNat ((16 : Int)).toNat, v86, vw b4 20 16 ((0 : Int)).toNat ((16 : Int)).toNat, v90]) (xs := [.tmp 4, .tmp 14, .tmp 16, .tmp 19]) underlying179 te91 trivial Y Y Y Y (RSL.cells (F := (FI .u8)) (M := M83) (L := ([(p0.Domain.toList.take ((16 : Int)).toNat).drop ((0 : Int)).toNat, t52, (p0.Policy.toList.take ((16 : Int)).toNat).drop ((0 : Int)).toNat, t74] : (List (List Int)))) (.cons (RS.view h7 (Backup.d0_16 _ _) (by decide) (by decide) (by decide)) (.cons h87 (.cons (RS.view h7 (Backup.d20_16 _ _) (by decide) (by decide) (by decide)) (.cons h91 .nil))))) (by decide) ?_)
  intro v93 M94 l95 h96 c97
  replace h7 := l95 _ _ h7
  replace h87 := h87.mono l95
  replace h91 := h91.mono l95
  have h98 : RSS (FI .u8) M94 v93 ([(p0.Domain.toList.take ((16 : Int)).toNat).drop ((0 : Int)).toNat, t52, (p0.Policy.toList.take ((16 : Int)).toNat).drop ((0 : Int)).toNat, t74] : (List (List Int))) := RSS.of h96 (.cons (RS.view h7 (Backup.d0_16 _ _) (by decide) (by decide) (by decide)) (.cons h87 (.cons (RS.view h7 (Backup.d20_16 _ _) (by decide) (by decide) (by decide)) (.cons h91 .nil))))
  exact w_nil fun a w' f s => ⟨Y, f.df, _, l95, s, ⟨v93, f.get _ _ Y, h98⟩⟩
 ·intro a w' _ _ hd s
  obtain ⟨v101, e103, h102⟩ := hd.val 17 20 _ Y Y
  refine OP.ofW (hd.fr.add e103) s Y (w_call cf67 trivial Y Y (fun w s => slices_Concat_byte.calls s ([(p0.Domain.toList.take ((16 : Int)).toNat).drop ((0 : Int)).toNat, t52, (p0.Policy.toList.take ((16 : Int)).toNat).drop ((0 : Int)).toNat, t74] : (List (List Int))) v101 h102 _ e109) ?_)
  rintro v112 M106 l107 ⟨v110, hv_, h111⟩
  replace hv_ := hv_.symm
  subst hv_
  exact w_nil fun a w' f s => ⟨Y, f.df, _, l107, s, ⟨v110, f.get _ _ Y, h111⟩⟩
 ·intro a w' _ _ hd s
  obtain ⟨v115, e117, h116⟩ := hd.val 18 21 _ Y Y
  exact pv (hd.fr.add e117) s Y (fun f s => r_b2s underlying91 underlying5 underlying9 h116 s.sub (f.ev Y)) Y
 ·intro a w' _ _ hd s
  exact pv (hd.fr.add (hd.val 19 22 _ Y Y)) s Y (fun f s => r_assign (f.ev Y)) Y
 intro a w' M121 l122 hdf hsz hb hv s
 have e123 := hv 20 2 _ Y Y
 refine n_of (c := (Cx.mk prog 23 none' M w)) ?_ ((Fr.start hdf hsz).add e123) s
 refine ni k8 ?_
 obtain rfl := some_r H
 exact cx1 hret Y Y Y Y
theorem hash_Begin.calls (hM : Sub M w)  (r : hash_Stream) (H : hash_Begin  = some r) :
  Calls prog 144 [].toArray w (Post M w fun M' v => v = (.agg (hash_Stream.C r).toArray)) := by
 refine enter 3 [] func144 Y Y Y hM ?_
 intro Q hret
 unfold hash_Begin at H
 refine c_sr fun _ k1 => w_allocL (A := hash_Stream.C (⟨replicate 8 0, replicate 64 0, 0⟩ : hash_Stream)) tz195 trivial Y Y ?_
 intro b2
 refine wk k1 (c_sr fun _ k3 => wv Y (fun f s => r_build (is := [0, 1, 2, 3, 4, 5, 6, 7]) (xs := [.const (.int .u32 1779033703), .const (.int .u32 3144134277), .const (.int .u32 1013904242), .const (.int .u32 2773480762), .const (.int .u32 1359893119), .const (.int .u32 2600822924), .const (.int .u32 528734635), .const (.int .u32 1541459225)]) (A := vI .u32 (#v[1779033703, 3144134277, 1013904242, 2773480762, 1359893119, 2600822924, 528734635, 1541459225] : Vector Int 8)) Y (f.evs Y) (by kernel_rfl)) (wv Y (fun f s => r_build (is := [0]) (xs := [.tmp 1]) (A := hash_Stream.C (⟨(#v[1779033703, 3144134277, 1013904242, 2773480762, 1359893119, 2600822924, 528734635, 1541459225] : Vector Int 8), replicate 64 0, 0⟩ : hash_Stream)) Y (f.evs Y) (built_of (pl := [(0, 8), (8, 64), (72, 1)]) (A0 := hash_Stream.C (⟨replicate 8 0, replicate 64 0, 0⟩ : hash_Stream)) tz195 underlying195 (by kernel_rfl) Y (.cons (vs := vI .u32 (#v[1779033703, 3144134277, 1013904242, 2773480762, 1359893119, 2600822924, 528734635, 1541459225] : Vector Int 8)) (B := hash_Stream.C (⟨(#v[1779033703, 3144134277, 1013904242, 2773480762, 1359893119, 2600822924, 528734635, 1541459225] : Vector Int 8), replicate 64 0, 0⟩ : hash_Stream)) Y Y (by simp) (by rw [hash_Stream.len]; decide) (hash_Stream.s0_8 _) .nil))) ?_))
 obtain ⟨z4, e6, H⟩ := bnd H
 have e5 := some_r e6
 refine w_store (i := 0) (A' := hash_Stream.C z4) trivial Y Y Y Y ts195 (hash_Stream.len _) (hash_Stream.F_one _) (by rw [hash_Stream.len]; decide) (by rw [← e5]; exact (splice_all _ _ (by simp [hash_Stream.C]))) ?_
 refine wk k3 ?_
 obtain rfl := some_r H
 exact cx hret Y fun f s => ⟨_, _, Res.of1 Y ⟨_, f.get _ _ Y, run_loadA (s.blk (i := 0) Y) ta195 ts195 (hash_Stream.d0_73 _) (hash_Stream.len _)⟩, s.ext, Y⟩
theorem bits_RotateLeft32.calls (hM : Sub M w) (p0 : Int) (p1 : Int) (r : Int) (H : bits_RotateLeft32 p0 p1 = some r) :
  Calls prog 205 [.int .u32 p0, .int .i64 p1].toArray w (Post M w fun M' v => v = (.int .u32 r)) := by
 refine enter 17 [(0, .int .u32 p0), (1, .int .i64 p1)] func205 Y Y Y hM ?_
 intro Q hret
 unfold bits_RotateLeft32 at H
 refine c_sr fun _ k1 => va Y Y (wk k1 (c_sr fun _ k2 => vm Y Y (wv Y (fun f s => r_conv underlying3 underlying238 (f.ev Y)) (wv Y (fun f s => r_and (f.ev Y) (f.ev Y)) (va Y Y (wk k2 (c_sr fun _ k3 => vm Y Y (vm Y Y ?_))))))))
 obtain ⟨g4, H⟩ := grd_s H
 refine wv Y (fun f s => r_shl (f.ev Y) (f.ev Y) g4) (vm Y Y (vm Y Y (wv Y (fun f s => r_sub (f.ev Y) (f.ev Y)) ?_)))
 obtain ⟨g5, H⟩ := grd_s H
 refine wv Y (fun f s => r_shr (f.ev Y) (f.ev Y) g5) (wv Y (fun f s => r_or (f.ev Y) (f.ev Y)) (va Y Y (wk k3 ?_)))
 obtain rfl := some_r H
 exact cx1 hret Y Y Y Y
theorem hash_schedule.calls (hM : Sub M w) (p0 : (List Int)) (v1 : Value) (h2 : RS (FI .u8) M v1 p0) (r : (Vector Int 64)) (H : hash_schedule p0 = some r) :
  Calls prog 196 [v1].toArray w (Post M w fun M' v => v = (.agg (vI .u32 r).toArray)) := by
 refine enter 79 [(0, v1)] func196 Y Y Y hM ?_
 intro Q hret
 unfold hash_schedule at H
 refine c_sr fun _ k3 => w_allocL (A := vI .u32 (replicate 64 0)) tz240 trivial Y Y ?_
 intro b4
 refine wk k3 (c_sr fun _ k5 => w_allocL (A := vI .u32 (replicate 64 0)) tz240 trivial Y Y ?_)
 intro b6
 refine wk k5 ?_
 refine c_cut (fun a' w' => ∃ (x7 : (Vector Int 64)) (M8 : Heap), HLe M M8 ∧ Fr 79 [(2, ptr b4 0), (3, ptr b6 0)] a' ∧ St none' M w M8 (lt [bk b4 (vI .u32 (replicate 64 0)) 240, bk b6 (vI .u32 x7) 240]) w' ∧ hash_schedule.j1 x7 = some r) ?_ ?_
 ·refine c_seq ?_
  intro K11 k11
  refine c_reg (vm Y Y (wk k11 (c_block ?_)))
  refine c_loop (fun (s12 : ((Vector Int 64) × Int)) a' w' => ∃ (M13 : Heap), HLe M M13 ∧ Fr 79 [(0, v1), (2, ptr b4 0), (3, ptr b6 0), (11, .int .i64 s12.2)] a' ∧ St none' M w M13 (lt [bk b4 (vI .u32 (replicate 64 0)) 240, bk b6 (vI .u32 s12.1) 240]) w') (replicate 64 0, 0) H ?_ ?_
  ·intro a w' f s
   exact ⟨_, HLe.refl _, f.pk Y, s.selD [some 0, some 1] (by decide) Y⟩
  intro s12 y16 H r15 a w' hJ
  obtain ⟨M13, l14, f, s⟩ := hJ
  refine cof f s ?_
  unfold hash_schedule.l6 at H
  replace h2 := h2.mono l14
  refine c_sr fun _ k17 => v_lss Y Y Y (wk k17 (c_seq fun K18 k18 => c_if Y (fun b19 => ?_) (fun b19 => ?_)))
  ·replace H := if_t b19 H
   refine cs k18 ?_
   refine c_cut (fun a' w' => ∃ (x20 : (Vector Int 64)) (M21 : Heap), HLe M13 M21 ∧ Fr 79 [(0, v1), (2, ptr b4 0), (3, ptr b6 0), (11, .int .i64 s12.2)] a' ∧ St none' M w M21 (lt [bk b4 (vI .u32 (replicate 64 0)) 240, bk b6 (vI .u32 x20) 240]) w' ∧ hash_schedule.j2 x20 s12 = some y16) ?_ ?_
   ·refine c_block (c_sr fun _ k23 => vm Y Y (va Y Y (wk k23 ?_)))
    refine c_cut (fun a' w' => ∃ (M24 : Heap), HLe M13 M24 ∧ Fr 79 [(0, v1), (2, ptr b4 0), (3, ptr b6 0), (4, .int .i64 s12.2), (11, .int .i64 s12.2)] a' ∧ St none' M w M24 (lt [bk b4 (vI .u32 (replicate 64 0)) 240, bk b6 (vI .u32 s12.1) 240]) w' ∧ hash_schedule.j3 s12 = some y16) ?_ ?_
    ·refine c_seq ?_
     intro K138 k138
     refine c_reg (vm Y Y (v_lss Y Y Y (wk k138 (c_if Y (fun b139 => ?_) (fun b139 => ?_)))))
     ·replace H := if_t b139 H
      refine c_cut (fun a' w' => ∃ (x140 : (Vector Int 64)) (M141 : Heap), HLe M13 M141 ∧ Fr 79 [(0, v1), (2, ptr b4 0), (3, ptr b6 0), (11, .int .i64 s12.2)] a' ∧ St none' M w M141 (lt [bk b4 (vI .u32 (replicate 64 0)) 240, bk b6 (vI .u32 x140) 240]) w' ∧ hash_schedule.j4 x140 s12 = some y16) ?_ ?_
      ·refine c_seq ?_
       intro K143 k143
       refine c_reg (vm Y Y (vm Y Y (wv Y (fun f s => r_mul (f.ev Y) (f.ev Y)) (vm Y Y (wv Y (fun f s => r_mul (f.ev Y) (f.ev Y)) (v_add Y Y Y ?_))))))
       obtain ⟨g146, H⟩ := grd_s H
       refine w_ex (Φ := fun v => RS (FI .u8) M13 v ((p0.take (i64.wrap ((i64.wrap (4 * s12.2)) + (4 : Int))).toNat).drop (i64.wrap (4 * s12.2)).toNat)) trivial Y (fun a w f s => r_slR underlying91 ts5 (f.ev Y) h2 ⟨_, f.ev Y⟩ ⟨_, f.ev Y⟩ g146.1 g146.2.1 g146.2.2) ?_
       intro v144 h145
       refine wv Y (fun f s => r_lenR underlying91 h145 (f.ev Y)) (vm Y Y (wk k143 (c_block ?_)))
       refine c_loop (fun (s147 : ((Vector Int 64) × Int)) a' w' => ∃ (M148 : Heap), HLe M13 M148 ∧ Fr 79 [(0, v1), (2, ptr b4 0), (3, ptr b6 0), (4, .int .i64 s12.2), (11, .int .i64 s12.2), (22, v144), (23, .int .i64 (((p0.take (i64.wrap ((i64.wrap (4 * s12.2)) + (4 : Int))).toNat).drop (i64.wrap (4 * s12.2)).toNat).length : Int)), (24, .int .i64 s147.2)] a' ∧ St none' M w M148 (lt [bk b4 (vI .u32 (replicate 64 0)) 240, bk b6 (vI .u32 s147.1) 240]) w') (s12.1, 0) H ?_ ?_
       ·intro a w' f s
        exact ⟨_, HLe.refl _, f.pk Y, s.selD [some 0, some 1] (by decide) Y⟩
       intro s147 y151 H r150 a w' hJ
       obtain ⟨M148, l149, f, s⟩ := hJ
       refine cof f s ?_
       unfold hash_schedule.l5 at H
       replace h145 := h145.mono l149
       refine c_sr fun _ k152 => v_lss Y Y Y (wk k152 (c_seq fun K153 k153 => c_if Y (fun b154 => ?_) (fun b154 => ?_)))
       ·replace H := if_t b154 H
        refine cs k153 (c_seq fun K155 k155 => c_block (c_sr fun _ k156 => ?_))
        obtain ⟨g157, H⟩ := grd_s H
        refine wv Y (fun f s => r_iR underlying91 ts5 h145 (f.ev Y) (f.ev Y) g157.1 g157.2) (wv Y (fun f s => r_loadE1 ta5 h145 s.sub g157.1 g157.2 (f.ev Y) Y) (va Y Y (wk k156 (c_reg (vm Y Y (vm Y Y ?_))))))
        obtain ⟨g158, H⟩ := grd_s H
        refine wv Y (fun f s => r_iaI underlying240 ts169 (f.ev Y) (f.ev Y) g158.1 g158.2) (wv Y (fun f s => r_load1 ta169 (f.ev Y) (s.blk (i := 1) Y) (vI_get0 g158.1 g158.2)) (wv Y (fun f s => r_shl (f.ev Y) (f.ev Y) (by decide)) (vm Y Y (wv Y (fun f s => r_conv underlying5 underlying169 (f.ev Y)) (wv Y (fun f s => r_or (f.ev Y) (f.ev Y)) ?_)))))
        obtain ⟨g159, H⟩ := grd_s H
        refine wv Y (fun f s => r_iaI underlying240 ts169 (f.ev Y) (f.ev Y) g159.1 g159.2) ?_
        obtain ⟨z160, e161, H⟩ := bnd H
        have e162 := some_r e161
        refine w_store (i := 1) (A' := vI .u32 z160) trivial Y Y Y Y ts169 Y (one1 Y) (idx_le g159.1 g159.2 (vI_len _) (by decide)) (by rw [← e162]; exact (vI_set0 g159.1 g159.2)) ?_
        exact wk k155 (c_reg (v_add Y Y Y (vm Y Y (w_nil fun a w' f s => ⟨_, (some_r H).symm, _, l149.trans (HLe.refl _), f.pk Y, s.selD [some 0, some 1] (by decide) Y⟩))))
       replace H := if_f b154 H
       replace H := map_inr H r150
       refine c_exit ?_
       intro a w' f s
       exact ⟨s147.1, _, l149, f.pk Y, s.selD [some 0, some 1] (by decide) Y, H⟩
      rintro a w' ⟨x140, M141, l142, f, s, H⟩
      refine cof f s ?_
      unfold hash_schedule.j4 at H
      refine c_exit ?_
      intro a w' f s
      exact ⟨x140, _, l142, f.pk Y, s.selD [some 0, some 1] (by decide) Y, H⟩
     replace H := if_f b139 H
     refine c_skip ?_
     intro a w' f s
     exact ⟨_, HLe.refl _, f.pk Y, s.selD [some 0, some 1] (by decide) Y, H⟩
    rintro a w' ⟨M24, l25, f, s, H⟩
    refine cof f s ?_
    unfold hash_schedule.j3 at H
    refine c_seq fun K26 k26 => ?_
    obtain ⟨g35, H⟩ := grd_s H
    obtain ⟨g47, H⟩ := grd_s H
    refine cV [([], [4]), ([(0, 38)], []), ([(1, 39)], [3]), ([(2, 40)], []), ([], [4]), ([(4, 42)], []), ([(5, 43)], [3]), ([(6, 44)], []), ([(3, 41)], []), ([(7, 45)], [])] (by kernel_rfl) (aV (pz Y fun _ f s => r_move (f.ev Y)) (aV (pz Y fun _ f s => r_sub (f.ev Y) (f.ev Y)) (aV (pz Y fun _ f s => r_iaI underlying240 ts169 (f.ev Y) (f.ev Y) g35.1 g35.2) (aV (pz Y fun _ f s => r_load1 ta169 (f.ev Y) (s.blk (i := 1) Y) (vI_get0 g35.1 g35.2)) (aV (pz Y fun _ f s => r_move (f.ev Y)) (aV (pz Y fun _ f s => r_sub (f.ev Y) (f.ev Y)) (aV (pz Y fun _ f s => r_iaI underlying240 ts169 (f.ev Y) (f.ev Y) g47.1 g47.2) (aV (pz Y fun _ f s => r_load1 ta169 (f.ev Y) (s.blk (i := 1) Y) (vI_get0 g47.1 g47.2)) (aV (pz Y fun _ f s => r_assign (f.ev Y)) (aV (pz Y fun _ f s => r_assign (f.ev Y)) aV0)))))))))) Y fun M57 l58 => ni k26 (c_sr fun _ k61 => vm Y Y ?_)
    obtain ⟨t62, e67, H⟩ := bnd H
    refine w_call cf205 trivial Y Y (fun w s => bits_RotateLeft32.calls s (rd s12.1.toList (i64.wrap (s12.2 - 15))) (-7 : Int) _ e67) ?_
    rintro _ M64 l65 rfl
    refine vm Y Y ?_
    obtain ⟨t68, e73, H⟩ := bnd H
    refine w_call cf205 trivial Y Y (fun w s => bits_RotateLeft32.calls s (rd s12.1.toList (i64.wrap (s12.2 - 15))) (-18 : Int) _ e73) ?_
    rintro _ M70 l71 rfl
    refine wv Y (fun f s => r_xor (f.ev Y) (f.ev Y)) (vm Y Y (wv Y (fun f s => r_shr (f.ev Y) (f.ev Y) (by decide)) (wv Y (fun f s => r_xor (f.ev Y) (f.ev Y)) (va Y Y (wk k61 (c_sr fun _ k74 => vm Y Y ?_))))))
    obtain ⟨t75, e80, H⟩ := bnd H
    refine w_call cf205 trivial Y Y (fun w s => bits_RotateLeft32.calls s (rd s12.1.toList (i64.wrap (s12.2 - 2))) (-17 : Int) _ e80) ?_
    rintro _ M77 l78 rfl
    refine vm Y Y ?_
    obtain ⟨t81, e86, H⟩ := bnd H
    refine w_call cf205 trivial Y Y (fun w s => bits_RotateLeft32.calls s (rd s12.1.toList (i64.wrap (s12.2 - 2))) (-19 : Int) _ e86) ?_
    rintro _ M83 l84 rfl
    refine wv Y (fun f s => r_xor (f.ev Y) (f.ev Y)) (vm Y Y (wv Y (fun f s => r_shr (f.ev Y) (f.ev Y) (by decide)) (wv Y (fun f s => r_xor (f.ev Y) (f.ev Y)) (va Y Y (wk k74 (csp 14 (by kernel_rfl) ?_))))))
    intro K87 k87
    obtain ⟨g98, H⟩ := grd_s H
    obtain ⟨g116, H⟩ := grd_s H
    refine dV [([], [4]), ([], [4]), ([(1, 63)], []), ([(2, 64)], [3]), ([(3, 65)], []), ([], [9]), ([(4, 66), (5, 67)], []), ([], [4]), ([(7, 69)], []), ([(8, 70)], [3]), ([(9, 71)], []), ([(6, 68), (10, 72)], []), ([], [10]), ([(11, 73), (12, 74)], [])] (by kernel_rfl) (aV (pz Y fun _ f s => r_move (f.ev Y)) (aV (pz Y fun _ f s => r_move (f.ev Y)) (aV (pz Y fun _ f s => r_sub (f.ev Y) (f.ev Y)) (aV (pz Y fun _ f s => r_iaI underlying240 ts169 (f.ev Y) (f.ev Y) g98.1 g98.2) (aV (pz Y fun _ f s => r_load1 ta169 (f.ev Y) (s.blk (i := 1) Y) (vI_get0 g98.1 g98.2)) (aV (pz Y fun _ f s => r_move (f.ev Y)) (aV (pz Y fun _ f s => r_add (f.ev Y) (f.ev Y)) (aV (pz Y fun _ f s => r_move (f.ev Y)) (aV (pz Y fun _ f s => r_sub (f.ev Y) (f.ev Y)) (aV (pz Y fun _ f s => r_iaI underlying240 ts169 (f.ev Y) (f.ev Y) g116.1 g116.2) (aV (pz Y fun _ f s => r_load1 ta169 (f.ev Y) (s.blk (i := 1) Y) (vI_get0 g116.1 g116.2)) (aV (pz Y fun _ f s => r_add (f.ev Y) (f.ev Y)) (aV (pz Y fun _ f s => r_move (f.ev Y)) (aV (pz Y fun _ f s => r_add (f.ev Y) (f.ev Y)) aV0)))))))))))))) Y fun M130 l131 => ?_
    refine ni k87 ?_
    obtain ⟨g134, H⟩ := grd_s H
    refine wv Y (fun f s => r_iaI underlying240 ts169 (f.ev Y) (f.ev Y) g134.1 g134.2) ?_
    obtain ⟨z135, e136, H⟩ := bnd H
    have e137 := some_r e136
    refine w_store (i := 1) (A' := vI .u32 z135) trivial Y Y Y Y ts169 Y (one1 Y) (idx_le g134.1 g134.2 (vI_len _) (by decide)) (by rw [← e137]; exact (vI_set0 g134.1 g134.2)) ?_
    exact w_nil fun a w' f s => ⟨z135, _, l25.trans (l58.trans (l65.trans (l71.trans (l78.trans (l84.trans l131))))), f.pk Y, s.selD [some 0, some 1] (by decide) Y, H⟩
   rintro a w' ⟨x20, M21, l22, f, s, H⟩
   refine cof f s ?_
   unfold hash_schedule.j2 at H
   exact c_reg (v_add Y Y Y (vm Y Y (w_nil fun a w' f s => ⟨_, (some_r H).symm, _, l14.trans l22, f.pk Y, s.selD [some 0, some 1] (by decide) Y⟩)))
  replace H := if_f b19 H
  replace H := map_inr H r15
  refine c_exit ?_
  intro a w' f s
  exact ⟨s12.1, _, l14, f.pk Y, s.selD [some 0, some 1] (by decide) Y, H⟩
 rintro a w' ⟨x7, M8, l9, f, s, H⟩
 refine cof f s ?_
 unfold hash_schedule.j1 at H
 refine c_sr fun _ k10 => wv Y (fun f s => r_loadA ta240 ts240 (f.ev Y) (s.blk (i := 1) Y) (vI_all _) (vI_len _)) (w_store (i := 0) (A' := vI .u32 x7) trivial Y Y Y Y ts240 (vI_len _) (vI_one _) (by rw [vI_len]; decide) (vI_whole _ _) (wk k10 ?_))
 obtain rfl := some_r H
 exact cx hret Y fun f s => ⟨_, _, Res.of1 Y ⟨_, f.get _ _ Y, run_loadA (s.blk (i := 0) Y) ta240 ts240 (vI_all _) (vI_len _)⟩, s.ext, Y⟩
theorem hash_mix.calls (hM : Sub M w) (p0 : Int) (p1 : Int) (p2 : Int) (p3 : Int) (r : Int) (H : hash_mix p0 p1 p2 p3 = some r) :
  Calls prog 197 [.int .u32 p0, .int .i64 p1, .int .i64 p2, .int .i64 p3].toArray w (Post M w fun M' v => v = (.int .u32 r)) := by
 refine enter 23 [(0, .int .u32 p0), (1, .int .i64 p1), (2, .int .i64 p2), (3, .int .i64 p3)] func197 Y Y Y hM ?_
 intro Q hret
 unfold hash_mix at H
 refine c_sr fun _ k1 => va Y Y (wk k1 (c_sr fun _ k2 => vm Y Y (vm Y Y (wv Y (fun f s => r_neg (f.ev Y)) ?_))))
 obtain ⟨t3, e8, H⟩ := bnd H
 refine w_call cf205 trivial Y Y (fun w s => bits_RotateLeft32.calls s p0 (i64.wrap (0 - p1)) _ e8) ?_
 rintro _ M5 l6 rfl
 refine vm Y Y (vm Y Y (wv Y (fun f s => r_neg (f.ev Y)) ?_))
 obtain ⟨t9, e14, H⟩ := bnd H
 refine w_call cf205 trivial Y Y (fun w s => bits_RotateLeft32.calls s p0 (i64.wrap (0 - p2)) _ e14) ?_
 rintro _ M11 l12 rfl
 refine wv Y (fun f s => r_xor (f.ev Y) (f.ev Y)) (vm Y Y (vm Y Y (wv Y (fun f s => r_neg (f.ev Y)) ?_)))
 obtain ⟨t15, e20, H⟩ := bnd H
 refine w_call cf205 trivial Y Y (fun w s => bits_RotateLeft32.calls s p0 (i64.wrap (0 - p3)) _ e20) ?_
 rintro _ M17 l18 rfl
 refine wv Y (fun f s => r_xor (f.ev Y) (f.ev Y)) (va Y Y (wk k2 ?_))
 obtain rfl := some_r H
 exact cx1 hret Y Y Y Y
theorem hash_compress.calls (hM : Sub M w) (hG : Gl M) (p0 : (Vector Int 8)) (p1 : (List Int)) (v1 : Value) (h2 : RS (FI .u8) M v1 p1) (r : (Vector Int 8)) (H : hash_compress p0 p1 = some r) :
  Calls prog 175 [.agg (vI .u32 p0).toArray, v1].toArray w (Post M w fun M' v => v = (.agg (vI .u32 r).toArray)) := by
 obtain ⟨T1_, f1_, hg1_⟩ := hG.g1
 refine enter 116 [(0, .agg (vI .u32 p0).toArray), (1, v1)] func175 Y Y Y hM ?_
 intro Q hret
 unfold hash_compress at H
 refine c_sr fun _ k3 => w_boxL trivial Y Y Y ?_
 intro b4
 refine w_allocL (A := vI .u32 (replicate 8 0)) tz191 trivial Y Y ?_
 intro b5
 refine wk k3 (c_sr fun _ k6 => vm Y Y ?_)
 obtain ⟨t7, e12, H⟩ := bnd H
 refine w_call cf196 trivial Y Y (fun w s => hash_schedule.calls s p1 v1 h2 _ e12) ?_
 rintro _ M9 l10 rfl
 replace hg1_ := l10 _ _ hg1_
 refine w_allocL (A := vI .u32 (replicate 64 0)) tz240 trivial Y Y ?_
 intro b13
 refine w_store (i := 2) (A' := vI .u32 t7) trivial Y Y Y Y ts240 (vI_len _) (vI_one _) (by rw [vI_len]; decide) (vI_whole _ _) (wk k6 (c_seq fun K14 k14 => csp 9 (by kernel_rfl) ?_))
 intro K15 k15
 refine d_drawN [6, 7] [[], [], [], [8], []] [⟨[], [2], [(0, 0)], none, none⟩, ⟨[(0, 15)], [], [], none, none⟩, ⟨[(1, 16)], [], [(0, 0)], none, none⟩, ⟨[], [2], [(0, 0)], none, none⟩, ⟨[(3, 18)], [], [], none, none⟩, ⟨[(4, 19)], [], [(0, 0)], none, none⟩, ⟨[], [], [], none, some 0⟩, ⟨[], [], [], none, some 1⟩, ⟨[(2, 17), (6, 6)], [], [(3, 0)], some (3, 0), none⟩] [vq (vw b4 0 8 ((0 : Int)).toNat ((4 : Int)).toNat), vq (ptr b4 (0 + ((0 : Int)).toNat)), vq (.agg (vI .u32 (lv p0.toList ((0 : Int)).toNat 4)).toArray), vq (vw b4 0 8 ((4 : Int)).toNat ((8 : Int)).toNat), vq (ptr b4 (0 + ((4 : Int)).toNat)), vq (.agg (vI .u32 (lv p0.toList ((4 : Int)).toNat 4)).toArray), fun _ _ => True, fun _ _ => True, fun _ _ => True] [[fun y M => y = bk b4 (vI .u32 p0) 191], [fun y M => y = bk b5 (vI .u32 (replicate 8 0)) 191], [fun y M => y = bk b13 (vI .u32 t7) 240], [fun y M => ∃ (b34 : Nat), y = bk b34 (vI .u32 (replicate 4 0)) 245, fun y M => ∃ (b34 : Nat), y = bk b34 (vI .u32 (lv p0.toList ((0 : Int)).toNat 4)) 245], [fun y M => ∃ (b37 : Nat), y = bk b37 (vI .u32 (replicate 4 0)) 245]] (by kernel_rfl) (by kernel_rfl) ?_ ?_ Y ?_ (AllN.cons ?_ (AllN.cons ?_ (AllN.cons ?_ (AllN.cons ?_ (AllN.cons ?_ (AllN.cons ?_ (AllN.cons ?_ (AllN.cons ?_ (AllN.cons ?_ AllN.nil))))))))) ?_
 ·exact (mC (mC (mC (mC (mC (mC (mC (mC (mC MonoA.nil)))))))))
 ·exact (MonoK.cons (mono_cons (fun _ _ _ _ h => h) mono_nil) (MonoK.cons (mono_cons (fun _ _ _ _ h => h) mono_nil) (MonoK.cons (mono_cons (fun _ _ _ _ h => h) mono_nil) (MonoK.cons (mono_cons (fun _ _ _ _ h => h) (mono_cons (fun _ _ _ _ h => h) mono_nil)) (MonoK.cons (mono_cons (fun _ _ _ _ h => h) mono_nil) MonoK.nil)))))
 ·exact (All0N.cons Y (All0N.cons Y (All0N.cons Y All0N.nil)))
 ·intro a w' _ _ _ hL hd s
  obtain ⟨x0_, x1_, x2_, x3_, x4_, rfl⟩ := ln5 hL
  obtain ⟨_, ⟨⟩, rfl⟩ := hd.item 0 0 _ Y Y
  exact OP.ofW (hd.fr.add (hd.base 2 _ Y Y)) s Y (wv Y (fun f s => r_view underlying191 ts169 (f.ev Y) Y ⟨_, f.ev Y⟩ (by decide) (by decide) (by decide)) (w_nil fun a w' f s => ⟨Y, f.df, _, _, HLe.refl _, s, f.get _ _ Y, Y⟩))
 ·intro a w' _ _ _ hL hd s
  obtain ⟨x0_, x1_, x2_, x3_, x4_, rfl⟩ := ln5 hL
  exact pw (hd.fr.add (hd.val 0 15 _ Y Y)) s Y (fun f s => r_vwptr underlying245 (f.ev Y) (by decide) (by decide)) Y Y
 ·intro a w' _ _ _ hL hd s
  obtain ⟨x0_, x1_, x2_, x3_, x4_, rfl⟩ := ln5 hL
  obtain ⟨_, ⟨⟩, rfl⟩ := hd.item 0 0 _ Y Y
  exact pw (hd.fr.add (hd.val 1 16 _ Y Y)) s Y (fun f s => r_loadA ta245 ts245 (f.ev Y) (s.blk (i := 0) Y) (vI_sub (by decide)) (vI_len _)) Y Y
 ·intro a w' _ _ _ hL hd s
  obtain ⟨x0_, x1_, x2_, x3_, x4_, rfl⟩ := ln5 hL
  obtain ⟨_, ⟨⟩, rfl⟩ := hd.item 0 0 _ Y Y
  exact OP.ofW (hd.fr.add (hd.base 2 _ Y Y)) s Y (wv Y (fun f s => r_view underlying191 ts169 (f.ev Y) ⟨_, f.ev Y⟩ rfl (by decide) (by decide) (by decide)) (w_nil fun a w' f s => ⟨Y, f.df, _, _, HLe.refl _, s, f.get _ _ Y, Y⟩))
 ·intro a w' _ _ _ hL hd s
  obtain ⟨x0_, x1_, x2_, x3_, x4_, rfl⟩ := ln5 hL
  exact pw (hd.fr.add (hd.val 3 18 _ Y Y)) s Y (fun f s => r_vwptr underlying245 (f.ev Y) (by decide) (by decide)) Y Y
 ·intro a w' _ _ _ hL hd s
  obtain ⟨x0_, x1_, x2_, x3_, x4_, rfl⟩ := ln5 hL
  obtain ⟨_, ⟨⟩, rfl⟩ := hd.item 0 0 _ Y Y
  exact pw (hd.fr.add (hd.val 4 19 _ Y Y)) s Y (fun f s => r_loadA ta245 ts245 (f.ev Y) (s.blk (i := 0) Y) (vI_sub (by decide)) (vI_len _)) Y Y
 ·intro a w' _ _ _ hL hd s
  obtain ⟨x0_, x1_, x2_, x3_, x4_, rfl⟩ := ln5 hL
  refine OP.ofW hd.fr s Y (w_allocL (A := vI .u32 (replicate 4 0)) tz245 trivial Y Y ?_)
  intro b34
  exact w_nil fun a w' f s => ⟨Y, f.df, _, _, HLe.refl _, s.sel [0, 1, 2, 5, 4] (by decide) Y, trivial, ⟨bk b34 (vI .u32 (replicate 4 0)) 245, Y, of_some (q := fun y M => ∃ (b34 : Nat), y = bk b34 (vI .u32 (replicate 4 0)) 245) ⟨b34, Y⟩, (f.get _ _ Y).symm⟩⟩
 ·intro a w' _ _ _ hL hd s
  obtain ⟨x0_, x1_, x2_, x3_, x4_, rfl⟩ := ln5 hL
  refine OP.ofW hd.fr s Y (w_allocL (A := vI .u32 (replicate 4 0)) tz245 trivial Y Y ?_)
  intro b37
  exact w_nil fun a w' f s => ⟨Y, f.df, _, _, HLe.refl _, s.sel [0, 1, 2, 3, 5] (by decide) Y, trivial, ⟨bk b37 (vI .u32 (replicate 4 0)) 245, Y, of_some (q := fun y M => ∃ (b37 : Nat), y = bk b37 (vI .u32 (replicate 4 0)) 245) ⟨b37, Y⟩, (f.get _ _ Y).symm⟩⟩
 ·intro a w' _ _ _ hL hd s
  have e40 := hd.val 2 17 _ Y Y
  obtain ⟨x0_, x1_, x2_, x3_, x4_, rfl⟩ := ln5 hL
  obtain ⟨_, hy, v41, rfl⟩ := hd.item 3 0 _ Y Y
  have e42 := (hd.link 0 6 6 0 _ Y Y Y hy).symm
  obtain rfl := Option.some.inj hy
  exact OP.ofW ((hd.fr.add e42).add e40) s Y (w_store (i := 3) (A' := vI .u32 (lv p0.toList ((0 : Int)).toNat 4)) trivial Y Y Y Y ts245 (vI_len _) (vI_one _) (by rw [vI_len]; decide) (vI_whole _ _) (w_nil fun a w' f s => ⟨Y, f.df, _, _, HLe.refl _, s, trivial, ⟨bk v41 (vI .u32 (lv p0.toList ((0 : Int)).toNat 4)) 245, Y, of_some (q := fun y M => ∃ (b34 : Nat), y = bk b34 (vI .u32 (lv p0.toList ((0 : Int)).toNat 4)) 245) ⟨v41, Y⟩, fun _ y0 hy0 => by obtain rfl := Option.some.inj hy0; rfl⟩⟩))
 intro a w' M43 L_ l44 hL hdf hsz hb hv hi hk_ s
 replace hg1_ := l44 _ _ hg1_
 have e45 := hv 5 20 _ Y Y
 obtain ⟨x0_, x1_, x2_, x3_, x4_, rfl⟩ := ln5 hL
 obtain ⟨_, hy, rfl⟩ := hi 0 _ Y
 obtain rfl := Option.some.inj hy
 obtain ⟨_, hy, rfl⟩ := hi 1 _ Y
 obtain rfl := Option.some.inj hy
 obtain ⟨_, hy, rfl⟩ := hi 2 _ Y
 obtain rfl := Option.some.inj hy
 obtain ⟨_, hy, b46, rfl⟩ := hi 3 _ Y
 have e47 := (hk_ 0 6 6 _ Y Y hy).symm
 obtain rfl := Option.some.inj hy
 obtain ⟨_, hy, b48, rfl⟩ := hi 4 _ Y
 have e49 := (hk_ 1 7 7 _ Y Y hy).symm
 obtain rfl := Option.some.inj hy
 refine n_of (c := (Cx.mk prog 116 none' M w)) ?_ (((((((Fr.start hdf hsz).add e49).add e47).add e45).add (hb 5 _ Y Y)).add (hb 4 _ Y Y)).add (hb 2 _ Y Y)) s
 refine ni k15 (w_store (i := 4) (A' := vI .u32 (lv p0.toList ((4 : Int)).toNat 4)) trivial Y Y Y Y ts245 (vI_len _) (vI_one _) (by rw [vI_len]; decide) (vI_whole _ _) (wk k14 ?_))
 refine c_cut (fun a' w' => ∃ (x50 : (Vector Int 4)) (x51 : (Vector Int 4)) (M52 : Heap), HLe M43 M52 ∧ Fr 116 [(2, ptr b4 0), (4, ptr b5 0), (6, ptr b46 0), (7, ptr b48 0)] a' ∧ St none' M w M52 (lt [bk b4 (vI .u32 p0) 191, bk b5 (vI .u32 (replicate 8 0)) 191, dead, bk b46 (vI .u32 x50) 245, bk b48 (vI .u32 x51) 245]) w' ∧ hash_compress.j3 x50 x51 p0 = some r) ?_ ?_
 ·refine c_seq ?_
  intro K126 k126
  refine c_reg (wv Y (fun f s => r_loadA ta240 ts240 (f.ev Y) (s.sub _ _ hg1_) (vI_all _) (vI_len _)) (vm Y Y (wk k126 (c_block ?_))))
  refine c_loop (fun (s127 : ((Vector Int 4) × (Vector Int 4) × Int)) a' w' => ∃ (M128 : Heap), HLe M43 M128 ∧ Fr 116 [(2, ptr b4 0), (4, ptr b5 0), (5, ptr b13 0), (6, ptr b46 0), (7, ptr b48 0), (21, .agg (vI .u32 hash_constants).toArray), (22, .int .i64 s127.2.2)] a' ∧ St none' M w M128 (lt [bk b4 (vI .u32 p0) 191, bk b5 (vI .u32 (replicate 8 0)) 191, bk b13 (vI .u32 t7) 240, bk b46 (vI .u32 s127.1) 245, bk b48 (vI .u32 s127.2.1) 245]) w') (lv p0.toList ((0 : Int)).toNat 4, lv p0.toList ((4 : Int)).toNat 4, 0) H ?_ ?_
  ·intro a w' f s
   exact ⟨_, HLe.refl _, f.pk Y, s.selD [some 0, some 1, some 2, some 3, some 4] (by decide) Y⟩
  intro s127 y131 H r130 a w' hJ
  obtain ⟨M128, l129, f, s⟩ := hJ
  refine cof f s ?_
  unfold hash_compress.l4 at H
  refine c_sr fun _ k132 => v_lss Y Y Y (wk k132 (c_seq fun K133 k133 => c_if Y (fun b134 => ?_) (fun b134 => ?_)))
  ·replace H := if_t b134 H
   refine cs k133 (c_seq fun K135 k135 => c_block (c_sr fun _ k136 => vm Y Y ?_))
   obtain ⟨g137, H⟩ := grd_s H
   refine wv Y (fun f s => r_index underlying240 ta169 ts169 (f.ev Y) (f.ev Y) g137.1 g137.2 (vI_get g137.1 g137.2)) (va Y Y (va Y Y (wk k136 (c_seq fun K138 k138 => ?_))))
   obtain ⟨t152, e157, H⟩ := bnd H
   obtain ⟨g212, H⟩ := grd_s H
   refine cV [([], [7]), ([(0, 26)], []), ([], [7]), ([(2, 28)], []), ([(3, 29)], []), ([(1, 27), (4, 30)], []), ([], [7]), ([(6, 32)], []), ([], [7]), ([(8, 34)], []), ([(7, 33), (9, 35)], []), ([], [7]), ([(11, 37)], []), ([(12, 38)], []), ([], [7]), ([(14, 40)], []), ([(13, 39), (15, 41)], []), ([(10, 36), (16, 42)], []), ([(5, 31), (17, 43)], []), ([], [9]), ([(18, 44), (19, 45)], []), ([], [8]), ([(21, 47)], [5]), ([(22, 48)], []), ([(20, 46), (23, 49)], []), ([(24, 50)], [])] (by kernel_rfl) (aV (pz Y fun _ f s => r_iaI underlying245 ts169 (f.ev Y) (f.ev Y) (by decide : (0 : Int) ≤ 3) (by decide : (3 : Int) < ((4 : Nat) : Int))) (aV (pz Y fun _ f s => r_load1 ta169 (f.ev Y) (s.blk (i := 4) Y) (vI_get0 (by decide : (0 : Int) ≤ 3) (by decide : (3 : Int) < ((4 : Nat) : Int)))) (aV (pz Y fun _ f s => r_iaI underlying245 ts169 (f.ev Y) (f.ev Y) (by decide : (0 : Int) ≤ 0) (by decide : (0 : Int) < ((4 : Nat) : Int))) (aV (pz Y fun _ f s => r_load1 ta169 (f.ev Y) (s.blk (i := 4) Y) (vI_get0 (by decide : (0 : Int) ≤ 0) (by decide : (0 : Int) < ((4 : Nat) : Int)))) (aV (pzc cf197 Y Y fun _ _ w s => hash_mix.calls s (rd s127.2.1.toList 0) 6 11 25 _ e157) (aV (pz Y fun _ f s => r_add (f.ev Y) (f.ev Y)) (aV (pz Y fun _ f s => r_iaI underlying245 ts169 (f.ev Y) (f.ev Y) (by decide : (0 : Int) ≤ 0) (by decide : (0 : Int) < ((4 : Nat) : Int))) (aV (pz Y fun _ f s => r_load1 ta169 (f.ev Y) (s.blk (i := 4) Y) (vI_get0 (by decide : (0 : Int) ≤ 0) (by decide : (0 : Int) < ((4 : Nat) : Int)))) (aV (pz Y fun _ f s => r_iaI underlying245 ts169 (f.ev Y) (f.ev Y) (by decide : (0 : Int) ≤ 1) (by decide : (1 : Int) < ((4 : Nat) : Int))) (aV (pz Y fun _ f s => r_load1 ta169 (f.ev Y) (s.blk (i := 4) Y) (vI_get0 (by decide : (0 : Int) ≤ 1) (by decide : (1 : Int) < ((4 : Nat) : Int)))) (aV (pz Y fun _ f s => r_and (f.ev Y) (f.ev Y)) (aV (pz Y fun _ f s => r_iaI underlying245 ts169 (f.ev Y) (f.ev Y) (by decide : (0 : Int) ≤ 0) (by decide : (0 : Int) < ((4 : Nat) : Int))) (aV (pz Y fun _ f s => r_load1 ta169 (f.ev Y) (s.blk (i := 4) Y) (vI_get0 (by decide : (0 : Int) ≤ 0) (by decide : (0 : Int) < ((4 : Nat) : Int)))) (aV (pz Y fun _ f s => r_com (f.ev Y)) (aV (pz Y fun _ f s => r_iaI underlying245 ts169 (f.ev Y) (f.ev Y) (by decide : (0 : Int) ≤ 2) (by decide : (2 : Int) < ((4 : Nat) : Int))) (aV (pz Y fun _ f s => r_load1 ta169 (f.ev Y) (s.blk (i := 4) Y) (vI_get0 (by decide : (0 : Int) ≤ 2) (by decide : (2 : Int) < ((4 : Nat) : Int)))) (aV (pz Y fun _ f s => r_and (f.ev Y) (f.ev Y)) (aV (pz Y fun _ f s => r_xor (f.ev Y) (f.ev Y)) (aV (pz Y fun _ f s => r_add (f.ev Y) (f.ev Y)) (aV (pz Y fun _ f s => r_move (f.ev Y)) (aV (pz Y fun _ f s => r_add (f.ev Y) (f.ev Y)) (aV (pz Y fun _ f s => r_move (f.ev Y)) (aV (pz Y fun _ f s => r_iaI underlying240 ts169 (f.ev Y) (f.ev Y) g212.1 g212.2) (aV (pz Y fun _ f s => r_load1 ta169 (f.ev Y) (s.blk (i := 2) Y) (vI_get0 g212.1 g212.2)) (aV (pz Y fun _ f s => r_add (f.ev Y) (f.ev Y)) (aV (pz Y fun _ f s => r_assign (f.ev Y)) aV0)))))))))))))))))))))))))) Y fun M223 l224 => ?_
   refine ni k138 (c_seq fun K226 k226 => ?_)
   obtain ⟨t235, e240, H⟩ := bnd H
   refine cV [([], [6]), ([(0, 51)], []), ([(1, 52)], []), ([], [6]), ([(3, 54)], []), ([], [6]), ([(5, 56)], []), ([(4, 55), (6, 57)], []), ([], [6]), ([(8, 59)], []), ([], [6]), ([(10, 61)], []), ([(9, 60), (11, 62)], []), ([(7, 58), (12, 63)], []), ([], [6]), ([(14, 65)], []), ([], [6]), ([(16, 67)], []), ([(15, 66), (17, 68)], []), ([(13, 64), (18, 69)], []), ([(2, 53), (19, 70)], []), ([(20, 71)], [])] (by kernel_rfl) (aV (pz Y fun _ f s => r_iaI underlying245 ts169 (f.ev Y) (f.ev Y) (by decide : (0 : Int) ≤ 0) (by decide : (0 : Int) < ((4 : Nat) : Int))) (aV (pz Y fun _ f s => r_load1 ta169 (f.ev Y) (s.blk (i := 3) Y) (vI_get0 (by decide : (0 : Int) ≤ 0) (by decide : (0 : Int) < ((4 : Nat) : Int)))) (aV (pzc cf197 Y Y fun _ _ w s => hash_mix.calls s (rd s127.1.toList 0) 2 13 22 _ e240) (aV (pz Y fun _ f s => r_iaI underlying245 ts169 (f.ev Y) (f.ev Y) (by decide : (0 : Int) ≤ 0) (by decide : (0 : Int) < ((4 : Nat) : Int))) (aV (pz Y fun _ f s => r_load1 ta169 (f.ev Y) (s.blk (i := 3) Y) (vI_get0 (by decide : (0 : Int) ≤ 0) (by decide : (0 : Int) < ((4 : Nat) : Int)))) (aV (pz Y fun _ f s => r_iaI underlying245 ts169 (f.ev Y) (f.ev Y) (by decide : (0 : Int) ≤ 1) (by decide : (1 : Int) < ((4 : Nat) : Int))) (aV (pz Y fun _ f s => r_load1 ta169 (f.ev Y) (s.blk (i := 3) Y) (vI_get0 (by decide : (0 : Int) ≤ 1) (by decide : (1 : Int) < ((4 : Nat) : Int)))) (aV (pz Y fun _ f s => r_and (f.ev Y) (f.ev Y)) (aV (pz Y fun _ f s => r_iaI underlying245 ts169 (f.ev Y) (f.ev Y) (by decide : (0 : Int) ≤ 0) (by decide : (0 : Int) < ((4 : Nat) : Int))) (aV (pz Y fun _ f s => r_load1 ta169 (f.ev Y) (s.blk (i := 3) Y) (vI_get0 (by decide : (0 : Int) ≤ 0) (by decide : (0 : Int) < ((4 : Nat) : Int)))) (aV (pz Y fun _ f s => r_iaI underlying245 ts169 (f.ev Y) (f.ev Y) (by decide : (0 : Int) ≤ 2) (by decide : (2 : Int) < ((4 : Nat) : Int))) (aV (pz Y fun _ f s => r_load1 ta169 (f.ev Y) (s.blk (i := 3) Y) (vI_get0 (by decide : (0 : Int) ≤ 2) (by decide : (2 : Int) < ((4 : Nat) : Int)))) (aV (pz Y fun _ f s => r_and (f.ev Y) (f.ev Y)) (aV (pz Y fun _ f s => r_xor (f.ev Y) (f.ev Y)) (aV (pz Y fun _ f s => r_iaI underlying245 ts169 (f.ev Y) (f.ev Y) (by decide : (0 : Int) ≤ 1) (by decide : (1 : Int) < ((4 : Nat) : Int))) (aV (pz Y fun _ f s => r_load1 ta169 (f.ev Y) (s.blk (i := 3) Y) (vI_get0 (by decide : (0 : Int) ≤ 1) (by decide : (1 : Int) < ((4 : Nat) : Int)))) (aV (pz Y fun _ f s => r_iaI underlying245 ts169 (f.ev Y) (f.ev Y) (by decide : (0 : Int) ≤ 2) (by decide : (2 : Int) < ((4 : Nat) : Int))) (aV (pz Y fun _ f s => r_load1 ta169 (f.ev Y) (s.blk (i := 3) Y) (vI_get0 (by decide : (0 : Int) ≤ 2) (by decide : (2 : Int) < ((4 : Nat) : Int)))) (aV (pz Y fun _ f s => r_and (f.ev Y) (f.ev Y)) (aV (pz Y fun _ f s => r_xor (f.ev Y) (f.ev Y)) (aV (pz Y fun _ f s => r_add (f.ev Y) (f.ev Y)) (aV (pz Y fun _ f s => r_assign (f.ev Y)) aV0)))))))))))))))))))))) Y fun M298 l299 => ?_
   refine ni k226 (c_sr fun _ k301 => wv Y (fun f s => r_iaI underlying245 ts169 (f.ev Y) (f.ev Y) (by decide : (0 : Int) ≤ 3) (by decide : (3 : Int) < ((4 : Nat) : Int))) (wv Y (fun f s => r_load1 ta169 (f.ev Y) (s.blk (i := 3) Y) (vI_get0 (by decide : (0 : Int) ≤ 3) (by decide : (3 : Int) < ((4 : Nat) : Int)))) (vm Y Y (v_add Y Y Y (wv Y (fun f s => r_iaI underlying245 ts169 (f.ev Y) (f.ev Y) (by decide : (0 : Int) ≤ 0) (by decide : (0 : Int) < ((4 : Nat) : Int))) (wv Y (fun f s => r_load1 ta169 (f.ev Y) (s.blk (i := 4) Y) (vI_get0 (by decide : (0 : Int) ≤ 0) (by decide : (0 : Int) < ((4 : Nat) : Int)))) (wv Y (fun f s => r_iaI underlying245 ts169 (f.ev Y) (f.ev Y) (by decide : (0 : Int) ≤ 1) (by decide : (1 : Int) < ((4 : Nat) : Int))) (wv Y (fun f s => r_load1 ta169 (f.ev Y) (s.blk (i := 4) Y) (vI_get0 (by decide : (0 : Int) ≤ 1) (by decide : (1 : Int) < ((4 : Nat) : Int)))) (wv Y (fun f s => r_iaI underlying245 ts169 (f.ev Y) (f.ev Y) (by decide : (0 : Int) ≤ 2) (by decide : (2 : Int) < ((4 : Nat) : Int))) ?_)))))))))
   refine wv Y (fun f s => r_load1 ta169 (f.ev Y) (s.blk (i := 4) Y) (vI_get0 (by decide : (0 : Int) ≤ 2) (by decide : (2 : Int) < ((4 : Nat) : Int)))) (wv Y (fun f s => r_build (is := [0, 1, 2, 3]) (xs := [.tmp 75, .tmp 77, .tmp 79, .tmp 81]) (A := vI .u32 (#v[u32.wrap ((rd s127.1.toList 3) + (u32.wrap ((u32.wrap ((u32.wrap ((u32.wrap ((rd s127.2.1.toList 3) + t152)) + (bits .xor .u32 (bits .and .u32 (rd s127.2.1.toList 0) (rd s127.2.1.toList 1)) (bits .and .u32 (bits .xor .u32 u32.max (rd s127.2.1.toList 0)) (rd s127.2.1.toList 2))))) + (rd hash_constants.toList s127.2.2))) + (rd t7.toList s127.2.2)))), rd s127.2.1.toList 0, rd s127.2.1.toList 1, rd s127.2.1.toList 2] : Vector Int 4)) Y (f.evs Y) (by kernel_rfl)) (w_store (i := 4) (A' := vI .u32 (#v[u32.wrap ((rd s127.1.toList 3) + (u32.wrap ((u32.wrap ((u32.wrap ((u32.wrap ((rd s127.2.1.toList 3) + t152)) + (bits .xor .u32 (bits .and .u32 (rd s127.2.1.toList 0) (rd s127.2.1.toList 1)) (bits .and .u32 (bits .xor .u32 u32.max (rd s127.2.1.toList 0)) (rd s127.2.1.toList 2))))) + (rd hash_constants.toList s127.2.2))) + (rd t7.toList s127.2.2)))), rd s127.2.1.toList 0, rd s127.2.1.toList 1, rd s127.2.1.toList 2] : Vector Int 4)) trivial Y Y Y Y ts245 (vI_len _) (vI_one _) (by rw [vI_len]; decide) (vI_whole _ _) ?_))
   refine wk k301 (c_reg (vm Y Y (vm Y Y (v_add Y Y Y (wv Y (fun f s => r_iaI underlying245 ts169 (f.ev Y) (f.ev Y) (by decide : (0 : Int) ≤ 0) (by decide : (0 : Int) < ((4 : Nat) : Int))) (wv Y (fun f s => r_load1 ta169 (f.ev Y) (s.blk (i := 3) Y) (vI_get0 (by decide : (0 : Int) ≤ 0) (by decide : (0 : Int) < ((4 : Nat) : Int)))) (wv Y (fun f s => r_iaI underlying245 ts169 (f.ev Y) (f.ev Y) (by decide : (0 : Int) ≤ 1) (by decide : (1 : Int) < ((4 : Nat) : Int))) (wv Y (fun f s => r_load1 ta169 (f.ev Y) (s.blk (i := 3) Y) (vI_get0 (by decide : (0 : Int) ≤ 1) (by decide : (1 : Int) < ((4 : Nat) : Int)))) (wv Y (fun f s => r_iaI underlying245 ts169 (f.ev Y) (f.ev Y) (by decide : (0 : Int) ≤ 2) (by decide : (2 : Int) < ((4 : Nat) : Int))) (wv Y (fun f s => r_load1 ta169 (f.ev Y) (s.blk (i := 3) Y) (vI_get0 (by decide : (0 : Int) ≤ 2) (by decide : (2 : Int) < ((4 : Nat) : Int)))) (wv Y (fun f s => r_build (is := [0, 1, 2, 3]) (xs := [.tmp 85, .tmp 87, .tmp 89, .tmp 91]) (A := vI .u32 (#v[u32.wrap ((u32.wrap ((u32.wrap ((u32.wrap ((u32.wrap ((rd s127.2.1.toList 3) + t152)) + (bits .xor .u32 (bits .and .u32 (rd s127.2.1.toList 0) (rd s127.2.1.toList 1)) (bits .and .u32 (bits .xor .u32 u32.max (rd s127.2.1.toList 0)) (rd s127.2.1.toList 2))))) + (rd hash_constants.toList s127.2.2))) + (rd t7.toList s127.2.2))) + (u32.wrap (t235 + (bits .xor .u32 (bits .xor .u32 (bits .and .u32 (rd s127.1.toList 0) (rd s127.1.toList 1)) (bits .and .u32 (rd s127.1.toList 0) (rd s127.1.toList 2))) (bits .and .u32 (rd s127.1.toList 1) (rd s127.1.toList 2)))))), rd s127.1.toList 0, rd s127.1.toList 1, rd s127.1.toList 2] : Vector Int 4)) Y (f.evs Y) (by kernel_rfl)) ?_)))))))))))
   exact w_store (i := 3) (A' := vI .u32 (#v[u32.wrap ((u32.wrap ((u32.wrap ((u32.wrap ((u32.wrap ((rd s127.2.1.toList 3) + t152)) + (bits .xor .u32 (bits .and .u32 (rd s127.2.1.toList 0) (rd s127.2.1.toList 1)) (bits .and .u32 (bits .xor .u32 u32.max (rd s127.2.1.toList 0)) (rd s127.2.1.toList 2))))) + (rd hash_constants.toList s127.2.2))) + (rd t7.toList s127.2.2))) + (u32.wrap (t235 + (bits .xor .u32 (bits .xor .u32 (bits .and .u32 (rd s127.1.toList 0) (rd s127.1.toList 1)) (bits .and .u32 (rd s127.1.toList 0) (rd s127.1.toList 2))) (bits .and .u32 (rd s127.1.toList 1) (rd s127.1.toList 2)))))), rd s127.1.toList 0, rd s127.1.toList 1, rd s127.1.toList 2] : Vector Int 4)) trivial Y Y Y Y ts245 (vI_len _) (vI_one _) (by rw [vI_len]; decide) (vI_whole _ _) (wk k135 (c_reg (v_add Y Y Y (vm Y Y (w_nil fun a w' f s => ⟨_, (some_r H).symm, _, l129.trans (l224.trans l299), f.pk Y, s.selD [some 0, some 1, some 2, some 3, some 4] (by decide) Y⟩)))))
  replace H := if_f b134 H
  replace H := map_inr H r130
  refine c_exit ?_
  intro a w' f s
  exact ⟨s127.1, s127.2.1, _, l129, f.pk Y, s.selD [some 0, some 1, none, some 3, some 4] (by decide) Y, H⟩
 rintro a w' ⟨x50, x51, M52, l53, f, s, H⟩
 refine cof f s ?_
 unfold hash_compress.j3 at H
 refine c_cut (fun a' w' => ∃ (x54 : (Vector Int 8)) (M55 : Heap), HLe M52 M55 ∧ Fr 116 [(2, ptr b4 0), (4, ptr b5 0)] a' ∧ St none' M w M55 (lt [bk b4 (vI .u32 x54) 191, bk b5 (vI .u32 (replicate 8 0)) 191, dead, dead, dead]) w' ∧ hash_compress.j1 x54 = some r) ?_ ?_
 ·refine c_seq ?_
  intro K58 k58
  refine c_reg (vm Y Y (wk k58 (c_block ?_)))
  refine c_loop (fun (s59 : ((Vector Int 8) × Int)) a' w' => ∃ (M60 : Heap), HLe M52 M60 ∧ Fr 116 [(2, ptr b4 0), (4, ptr b5 0), (6, ptr b46 0), (7, ptr b48 0), (94, .int .i64 s59.2)] a' ∧ St none' M w M60 (lt [bk b4 (vI .u32 s59.1) 191, bk b5 (vI .u32 (replicate 8 0)) 191, dead, bk b46 (vI .u32 x50) 245, bk b48 (vI .u32 x51) 245]) w') (p0, 0) H ?_ ?_
  ·intro a w' f s
   exact ⟨_, HLe.refl _, f.pk Y, s.selD [some 0, some 1, none, some 3, some 4] (by decide) Y⟩
  intro s59 y63 H r62 a w' hJ
  obtain ⟨M60, l61, f, s⟩ := hJ
  refine cof f s ?_
  unfold hash_compress.l2 at H
  refine c_sr fun _ k64 => v_lss Y Y Y (wk k64 (c_seq fun K65 k65 => c_if Y (fun b66 => ?_) (fun b66 => ?_)))
  ·replace H := if_t b66 H
   refine cs k65 (c_seq fun K67 k67 => c_block (c_sr fun _ k68 => vm Y Y (va Y Y (wk k68 (c_seq fun K69 k69 => csp 6 (by kernel_rfl) ?_)))))
   intro K70 k70
   obtain ⟨g76, H⟩ := grd_s H
   obtain ⟨g85, H⟩ := grd_s H
   refine dV [([], [12]), ([(0, 97)], [2]), ([(1, 98)], []), ([], [12]), ([(3, 100)], [6]), ([(4, 101)], [])] (by kernel_rfl) (aV (pz Y fun _ f s => r_move (f.ev Y)) (aV (pz Y fun _ f s => r_iaI underlying191 ts169 (f.ev Y) (f.ev Y) g76.1 g76.2) (aV (pz Y fun _ f s => r_load1 ta169 (f.ev Y) (s.blk (i := 0) Y) (vI_get0 g76.1 g76.2)) (aV (pz Y fun _ f s => r_move (f.ev Y)) (aV (pz Y fun _ f s => r_iaI underlying245 ts169 (f.ev Y) (f.ev Y) g85.1 g85.2) (aV (pz Y fun _ f s => r_load1 ta169 (f.ev Y) (s.blk (i := 3) Y) (vI_get0 g85.1 g85.2)) aV0)))))) Y fun M89 l90 => ni k70 (v_add Y Y Y ?_)
   obtain ⟨g94, H⟩ := grd_s H
   refine wv Y (fun f s => r_iaI underlying191 ts169 (f.ev Y) (f.ev Y) g94.1 g94.2) (w_store (i := 0) (A' := vI .u32 (vs s59.1 s59.2 (u32.wrap ((rd s59.1.toList s59.2) + (rd x50.toList s59.2))))) trivial Y Y Y Y ts169 Y (one1 Y) (idx_le g94.1 g94.2 (vI_len _) (by decide)) (vI_set0 g94.1 g94.2) (wk k69 (csp 7 (by kernel_rfl) ?_)))
   intro K95 k95
   obtain ⟨g104, H⟩ := grd_s H
   obtain ⟨g113, H⟩ := grd_s H
   refine dV [([], [12]), ([(0, 105)], []), ([(1, 106)], [2]), ([(2, 107)], []), ([], [12]), ([(4, 109)], [7]), ([(5, 110)], [])] (by kernel_rfl) (aV (pz Y fun _ f s => r_move (f.ev Y)) (aV (pz Y fun _ f s => r_add (f.ev Y) (f.ev Y)) (aV (pz Y fun _ f s => r_iaI underlying191 ts169 (f.ev Y) (f.ev Y) g104.1 g104.2) (aV (pz Y fun _ f s => r_load1 ta169 (f.ev Y) (s.blk (i := 0) Y) (vI_get0 g104.1 g104.2)) (aV (pz Y fun _ f s => r_move (f.ev Y)) (aV (pz Y fun _ f s => r_iaI underlying245 ts169 (f.ev Y) (f.ev Y) g113.1 g113.2) (aV (pz Y fun _ f s => r_load1 ta169 (f.ev Y) (s.blk (i := 4) Y) (vI_get0 g113.1 g113.2)) aV0))))))) Y fun M117 l118 => ni k95 (v_add Y Y Y ?_)
   obtain ⟨g122, H⟩ := grd_s H
   refine wv Y (fun f s => r_iaI underlying191 ts169 (f.ev Y) (f.ev Y) g122.1 g122.2) ?_
   obtain ⟨z123, e124, H⟩ := bnd H
   have e125 := some_r e124
   refine w_store (i := 0) (A' := vI .u32 z123) trivial Y Y Y Y ts169 Y (one1 Y) (idx_le g122.1 g122.2 (vI_len _) (by decide)) (by rw [← e125]; exact (vI_set0 g122.1 g122.2)) ?_
   exact wk k67 (c_reg (v_add Y Y Y (vm Y Y (w_nil fun a w' f s => ⟨_, (some_r H).symm, _, l61.trans (l90.trans l118), f.pk Y, s.selD [some 0, some 1, none, some 3, some 4] (by decide) Y⟩))))
  replace H := if_f b66 H
  replace H := map_inr H r62
  refine c_exit ?_
  intro a w' f s
  exact ⟨s59.1, _, l61, f.pk Y, s.selD [some 0, some 1, none, none, none] (by decide) Y, H⟩
 rintro a w' ⟨x54, M55, l56, f, s, H⟩
 refine cof f s ?_
 unfold hash_compress.j1 at H
 refine c_sr fun _ k57 => wv Y (fun f s => r_loadA ta191 ts191 (f.ev Y) (s.blk (i := 0) Y) (vI_all _) (vI_len _)) (w_store (i := 1) (A' := vI .u32 x54) trivial Y Y Y Y ts191 (vI_len _) (vI_one _) (by rw [vI_len]; decide) (vI_whole _ _) (wk k57 ?_))
 obtain rfl := some_r H
 exact cx hret Y fun f s => ⟨_, _, Res.of1 Y ⟨_, f.get _ _ Y, run_loadA (s.blk (i := 1) Y) ta191 ts191 (vI_all _) (vI_len _)⟩, s.ext, Y⟩
theorem hash_Stream_Add.calls (hM : Sub M w) (hG : Gl M) (p0 : hash_Stream) (p1 : (List UInt8)) (r : hash_Stream) (H : hash_Stream_Add p0 p1 = some r) :
  Calls prog 145 [.agg (hash_Stream.C p0).toArray, str p1].toArray w (Post M w fun M' v => v = (.agg (hash_Stream.C r).toArray)) := by
 refine enter 38 [(0, .agg (hash_Stream.C p0).toArray), (1, str p1)] func145 Y Y Y hM ?_
 intro Q hret
 unfold hash_Stream_Add at H
 refine c_sr fun _ k1 => w_boxL trivial Y Y Y ?_
 intro b2
 refine w_allocL (A := hash_Stream.C (⟨replicate 8 0, replicate 64 0, 0⟩ : hash_Stream)) tz195 trivial Y Y ?_
 intro b3
 refine wk k1 ?_
 refine c_cut (fun a' w' => ∃ (x4 : hash_Stream) (M5 : Heap), HLe M M5 ∧ Fr 38 [(2, ptr b2 0), (4, ptr b3 0)] a' ∧ St none' M w M5 (lt [bk b2 (hash_Stream.C x4) 195, bk b3 (hash_Stream.C (⟨replicate 8 0, replicate 64 0, 0⟩ : hash_Stream)) 195]) w' ∧ hash_Stream_Add.j1 x4 = some r) ?_ ?_
 ·refine c_block ?_
  refine c_loop (fun (s8 : (hash_Stream × (List UInt8))) a' w' => ∃ (M9 : Heap), HLe M M9 ∧ Fr 38 [(1, str s8.2), (2, ptr b2 0), (4, ptr b3 0)] a' ∧ St none' M w M9 (lt [bk b2 (hash_Stream.C s8.1) 195, bk b3 (hash_Stream.C (⟨replicate 8 0, replicate 64 0, 0⟩ : hash_Stream)) 195]) w') (p0, p1) H ?_ ?_
  ·intro a w' f s
   exact ⟨_, HLe.refl _, f.pk Y, s.selD [some 0, some 1] (by decide) Y⟩
  intro s8 y12 H r11 a w' hJ
  obtain ⟨M9, l10, f, s⟩ := hJ
  refine cof f s ?_
  unfold hash_Stream_Add.l2 at H
  replace hG := hG.mono l10
  refine c_seq fun K13 k13 => c_sr fun _ k14 => vm Y Y (wv Y (fun f s => r_sneq (f.ev Y) (f.ev Y)) (wk k14 (c_if Y (fun b15 => ?_) (fun b15 => ?_))))
  ·replace H := if_t b15 H
   refine cs k13 (c_block (c_sr fun _ k16 => v_fa fa195_2 Y Y (wv Y (fun f s => r_load1 ta193 (f.ev Y) (s.blk (i := 0) Y) (hash_Stream.g72 _)) (wv Y (fun f s => r_rem (f.ev Y) (f.ev Y) (by decide)) (wv Y (fun f s => r_conv underlying193 underlying3 (f.ev Y)) (va Y Y (wk k16 (c_sr fun _ k17 => v_fa fa195_1 Y Y (vm Y Y ?_)))))))))
   obtain ⟨g18, H⟩ := grd_s H
   refine wv Y (fun f s => r_view underlying192 ts5 (f.ev Y) ⟨_, f.ev Y⟩ rfl g18.1 g18.2.2.1 g18.2.2.2) (vm Y Y (w_copy (i := 0) (m := (bytesI s8.2)) (A' := hash_Stream.C ({ s8.1 with block := (vcp s8.1.block (i64.wrap (Int.tmod s8.1.n (64 : Int))).toNat ((bytesI s8.2).take (((64 : Int)).toNat - (i64.wrap (Int.tmod s8.1.n (64 : Int))).toNat))) } : hash_Stream)) underlying91 ts5 trivial Y Y Y Y (hash_Stream.d8_64 _) (by rw [hash_Stream.len]; decide) (toNat_le g18.2.2.1) (toNat_le' g18.2.2.2) (SrcC.str _) (hash_Stream.s8_64 _) (va Y Y (wk k17 (c_sr fun _ k19 => vm Y Y (vm Y Y ?_))))))
   obtain ⟨g20, H⟩ := grd_s H
   refine wv Y (fun f s => r_sslice underlying9 (f.ev Y) ⟨_, f.ev Y⟩ rfl g20.1 g20.2.1 g20.2.2) (va Y Y (wk k19 (c_sr fun _ k21 => v_fa fa195_2 Y Y (wv Y (fun f s => r_load1 ta193 (f.ev Y) (s.blk (i := 0) Y) (hash_Stream.g72 _)) (vm Y Y (wv Y (fun f s => r_conv underlying3 underlying193 (f.ev Y)) (v_add Y Y Y (v_fa fa195_2 Y Y (w_store (i := 0) (A' := hash_Stream.C ({ ({ s8.1 with block := (vcp s8.1.block (i64.wrap (Int.tmod s8.1.n (64 : Int))).toNat ((bytesI s8.2).take (((64 : Int)).toNat - (i64.wrap (Int.tmod s8.1.n (64 : Int))).toNat))) } : hash_Stream) with n := (u64.wrap (s8.1.n + (u64.wrap (((bytesI s8.2).take (((64 : Int)).toNat - (i64.wrap (Int.tmod s8.1.n (64 : Int))).toNat)).length : Int)))) } : hash_Stream)) trivial Y Y Y Y ts193 Y (one1 Y) (by rw [hash_Stream.len]; decide) (hash_Stream.s72_1 _) (wk k21 (c_sr fun _ k22 => vm Y Y (vm Y Y (v_add Y Y Y (wv Y (fun f s => r_eql (f.ev Y) (f.ev Y)) (wk k22 (c_if Y (fun b23 => ?_) (fun b23 => ?_)))))))))))))))))
   ·replace H := if_t b23 H
    refine csp 4 (by kernel_rfl) ?_
    intro K24 k24
    refine d_drawV [([], [2]), ([(0, 31)], []), ([], [2]), ([(2, 33)], [])] [_, .agg (vI .u32 s8.1.state).toArray, _, _] (by kernel_rfl) (by kernel_rfl) Y (aV (pz Y fun _ f s => r_fa fa195_0 (f.ev Y)) (aV (pz Y fun _ f s => r_loadA ta191 ts191 (f.ev Y) (s.blk (i := 0) Y) (hash_Stream.d0_8 _) (vI_len _)) (aV (pz Y fun _ f s => r_fa fa195_1 (f.ev Y)) (aV (pz Y fun _ f s => r_view underlying192 ts5 (f.ev Y) Y Y (by decide) (by decide) (by decide)) aV0)))) fun M35 l36 => ?_
    replace hG := hG.mono l36
    refine ni k24 ?_
    obtain ⟨t39, e40, H⟩ := bnd H
    refine w_callS (Φ := fun v => v = (.agg (vI .u32 t39).toArray)) 0 cf175 trivial Y Y Y (fun _ w hl_ hb_ s => hash_compress.calls s (hG.mono hl_) s8.1.state (((vcp s8.1.block (i64.wrap (Int.tmod s8.1.n (64 : Int))).toNat ((bytesI s8.2).take (((64 : Int)).toNat - (i64.wrap (Int.tmod s8.1.n (64 : Int))).toNat))).toList.take ((64 : Int)).toNat).drop ((0 : Int)).toNat) _ (RS.view hb_ (hash_Stream.d8_64 _) (by decide) (by decide) (by decide)) _ e40) ?_
    rintro _ M41 l42 rfl
    exact v_fa fa195_0 Y Y (w_store (i := 0) (A' := hash_Stream.C (⟨t39, vcp s8.1.block (i64.wrap (Int.tmod s8.1.n (64 : Int))).toNat ((bytesI s8.2).take (((64 : Int)).toNat - (i64.wrap (Int.tmod s8.1.n (64 : Int))).toNat)), u64.wrap (s8.1.n + (u64.wrap (((bytesI s8.2).take (((64 : Int)).toNat - (i64.wrap (Int.tmod s8.1.n (64 : Int))).toNat)).length : Int)))⟩ : hash_Stream)) trivial Y Y Y Y ts191 (vI_len _) (vI_one _) (by rw [hash_Stream.len]; decide) (hash_Stream.s0_8 _) (w_nil fun a w' f s => ⟨_, (some_r H).symm, _, l10.trans (l36.trans l42), f.pk Y, s.selD [some 0, some 1] (by decide) Y⟩))
   replace H := if_f b23 H
   refine c_skip ?_
   intro a w' f s
   exact ⟨_, (some_r H).symm, _, l10.trans (HLe.refl _), f.pk Y, s.selD [some 0, some 1] (by decide) Y⟩
  replace H := if_f b15 H
  replace H := map_inr H r11
  refine c_exit ?_
  intro a w' f s
  exact ⟨s8.1, _, l10, f.pk Y, s.selD [some 0, some 1] (by decide) Y, H⟩
 rintro a w' ⟨x4, M5, l6, f, s, H⟩
 refine cof f s ?_
 unfold hash_Stream_Add.j1 at H
 refine c_sr fun _ k7 => wv Y (fun f s => r_loadA ta195 ts195 (f.ev Y) (s.blk (i := 0) Y) (hash_Stream.d0_73 _) (hash_Stream.len _)) (w_store (i := 1) (A' := hash_Stream.C x4) trivial Y Y Y Y ts195 (hash_Stream.len _) (hash_Stream.F_one _) (by rw [hash_Stream.len]; decide) (splice_all _ _ (by simp [hash_Stream.C])) (wk k7 ?_))
 obtain rfl := some_r H
 exact cx hret Y fun f s => ⟨_, _, Res.of1 Y ⟨_, f.get _ _ Y, run_loadA (s.blk (i := 1) Y) ta195 ts195 (hash_Stream.d0_73 _) (hash_Stream.len _)⟩, s.ext, Y⟩
theorem hash_Stream_Sum.calls (hM : Sub M w) (hG : Gl M) (p0 : hash_Stream) (r : (Vector Int 32)) (H : hash_Stream_Sum p0 = some r) :
  Calls prog 146 [.agg (hash_Stream.C p0).toArray].toArray w (Post M w fun M' v => v = (.agg (vI .u8 r).toArray)) := by
 refine enter 58 [(0, .agg (hash_Stream.C p0).toArray)] func146 Y Y Y hM ?_
 intro Q hret
 unfold hash_Stream_Sum at H
 refine c_sr fun _ k1 => w_boxL trivial Y Y Y ?_
 intro b2
 refine w_allocL (A := vI .u8 (replicate 32 0)) tz198 trivial Y Y ?_
 intro b3
 refine wk k1 (c_sr fun _ k4 => v_fa fa195_2 Y Y (wv Y (fun f s => r_load1 ta193 (f.ev Y) (s.blk (i := 0) Y) (hash_Stream.g72 _)) (wv Y (fun f s => r_mul (f.ev Y) (f.ev Y)) (va Y Y (wk k4 (c_sr fun _ k5 => w_bslW (F := (FI .u8)) (es := ([128] : List Int)) (xs := [.const (.int .u8 128)]) (vs := [.int .u8 128]) underlying91 te5 trivial Y Y Y Y Y (by decide) ?_))))))
 intro v6
 refine va Y Y (wk k5 ?_)
 refine c_cut (fun a' w' => ∃ (x7 : (List Int)) (v8 : Value) (M9 : Heap), HLe M M9 ∧ Fr 58 [(1, ptr b2 0), (2, ptr b3 0), (3, .int .u64 (u64.wrap (8 * p0.n))), (4, v8)] a' ∧ St none' M w M9 (lt [bk b2 (hash_Stream.C p0) 195, bk b3 (vI .u8 (replicate 32 0)) 198, rowI (FI .u8) v8 5 x7]) w' ∧ hash_Stream_Sum.j5 p0 x7 = some r) ?_ ?_
 ·refine c_block ?_
  refine c_loop (fun (s68 : (List Int)) a' w' => ∃ (v69 : Value) (M70 : Heap), HLe M M70 ∧ Fr 58 [(1, ptr b2 0), (2, ptr b3 0), (3, .int .u64 (u64.wrap (8 * p0.n))), (4, v69)] a' ∧ St none' M w M70 (lt [bk b2 (hash_Stream.C p0) 195, bk b3 (vI .u8 (replicate 32 0)) 198, rowI (FI .u8) v69 5 s68]) w') ([128] : List Int) H ?_ ?_
  ·intro a w' f s
   exact ⟨v6, _, HLe.refl _, f.pk Y, s.selD [some 0, some 1, some 2] (by decide) Y⟩
  intro s68 y73 H r72 a w' hJ
  obtain ⟨v69, M70, l71, f, s⟩ := hJ
  refine cof f s ?_
  unfold hash_Stream_Sum.l6 at H
  replace hG := hG.mono l71
  refine c_seq fun K74 k74 => c_sr fun _ k75 => v_fa fa195_2 Y Y (wv Y (fun f s => r_load1 ta193 (f.ev Y) (s.blk (i := 0) Y) (hash_Stream.g72 _)) (wv Y (fun f s => r_conv underlying193 underlying3 (f.ev Y)) (vm Y Y (wv Y (fun f s => r_lenW 2 s Y underlying91 (f.ev Y)) (v_add Y Y Y (wv Y (fun f s => r_rem (f.ev Y) (f.ev Y) (by decide)) (wv Y (fun f s => r_neq (f.ev Y) (f.ev Y)) (wk k75 (c_if Y (fun b76 => ?_) (fun b76 => ?_))))))))))
  ·replace H := if_t b76 H
   refine cs k74 (c_block (c_reg (vm Y Y (w_bsl (F := (FI .u8)) (es := ([0] : List Int)) (xs := [.const (.int .u8 0)]) underlying91 te5 trivial Y Y Y Y Y (by decide) ?_))))
   intro v77 M78 l79 h80 c81
   replace hG := hG.mono l79
   obtain ⟨g82, H⟩ := grd_s H
   refine w_app (F := (FI .u8)) (m2 := ([0] : List Int)) (i := 2) underlying91 te5 underlying91 (.inl ⟨_, Y⟩) trivial Y Y Y Y (Src.rs (FI.one _) h80) g82 ?_
   intro v83
   exact va Y Y (w_nil fun a w' f s => ⟨_, (some_r H).symm, v83, _, l71.trans l79, f.pk Y, s.selD [some 0, some 1, some 2] (by decide) Y⟩)
  replace H := if_f b76 H
  replace H := map_inr H r72
  refine c_exit ?_
  intro a w' f s
  exact ⟨s68, v69, _, l71, f.pk Y, s.selD [some 0, some 1, some 2] (by decide) Y, H⟩
 rintro a w' ⟨x7, v8, M9, l10, f, s, H⟩
 refine cof f s ?_
 unfold hash_Stream_Sum.j5 at H
 replace hG := hG.mono l10
 refine c_cut (fun a' w' => ∃ (x11 : (List Int)) (v12 : Value) (M13 : Heap), HLe M9 M13 ∧ Fr 58 [(1, ptr b2 0), (2, ptr b3 0), (4, v12)] a' ∧ St none' M w M13 (lt [bk b2 (hash_Stream.C p0) 195, bk b3 (vI .u8 (replicate 32 0)) 198, rowI (FI .u8) v12 5 x11]) w' ∧ hash_Stream_Sum.j3 p0 x11 = some r) ?_ ?_
 ·refine c_seq ?_
  intro K48 k48
  refine c_reg (vm Y Y (wk k48 (c_block ?_)))
  refine c_loop (fun (s49 : ((List Int) × Int)) a' w' => ∃ (v50 : Value) (M51 : Heap), HLe M9 M51 ∧ Fr 58 [(1, ptr b2 0), (2, ptr b3 0), (3, .int .u64 (u64.wrap (8 * p0.n))), (4, v50), (23, .int .i64 s49.2)] a' ∧ St none' M w M51 (lt [bk b2 (hash_Stream.C p0) 195, bk b3 (vI .u8 (replicate 32 0)) 198, rowI (FI .u8) v50 5 s49.1]) w') (x7, 0) H ?_ ?_
  ·intro a w' f s
   exact ⟨v8, _, HLe.refl _, f.pk Y, s.selD [some 0, some 1, some 2] (by decide) Y⟩
  intro s49 y54 H r53 a w' hJ
  obtain ⟨v50, M51, l52, f, s⟩ := hJ
  refine cof f s ?_
  unfold hash_Stream_Sum.l4 at H
  replace hG := hG.mono l52
  refine c_sr fun _ k55 => v_lss Y Y Y (wk k55 (c_seq fun K56 k56 => c_if Y (fun b57 => ?_) (fun b57 => ?_)))
  ·replace H := if_t b57 H
   refine cs k56 (c_seq fun K58 k58 => c_block (c_sr fun _ k59 => vm Y Y (va Y Y (wk k59 (c_reg (vm Y Y (vm Y Y (vm Y Y (wv Y (fun f s => r_mul (f.ev Y) (f.ev Y)) (wv Y (fun f s => r_sub (f.ev Y) (f.ev Y)) ?_))))))))))
   obtain ⟨g60, H⟩ := grd_s H
   refine wv Y (fun f s => r_shr (f.ev Y) (f.ev Y) g60) (wv Y (fun f s => r_conv underlying193 underlying5 (f.ev Y)) (w_bsl (F := (FI .u8)) (es := ([u8.wrap (shrI .u64 (u64.wrap (8 * p0.n)) (i64.wrap (56 - (i64.wrap (8 * s49.2)))))] : List Int)) (xs := [.tmp 32]) underlying91 te5 trivial Y Y Y Y Y (by decide) ?_))
   intro v61 M62 l63 h64 c65
   replace hG := hG.mono l63
   obtain ⟨g66, H⟩ := grd_s H
   refine w_app (F := (FI .u8)) (m2 := ([u8.wrap (shrI .u64 (u64.wrap (8 * p0.n)) (i64.wrap (56 - (i64.wrap (8 * s49.2)))))] : List Int)) (i := 2) underlying91 te5 underlying91 (.inl ⟨_, Y⟩) trivial Y Y Y Y (Src.rs (FI.one _) h64) g66 ?_
   intro v67
   exact va Y Y (wk k58 (c_reg (v_add Y Y Y (vm Y Y (w_nil fun a w' f s => ⟨_, (some_r H).symm, v67, _, l52.trans l63, f.pk Y, s.selD [some 0, some 1, some 2] (by decide) Y⟩)))))
  replace H := if_f b57 H
  replace H := map_inr H r53
  refine c_exit ?_
  intro a w' f s
  exact ⟨s49.1, v50, _, l52, f.pk Y, s.selD [some 0, some 1, some 2] (by decide) Y, H⟩
 rintro a w' ⟨x11, v12, M13, l14, f, s, H⟩
 refine cof f s ?_
 unfold hash_Stream_Sum.j3 at H
 replace hG := hG.mono l14
 refine c_sr fun _ k15 => wv Y (fun f s => r_loadA ta195 ts195 (f.ev Y) (s.blk (i := 0) Y) (hash_Stream.d0_73 _) (hash_Stream.len _)) (vm Y Y (w_give 2 Y (fun _ h => h) ?_))
 intro M16 l17 h18
 replace hG := hG.mono l17
 refine wv Y (fun f s => r_b2s underlying91 underlying5 underlying9 h18 s.sub (f.ev Y)) ?_
 obtain ⟨t19, e24, H⟩ := bnd H
 refine w_call cf145 trivial Y Y (fun w s => hash_Stream_Add.calls s hG p0 (intsB x11) _ e24) ?_
 rintro _ M21 l22 rfl
 refine w_store (i := 0) (A' := hash_Stream.C t19) trivial Y Y Y Y ts195 (hash_Stream.len _) (hash_Stream.F_one _) (by rw [hash_Stream.len]; decide) (splice_all _ _ (by simp [hash_Stream.C])) (wk k15 (c_sr fun _ k25 => w_allocL (A := vI .u8 (replicate 32 0)) tz198 trivial Y Y ?_))
 intro b26
 refine wk k25 ?_
 refine c_cut (fun a' w' => ∃ (x27 : (Vector Int 32)) (M28 : Heap), HLe M21 M28 ∧ Fr 58 [(2, ptr b3 0), (6, ptr b26 0)] a' ∧ St none' M w M28 (lt [dead, bk b3 (vI .u8 (replicate 32 0)) 198, dead, bk b26 (vI .u8 x27) 198]) w' ∧ hash_Stream_Sum.j1 x27 = some r) ?_ ?_
 ·refine c_seq ?_
  intro K31 k31
  refine c_reg (vm Y Y (wk k31 (c_block ?_)))
  refine c_loop (fun (s32 : ((Vector Int 32) × Int)) a' w' => ∃ (M33 : Heap), HLe M21 M33 ∧ Fr 58 [(1, ptr b2 0), (2, ptr b3 0), (6, ptr b26 0), (40, .int .i64 s32.2)] a' ∧ St none' M w M33 (lt [bk b2 (hash_Stream.C t19) 195, bk b3 (vI .u8 (replicate 32 0)) 198, dead, bk b26 (vI .u8 s32.1) 198]) w') (replicate 32 0, 0) H ?_ ?_
  ·intro a w' f s
   exact ⟨_, HLe.refl _, f.pk Y, s.selD [some 0, some 1, none, some 3] (by decide) Y⟩
  intro s32 y36 H r35 a w' hJ
  obtain ⟨M33, l34, f, s⟩ := hJ
  refine cof f s ?_
  unfold hash_Stream_Sum.l2 at H
  refine c_sr fun _ k37 => v_lss Y Y Y (wk k37 (c_seq fun K38 k38 => c_if Y (fun b39 => ?_) (fun b39 => ?_)))
  ·replace H := if_t b39 H
   refine cs k38 (c_seq fun K40 k40 => c_block (c_sr fun _ k41 => vm Y Y (va Y Y (wk k41 (c_reg (vm Y Y (vm Y Y (wv Y (fun f s => r_quo (f.ev Y) (f.ev Y) (by decide)) (v_fa fa195_0 Y Y ?_)))))))))
   obtain ⟨g42, H⟩ := grd_s H
   refine wv Y (fun f s => r_iaI underlying191 ts169 (f.ev Y) (f.ev Y) g42.1 g42.2) (wv Y (fun f s => r_load1 ta169 (f.ev Y) (s.blk (i := 0) Y) (part_get (hash_Stream.d0_8 _) (idx_lt g42.1 g42.2) (vI_get g42.1 g42.2))) (vm Y Y (wv Y (fun f s => r_rem (f.ev Y) (f.ev Y) (by decide)) (wv Y (fun f s => r_mul (f.ev Y) (f.ev Y)) (wv Y (fun f s => r_sub (f.ev Y) (f.ev Y)) ?_)))))
   obtain ⟨g43, H⟩ := grd_s H
   refine wv Y (fun f s => r_shr (f.ev Y) (f.ev Y) g43) (wv Y (fun f s => r_conv underlying169 underlying5 (f.ev Y)) ?_)
   obtain ⟨g44, H⟩ := grd_s H
   refine wv Y (fun f s => r_iaI underlying198 ts5 (f.ev Y) (f.ev Y) g44.1 g44.2) ?_
   obtain ⟨z45, e46, H⟩ := bnd H
   have e47 := some_r e46
   refine w_store (i := 3) (A' := vI .u8 z45) trivial Y Y Y Y ts5 Y (one1 Y) (idx_le g44.1 g44.2 (vI_len _) (by decide)) (by rw [← e47]; exact (vI_set0 g44.1 g44.2)) ?_
   exact wk k40 (c_reg (v_add Y Y Y (vm Y Y (w_nil fun a w' f s => ⟨_, (some_r H).symm, _, l34.trans (HLe.refl _), f.pk Y, s.selD [some 0, some 1, none, some 3] (by decide) Y⟩))))
  replace H := if_f b39 H
  replace H := map_inr H r35
  refine c_exit ?_
  intro a w' f s
  exact ⟨s32.1, _, l34, f.pk Y, s.selD [none, some 1, none, some 3] (by decide) Y, H⟩
 rintro a w' ⟨x27, M28, l29, f, s, H⟩
 refine cof f s ?_
 unfold hash_Stream_Sum.j1 at H
 refine c_sr fun _ k30 => wv Y (fun f s => r_loadA ta198 ts198 (f.ev Y) (s.blk (i := 3) Y) (vI_all _) (vI_len _)) (w_store (i := 1) (A' := vI .u8 x27) trivial Y Y Y Y ts198 (vI_len _) (vI_one _) (by rw [vI_len]; decide) (vI_whole _ _) (wk k30 ?_))
 obtain rfl := some_r H
 exact cx hret Y fun f s => ⟨_, _, Res.of1 Y ⟨_, f.get _ _ Y, run_loadA (s.blk (i := 1) Y) ta198 ts198 (vI_all _) (vI_len _)⟩, s.ext, Y⟩
theorem hash_Sum.calls (hM : Sub M w) (hG : Gl M) (p0 : (List Int)) (v1 : Value) (h2 : RS (FI .u8) M v1 p0) (r : (Vector Int 32)) (H : hash_Sum p0 = some r) :
  Calls prog 160 [v1].toArray w (Post M w fun M' v => v = (.agg (vI .u8 r).toArray)) := by
 refine enter 8 [(0, v1)] func160 Y Y Y hM ?_
 intro Q hret
 unfold hash_Sum at H
 refine c_sr fun _ k3 => w_allocL (A := vI .u8 (replicate 32 0)) tz198 trivial Y Y ?_
 intro b4
 refine wk k3 (c_seq fun K5 k5 => csp 3 (by kernel_rfl) ?_)
 intro K6 k6
 obtain ⟨t9, e14, H⟩ := bnd H
 refine dV [([], []), ([], [0]), ([(1, 4)], [])] (by kernel_rfl) (aV (pzc cf144 Y Y fun _ _ w s => hash_Begin.calls s  _ e14) (aV (pz Y fun _ f s => r_move (f.ev Y)) (aV (pz Y fun l18 f s => r_b2s underlying91 underlying5 underlying9 (h2.mono l18) s.sub (f.ev Y)) aV0))) Y fun M20 l21 => ?_
 replace hG := hG.mono l21
 refine ni k6 ?_
 obtain ⟨t24, e29, H⟩ := bnd H
 refine w_call cf145 trivial Y Y (fun w s => hash_Stream_Add.calls s hG t9 (intsB p0) _ e29) ?_
 rintro _ M26 l27 rfl
 replace hG := hG.mono l27
 obtain ⟨t30, e35, H⟩ := bnd H
 refine w_call cf146 trivial Y Y (fun w s => hash_Stream_Sum.calls s hG t24 _ e35) ?_
 rintro _ M32 l33 rfl
 refine w_store (i := 0) (A' := vI .u8 t30) trivial Y Y Y Y ts198 (vI_len _) (vI_one _) (by rw [vI_len]; decide) (vI_whole _ _) (wk k5 ?_)
 obtain rfl := some_r H
 exact cx hret Y fun f s => ⟨_, _, Res.of1 Y ⟨_, f.get _ _ Y, run_loadA (s.blk (i := 0) Y) ta198 ts198 (vI_all _) (vI_len _)⟩, s.ext, Y⟩
theorem hash_Mac_1.calls (hM : Sub M w) (p0 : Int) (c0_ : (List UInt8)) (cb0_ : Nat) (ch0_ : M cb0_ = some (.cells ([str c0_]).toArray 9 (0, 0))) (r : (List UInt8)) (H : hash_Mac_1 p0 c0_ = some r) :
  Calls prog 161 [.int .u8 p0, ptr cb0_ 0].toArray w (Post M w fun M' v => v = (str r)) := by
 refine enter 21 [(0, .int .u8 p0), (1, ptr cb0_ 0)] func161 Y Y Y hM ?_
 intro Q hret
 unfold hash_Mac_1 at H
 refine c_sr fun _ k1 => va Y Y (wk k1 (c_sr fun _ k2 => w_allocL (A := vI .u8 (replicate 64 0)) tz192 trivial Y Y ?_))
 intro b3
 refine wk k2 (c_seq fun K4 k4 => csp 2 (by kernel_rfl) ?_)
 intro K5 k5
 refine dV [([], [4]), ([], [1])] (by kernel_rfl) (aV (pz Y fun _ f s => r_view underlying192 ts5 (f.ev Y) Y Y (by decide) (by decide) (by decide)) (aV (pz Y fun l9 f s => r_load1 ta9 (f.ev Y) (s.sub _ _ (l9 _ _ ch0_)) Y) aV0)) Y fun M10 l11 => ni k5 (w_copy (i := 0) (m := (bytesI c0_)) (A' := vI .u8 (vcp (replicate 64 0) ((0 : Int)).toNat ((bytesI c0_).take (((64 : Int)).toNat - ((0 : Int)).toNat)))) underlying91 ts5 trivial Y Y Y Y (vI_all _) (by rw [vI_len]; decide) (by decide) (by decide) (SrcC.str _) (vI_whole _ _) (wk k4 ?_))
 refine c_cut (fun a' w' => ∃ (x14 : (Vector Int 64)) (M15 : Heap), HLe M10 M15 ∧ Fr 21 [(4, ptr b3 0)] a' ∧ St none' M w M15 (lt [bk b3 (vI .u8 x14) 192]) w' ∧ hash_Mac_1.j1 x14 = some r) ?_ ?_
 ·refine c_seq ?_
  intro K18 k18
  refine c_reg (vm Y Y (wk k18 (c_block ?_)))
  refine c_loop (fun (s19 : ((Vector Int 64) × Int)) a' w' => ∃ (M20 : Heap), HLe M10 M20 ∧ Fr 21 [(0, .int .u8 p0), (4, ptr b3 0), (9, .int .i64 s19.2)] a' ∧ St none' M w M20 (lt [bk b3 (vI .u8 s19.1) 192]) w') (vcp (replicate 64 0) ((0 : Int)).toNat ((bytesI c0_).take (((64 : Int)).toNat - ((0 : Int)).toNat)), 0) H ?_ ?_
  ·intro a w' f s
   exact ⟨_, HLe.refl _, f.pk Y, s.selD [some 0] (by decide) Y⟩
  intro s19 y23 H r22 a w' hJ
  obtain ⟨M20, l21, f, s⟩ := hJ
  refine cof f s ?_
  unfold hash_Mac_1.l2 at H
  refine c_sr fun _ k24 => v_lss Y Y Y (wk k24 (c_seq fun K25 k25 => c_if Y (fun b26 => ?_) (fun b26 => ?_)))
  ·replace H := if_t b26 H
   refine cs k25 (c_seq fun K27 k27 => c_block (c_sr fun _ k28 => vm Y Y (va Y Y (wk k28 (c_reg (vm Y Y ?_))))))
   obtain ⟨g29, H⟩ := grd_s H
   refine wv Y (fun f s => r_iaI underlying192 ts5 (f.ev Y) (f.ev Y) g29.1 g29.2) (wv Y (fun f s => r_load1 ta5 (f.ev Y) (s.blk (i := 0) Y) (vI_get0 g29.1 g29.2)) (vm Y Y (wv Y (fun f s => r_xor (f.ev Y) (f.ev Y)) ?_)))
   obtain ⟨g30, H⟩ := grd_s H
   exact wv Y (fun f s => r_iaI underlying192 ts5 (f.ev Y) (f.ev Y) g30.1 g30.2) (w_store (i := 0) (A' := vI .u8 (vs s19.1 s19.2 (bits .xor .u8 (rd s19.1.toList s19.2) p0))) trivial Y Y Y Y ts5 Y (one1 Y) (idx_le g30.1 g30.2 (vI_len _) (by decide)) (vI_set0 g30.1 g30.2) (wk k27 (c_reg (v_add Y Y Y (vm Y Y (w_nil fun a w' f s => ⟨_, (some_r H).symm, _, l21.trans (HLe.refl _), f.pk Y, s.selD [some 0] (by decide) Y⟩))))))
  replace H := if_f b26 H
  replace H := map_inr H r22
  refine c_exit ?_
  intro a w' f s
  exact ⟨s19.1, _, l21, f.pk Y, s.selD [some 0] (by decide) Y, H⟩
 rintro a w' ⟨x14, M15, l16, f, s, H⟩
 refine cof f s ?_
 unfold hash_Mac_1.j1 at H
 refine c_sr fun _ k17 => wv Y (fun f s => r_view underlying192 ts5 (f.ev Y) Y Y (by decide) (by decide) (by decide)) (wv Y (fun f s => r_vw2s underlying91 underlying5 underlying9 (f.ev Y) (s.blk (i := 0) Y) (vI_all _) (by decide) (by decide)) (va Y Y (wk k17 ?_)))
 obtain rfl := some_r H
 exact cx1 hret Y Y Y Y
theorem hash_Mac.calls (hM : Sub M w) (hG : Gl M) (p0 : (List UInt8)) (p1 : (List UInt8)) (r : (List UInt8)) (H : hash_Mac p0 p1 = some r) :
  Calls prog 113 [str p0, str p1].toArray w (Post M w fun M' v => v = (str r)) := by
 refine enter 35 [(0, str p0), (1, str p1)] func113 Y Y Y hM ?_
 intro Q hret
 unfold hash_Mac at H
 refine c_sr fun _ k1 => w_boxL trivial Y Y Y ?_
 intro b2
 refine va Y Y (wk k1 ?_)
 refine c_cut (fun a' w' => ∃ (x3 : (List UInt8)) (M4 : Heap), HLe M M4 ∧ Fr 35 [(1, str p1), (2, ptr b2 0)] a' ∧ St none' M w M4 (lt [bk b2 ([str x3]) 9]) w' ∧ hash_Mac.j1 x3 p1 = some r) ?_ ?_
 ·refine c_seq ?_
  intro K106 k106
  refine c_reg (wv Y (fun f s => r_load1 ta9 (f.ev Y) (s.blk (i := 0) Y) Y) (wv Y (fun f s => r_slen underlying9 (f.ev Y)) (wv Y (fun f s => r_gtr (f.ev Y) (f.ev Y)) (wk k106 (c_if Y (fun b107 => ?_) (fun b107 => ?_))))))
  ·replace H := if_t b107 H
   refine c_sr fun _ k108 => wv Y (fun f s => r_load1 ta9 (f.ev Y) (s.blk (i := 0) Y) Y) (w_s2b underlying9 underlying91 underlying5 trivial Y Y ?_)
   intro v109 M110 l111 h112
   replace hG := hG.mono l111
   obtain ⟨t113, e118, H⟩ := bnd H
   refine w_call cf160 trivial Y Y (fun w s => hash_Sum.calls s hG (bytesI p0) v109 h112 _ e118) ?_
   rintro _ M115 l116 rfl
   replace hG := hG.mono l116
   refine w_allocL (A := vI .u8 (replicate 32 0)) tz198 trivial Y Y ?_
   intro b119
   exact w_store (i := 1) (A' := vI .u8 t113) trivial Y Y Y Y ts198 (vI_len _) (vI_one _) (by rw [vI_len]; decide) (vI_whole _ _) (wk k108 (c_reg (wv Y (fun f s => r_view underlying198 ts5 (f.ev Y) Y Y (by decide) (by decide) (by decide)) (wv Y (fun f s => r_vw2s underlying91 underlying5 underlying9 (f.ev Y) (s.blk (i := 1) Y) (vI_all _) (by decide) (by decide)) (w_store (i := 0) (A' := [str (intsB ((t113.toList.take ((32 : Int)).toNat).drop ((0 : Int)).toNat))]) trivial Y Y Y Y ts9 Y (one1 Y) (Nat.le_of_ble_eq_true Y) Y (w_nil fun a w' f s => ⟨intsB ((t113.toList.take ((32 : Int)).toNat).drop ((0 : Int)).toNat), _, l111.trans l116, f.pk Y, s.selD [some 0] (by decide) Y, H⟩))))))
  replace H := if_f b107 H
  refine c_skip ?_
  intro a w' f s
  exact ⟨p0, _, HLe.refl _, f.pk Y, s.selD [some 0] (by decide) Y, H⟩
 rintro a w' ⟨x3, M4, l5, f, s, H⟩
 refine cof f s ?_
 unfold hash_Mac.j1 at H
 replace hG := hG.mono l5
 refine c_sr fun _ k6 => w_giveB 0 Y (fun h => h) ?_
 intro M7 l8 h9
 replace hG := hG.mono l8
 refine wv Y (fun f s => r_makeFunc (f.evs Y)) (va Y Y (wk k6 (c_sr fun _ k10 => ?_)))
 obtain ⟨t11, e16, H⟩ := bnd H
 refine w_call cf144 trivial Y Y (fun w s => hash_Begin.calls s  _ e16) ?_
 rintro _ M13 l14 rfl
 replace hG := hG.mono l14
 replace h9 := l14 _ _ h9
 refine vm Y Y ?_
 obtain ⟨t17, e22, H⟩ := bnd H
 refine w_callV trivial Y Y Y (fun _ h => by cases h) (fun w s => ⟨_, _, _, Y, cf161, hash_Mac_1.calls s 54 x3 b2 h9 _ e22⟩) ?_
 rintro _ M19 l20 rfl
 replace hG := hG.mono l20
 replace h9 := l20 _ _ h9
 obtain ⟨t23, e28, H⟩ := bnd H
 refine w_call cf145 trivial Y Y (fun w s => hash_Stream_Add.calls s hG t11 t17 _ e28) ?_
 rintro _ M25 l26 rfl
 replace hG := hG.mono l26
 replace h9 := l26 _ _ h9
 refine vm Y Y ?_
 obtain ⟨t29, e34, H⟩ := bnd H
 refine w_call cf145 trivial Y Y (fun w s => hash_Stream_Add.calls s hG t23 p1 _ e34) ?_
 rintro _ M31 l32 rfl
 replace hG := hG.mono l32
 replace h9 := l32 _ _ h9
 obtain ⟨t35, e40, H⟩ := bnd H
 refine w_call cf146 trivial Y Y (fun w s => hash_Stream_Sum.calls s hG t29 _ e40) ?_
 rintro _ M37 l38 rfl
 replace hG := hG.mono l38
 replace h9 := l38 _ _ h9
 refine w_allocL (A := vI .u8 (replicate 32 0)) tz198 trivial Y Y ?_
 intro b41
 refine w_store (i := 1) (A' := vI .u8 t35) trivial Y Y Y Y ts198 (vI_len _) (vI_one _) (by rw [vI_len]; decide) (vI_whole _ _) (wk k10 (c_seq fun K42 k42 => csp 9 (by kernel_rfl) ?_))
 intro K43 k43
 obtain ⟨t46, e51, H⟩ := bnd H
 obtain ⟨t57, e62, H⟩ := bnd H
 obtain ⟨t67, e72, H⟩ := bnd H
 obtain ⟨t82, e87, H⟩ := bnd H
 obtain ⟨t91, e96, H⟩ := bnd H
 refine d_drawN [8] [[], [], []] [⟨[], [], [], none, none⟩, ⟨[], [6], [], none, none⟩, ⟨[(1, 26)], [], [], none, none⟩, ⟨[(0, 25), (2, 27)], [], [], none, none⟩, ⟨[], [7], [(1, 0)], none, none⟩, ⟨[(4, 29)], [], [(1, 0)], none, none⟩, ⟨[(3, 28), (5, 30)], [], [], none, none⟩, ⟨[(6, 31)], [], [], none, none⟩, ⟨[], [], [], none, some 0⟩] [vq (.agg (hash_Stream.C t46).toArray), vq (.func (.func 161) #[] #[ptr b2 0]), vq (str t57), vq (.agg (hash_Stream.C t67).toArray), vq (vw b41 0 32 ((0 : Int)).toNat ((32 : Int)).toNat), vq (str (intsB ((t35.toList.take ((32 : Int)).toNat).drop ((0 : Int)).toNat))), vq (.agg (hash_Stream.C t82).toArray), vq (.agg (vI .u8 t91).toArray), fun _ _ => True] [[fun y M => y = dead], [fun y M => y = bk b41 (vI .u8 t35) 198], [fun y M => ∃ (b99 : Nat), y = bk b99 (vI .u8 (replicate 32 0)) 198]] (by kernel_rfl) (by kernel_rfl) ?_ ?_ Y ?_ (AllN.cons ?_ (AllN.cons ?_ (AllN.cons ?_ (AllN.cons ?_ (AllN.cons ?_ (AllN.cons ?_ (AllN.cons ?_ (AllN.cons ?_ (AllN.cons ?_ AllN.nil))))))))) ?_
 ·exact (mC (mC (mC (mC (mC (mC (mC (mC (mC MonoA.nil)))))))))
 ·exact (MonoK.cons (mono_cons (fun _ _ _ _ h => h) mono_nil) (MonoK.cons (mono_cons (fun _ _ _ _ h => h) mono_nil) (MonoK.cons (mono_cons (fun _ _ _ _ h => h) mono_nil) MonoK.nil)))
 ·exact (All0N.cons Y (All0N.cons Y All0N.nil))
 ·intro a w' _ _ _ hL hd s
  obtain ⟨x0_, x1_, x2_, rfl⟩ := ln3 hL
  refine OP.ofW hd.fr s Y (w_call cf144 trivial Y Y (fun w s => hash_Begin.calls s  _ e51) ?_)
  rintro _ M48 l49 rfl
  exact w_nil fun a w' f s => ⟨Y, f.df, _, _, l49, s, f.get _ _ Y, Y⟩
 ·intro a w' _ _ l53 hL hd s
  replace h9 := l53 _ _ h9
  obtain ⟨x0_, x1_, x2_, rfl⟩ := ln3 hL
  exact pw (hd.fr.add (hd.base 6 _ Y Y)) s Y (fun f s => r_move (f.ev Y)) Y Y
 ·intro a w' _ _ l55 hL hd s
  have e56 := hd.val 1 26 _ Y Y
  replace h9 := l55 _ _ h9
  obtain ⟨x0_, x1_, x2_, rfl⟩ := ln3 hL
  refine OP.ofW (hd.fr.add e56) s Y (w_callV trivial Y Y Y (fun _ h => by cases h) (fun w s => ⟨_, _, _, Y, cf161, hash_Mac_1.calls s 92 x3 b2 h9 _ e62⟩) ?_)
  rintro _ M59 l60 rfl
  exact w_nil fun a w' f s => ⟨Y, f.df, _, _, l60, s, f.get _ _ Y, Y⟩
 ·intro a w' _ _ l64 hL hd s
  have e65 := hd.val 0 25 _ Y Y
  have e66 := hd.val 2 27 _ Y Y
  obtain ⟨x0_, x1_, x2_, rfl⟩ := ln3 hL
  replace hG := hG.mono l64
  refine OP.ofW ((hd.fr.add e66).add e65) s Y (w_call cf145 trivial Y Y (fun w s => hash_Stream_Add.calls s hG t46 t57 _ e72) ?_)
  rintro _ M69 l70 rfl
  exact w_nil fun a w' f s => ⟨Y, f.df, _, _, l70, s, f.get _ _ Y, Y⟩
 ·intro a w' _ _ _ hL hd s
  obtain ⟨x0_, x1_, x2_, rfl⟩ := ln3 hL
  obtain ⟨_, ⟨⟩, rfl⟩ := hd.item 1 0 _ Y Y
  exact pw (hd.fr.add (hd.base 7 _ Y Y)) s Y (fun f s => r_view underlying198 ts5 (f.ev Y) Y Y (by decide) (by decide) (by decide)) Y Y
 ·intro a w' _ _ _ hL hd s
  obtain ⟨x0_, x1_, x2_, rfl⟩ := ln3 hL
  obtain ⟨_, ⟨⟩, rfl⟩ := hd.item 1 0 _ Y Y
  exact pw (hd.fr.add (hd.val 4 29 _ Y Y)) s Y (fun f s => r_vw2s underlying91 underlying5 underlying9 (f.ev Y) (s.blk (i := 1) Y) (vI_all _) (by decide) (by decide)) Y Y
 ·intro a w' _ _ l79 hL hd s
  have e80 := hd.val 3 28 _ Y Y
  have e81 := hd.val 5 30 _ Y Y
  obtain ⟨x0_, x1_, x2_, rfl⟩ := ln3 hL
  replace hG := hG.mono l79
  refine OP.ofW ((hd.fr.add e81).add e80) s Y (w_call cf145 trivial Y Y (fun w s => hash_Stream_Add.calls s hG t67 (intsB ((t35.toList.take ((32 : Int)).toNat).drop ((0 : Int)).toNat)) _ e87) ?_)
  rintro _ M84 l85 rfl
  exact w_nil fun a w' f s => ⟨Y, f.df, _, _, l85, s, f.get _ _ Y, Y⟩
 ·intro a w' _ _ l89 hL hd s
  have e90 := hd.val 6 31 _ Y Y
  obtain ⟨x0_, x1_, x2_, rfl⟩ := ln3 hL
  replace hG := hG.mono l89
  refine OP.ofW (hd.fr.add e90) s Y (w_call cf146 trivial Y Y (fun w s => hash_Stream_Sum.calls s hG t82 _ e96) ?_)
  rintro _ M93 l94 rfl
  exact w_nil fun a w' f s => ⟨Y, f.df, _, _, l94, s, f.get _ _ Y, Y⟩
 ·intro a w' _ _ _ hL hd s
  obtain ⟨x0_, x1_, x2_, rfl⟩ := ln3 hL
  refine OP.ofW hd.fr s Y (w_allocL (A := vI .u8 (replicate 32 0)) tz198 trivial Y Y ?_)
  intro b99
  exact w_nil fun a w' f s => ⟨Y, f.df, _, _, HLe.refl _, s.sel [0, 1, 3] (by decide) Y, trivial, ⟨bk b99 (vI .u8 (replicate 32 0)) 198, Y, of_some (q := fun y M => ∃ (b99 : Nat), y = bk b99 (vI .u8 (replicate 32 0)) 198) ⟨b99, Y⟩, (f.get _ _ Y).symm⟩⟩
 intro a w' M100 L_ l101 hL hdf hsz hb hv hi hk_ s
 have e102 := hv 7 32 _ Y Y
 obtain ⟨x0_, x1_, x2_, rfl⟩ := ln3 hL
 obtain ⟨_, hy, rfl⟩ := hi 0 _ Y
 obtain rfl := Option.some.inj hy
 obtain ⟨_, hy, rfl⟩ := hi 1 _ Y
 obtain rfl := Option.some.inj hy
 obtain ⟨_, hy, b103, rfl⟩ := hi 2 _ Y
 have e104 := (hk_ 0 8 8 _ Y Y hy).symm
 obtain rfl := Option.some.inj hy
 refine n_of (c := (Cx.mk prog 35 none' M w)) ?_ (((Fr.start hdf hsz).add e104).add e102) s
 refine ni k43 (w_store (i := 2) (A' := vI .u8 t91) trivial Y Y Y Y ts198 (vI_len _) (vI_one _) (by rw [vI_len]; decide) (vI_whole _ _) (wk k42 (c_sr fun _ k105 => wv Y (fun f s => r_view underlying198 ts5 (f.ev Y) Y Y (by decide) (by decide) (by decide)) (wv Y (fun f s => r_vw2s underlying91 underlying5 underlying9 (f.ev Y) (s.blk (i := 2) Y) (vI_all _) (by decide) (by decide)) (va Y Y (wk k105 ?_))))))
 obtain rfl := some_r H
 exact cx1 hret Y Y Y Y
theorem kdf_Derive.calls (hM : Sub M w) (hG : Gl M) (p0 : (List UInt8)) (p1 : (List UInt8)) (p2 : (List (List UInt8))) (v1 : Value) (h2 : RS FS M v1 p2) (r : (List UInt8)) (H : kdf_Derive p0 p1 p2 = some r) :
  Calls prog 54 [str p0, str p1, v1].toArray w (Post M w fun M' v => v = (str r)) := by
 refine enter 27 [(0, str p0), (1, str p1), (2, v1)] func54 Y Y Y hM ?_
 intro Q hret
 unfold kdf_Derive at H
 refine c_sr fun _ k3 => va Y Y (wk k3 (c_sr fun _ k4 => vm Y Y ?_))
 obtain ⟨t5, e6, H⟩ := bnd H
 refine w_callR cf56 trivial Y Y (fun w s => wire_Bytes.callsR s p1 _ e6) ?_
 rintro v9 M7 _ l8 rfl
 replace hG := hG.mono l8
 replace h2 := h2.mono l8
 refine va Y Y (wk k4 ?_)
 refine c_cut (fun a' w' => ∃ (x10 : (List Int)) (v11 : Value) (M12 : Heap), HLe M7 M12 ∧ Fr 27 [(0, str p0), (7, v11)] a' ∧ St none' M w M12 (lt [rowI (FI .u8) v11 5 x10]) w' ∧ kdf_Derive.j1 p0 x10 = some r) ?_ ?_
 ·refine c_seq ?_
  intro K24 k24
  refine c_reg (vm Y Y (wv Y (fun f s => r_lenR underlying127 h2 (f.ev Y)) (vm Y Y (wk k24 (c_block ?_)))))
  refine c_loop (fun (s25 : ((List Int) × Int)) a' w' => ∃ (v26 : Value) (M27 : Heap), HLe M7 M27 ∧ Fr 27 [(0, str p0), (7, v26), (12, v1), (13, .int .i64 (p2.length : Int)), (14, .int .i64 s25.2)] a' ∧ St none' M w M27 (lt [rowI (FI .u8) v26 5 s25.1]) w') (t5, 0) H ?_ ?_
  ·intro a w' f s
   exact ⟨v9, _, HLe.refl _, f.pk Y, s.selD [some 0] (by decide) Y⟩
  intro s25 y30 H r29 a w' hJ
  obtain ⟨v26, M27, l28, f, s⟩ := hJ
  refine cof f s ?_
  unfold kdf_Derive.l2 at H
  replace hG := hG.mono l28
  replace h2 := h2.mono l28
  refine c_sr fun _ k31 => v_lss Y Y Y (wk k31 (c_seq fun K32 k32 => c_if Y (fun b33 => ?_) (fun b33 => ?_)))
  ·replace H := if_t b33 H
   refine cs k32 (c_seq fun K34 k34 => c_block (c_sr fun _ k35 => ?_))
   obtain ⟨g36, H⟩ := grd_s H
   refine wv Y (fun f s => r_iR underlying127 ts9 h2 (f.ev Y) (f.ev Y) g36.1 g36.2) (wv Y (fun f s => r_loadE1 ta9 h2 s.sub g36.1 g36.2 (f.ev Y) Y) (va Y Y (wk k35 (c_reg (vm Y Y (vm Y Y ?_))))))
   obtain ⟨t37, e42, H⟩ := bnd H
   refine w_call cf56 trivial Y Y (fun w s => wire_Bytes.calls s (rd p2 s25.2) _ e42) ?_
   rintro v47 M39 l40 ⟨v43, hv_, h44⟩
   replace hv_ := hv_.symm
   subst hv_
   replace hG := hG.mono l40
   obtain ⟨g45, H⟩ := grd_s H
   refine w_app (F := (FI .u8)) (m2 := t37) (i := 0) underlying91 te5 underlying91 (.inl ⟨_, Y⟩) trivial Y Y Y Y (Src.rs (FI.one _) h44) g45 ?_
   intro v46
   exact va Y Y (wk k34 (c_reg (v_add Y Y Y (vm Y Y (w_nil fun a w' f s => ⟨_, (some_r H).symm, v46, _, l28.trans l40, f.pk Y, s.selD [some 0] (by decide) Y⟩)))))
  replace H := if_f b33 H
  replace H := map_inr H r29
  refine c_exit ?_
  intro a w' f s
  exact ⟨s25.1, v26, _, l28, f.pk Y, s.selD [some 0] (by decide) Y, H⟩
 rintro a w' ⟨x10, v11, M12, l13, f, s, H⟩
 refine cof f s ?_
 unfold kdf_Derive.j1 at H
 replace hG := hG.mono l13
 refine c_sr fun _ k14 => vm Y Y (vm Y Y (w_give 0 Y (fun _ h => h) ?_))
 intro M15 l16 h17
 replace hG := hG.mono l16
 refine wv Y (fun f s => r_b2s underlying91 underlying5 underlying9 h17 s.sub (f.ev Y)) ?_
 obtain ⟨t18, e23, H⟩ := bnd H
 refine w_call cf113 trivial Y Y (fun w s => hash_Mac.calls s hG p0 (intsB x10) _ e23) ?_
 rintro _ M20 l21 rfl
 refine va Y Y (wk k14 ?_)
 obtain rfl := some_r H
 exact cx1 hret Y Y Y Y
theorem wire_Strings.callsR (hM : Sub M w) (p0 : (List (List UInt8))) (v1 : Value) (h2 : RS FS M v1 p0) (r : (List Int)) (H : wire_Strings p0 = some r) :
  Calls prog 114 [v1].toArray w (PostI none' M w fun M' x v => x = rowI (FI .u8) v 5 r) := by
 refine enterR 21 [(0, v1)] func114 Y Y Y hM ?_
 intro Q hret
 unfold wire_Strings at H
 refine c_sr fun _ k3 => va Y Y (wk k3 (c_sr fun _ k4 => vm Y Y (wv Y (fun f s => r_lenR underlying127 h2 (f.ev Y)) ?_)))
 obtain ⟨t5, e6, H⟩ := bnd H
 refine w_callR cf115 trivial Y Y (fun w s => wire_Int.callsR s (p0.length : Int) _ e6) ?_
 rintro v9 M7 _ l8 rfl
 replace h2 := h2.mono l8
 refine va Y Y (wk k4 ?_)
 refine c_cut (fun a' w' => ∃ (x10 : (List Int)) (v11 : Value) (M12 : Heap), HLe M7 M12 ∧ Fr 21 [(3, v11)] a' ∧ St none' M w M12 (lt [rowI (FI .u8) v11 5 x10]) w' ∧ wire_Strings.j1 x10 = some r) ?_ ?_
 ·refine c_seq ?_
  intro K15 k15
  refine c_reg (vm Y Y (wv Y (fun f s => r_lenR underlying127 h2 (f.ev Y)) (vm Y Y (wk k15 (c_block ?_)))))
  refine c_loop (fun (s16 : ((List Int) × Int)) a' w' => ∃ (v17 : Value) (M18 : Heap), HLe M7 M18 ∧ Fr 21 [(3, v17), (9, v1), (10, .int .i64 (p0.length : Int)), (11, .int .i64 s16.2)] a' ∧ St none' M w M18 (lt [rowI (FI .u8) v17 5 s16.1]) w') (t5, 0) H ?_ ?_
  ·intro a w' f s
   exact ⟨v9, _, HLe.refl _, f.pk Y, s.selD [some 0] (by decide) Y⟩
  intro s16 y21 H r20 a w' hJ
  obtain ⟨v17, M18, l19, f, s⟩ := hJ
  refine cof f s ?_
  unfold wire_Strings.l2 at H
  replace h2 := h2.mono l19
  refine c_sr fun _ k22 => v_lss Y Y Y (wk k22 (c_seq fun K23 k23 => c_if Y (fun b24 => ?_) (fun b24 => ?_)))
  ·replace H := if_t b24 H
   refine cs k23 (c_seq fun K25 k25 => c_block (c_sr fun _ k26 => ?_))
   obtain ⟨g27, H⟩ := grd_s H
   refine wv Y (fun f s => r_iR underlying127 ts9 h2 (f.ev Y) (f.ev Y) g27.1 g27.2) (wv Y (fun f s => r_loadE1 ta9 h2 s.sub g27.1 g27.2 (f.ev Y) Y) (va Y Y (wk k26 (c_reg (vm Y Y (vm Y Y ?_))))))
   obtain ⟨t28, e33, H⟩ := bnd H
   refine w_call cf56 trivial Y Y (fun w s => wire_Bytes.calls s (rd p0 s16.2) _ e33) ?_
   rintro v38 M30 l31 ⟨v34, hv_, h35⟩
   replace hv_ := hv_.symm
   subst hv_
   obtain ⟨g36, H⟩ := grd_s H
   refine w_app (F := (FI .u8)) (m2 := t28) (i := 0) underlying91 te5 underlying91 (.inl ⟨_, Y⟩) trivial Y Y Y Y (Src.rs (FI.one _) h35) g36 ?_
   intro v37
   exact va Y Y (wk k25 (c_reg (v_add Y Y Y (vm Y Y (w_nil fun a w' f s => ⟨_, (some_r H).symm, v37, _, l19.trans l31, f.pk Y, s.selD [some 0] (by decide) Y⟩)))))
  replace H := if_f b24 H
  replace H := map_inr H r20
  refine c_exit ?_
  intro a w' f s
  exact ⟨s16.1, v17, _, l19, f.pk Y, s.selD [some 0] (by decide) Y, H⟩
 rintro a w' ⟨x10, v11, M12, l13, f, s, H⟩
 refine cof f s ?_
 unfold wire_Strings.j1 at H
 refine c_sr fun _ k14 => vm Y Y (va Y Y (wk k14 ?_))
 obtain rfl := some_r H
 exact cx hret Y fun f s => ⟨_, _, _, Res.of1 Y (RV.t f Y), s.sel [0] (by decide) Y, Y⟩
theorem wire_Strings.calls (hM : Sub M w) (p0 : (List (List UInt8))) (v1 : Value) (h2 : RS FS M v1 p0) (r : (List Int)) (H : wire_Strings p0 = some r) :
  Calls prog 114 [v1].toArray w (Post M w fun M' v => ∃ v39, v = v39 ∧ RS (FI .u8) M' v39 r) := by
 exact postR (wire_Strings.callsR hM p0 v1 h2 r H)
theorem backup_content.calls (hM : Sub M w) (p0 : (List Key)) (v1 : Value) (h2 : RS Key.F M v1 p0) (r : (List UInt8)) (H : backup_content p0 = some r) :
  Calls prog 55 [v1].toArray w (Post M w fun M' v => v = (str r)) := by
 refine enter 53 [(0, v1)] func55 Y Y Y hM ?_
 intro Q hret
 unfold backup_content at H
 refine c_sr fun _ k3 => va Y Y (wk k3 (c_sr fun _ k4 => vm Y Y (wv Y (fun f s => r_lenR underlying24 h2 (f.ev Y)) ?_)))
 obtain ⟨g6, H⟩ := grd_s H
 refine w_mk (F := FS) underlying127 fz9 trivial Y Y Y g6.1 g6.2.1 g6.2.2 ?_
 intro v5
 refine va Y Y (wk k4 ?_)
 refine c_cut (fun a' w' => ∃ (x7 : (List (List UInt8))) (v8 : Value) (M9 : Heap), HLe M M9 ∧ Fr 53 [(3, v8)] a' ∧ St none' M w M9 (lt [rowI FS v8 9 x7]) w' ∧ backup_content.j1 x7 = some r) ?_ ?_
 ·refine c_seq ?_
  intro K24 k24
  refine c_reg (vm Y Y (wv Y (fun f s => r_lenR underlying24 h2 (f.ev Y)) (vm Y Y (wk k24 (c_block ?_)))))
  refine c_loop (fun (s25 : ((List (List UInt8)) × Int)) a' w' => ∃ (v26 : Value) (M27 : Heap), HLe M M27 ∧ Fr 53 [(0, v1), (3, v26), (12, .int .i64 (p0.length : Int)), (13, .int .i64 s25.2)] a' ∧ St none' M w M27 (lt [rowI FS v26 9 s25.1]) w') (List.replicate ((p0.length : Int)).toNat ([] : List UInt8), 0) H ?_ ?_
  ·intro a w' f s
   exact ⟨v5, _, HLe.refl _, f.pk Y, s.selD [some 0] (by decide) Y⟩
  intro s25 y30 H r29 a w' hJ
  obtain ⟨v26, M27, l28, f, s⟩ := hJ
  refine cof f s ?_
  unfold backup_content.l3 at H
  replace h2 := h2.mono l28
  refine c_sr fun _ k31 => v_lss Y Y Y (wk k31 (c_seq fun K32 k32 => c_if Y (fun b33 => ?_) (fun b33 => ?_)))
  ·replace H := if_t b33 H
   refine cs k32 (c_seq fun K34 k34 => c_block (c_sr fun _ k35 => vm Y Y (va Y Y (wk k35 (c_sr fun _ k36 => vm Y Y (vm Y Y ?_))))))
   obtain ⟨g37, H⟩ := grd_s H
   refine wv Y (fun f s => r_iR underlying24 ts97 h2 (f.ev Y) (f.ev Y) g37.1 g37.2) (wv Y (fun f s => r_loadEA ta97 ts97 h2 s.sub g37.1 g37.2 (f.ev Y) Y Y) (w_allocL (A := Key.C (⟨0, 0, [], 0, 0, 0, 0, 0, false⟩ : Key)) tz97 trivial Y Y ?_))
   intro b38
   refine w_store (i := 1) (A' := Key.C (rd p0 s25.2)) trivial Y Y Y Y ts97 Y (Key.F_one _) (Nat.le_of_ble_eq_true Y) Y (va Y Y (wk k36 ?_))
   refine c_cut (fun a' w' => ∃ (x39 : Int) (M40 : Heap), HLe M27 M40 ∧ Fr 53 [(0, v1), (3, v26), (4, .int .i64 s25.2), (5, ptr b38 0), (6, .int .i64 x39), (12, .int .i64 (p0.length : Int)), (13, .int .i64 s25.2)] a' ∧ St none' M w M40 (lt [rowI FS v26 9 s25.1, bk b38 (Key.C (rd p0 s25.2)) 97]) w' ∧ backup_content.j2 p0 s25 x39 = some y30) ?_ ?_
   ·refine c_seq ?_
    intro K72 k72
    refine c_reg (v_fa fa97_8 Y Y (wv Y (fun f s => r_load1 ta4 (f.ev Y) (s.blk (i := 1) Y) Y) (wk k72 (c_if Y (fun b73 => ?_) (fun b73 => ?_)))))
    ·replace H := if_t b73 H
     exact c_reg (va Y Y (w_nil fun a w' f s => ⟨1, _, HLe.refl _, f.pk Y, s.selD [some 0, some 1] (by decide) Y, H⟩))
    replace H := if_f b73 H
    refine c_skip ?_
    intro a w' f s
    exact ⟨0, _, HLe.refl _, f.pk Y, s.selD [some 0, some 1] (by decide) Y, H⟩
   rintro a w' ⟨x39, M40, l41, f, s, H⟩
   refine cof f s ?_
   unfold backup_content.j2 at H
   refine c_sr fun _ k42 => v_fa fa97_0 Y Y (wv Y (fun f s => r_load1 ta3 (f.ev Y) (s.blk (i := 1) Y) Y) (v_fa fa97_1 Y Y (wv Y (fun f s => r_load1 ta3 (f.ev Y) (s.blk (i := 1) Y) Y) (v_fa fa97_3 Y Y (wv Y (fun f s => r_load1 ta3 (f.ev Y) (s.blk (i := 1) Y) Y) (v_fa fa97_4 Y Y (wv Y (fun f s => r_load1 ta3 (f.ev Y) (s.blk (i := 1) Y) Y) (v_fa fa97_5 Y Y (wv Y (fun f s => r_load1 ta3 (f.ev Y) (s.blk (i := 1) Y) Y) (v_fa fa97_6 Y Y (wv Y (fun f s => r_load1 ta3 (f.ev Y) (s.blk (i := 1) Y) Y) (v_fa fa97_7 Y Y (wv Y (fun f s => r_load1 ta3 (f.ev Y) (s.blk (i := 1) Y) Y) (vm Y Y (w_bsl (F := (FI .i64)) (es := ([(rd p0 s25.2).Id, (rd p0 s25.2).Type_, (rd p0 s25.2).Uses, (rd p0 s25.2).Start, (rd p0 s25.2).End, (rd p0 s25.2).Version, (rd p0 s25.2).Parent, x39] : List Int)) (xs := [.tmp 23, .tmp 25, .tmp 27, .tmp 29, .tmp 31, .tmp 33, .tmp 35, .tmp 36]) underlying70 te3 trivial Y Y Y Y Y (by decide) ?_)))))))))))))))
   intro v43 M44 l45 h46 c47
   obtain ⟨t48, e53, H⟩ := bnd H
   refine w_call cf68 trivial Y Y (fun w s => wire_Ints.calls s ([(rd p0 s25.2).Id, (rd p0 s25.2).Type_, (rd p0 s25.2).Uses, (rd p0 s25.2).Start, (rd p0 s25.2).End, (rd p0 s25.2).Version, (rd p0 s25.2).Parent, x39] : List Int) v43 h46 _ e53) ?_
   rintro v71 M50 l51 ⟨v54, hv_, h55⟩
   replace hv_ := hv_.symm
   subst hv_
   refine va Y Y (wk k42 (c_reg (vm Y Y (vm Y Y (vm Y Y (wv Y (fun f s => r_b2s underlying91 underlying5 underlying9 h55 s.sub (f.ev Y)) (v_fa fa97_2 Y Y (wv Y (fun f s => r_load1 ta9 (f.ev Y) (s.blk (i := 1) Y) Y) (w_bsl (F := FS) (es := ([intsB t48, (rd p0 s25.2).Value] : List (List UInt8))) (xs := [.tmp 42, .tmp 44]) underlying127 te9 trivial Y Y Y Y Y (by decide) ?_)))))))))
   intro v56 M57 l58 h59 c60
   obtain ⟨t61, e66, H⟩ := bnd H
   refine w_call cf114 trivial Y Y (fun w s => wire_Strings.calls s ([intsB t48, (rd p0 s25.2).Value] : List (List UInt8)) v56 h59 _ e66) ?_
   rintro v70 M63 l64 ⟨v67, hv_, h68⟩
   replace hv_ := hv_.symm
   subst hv_
   refine wv Y (fun f s => r_b2s underlying91 underlying5 underlying9 h68 s.sub (f.ev Y)) ?_
   obtain ⟨g69, H⟩ := grd_s H
   exact wv Y (fun f s => r_iW 0 s Y underlying127 ts9 (f.ev Y) (f.ev Y) g69.1 g69.2) (w_storeW (e := (intsB t61)) 0 FS.one trivial Y Y Y Y ts9 g69.1 g69.2 (wk k34 (c_reg (v_add Y Y Y (vm Y Y (w_nil fun a w' f s => ⟨_, (some_r H).symm, v26, _, l28.trans (l41.trans (l45.trans (l51.trans (l58.trans l64)))), f.pk Y, s.selD [some 0] (by decide) Y⟩))))))
  replace H := if_f b33 H
  replace H := map_inr H r29
  refine c_exit ?_
  intro a w' f s
  exact ⟨s25.1, v26, _, l28, f.pk Y, s.selD [some 0] (by decide) Y, H⟩
 rintro a w' ⟨x7, v8, M9, l10, f, s, H⟩
 refine cof f s ?_
 unfold backup_content.j1 at H
 refine c_sr fun _ k11 => vm Y Y ?_
 obtain ⟨t15, e20, H⟩ := bnd H
 refine w_give 0 Y (fun _ h => h) ?_
 intro M12 l13 h14
 refine w_call cf114 trivial Y Y (fun w s => wire_Strings.calls s x7 v8 h14 _ e20) ?_
 rintro v23 M17 l18 ⟨v21, hv_, h22⟩
 replace hv_ := hv_.symm
 subst hv_
 refine wv Y (fun f s => r_b2s underlying91 underlying5 underlying9 h22 s.sub (f.ev Y)) (va Y Y (wk k11 ?_))
 obtain rfl := some_r H
 exact cx1 hret Y Y Y Y
theorem seal_Keys.calls (hM : Sub M w) (hG : Gl M) (p0 : (List UInt8)) (r : ((List UInt8) × (List UInt8) × Int)) (H : seal_Keys p0 = some r) :
  Calls prog 110 [str p0].toArray w (Post M w fun M' v => v = .tuple #[str r.1, str r.2.1, .int .i64 r.2.2]) := by
 refine enter 12 [(0, str p0)] func110 Y Y Y hM ?_
 intro Q hret
 unfold seal_Keys at H
 refine c_sr fun _ k1 => va Y Y (va Y Y (va Y Y (wk k1 (c_seq fun K2 k2 => c_sr fun _ k3 => vm Y Y (wv Y (fun f s => r_slen underlying9 (f.ev Y)) (wv Y (fun f s => r_neq (f.ev Y) (f.ev Y)) (wk k3 (c_if Y (fun b4 => ?_) (fun b4 => ?_)))))))))
 ·replace H := if_t b4 H
  refine c_sr fun _ k5 => va Y Y (va Y Y (va Y Y (wk k5 ?_)))
  obtain rfl := some_r H
  exact cx3 hret Y Y Y Y Y Y
 replace H := if_f b4 H
 refine cs k2 (c_sr fun _ k6 => vm Y Y ?_)
 obtain ⟨t7, e12, H⟩ := bnd H
 refine w_call cf113 trivial Y Y (fun w s => hash_Mac.calls s hG p0 ([101, 110, 99] : List UInt8) _ e12) ?_
 rintro _ M9 l10 rfl
 replace hG := hG.mono l10
 refine vm Y Y ?_
 obtain ⟨t13, e18, H⟩ := bnd H
 refine w_call cf113 trivial Y Y (fun w s => hash_Mac.calls s hG p0 ([109, 97, 99] : List UInt8) _ e18) ?_
 rintro _ M15 l16 rfl
 refine va Y Y (va Y Y (va Y Y (wk k6 ?_)))
 obtain rfl := some_r H
 exact cx3 hret Y Y Y Y Y Y
theorem extraJoin : Builder.Extra prog laysJoin_ren := {
 sizeBuilder := by kernel_rfl
 liesBuilder := by kernel_rfl
 t5 := underlying5
 a5 := isAgg5
 z5 := sizeOf5
 v5 := zeroValue5
 infoByte := by kernel_rfl
 cellsByte := by kernel_rfl
 sizeByte := by kernel_rfl
 neB5 := by decide }
theorem fJoin : laysJoin_ren.f 156 = 157 := by kernel_rfl
theorem strings_Join.calls (hM : Sub M w) (p0 : List (List UInt8)) (v1 : Value) (h2 : RS FS M v1 p0) (p1 : List UInt8) (r : List UInt8) (H : strings_Join p0 p1 = some r) :
  Calls prog 157 [v1, str p1].toArray w (Post M w fun M' v => v = (str r)) := by
 unfold strings_Join at H
 obtain ⟨g, H⟩ := grd_s H
 obtain rfl := some_r H
 rcases rs_strs h2 hM with ⟨rfl, rfl⟩ | ⟨bk, o, c, rfl, hc, hbk, hcells⟩
 ·have h := Go.Proofs.Any.strings_Join_none laysJoin extraJoin none 0 ⟨p1.toArray⟩ w
  rw [fJoin] at h
  refine Calls.mono h ?_
  rintro e w' ⟨rfl, rfl⟩
  exact ⟨_, M, Y, ext_below hM (Go.RowKit.Below.refl _ _), Y⟩
 ·have h := Go.Proofs.Any.strings_Join laysJoin extraJoin bk o c (p0.map fun s => ⟨s.toArray⟩) ⟨p1.toArray⟩ w (by
   intro j x hx
   rw [List.getElem?_map] at hx
   obtain ⟨y, hy, rfl⟩ := Option.map_eq_some_iff.1 hx
   exact hcells j y hy) hbk (by simpa using g.1) (by simpa using hc) (by rw [lib_join p0 p1]; exact g.2)
  rw [fJoin, lib_join p0 p1, List.length_map] at h
  refine Calls.mono h ?_
  rintro e w' ⟨rfl, hb⟩
  exact ⟨_, M, Y, ext_below hM hb, Y⟩
theorem seal_code.calls (hM : Sub M w) (hG : Gl M) (p0 : (List UInt8)) (p1 : Int) (p2 : (List (List UInt8))) (v1 : Value) (h2 : RS FS M v1 p2) (r : (List UInt8)) (H : seal_code p0 p1 p2 = some r) :
  Calls prog 111 [str p0, .int .i64 p1, v1].toArray w (Post M w fun M' v => v = (str r)) := by
 refine enter 13 [(0, str p0), (1, .int .i64 p1), (2, v1)] func111 Y Y Y hM ?_
 intro Q hret
 unfold seal_code at H
 refine c_sr fun _ k3 => va Y Y (wk k3 (c_sr fun _ k4 => vm Y Y (vm Y Y ?_)))
 obtain ⟨t5, e10, H⟩ := bnd H
 refine w_call cf157 trivial Y Y (fun w s => strings_Join.calls s p2 v1 h2 ([] : List UInt8) _ e10) ?_
 rintro _ M7 l8 rfl
 replace hG := hG.mono l8
 obtain ⟨t11, e16, H⟩ := bnd H
 refine w_call cf113 trivial Y Y (fun w s => hash_Mac.calls s hG p0 t5 _ e16) ?_
 rintro _ M13 l14 rfl
 refine vm Y Y ?_
 obtain ⟨g17, H⟩ := grd_s H
 refine wv Y (fun f s => r_sslice underlying9 (f.ev Y) Y ⟨_, f.ev Y⟩ g17.1 g17.2.1 g17.2.2) (va Y Y (wk k4 ?_))
 obtain rfl := some_r H
 exact cx1 hret Y Y Y Y
theorem cipher_get.calls (hM : Sub M w) (p0 : (List UInt8)) (r : Int) (H : cipher_get p0 = some r) :
  Calls prog 184 [str p0].toArray w (Post M w fun M' v => v = (.int .u32 r)) := by
 refine enter 21 [(0, str p0)] func184 Y Y Y hM ?_
 intro Q hret
 unfold cipher_get at H
 refine c_sr fun _ k1 => va Y Y (wk k1 (c_seq fun K2 k2 => ?_))
 obtain ⟨g8, H⟩ := grd_s H
 obtain ⟨g17, H⟩ := grd_s H
 obtain ⟨g33, H⟩ := grd_s H
 obtain ⟨g49, H⟩ := grd_s H
 refine cV [([], [0]), ([(0, 3)], []), ([(1, 4)], []), ([], [0]), ([(3, 6)], []), ([(4, 7)], []), ([(5, 8)], []), ([(2, 5), (6, 9)], []), ([], [0]), ([(8, 11)], []), ([(9, 12)], []), ([(10, 13)], []), ([(7, 10), (11, 14)], []), ([], [0]), ([(13, 16)], []), ([(14, 17)], []), ([(15, 18)], []), ([(12, 15), (16, 19)], []), ([(17, 20)], [])] (by kernel_rfl) (aV (pz Y fun _ f s => r_move (f.ev Y)) (aV (pz Y fun _ f s => r_sidx underlying9 (f.ev Y) (f.ev Y) g8.1 g8.2) (aV (pz Y fun _ f s => r_conv underlying5 underlying169 (f.ev Y)) (aV (pz Y fun _ f s => r_move (f.ev Y)) (aV (pz Y fun _ f s => r_sidx underlying9 (f.ev Y) (f.ev Y) g17.1 g17.2) (aV (pz Y fun _ f s => r_conv underlying5 underlying169 (f.ev Y)) (aV (pz Y fun _ f s => r_shl (f.ev Y) (f.ev Y) (by decide)) (aV (pz Y fun _ f s => r_or (f.ev Y) (f.ev Y)) (aV (pz Y fun _ f s => r_move (f.ev Y)) (aV (pz Y fun _ f s => r_sidx underlying9 (f.ev Y) (f.ev Y) g33.1 g33.2) (aV (pz Y fun _ f s => r_conv underlying5 underlying169 (f.ev Y)) (aV (pz Y fun _ f s => r_shl (f.ev Y) (f.ev Y) (by decide)) (aV (pz Y fun _ f s => r_or (f.ev Y) (f.ev Y)) (aV (pz Y fun _ f s => r_move (f.ev Y)) (aV (pz Y fun _ f s => r_sidx underlying9 (f.ev Y) (f.ev Y) g49.1 g49.2) (aV (pz Y fun _ f s => r_conv underlying5 underlying169 (f.ev Y)) (aV (pz Y fun _ f s => r_shl (f.ev Y) (f.ev Y) (by decide)) (aV (pz Y fun _ f s => r_or (f.ev Y) (f.ev Y)) (aV (pz Y fun _ f s => r_assign (f.ev Y)) aV0))))))))))))))))))) Y fun M63 l64 => ?_
 refine ni k2 ?_
 obtain rfl := some_r H
 exact cx1 hret Y Y Y Y
theorem cipher_State.calls (hM : Sub M w) (p0 : (List UInt8)) (p1 : Int) (p2 : (List UInt8)) (r : ((Vector Int 16) × Int)) (H : cipher_State p0 p1 p2 = some r) :
  Calls prog 158 [str p0, .int .u32 p1, str p2].toArray w (Post M w fun M' v => v = .tuple #[.agg (vI .u32 r.1).toArray, .int .i64 r.2]) := by
 refine enter 46 [(0, str p0), (1, .int .u32 p1), (2, str p2)] func158 Y Y Y hM ?_
 intro Q hret
 unfold cipher_State at H
 refine c_sr fun _ k1 => w_allocL (A := vI .u32 (replicate 16 0)) tz209 trivial Y Y ?_
 intro b2
 refine va Y Y (wk k1 (c_seq fun K3 k3 => ?_))
 obtain ⟨t4, H1, H⟩ := bnd H
 refine c_cut (fun a' w' => ∃ (M5 : Heap), HLe M M5 ∧ Fr 46 [(0, str p0), (1, .int .u32 p1), (2, str p2), (6, ptr b2 0), (17, .bool t4)] a' ∧ St none' M w M5 (lt [bk b2 (vI .u32 (replicate 16 0)) 209]) w') ?_ ?_
 ·replace H := H1
  refine c_reg (vm Y Y (wv Y (fun f s => r_slen underlying9 (f.ev Y)) (wv Y (fun f s => r_neq (f.ev Y) (f.ev Y)) (vm Y Y ?_))))
  by_cases b7 : ((p0.length : Int) != 32) = true
  ·replace H := if_t b7 H
   refine wq b7 Y Y Y (wq b7 Y Y Y (wq b7 Y Y Y (wv Y (fun f s => r_pickT (f.ev Y) b7 (f.ev Y)) ?_)))
   obtain rfl := some_r H
   exact w_nil fun a w' f s => ⟨_, HLe.refl _, f.pk Y, s.sel [0] (by decide) Y⟩
  replace b7 := Bool.eq_false_iff.2 b7
  replace H := if_f b7 H
  refine wg b7 Y Y Y (fun f s => r_move (f.ev Y)) (wg b7 Y Y Y (fun f s => r_slen underlying9 (f.ev Y)) (wg b7 Y Y Y (fun f s => r_neq (f.ev Y) (f.ev Y)) (wv Y (fun f s => r_pickF (f.ev Y) b7 (f.ev Y)) ?_)))
  obtain rfl := some_r H
  exact w_nil fun a w' f s => ⟨_, HLe.refl _, f.pk Y, s.sel [0] (by decide) Y⟩
 rintro a w' ⟨M5, l6, f, s⟩
 refine cof f s ?_
 refine c_if Y (fun b8 => ?_) (fun b8 => ?_)
 ·replace H := if_t b8 H
  refine c_sr fun _ k9 => wv Y (fun f s => r_loadA ta209 ts209 (f.ev Y) (s.blk (i := 0) Y) (vI_all _) (vI_len _)) (w_store (i := 0) (A' := vI .u32 (replicate 16 0)) trivial Y Y Y Y ts209 (vI_len _) (vI_one _) (by rw [vI_len]; decide) (vI_whole _ _) (va Y Y (wk k9 ?_)))
  obtain rfl := some_r H
  exact cx hret Y fun f s => ⟨_, _, Res.of2 Y ⟨_, f.get _ _ Y, run_loadA (s.blk (i := 0) Y) ta209 ts209 (vI_all _) (vI_len _)⟩ (RV.t f Y), s.ext, Y⟩
 replace H := if_f b8 H
 refine cs k3 (c_sr fun _ k10 => vm Y Y (wv Y (fun f s => r_build (is := [0, 1, 2, 3, 12]) (xs := [.const (.int .u32 1634760805), .const (.int .u32 857760878), .const (.int .u32 2036477234), .const (.int .u32 1797285236), .tmp 19]) (A := vI .u32 (#v[1634760805, 857760878, 2036477234, 1797285236, 0, 0, 0, 0, 0, 0, 0, 0, p1, 0, 0, 0] : Vector Int 16)) Y (f.evs Y) (by kernel_rfl)) (w_store (i := 0) (A' := vI .u32 (#v[1634760805, 857760878, 2036477234, 1797285236, 0, 0, 0, 0, 0, 0, 0, 0, p1, 0, 0, 0] : Vector Int 16)) trivial Y Y Y Y ts209 (vI_len _) (vI_one _) (by rw [vI_len]; decide) (vI_whole _ _) (wk k10 ?_))))
 refine c_cut (fun a' w' => ∃ (x11 : (Vector Int 16)) (M12 : Heap), HLe M5 M12 ∧ Fr 46 [(2, str p2), (6, ptr b2 0)] a' ∧ St none' M w M12 (lt [bk b2 (vI .u32 x11) 209]) w' ∧ cipher_State.j3 p2 x11 = some r) ?_ ?_
 ·refine c_seq ?_
  intro K37 k37
  refine c_reg (vm Y Y (wk k37 (c_block ?_)))
  refine c_loop (fun (s38 : ((Vector Int 16) × Int)) a' w' => ∃ (M39 : Heap), HLe M5 M39 ∧ Fr 46 [(0, str p0), (2, str p2), (6, ptr b2 0), (21, .int .i64 s38.2)] a' ∧ St none' M w M39 (lt [bk b2 (vI .u32 s38.1) 209]) w') ((#v[1634760805, 857760878, 2036477234, 1797285236, 0, 0, 0, 0, 0, 0, 0, 0, p1, 0, 0, 0] : Vector Int 16), 0) H ?_ ?_
  ·intro a w' f s
   exact ⟨_, HLe.refl _, f.pk Y, s.selD [some 0] (by decide) Y⟩
  intro s38 y42 H r41 a w' hJ
  obtain ⟨M39, l40, f, s⟩ := hJ
  refine cof f s ?_
  unfold cipher_State.l4 at H
  refine c_sr fun _ k43 => v_lss Y Y Y (wk k43 (c_seq fun K44 k44 => c_if Y (fun b45 => ?_) (fun b45 => ?_)))
  ·replace H := if_t b45 H
   refine cs k44 (c_seq fun K46 k46 => c_block (c_sr fun _ k47 => vm Y Y (va Y Y (wk k47 (c_reg (vm Y Y (v_add Y Y Y (vm Y Y (vm Y Y (wv Y (fun f s => r_mul (f.ev Y) (f.ev Y)) ?_))))))))))
   obtain ⟨g48, H⟩ := grd_s H
   refine wv Y (fun f s => r_sslice underlying9 (f.ev Y) ⟨_, f.ev Y⟩ rfl g48.1 g48.2.1 g48.2.2) ?_
   obtain ⟨t49, e54, H⟩ := bnd H
   refine w_call cf184 trivial Y Y (fun w s => cipher_get.calls s ((p0.take ((p0.length : Int)).toNat).drop (i64.wrap (4 * s38.2)).toNat) _ e54) ?_
   rintro _ M51 l52 rfl
   obtain ⟨g55, H⟩ := grd_s H
   exact wv Y (fun f s => r_iaI underlying209 ts169 (f.ev Y) (f.ev Y) g55.1 g55.2) (w_store (i := 0) (A' := vI .u32 (vs s38.1 (i64.wrap (4 + s38.2)) t49)) trivial Y Y Y Y ts169 Y (one1 Y) (idx_le g55.1 g55.2 (vI_len _) (by decide)) (vI_set0 g55.1 g55.2) (wk k46 (c_reg (v_add Y Y Y (vm Y Y (w_nil fun a w' f s => ⟨_, (some_r H).symm, _, l40.trans l52, f.pk Y, s.selD [some 0] (by decide) Y⟩))))))
  replace H := if_f b45 H
  replace H := map_inr H r41
  refine c_exit ?_
  intro a w' f s
  exact ⟨s38.1, _, l40, f.pk Y, s.selD [some 0] (by decide) Y, H⟩
 rintro a w' ⟨x11, M12, l13, f, s, H⟩
 refine cof f s ?_
 unfold cipher_State.j3 at H
 refine c_cut (fun a' w' => ∃ (x14 : (Vector Int 16)) (M15 : Heap), HLe M12 M15 ∧ Fr 46 [(6, ptr b2 0)] a' ∧ St none' M w M15 (lt [bk b2 (vI .u32 x14) 209]) w' ∧ cipher_State.j1 x14 = some r) ?_ ?_
 ·refine c_seq ?_
  intro K18 k18
  refine c_reg (vm Y Y (wk k18 (c_block ?_)))
  refine c_loop (fun (s19 : ((Vector Int 16) × Int)) a' w' => ∃ (M20 : Heap), HLe M12 M20 ∧ Fr 46 [(2, str p2), (6, ptr b2 0), (33, .int .i64 s19.2)] a' ∧ St none' M w M20 (lt [bk b2 (vI .u32 s19.1) 209]) w') (x11, 0) H ?_ ?_
  ·intro a w' f s
   exact ⟨_, HLe.refl _, f.pk Y, s.selD [some 0] (by decide) Y⟩
  intro s19 y23 H r22 a w' hJ
  obtain ⟨M20, l21, f, s⟩ := hJ
  refine cof f s ?_
  unfold cipher_State.l2 at H
  refine c_sr fun _ k24 => v_lss Y Y Y (wk k24 (c_seq fun K25 k25 => c_if Y (fun b26 => ?_) (fun b26 => ?_)))
  ·replace H := if_t b26 H
   refine cs k25 (c_seq fun K27 k27 => c_block (c_sr fun _ k28 => vm Y Y (va Y Y (wk k28 (c_reg (vm Y Y (v_add Y Y Y (vm Y Y (vm Y Y (wv Y (fun f s => r_mul (f.ev Y) (f.ev Y)) ?_))))))))))
   obtain ⟨g29, H⟩ := grd_s H
   refine wv Y (fun f s => r_sslice underlying9 (f.ev Y) ⟨_, f.ev Y⟩ rfl g29.1 g29.2.1 g29.2.2) ?_
   obtain ⟨t30, e35, H⟩ := bnd H
   refine w_call cf184 trivial Y Y (fun w s => cipher_get.calls s ((p2.take ((p2.length : Int)).toNat).drop (i64.wrap (4 * s19.2)).toNat) _ e35) ?_
   rintro _ M32 l33 rfl
   obtain ⟨g36, H⟩ := grd_s H
   exact wv Y (fun f s => r_iaI underlying209 ts169 (f.ev Y) (f.ev Y) g36.1 g36.2) (w_store (i := 0) (A' := vI .u32 (vs s19.1 (i64.wrap (13 + s19.2)) t30)) trivial Y Y Y Y ts169 Y (one1 Y) (idx_le g36.1 g36.2 (vI_len _) (by decide)) (vI_set0 g36.1 g36.2) (wk k27 (c_reg (v_add Y Y Y (vm Y Y (w_nil fun a w' f s => ⟨_, (some_r H).symm, _, l21.trans l33, f.pk Y, s.selD [some 0] (by decide) Y⟩))))))
  replace H := if_f b26 H
  replace H := map_inr H r22
  refine c_exit ?_
  intro a w' f s
  exact ⟨s19.1, _, l21, f.pk Y, s.selD [some 0] (by decide) Y, H⟩
 rintro a w' ⟨x14, M15, l16, f, s, H⟩
 refine cof f s ?_
 unfold cipher_State.j1 at H
 refine c_sr fun _ k17 => wv Y (fun f s => r_loadA ta209 ts209 (f.ev Y) (s.blk (i := 0) Y) (vI_all _) (vI_len _)) (w_store (i := 0) (A' := vI .u32 x14) trivial Y Y Y Y ts209 (vI_len _) (vI_one _) (by rw [vI_len]; decide) (vI_whole _ _) (va Y Y (wk k17 ?_)))
 obtain rfl := some_r H
 exact cx hret Y fun f s => ⟨_, _, Res.of2 Y ⟨_, f.get _ _ Y, run_loadA (s.blk (i := 0) Y) ta209 ts209 (vI_all _) (vI_len _)⟩ (RV.t f Y), s.ext, Y⟩
theorem cipher_quarter.calls {X : Nat → Prop} {M : Heap} {w : World} {b : Nat} {p : (Vector Int 16)} {i0 : Int} {i1 : Int} {i2 : Int} {i3 : Int} (s : St X M w M (lt [bk b (vI .u32 p) 209]) w) (h00 : 0 ≤ i0) (h01 : i0 < 16) (h10 : 0 ≤ i1) (h11 : i1 < 16) (h20 : 0 ≤ i2) (h21 : i2 < 16) (h30 : 0 ≤ i3) (h31 : i3 < 16) (r : (Vector Int 16)) (H : cipher_quarter p i0 i1 i2 i3 = some r) :
  Calls prog 202 [ptr b (0 + (i0).toNat), ptr b (0 + (i1).toNat), ptr b (0 + (i2).toNat), ptr b (0 + (i3).toNat)].toArray w (PostI X M w fun M' x v => v = .tuple #[] ∧ x = bk b (vI .u32 r) 209) := by
 refine enterI 80 [(0, ptr b (0 + (i0).toNat)), (1, ptr b (0 + (i1).toNat)), (2, ptr b (0 + (i2).toNat)), (3, ptr b (0 + (i3).toNat))] func202 Y Y Y s ?_
 intro Q hret
 unfold cipher_quarter at H
 refine c_seq fun K1 k1 => csp 6 (by kernel_rfl) ?_
 intro K2 k2
 refine dV [([], [0]), ([(0, 8)], []), ([(1, 9)], []), ([], [1]), ([(3, 11)], []), ([(4, 12)], [])] (by kernel_rfl) (aV (pz Y fun _ f s => r_move (f.ev Y)) (aV (pz Y fun _ f s => r_nilCheck (f.ev Y)) (aV (pz Y fun _ f s => r_load1 ta169 (f.ev Y) (s.blk (i := 0) Y) (vI_get0 h00 h01)) (aV (pz Y fun _ f s => r_move (f.ev Y)) (aV (pz Y fun _ f s => r_nilCheck (f.ev Y)) (aV (pz Y fun _ f s => r_load1 ta169 (f.ev Y) (s.blk (i := 0) Y) (vI_get0 h10 h11)) aV0)))))) Y fun M19 l20 => ni k2 (v_add Y Y Y (wv Y (fun f s => r_nilCheck (f.ev Y)) (w_store (i := 0) (A' := vI .u32 (vs p i0 (u32.wrap ((rd p.toList i0) + (rd p.toList i1))))) trivial Y Y Y Y ts169 Y (one1 Y) (idx_le h00 h01 (vI_len _) (by decide)) (vI_set0 h00 h01) (wk k1 (c_seq fun K24 k24 => csp 9 (by kernel_rfl) ?_)))))
 intro K25 k25
 obtain ⟨t51, e56, H⟩ := bnd H
 refine dV [([], [3]), ([], [3]), ([(1, 17)], []), ([(2, 18)], []), ([], [0]), ([(4, 20)], []), ([(5, 21)], []), ([(3, 19), (6, 22)], []), ([(7, 23)], [])] (by kernel_rfl) (aV (pz Y fun _ f s => r_move (f.ev Y)) (aV (pz Y fun _ f s => r_move (f.ev Y)) (aV (pz Y fun _ f s => r_nilCheck (f.ev Y)) (aV (pz Y fun _ f s => r_load1 ta169 (f.ev Y) (s.blk (i := 0) Y) (vI_get0 h30 h31)) (aV (pz Y fun _ f s => r_move (f.ev Y)) (aV (pz Y fun _ f s => r_nilCheck (f.ev Y)) (aV (pz Y fun _ f s => r_load1 ta169 (f.ev Y) (s.blk (i := 0) Y) (vI_get0 h00 h01)) (aV (pz Y fun _ f s => r_xor (f.ev Y) (f.ev Y)) (aV (pzc cf205 Y Y fun _ _ w s => bits_RotateLeft32.calls s (bits .xor .u32 (rd (vs p i0 (u32.wrap ((rd p.toList i0) + (rd p.toList i1)))).toList i3) (rd (vs p i0 (u32.wrap ((rd p.toList i0) + (rd p.toList i1)))).toList i0)) 16 _ e56) aV0))))))))) Y fun M57 l58 => ni k25 (wv Y (fun f s => r_nilCheck (f.ev Y)) (w_store (i := 0) (A' := vI .u32 (vs (vs p i0 (u32.wrap ((rd p.toList i0) + (rd p.toList i1)))) i3 t51)) trivial Y Y Y Y ts169 Y (one1 Y) (idx_le h30 h31 (vI_len _) (by decide)) (vI_set0 h30 h31) ?_))
 refine wk k24 (c_seq fun K61 k61 => csp 6 (by kernel_rfl) ?_)
 intro K62 k62
 refine dV [([], [2]), ([(0, 26)], []), ([(1, 27)], []), ([], [3]), ([(3, 29)], []), ([(4, 30)], [])] (by kernel_rfl) (aV (pz Y fun _ f s => r_move (f.ev Y)) (aV (pz Y fun _ f s => r_nilCheck (f.ev Y)) (aV (pz Y fun _ f s => r_load1 ta169 (f.ev Y) (s.blk (i := 0) Y) (vI_get0 h20 h21)) (aV (pz Y fun _ f s => r_move (f.ev Y)) (aV (pz Y fun _ f s => r_nilCheck (f.ev Y)) (aV (pz Y fun _ f s => r_load1 ta169 (f.ev Y) (s.blk (i := 0) Y) (vI_get0 h30 h31)) aV0)))))) Y fun M79 l80 => ni k62 (v_add Y Y Y (wv Y (fun f s => r_nilCheck (f.ev Y)) ?_))
 obtain ⟨z84, e85, H⟩ := bnd H
 have e86 := some_r e85
 refine w_store (i := 0) (A' := vI .u32 z84) trivial Y Y Y Y ts169 Y (one1 Y) (idx_le h20 h21 (vI_len _) (by decide)) (by rw [← e86]; exact (vI_set0 h20 h21)) ?_
 refine wk k61 (c_seq fun K87 k87 => csp 9 (by kernel_rfl) ?_)
 intro K88 k88
 obtain ⟨t114, e119, H⟩ := bnd H
 refine dV [([], [1]), ([], [1]), ([(1, 35)], []), ([(2, 36)], []), ([], [2]), ([(4, 38)], []), ([(5, 39)], []), ([(3, 37), (6, 40)], []), ([(7, 41)], [])] (by kernel_rfl) (aV (pz Y fun _ f s => r_move (f.ev Y)) (aV (pz Y fun _ f s => r_move (f.ev Y)) (aV (pz Y fun _ f s => r_nilCheck (f.ev Y)) (aV (pz Y fun _ f s => r_load1 ta169 (f.ev Y) (s.blk (i := 0) Y) (vI_get0 h10 h11)) (aV (pz Y fun _ f s => r_move (f.ev Y)) (aV (pz Y fun _ f s => r_nilCheck (f.ev Y)) (aV (pz Y fun _ f s => r_load1 ta169 (f.ev Y) (s.blk (i := 0) Y) (vI_get0 h20 h21)) (aV (pz Y fun _ f s => r_xor (f.ev Y) (f.ev Y)) (aV (pzc cf205 Y Y fun _ _ w s => bits_RotateLeft32.calls s (bits .xor .u32 (rd z84.toList i1) (rd z84.toList i2)) 12 _ e119) aV0))))))))) Y fun M120 l121 => ni k88 (wv Y (fun f s => r_nilCheck (f.ev Y)) (w_store (i := 0) (A' := vI .u32 (vs z84 i1 t114)) trivial Y Y Y Y ts169 Y (one1 Y) (idx_le h10 h11 (vI_len _) (by decide)) (vI_set0 h10 h11) (wk k87 (c_seq fun K124 k124 => csp 6 (by kernel_rfl) ?_))))
 intro K125 k125
 refine dV [([], [0]), ([(0, 44)], []), ([(1, 45)], []), ([], [1]), ([(3, 47)], []), ([(4, 48)], [])] (by kernel_rfl) (aV (pz Y fun _ f s => r_move (f.ev Y)) (aV (pz Y fun _ f s => r_nilCheck (f.ev Y)) (aV (pz Y fun _ f s => r_load1 ta169 (f.ev Y) (s.blk (i := 0) Y) (vI_get0 h00 h01)) (aV (pz Y fun _ f s => r_move (f.ev Y)) (aV (pz Y fun _ f s => r_nilCheck (f.ev Y)) (aV (pz Y fun _ f s => r_load1 ta169 (f.ev Y) (s.blk (i := 0) Y) (vI_get0 h10 h11)) aV0)))))) Y fun M142 l143 => ni k125 (v_add Y Y Y (wv Y (fun f s => r_nilCheck (f.ev Y)) (w_store (i := 0) (A' := vI .u32 (vs (vs z84 i1 t114) i0 (u32.wrap ((rd (vs z84 i1 t114).toList i0) + (rd (vs z84 i1 t114).toList i1))))) trivial Y Y Y Y ts169 Y (one1 Y) (idx_le h00 h01 (vI_len _) (by decide)) (vI_set0 h00 h01) (wk k124 (c_seq fun K147 k147 => csp 9 (by kernel_rfl) ?_)))))
 intro K148 k148
 obtain ⟨t174, e179, H⟩ := bnd H
 refine dV [([], [3]), ([], [3]), ([(1, 53)], []), ([(2, 54)], []), ([], [0]), ([(4, 56)], []), ([(5, 57)], []), ([(3, 55), (6, 58)], []), ([(7, 59)], [])] (by kernel_rfl) (aV (pz Y fun _ f s => r_move (f.ev Y)) (aV (pz Y fun _ f s => r_move (f.ev Y)) (aV (pz Y fun _ f s => r_nilCheck (f.ev Y)) (aV (pz Y fun _ f s => r_load1 ta169 (f.ev Y) (s.blk (i := 0) Y) (vI_get0 h30 h31)) (aV (pz Y fun _ f s => r_move (f.ev Y)) (aV (pz Y fun _ f s => r_nilCheck (f.ev Y)) (aV (pz Y fun _ f s => r_load1 ta169 (f.ev Y) (s.blk (i := 0) Y) (vI_get0 h00 h01)) (aV (pz Y fun _ f s => r_xor (f.ev Y) (f.ev Y)) (aV (pzc cf205 Y Y fun _ _ w s => bits_RotateLeft32.calls s (bits .xor .u32 (rd (vs (vs z84 i1 t114) i0 (u32.wrap ((rd (vs z84 i1 t114).toList i0) + (rd (vs z84 i1 t114).toList i1)))).toList i3) (rd (vs (vs z84 i1 t114) i0 (u32.wrap ((rd (vs z84 i1 t114).toList i0) + (rd (vs z84 i1 t114).toList i1)))).toList i0)) 8 _ e179) aV0))))))))) Y fun M180 l181 => ni k148 (wv Y (fun f s => r_nilCheck (f.ev Y)) (w_store (i := 0) (A' := vI .u32 (vs (vs (vs z84 i1 t114) i0 (u32.wrap ((rd (vs z84 i1 t114).toList i0) + (rd (vs z84 i1 t114).toList i1)))) i3 t174)) trivial Y Y Y Y ts169 Y (one1 Y) (idx_le h30 h31 (vI_len _) (by decide)) (vI_set0 h30 h31) ?_))
 refine wk k147 (c_seq fun K184 k184 => csp 6 (by kernel_rfl) ?_)
 intro K185 k185
 refine dV [([], [2]), ([(0, 62)], []), ([(1, 63)], []), ([], [3]), ([(3, 65)], []), ([(4, 66)], [])] (by kernel_rfl) (aV (pz Y fun _ f s => r_move (f.ev Y)) (aV (pz Y fun _ f s => r_nilCheck (f.ev Y)) (aV (pz Y fun _ f s => r_load1 ta169 (f.ev Y) (s.blk (i := 0) Y) (vI_get0 h20 h21)) (aV (pz Y fun _ f s => r_move (f.ev Y)) (aV (pz Y fun _ f s => r_nilCheck (f.ev Y)) (aV (pz Y fun _ f s => r_load1 ta169 (f.ev Y) (s.blk (i := 0) Y) (vI_get0 h30 h31)) aV0)))))) Y fun M202 l203 => ni k185 (v_add Y Y Y (wv Y (fun f s => r_nilCheck (f.ev Y)) ?_))
 obtain ⟨z207, e208, H⟩ := bnd H
 have e209 := some_r e208
 refine w_store (i := 0) (A' := vI .u32 z207) trivial Y Y Y Y ts169 Y (one1 Y) (idx_le h20 h21 (vI_len _) (by decide)) (by rw [← e209]; exact (vI_set0 h20 h21)) ?_
 refine wk k184 (csp 9 (by kernel_rfl) ?_)
 intro K210 k210
 obtain ⟨t236, e241, H⟩ := bnd H
 refine dV [([], [1]), ([], [1]), ([(1, 71)], []), ([(2, 72)], []), ([], [2]), ([(4, 74)], []), ([(5, 75)], []), ([(3, 73), (6, 76)], []), ([(7, 77)], [])] (by kernel_rfl) (aV (pz Y fun _ f s => r_move (f.ev Y)) (aV (pz Y fun _ f s => r_move (f.ev Y)) (aV (pz Y fun _ f s => r_nilCheck (f.ev Y)) (aV (pz Y fun _ f s => r_load1 ta169 (f.ev Y) (s.blk (i := 0) Y) (vI_get0 h10 h11)) (aV (pz Y fun _ f s => r_move (f.ev Y)) (aV (pz Y fun _ f s => r_nilCheck (f.ev Y)) (aV (pz Y fun _ f s => r_load1 ta169 (f.ev Y) (s.blk (i := 0) Y) (vI_get0 h20 h21)) (aV (pz Y fun _ f s => r_xor (f.ev Y) (f.ev Y)) (aV (pzc cf205 Y Y fun _ _ w s => bits_RotateLeft32.calls s (bits .xor .u32 (rd z207.toList i1) (rd z207.toList i2)) 7 _ e241) aV0))))))))) Y fun M242 l243 => ni k210 (wv Y (fun f s => r_nilCheck (f.ev Y)) (w_store (i := 0) (A' := vI .u32 (vs z207 i1 t236)) trivial Y Y Y Y ts169 Y (one1 Y) (idx_le h10 h11 (vI_len _) (by decide)) (vI_set0 h10 h11) ?_))
 obtain rfl := some_r H
 exact w_nil fun a w' f s => hret _ (.inr Y) a w' f.df ⟨_, _, _, Res.of0 Y, s.sel [0] (by decide) Y, Y, Y⟩
theorem cipher_Rounds.calls (hM : Sub M w) (p0 : (Vector Int 16)) (r : (Vector Int 16)) (H : cipher_Rounds p0 = some r) :
  Calls prog 185 [.agg (vI .u32 p0).toArray].toArray w (Post M w fun M' v => v = (.agg (vI .u32 r).toArray)) := by
 refine enter 47 [(0, .agg (vI .u32 p0).toArray)] func185 Y Y Y hM ?_
 intro Q hret
 unfold cipher_Rounds at H
 refine c_sr fun _ k1 => w_boxL trivial Y Y Y ?_
 intro b2
 refine w_allocL (A := vI .u32 (replicate 16 0)) tz209 trivial Y Y ?_
 intro b3
 refine wk k1 ?_
 refine c_cut (fun a' w' => ∃ (x4 : (Vector Int 16)) (M5 : Heap), HLe M M5 ∧ Fr 47 [(1, ptr b2 0), (2, ptr b3 0)] a' ∧ St none' M w M5 (lt [bk b2 (vI .u32 x4) 209, bk b3 (vI .u32 (replicate 16 0)) 209]) w' ∧ cipher_Rounds.j1 x4 = some r) ?_ ?_
 ·refine c_seq ?_
  intro K8 k8
  refine c_reg (vm Y Y (wk k8 (c_block ?_)))
  refine c_loop (fun (s9 : ((Vector Int 16) × Int)) a' w' => ∃ (M10 : Heap), HLe M M10 ∧ Fr 47 [(1, ptr b2 0), (2, ptr b3 0), (5, .int .i64 s9.2)] a' ∧ St none' M w M10 (lt [bk b2 (vI .u32 s9.1) 209, bk b3 (vI .u32 (replicate 16 0)) 209]) w') (p0, 0) H ?_ ?_
  ·intro a w' f s
   exact ⟨_, HLe.refl _, f.pk Y, s.selD [some 0, some 1] (by decide) Y⟩
  intro s9 y13 H r12 a w' hJ
  obtain ⟨M10, l11, f, s⟩ := hJ
  refine cof f s ?_
  unfold cipher_Rounds.l6 at H
  refine c_sr fun _ k14 => v_lss Y Y Y (wk k14 (c_seq fun K15 k15 => c_if Y (fun b16 => ?_) (fun b16 => ?_)))
  ·replace H := if_t b16 H
   refine cs k15 ?_
   refine c_cut (fun a' w' => ∃ (x17 : (Vector Int 16)) (M18 : Heap), HLe M10 M18 ∧ Fr 47 [(1, ptr b2 0), (2, ptr b3 0), (5, .int .i64 s9.2)] a' ∧ St none' M w M18 (lt [bk b2 (vI .u32 x17) 209, bk b3 (vI .u32 (replicate 16 0)) 209]) w' ∧ cipher_Rounds.j2 x17 s9 = some y13) ?_ ?_
   ·refine c_block ?_
    refine c_cut (fun a' w' => ∃ (x20 : (Vector Int 16)) (M21 : Heap), HLe M10 M21 ∧ Fr 47 [(1, ptr b2 0), (2, ptr b3 0), (5, .int .i64 s9.2)] a' ∧ St none' M w M21 (lt [bk b2 (vI .u32 x20) 209, bk b3 (vI .u32 (replicate 16 0)) 209]) w' ∧ cipher_Rounds.j4 s9 x20 = some y13) ?_ ?_
    ·refine c_seq ?_
     intro K96 k96
     refine c_reg (vm Y Y (wk k96 (c_block ?_)))
     refine c_loop (fun (s97 : ((Vector Int 16) × Int)) a' w' => ∃ (M98 : Heap), HLe M10 M98 ∧ Fr 47 [(1, ptr b2 0), (2, ptr b3 0), (5, .int .i64 s9.2), (7, .int .i64 s97.2)] a' ∧ St none' M w M98 (lt [bk b2 (vI .u32 s97.1) 209, bk b3 (vI .u32 (replicate 16 0)) 209]) w') (s9.1, 0) H ?_ ?_
     ·intro a w' f s
      exact ⟨_, HLe.refl _, f.pk Y, s.selD [some 0, some 1] (by decide) Y⟩
     intro s97 y101 H r100 a w' hJ
     obtain ⟨M98, l99, f, s⟩ := hJ
     refine cof f s ?_
     unfold cipher_Rounds.l5 at H
     refine c_sr fun _ k102 => v_lss Y Y Y (wk k102 (c_seq fun K103 k103 => c_if Y (fun b104 => ?_) (fun b104 => ?_)))
     ·replace H := if_t b104 H
      refine cs k103 (c_seq fun K105 k105 => c_block (c_sr fun _ k106 => vm Y Y (va Y Y (wk k106 (csp 11 (by kernel_rfl) ?_)))))
      intro K107 k107
      obtain ⟨g113, H⟩ := grd_s H
      obtain ⟨g122, H⟩ := grd_s H
      obtain ⟨g131, H⟩ := grd_s H
      obtain ⟨g140, H⟩ := grd_s H
      refine dV [([], [3]), ([(0, 10)], [1]), ([], [3]), ([(2, 12)], []), ([(3, 13)], [1]), ([], [3]), ([(5, 15)], []), ([(6, 16)], [1]), ([], [3]), ([(8, 18)], []), ([(9, 19)], [1])] (by kernel_rfl) (aV (pz Y fun _ f s => r_move (f.ev Y)) (aV (pz Y fun _ f s => r_iaI underlying209 ts169 (f.ev Y) (f.ev Y) g113.1 g113.2) (aV (pz Y fun _ f s => r_move (f.ev Y)) (aV (pz Y fun _ f s => r_add (f.ev Y) (f.ev Y)) (aV (pz Y fun _ f s => r_iaI underlying209 ts169 (f.ev Y) (f.ev Y) g122.1 g122.2) (aV (pz Y fun _ f s => r_move (f.ev Y)) (aV (pz Y fun _ f s => r_add (f.ev Y) (f.ev Y)) (aV (pz Y fun _ f s => r_iaI underlying209 ts169 (f.ev Y) (f.ev Y) g131.1 g131.2) (aV (pz Y fun _ f s => r_move (f.ev Y)) (aV (pz Y fun _ f s => r_add (f.ev Y) (f.ev Y)) (aV (pz Y fun _ f s => r_iaI underlying209 ts169 (f.ev Y) (f.ev Y) g140.1 g140.2) aV0))))))))))) Y fun M141 l142 => ni k107 ?_
      obtain ⟨t147, e148, H⟩ := bnd H
      refine w_callI 0 cf202 trivial Y Y Y (fun X' w s => cipher_quarter.calls s g113.1 g113.2 g122.1 g122.2 g131.1 g131.2 g140.1 g140.2 _ e148) ?_
      rintro _ M149 _ l150 ⟨rfl, rfl⟩
      exact wk k105 (c_reg (v_add Y Y Y (vm Y Y (w_nil fun a w' f s => ⟨_, (some_r H).symm, _, l99.trans (l142.trans l150), f.pk Y, s.selD [some 0, some 1] (by decide) Y⟩))))
     replace H := if_f b104 H
     replace H := map_inr H r100
     refine c_exit ?_
     intro a w' f s
     exact ⟨s97.1, _, l99, f.pk Y, s.selD [some 0, some 1] (by decide) Y, H⟩
    rintro a w' ⟨x20, M21, l22, f, s, H⟩
    refine cof f s ?_
    unfold cipher_Rounds.j4 at H
    refine c_sr fun _ k23 => vm Y Y (wk k23 (c_block ?_))
    refine c_loop (fun (s24 : ((Vector Int 16) × Int)) a' w' => ∃ (M25 : Heap), HLe M21 M25 ∧ Fr 47 [(1, ptr b2 0), (2, ptr b3 0), (5, .int .i64 s9.2), (23, .int .i64 s24.2)] a' ∧ St none' M w M25 (lt [bk b2 (vI .u32 s24.1) 209, bk b3 (vI .u32 (replicate 16 0)) 209]) w') (x20, 0) H ?_ ?_
    ·intro a w' f s
     exact ⟨_, HLe.refl _, f.pk Y, s.selD [some 0, some 1] (by decide) Y⟩
    intro s24 y28 H r27 a w' hJ
    obtain ⟨M25, l26, f, s⟩ := hJ
    refine cof f s ?_
    unfold cipher_Rounds.l3 at H
    refine c_sr fun _ k29 => v_lss Y Y Y (wk k29 (c_seq fun K30 k30 => c_if Y (fun b31 => ?_) (fun b31 => ?_)))
    ·replace H := if_t b31 H
     refine cs k30 (c_seq fun K32 k32 => c_block (c_sr fun _ k33 => vm Y Y (va Y Y (wk k33 (csp 17 (by kernel_rfl) ?_)))))
     intro K34 k34
     obtain ⟨g40, H⟩ := grd_s H
     obtain ⟨g55, H⟩ := grd_s H
     obtain ⟨g70, H⟩ := grd_s H
     obtain ⟨g85, H⟩ := grd_s H
     refine dV [([], [4]), ([(0, 26)], [1]), ([], [4]), ([(2, 28)], []), ([(3, 29)], []), ([(4, 30)], []), ([(5, 31)], [1]), ([], [4]), ([(7, 33)], []), ([(8, 34)], []), ([(9, 35)], []), ([(10, 36)], [1]), ([], [4]), ([(12, 38)], []), ([(13, 39)], []), ([(14, 40)], []), ([(15, 41)], [1])] (by kernel_rfl) (aV (pz Y fun _ f s => r_move (f.ev Y)) (aV (pz Y fun _ f s => r_iaI underlying209 ts169 (f.ev Y) (f.ev Y) g40.1 g40.2) (aV (pz Y fun _ f s => r_move (f.ev Y)) (aV (pz Y fun _ f s => r_add (f.ev Y) (f.ev Y)) (aV (pz Y fun _ f s => r_rem (f.ev Y) (f.ev Y) (by decide)) (aV (pz Y fun _ f s => r_add (f.ev Y) (f.ev Y)) (aV (pz Y fun _ f s => r_iaI underlying209 ts169 (f.ev Y) (f.ev Y) g55.1 g55.2) (aV (pz Y fun _ f s => r_move (f.ev Y)) (aV (pz Y fun _ f s => r_add (f.ev Y) (f.ev Y)) (aV (pz Y fun _ f s => r_rem (f.ev Y) (f.ev Y) (by decide)) (aV (pz Y fun _ f s => r_add (f.ev Y) (f.ev Y)) (aV (pz Y fun _ f s => r_iaI underlying209 ts169 (f.ev Y) (f.ev Y) g70.1 g70.2) (aV (pz Y fun _ f s => r_move (f.ev Y)) (aV (pz Y fun _ f s => r_add (f.ev Y) (f.ev Y)) (aV (pz Y fun _ f s => r_rem (f.ev Y) (f.ev Y) (by decide)) (aV (pz Y fun _ f s => r_add (f.ev Y) (f.ev Y)) (aV (pz Y fun _ f s => r_iaI underlying209 ts169 (f.ev Y) (f.ev Y) g85.1 g85.2) aV0))))))))))))))))) Y fun M86 l87 => ?_
     refine ni k34 ?_
     obtain ⟨t92, e93, H⟩ := bnd H
     refine w_callI 0 cf202 trivial Y Y Y (fun X' w s => cipher_quarter.calls s g40.1 g40.2 g55.1 g55.2 g70.1 g70.2 g85.1 g85.2 _ e93) ?_
     rintro _ M94 _ l95 ⟨rfl, rfl⟩
     exact wk k32 (c_reg (v_add Y Y Y (vm Y Y (w_nil fun a w' f s => ⟨_, (some_r H).symm, _, l26.trans (l87.trans l95), f.pk Y, s.selD [some 0, some 1] (by decide) Y⟩))))
    replace H := if_f b31 H
    replace H := map_inr H r27
    refine c_exit ?_
    intro a w' f s
    exact ⟨s24.1, _, l22.trans l26, f.pk Y, s.selD [some 0, some 1] (by decide) Y, H⟩
   rintro a w' ⟨x17, M18, l19, f, s, H⟩
   refine cof f s ?_
   unfold cipher_Rounds.j2 at H
   exact c_reg (v_add Y Y Y (vm Y Y (w_nil fun a w' f s => ⟨_, (some_r H).symm, _, l11.trans l19, f.pk Y, s.selD [some 0, some 1] (by decide) Y⟩)))
  replace H := if_f b16 H
  replace H := map_inr H r12
  refine c_exit ?_
  intro a w' f s
  exact ⟨s9.1, _, l11, f.pk Y, s.selD [some 0, some 1] (by decide) Y, H⟩
 rintro a w' ⟨x4, M5, l6, f, s, H⟩
 refine cof f s ?_
 unfold cipher_Rounds.j1 at H
 refine c_sr fun _ k7 => wv Y (fun f s => r_loadA ta209 ts209 (f.ev Y) (s.blk (i := 0) Y) (vI_all _) (vI_len _)) (w_store (i := 1) (A' := vI .u32 x4) trivial Y Y Y Y ts209 (vI_len _) (vI_one _) (by rw [vI_len]; decide) (vI_whole _ _) (wk k7 ?_))
 obtain rfl := some_r H
 exact cx hret Y fun f s => ⟨_, _, Res.of1 Y ⟨_, f.get _ _ Y, run_loadA (s.blk (i := 1) Y) ta209 ts209 (vI_all _) (vI_len _)⟩, s.ext, Y⟩
theorem cipher_put.calls {X : Nat → Prop} {M : Heap} {w : World} {v0 : Value} {p0 : (List Int)} (s : St X M w M (lt [rowI (FI .u8) v0 5 p0]) w) (p1 : Int) (r : (List Int)) (H : cipher_put p0 p1 = some r) :
  Calls prog 186 [v0, .int .u32 p1].toArray w (PostI X M w fun M' x v => x = rowI (FI .u8) v 5 r) := by
 refine enterI 19 [(0, v0), (1, .int .u32 p1)] func186 Y Y Y s ?_
 intro Q hret
 unfold cipher_put at H
 refine c_sr fun _ k1 => va Y Y (wk k1 (c_sr fun _ k2 => vm Y Y (vm Y Y (wv Y (fun f s => r_conv underlying169 underlying5 (f.ev Y)) (vm Y Y (wv Y (fun f s => r_shr (f.ev Y) (f.ev Y) (by decide)) (wv Y (fun f s => r_conv underlying169 underlying5 (f.ev Y)) (vm Y Y (wv Y (fun f s => r_shr (f.ev Y) (f.ev Y) (by decide)) (wv Y (fun f s => r_conv underlying169 underlying5 (f.ev Y)) (vm Y Y (wv Y (fun f s => r_shr (f.ev Y) (f.ev Y) (by decide)) (wv Y (fun f s => r_conv underlying169 underlying5 (f.ev Y)) (w_bsl (F := (FI .u8)) (es := ([u8.wrap p1, u8.wrap (shrI .u32 p1 8), u8.wrap (shrI .u32 p1 16), u8.wrap (shrI .u32 p1 24)] : List Int)) (xs := [.tmp 7, .tmp 10, .tmp 13, .tmp 16]) underlying91 te5 trivial Y Y Y Y Y (by decide) ?_))))))))))))))
 intro v3 M4 l5 h6 c7
 obtain ⟨g8, H⟩ := grd_s H
 refine w_app (F := (FI .u8)) (m2 := ([u8.wrap p1, u8.wrap (shrI .u32 p1 8), u8.wrap (shrI .u32 p1 16), u8.wrap (shrI .u32 p1 24)] : List Int)) (i := 0) underlying91 te5 underlying91 (.inl ⟨_, Y⟩) trivial Y Y Y Y (Src.rs (FI.one _) h6) g8 ?_
 intro v9
 refine va Y Y (wk k2 ?_)
 obtain rfl := some_r H
 exact cx hret Y fun f s => ⟨_, _, _, Res.of1 Y (RV.t f Y), s.sel [0] (by decide) Y, Y⟩
theorem cipher_Block.calls (hM : Sub M w) (p0 : (List UInt8)) (p1 : Int) (p2 : (List UInt8)) (r : ((List UInt8) × Int)) (H : cipher_Block p0 p1 p2 = some r) :
  Calls prog 159 [str p0, .int .u32 p1, str p2].toArray w (Post M w fun M' v => v = .tuple #[str r.1, .int .i64 r.2]) := by
 refine enter 40 [(0, str p0), (1, .int .u32 p1), (2, str p2)] func159 Y Y Y hM ?_
 intro Q hret
 unfold cipher_Block at H
 refine c_sr fun _ k1 => va Y Y (va Y Y (wk k1 (c_sr fun _ k2 => vm Y Y (vm Y Y (vm Y Y ?_)))))
 obtain ⟨t3, e8, H⟩ := bnd H
 refine w_call cf158 trivial Y Y (fun w s => cipher_State.calls s p0 p1 p2 _ e8) ?_
 rintro _ M5 l6 rfl
 refine vm Y Y (v_extract Y Y Y (v_extract Y Y Y (w_allocL (A := vI .u32 (replicate 16 0)) tz209 trivial Y Y ?_)))
 intro b9
 refine w_store (i := 0) (A' := vI .u32 t3.1) trivial Y Y Y Y ts209 (vI_len _) (vI_one _) (by rw [vI_len]; decide) (vI_whole _ _) (va Y Y (wk k2 (c_seq fun K10 k10 => c_sr fun _ k11 => vm Y Y (wv Y (fun f s => r_neq (f.ev Y) (f.ev Y)) (wk k11 (c_if Y (fun b12 => ?_) (fun b12 => ?_)))))))
 ·replace H := if_t b12 H
  refine c_sr fun _ k13 => vm Y Y (va Y Y (va Y Y (wk k13 ?_)))
  obtain rfl := some_r H
  exact cx2 hret Y Y Y Y Y
 replace H := if_f b12 H
 refine cs k10 (c_sr fun _ k14 => ?_)
 obtain ⟨g16, H⟩ := grd_s H
 refine w_mk (F := (FI .u8)) underlying91 fz5 trivial Y Y Y g16.1 g16.2.1 g16.2.2 ?_
 intro v15
 refine va Y Y (wk k14 ?_)
 refine c_cut (fun a' w' => ∃ (x17 : (List Int)) (v18 : Value) (M19 : Heap), HLe M5 M19 ∧ Fr 40 [(10, v18)] a' ∧ St none' M w M19 (lt [dead, rowI (FI .u8) v18 5 x17]) w' ∧ cipher_Block.j1 x17 = some r) ?_ ?_
 ·refine c_seq ?_
  intro K25 k25
  refine c_reg (wv Y (fun f s => r_loadA ta209 ts209 (f.ev Y) (s.blk (i := 0) Y) (vI_all _) (vI_len _)) ?_)
  obtain ⟨t26, e31, H⟩ := bnd H
  refine w_call cf185 trivial Y Y (fun w s => cipher_Rounds.calls s t3.1 _ e31) ?_
  rintro _ M28 l29 rfl
  refine vm Y Y (wk k25 (c_block ?_))
  refine c_loop (fun (s32 : ((List Int) × Int)) a' w' => ∃ (v33 : Value) (M34 : Heap), HLe M28 M34 ∧ Fr 40 [(8, ptr b9 0), (10, v33), (25, .agg (vI .u32 t26).toArray), (26, .int .i64 s32.2)] a' ∧ St none' M w M34 (lt [bk b9 (vI .u32 t3.1) 209, rowI (FI .u8) v33 5 s32.1]) w') (List.replicate ((0 : Int)).toNat 0, 0) H ?_ ?_
  ·intro a w' f s
   exact ⟨v15, _, HLe.refl _, f.pk Y, s.selD [some 0, some 1] (by decide) Y⟩
  intro s32 y37 H r36 a w' hJ
  obtain ⟨v33, M34, l35, f, s⟩ := hJ
  refine cof f s ?_
  unfold cipher_Block.l2 at H
  refine c_sr fun _ k38 => v_lss Y Y Y (wk k38 (c_seq fun K39 k39 => c_if Y (fun b40 => ?_) (fun b40 => ?_)))
  ·replace H := if_t b40 H
   refine cs k39 (c_seq fun K41 k41 => c_block (c_sr fun _ k42 => vm Y Y ?_))
   obtain ⟨g43, H⟩ := grd_s H
   refine wv Y (fun f s => r_index underlying209 ta169 ts169 (f.ev Y) (f.ev Y) g43.1 g43.2 (vI_get g43.1 g43.2)) (va Y Y (va Y Y (wk k42 (c_reg (vm Y Y (vm Y Y (vm Y Y ?_)))))))
   obtain ⟨g44, H⟩ := grd_s H
   refine wv Y (fun f s => r_iaI underlying209 ts169 (f.ev Y) (f.ev Y) g44.1 g44.2) (wv Y (fun f s => r_load1 ta169 (f.ev Y) (s.blk (i := 0) Y) (vI_get0 g44.1 g44.2)) (v_add Y Y Y ?_))
   obtain ⟨t45, e46, H⟩ := bnd H
   refine w_callI 1 cf186 trivial Y Y Y (fun X' w s => cipher_put.calls s (u32.wrap ((rd t26.toList s32.2) + (rd t3.1.toList s32.2))) _ e46) ?_
   rintro v49 M47 _ l48 rfl
   exact va Y Y (wk k41 (c_reg (v_add Y Y Y (vm Y Y (w_nil fun a w' f s => ⟨_, (some_r H).symm, v49, _, l35.trans l48, f.pk Y, s.selD [some 0, some 1] (by decide) Y⟩)))))
  replace H := if_f b40 H
  replace H := map_inr H r36
  refine c_exit ?_
  intro a w' f s
  exact ⟨s32.1, v33, _, l29.trans l35, f.pk Y, s.selD [none, some 1] (by decide) Y, H⟩
 rintro a w' ⟨x17, v18, M19, l20, f, s, H⟩
 refine cof f s ?_
 unfold cipher_Block.j1 at H
 refine c_sr fun _ k21 => vm Y Y (w_give 1 Y (fun _ h => h) ?_)
 intro M22 l23 h24
 refine wv Y (fun f s => r_b2s underlying91 underlying5 underlying9 h24 s.sub (f.ev Y)) (va Y Y (va Y Y (wk k21 ?_)))
 obtain rfl := some_r H
 exact cx2 hret Y Y Y Y Y
theorem cipher_Xor.calls (hM : Sub M w) (p0 : (List UInt8)) (p1 : Int) (p2 : (List UInt8)) (p3 : (List UInt8)) (r : ((List UInt8) × Int)) (H : cipher_Xor p0 p1 p2 p3 = some r) :
  Calls prog 112 [str p0, .int .u32 p1, str p2, str p3].toArray w (Post M w fun M' v => v = .tuple #[str r.1, .int .i64 r.2]) := by
 refine enter 57 [(0, str p0), (1, .int .u32 p1), (2, str p2), (3, str p3)] func112 Y Y Y hM ?_
 intro Q hret
 unfold cipher_Xor at H
 refine c_sr fun _ k1 => va Y Y (va Y Y (wk k1 (c_seq fun K2 k2 => c_sr fun _ k3 => vm Y Y (vm Y Y (vm Y Y ?_)))))
 obtain ⟨t4, e9, H⟩ := bnd H
 refine w_call cf158 trivial Y Y (fun w s => cipher_State.calls s p0 p1 p2 _ e9) ?_
 rintro _ M6 l7 rfl
 refine vm Y Y (v_extract Y Y Y (v_extract Y Y Y (w_allocL (A := vI .u32 (replicate 16 0)) tz209 trivial Y Y ?_)))
 intro b10
 refine w_store (i := 0) (A' := vI .u32 t4.1) trivial Y Y Y Y ts209 (vI_len _) (vI_one _) (by rw [vI_len]; decide) (vI_whole _ _) (va Y Y (wk k3 (c_sr fun _ k11 => vm Y Y (wv Y (fun f s => r_neq (f.ev Y) (f.ev Y)) (wk k11 (c_if Y (fun b12 => ?_) (fun b12 => ?_)))))))
 ·replace H := if_t b12 H
  refine c_sr fun _ k13 => vm Y Y (va Y Y (va Y Y (wk k13 ?_)))
  obtain rfl := some_r H
  exact cx2 hret Y Y Y Y Y
 replace H := if_f b12 H
 refine cs k2 (c_sr fun _ k14 => vm Y Y (w_s2bW underlying9 underlying91 underlying5 trivial Y Y ?_))
 intro v15
 refine va Y Y (va Y Y (wk k14 ?_))
 refine c_cut (fun a' w' => ∃ (x16 : (List Int)) (v17 : Value) (M18 : Heap), HLe M6 M18 ∧ Fr 57 [(12, v17)] a' ∧ St none' M w M18 (lt [dead, rowI (FI .u8) v17 5 x16]) w' ∧ cipher_Xor.j1 x16 = some r) ?_ ?_
 ·refine c_seq ?_
  intro K24 k24
  refine c_reg (vm Y Y (wv Y (fun f s => r_lenW 1 s Y underlying91 (f.ev Y)) (vm Y Y (wk k24 (c_block ?_)))))
  refine c_loop (fun (s25 : ((List Int) × Int × (List UInt8) × Int)) a' w' => ∃ (v26 : Value) (M27 : Heap), HLe M6 M27 ∧ Fr 57 [(0, str p0), (1, .int .u32 s25.2.1), (2, str p2), (12, v26), (13, str s25.2.2.1), (28, .int .i64 ((bytesI p3).length : Int)), (29, .int .i64 s25.2.2.2)] a' ∧ St none' M w M27 (lt [dead, rowI (FI .u8) v26 5 s25.1]) w') (bytesI p3, p1, ([] : List UInt8), 0) H ?_ ?_
  ·intro a w' f s
   exact ⟨v15, _, HLe.refl _, f.pk Y, s.selD [none, some 1] (by decide) Y⟩
  intro s25 y30 H r29 a w' hJ
  obtain ⟨v26, M27, l28, f, s⟩ := hJ
  refine cof f s ?_
  unfold cipher_Xor.l3 at H
  refine c_sr fun _ k31 => v_lss Y Y Y (wk k31 (c_seq fun K32 k32 => c_if Y (fun b33 => ?_) (fun b33 => ?_)))
  ·replace H := if_t b33 H
   refine cs k32 (c_seq fun K34 k34 => c_block (c_sr fun _ k35 => vm Y Y (va Y Y (wk k35 ?_))))
   refine c_cut (fun a' w' => ∃ (x36 : Int) (x37 : (List UInt8)) (M38 : Heap), HLe M27 M38 ∧ Fr 57 [(0, str p0), (1, .int .u32 x36), (2, str p2), (12, v26), (13, str x37), (14, .int .i64 s25.2.2.2), (28, .int .i64 ((bytesI p3).length : Int)), (29, .int .i64 s25.2.2.2)] a' ∧ St none' M w M38 (lt [dead, rowI (FI .u8) v26 5 s25.1]) w' ∧ cipher_Xor.j2 s25 x37 x36 = some y30) ?_ ?_
   ·refine c_seq ?_
    intro K72 k72
    refine c_reg (vm Y Y (wv Y (fun f s => r_rem (f.ev Y) (f.ev Y) (by decide)) (wv Y (fun f s => r_eql (f.ev Y) (f.ev Y)) (wk k72 (c_if Y (fun b73 => ?_) (fun b73 => ?_))))))
    ·replace H := if_t b73 H
     refine c_sr fun _ k74 => vm Y Y (vm Y Y (vm Y Y ?_))
     obtain ⟨t75, e80, H⟩ := bnd H
     refine w_call cf159 trivial Y Y (fun w s => cipher_Block.calls s p0 s25.2.1 p2 _ e80) ?_
     rintro _ M77 l78 rfl
     exact vm Y Y (v_extract Y Y Y (v_extract Y Y Y (va Y Y (wk k74 (c_reg (vm Y Y (v_add Y Y Y (va Y Y (w_nil fun a w' f s => ⟨u32.wrap (s25.2.1 + 1), t75.1, _, l78, f.pk Y, s.selD [none, some 1] (by decide) Y, H⟩)))))))))
    replace H := if_f b73 H
    refine c_skip ?_
    intro a w' f s
    exact ⟨s25.2.1, s25.2.2.1, _, HLe.refl _, f.pk Y, s.selD [none, some 1] (by decide) Y, H⟩
   rintro a w' ⟨x36, x37, M38, l39, f, s, H⟩
   refine cof f s ?_
   unfold cipher_Xor.j2 at H
   refine csp 8 (by kernel_rfl) ?_
   intro K40 k40
   obtain ⟨g49, H⟩ := grd_s H
   obtain ⟨g64, H⟩ := grd_s H
   refine dV [([], [12]), ([], [14]), ([(0, 44), (1, 45)], []), ([(2, 46)], []), ([], [13]), ([], [14]), ([(5, 49)], []), ([(4, 48), (6, 50)], [])] (by kernel_rfl) (aV (pz Y fun _ f s => r_move (f.ev Y)) (aV (pz Y fun _ f s => r_move (f.ev Y)) (aV (pz Y fun _ f s => r_iW 1 s Y underlying91 ts5 (f.ev Y) (f.ev Y) g49.1 g49.2) (aV (pz Y fun _ f s => r_loadW1 1 ta5 s Y g49.1 g49.2 (f.ev Y) Y) (aV (pz Y fun _ f s => r_move (f.ev Y)) (aV (pz Y fun _ f s => r_move (f.ev Y)) (aV (pz Y fun _ f s => r_rem (f.ev Y) (f.ev Y) (by decide)) (aV (pz Y fun _ f s => r_sidx underlying9 (f.ev Y) (f.ev Y) g64.1 g64.2) aV0)))))))) Y fun M65 l66 => ni k40 (wv Y (fun f s => r_xor (f.ev Y) (f.ev Y)) ?_)
   obtain ⟨g71, H⟩ := grd_s H
   exact wv Y (fun f s => r_iW 1 s Y underlying91 ts5 (f.ev Y) (f.ev Y) g71.1 g71.2) (w_storeW (e := (bits .xor .u8 (rd s25.1 s25.2.2.2) (sbyte x37 (Int.tmod s25.2.2.2 64)))) 1 (FI.one _) trivial Y Y Y Y ts5 g71.1 g71.2 (wk k34 (c_reg (v_add Y Y Y (vm Y Y (w_nil fun a w' f s => ⟨_, (some_r H).symm, v26, _, l28.trans (l39.trans l66), f.pk Y, s.selD [none, some 1] (by decide) Y⟩))))))
  replace H := if_f b33 H
  replace H := map_inr H r29
  refine c_exit ?_
  intro a w' f s
  exact ⟨s25.1, v26, _, l28, f.pk Y, s.selD [none, some 1] (by decide) Y, H⟩
 rintro a w' ⟨x16, v17, M18, l19, f, s, H⟩
 refine cof f s ?_
 unfold cipher_Xor.j1 at H
 refine c_sr fun _ k20 => vm Y Y (w_give 1 Y (fun _ h => h) ?_)
 intro M21 l22 h23
 refine wv Y (fun f s => r_b2s underlying91 underlying5 underlying9 h23 s.sub (f.ev Y)) (va Y Y (va Y Y (wk k20 ?_)))
 obtain rfl := some_r H
 exact cx2 hret Y Y Y Y Y
theorem seal_Seal.calls (hM : Sub M w) (hG : Gl M) (p0 : (List UInt8)) (p1 : (List UInt8)) (p2 : (List UInt8)) (r : ((List UInt8) × Int)) (H : seal_Seal p0 p1 p2 = some r) :
  Calls prog 53 [str p0, str p1, str p2].toArray w (Post M w fun M' v => v = .tuple #[str r.1, .int .i64 r.2]) := by
 refine enter 58 [(0, str p0), (1, str p1), (2, str p2)] func53 Y Y Y hM ?_
 intro Q hret
 unfold seal_Seal at H
 refine c_sr fun _ k1 => va Y Y (va Y Y (wk k1 (c_sr fun _ k2 => vm Y Y ?_)))
 obtain ⟨t3, e8, H⟩ := bnd H
 refine w_call cf110 trivial Y Y (fun w s => seal_Keys.calls s hG p0 _ e8) ?_
 rintro _ M5 l6 rfl
 replace hG := hG.mono l6
 refine vm Y Y (v_extract Y Y Y (v_extract Y Y Y (v_extract Y Y Y (va Y Y (va Y Y (va Y Y (wk k2 (c_seq fun K9 k9 => c_block (c_sr fun _ k10 => vm Y Y (wv Y (fun f s => r_neq (f.ev Y) (f.ev Y)) (va Y Y (wk k10 (c_if Y (fun b11 => ?_) (fun b11 => ?_))))))))))))))
 ·replace H := if_t b11 H
  refine c_sr fun _ k12 => vm Y Y (va Y Y (va Y Y (wk k12 ?_)))
  obtain rfl := some_r H
  exact cx2 hret Y Y Y Y Y
 replace H := if_f b11 H
 obtain ⟨t13, H1, H⟩ := bnd H
 refine c_cut (fun a' w' => ∃ (M14 : Heap), HLe M5 M14 ∧ Fr 58 [(1, str p1), (2, str p2), (8, str t3.1), (9, str t3.2.1), (24, .bool t13)] a' ∧ St none' M w M14 (lt []) w') ?_ ?_
 ·replace H := H1
  refine c_reg (vm Y Y (wv Y (fun f s => r_slen underlying9 (f.ev Y)) (wv Y (fun f s => r_gtr (f.ev Y) (f.ev Y)) (vm Y Y ?_))))
  by_cases b16 : (decide ((1048576 : Int) < (p1.length : Int))) = true
  ·replace H := if_t b16 H
   refine wq b16 Y Y Y (wq b16 Y Y Y (wq b16 Y Y Y (wv Y (fun f s => r_pickT (f.ev Y) b16 (f.ev Y)) (va Y Y ?_))))
   obtain rfl := some_r H
   exact w_nil fun a w' f s => ⟨_, HLe.refl _, f.pk Y, s.sel [] (by decide) Y⟩
  replace b16 := Bool.eq_false_iff.2 b16
  replace H := if_f b16 H
  refine wg b16 Y Y Y (fun f s => r_move (f.ev Y)) (wg b16 Y Y Y (fun f s => r_slen underlying9 (f.ev Y)) (wg b16 Y Y Y (fun f s => r_gtr (f.ev Y) (f.ev Y)) (wv Y (fun f s => r_pickF (f.ev Y) b16 (f.ev Y)) (va Y Y ?_))))
  obtain rfl := some_r H
  exact w_nil fun a w' f s => ⟨_, HLe.refl _, f.pk Y, s.sel [] (by decide) Y⟩
 rintro a w' ⟨M14, l15, f, s⟩
 refine cof f s ?_
 replace hG := hG.mono l15
 refine c_if Y (fun b17 => ?_) (fun b17 => ?_)
 ·replace H := if_t b17 H
  refine c_sr fun _ k18 => va Y Y (va Y Y (wk k18 ?_))
  obtain rfl := some_r H
  exact cx2 hret Y Y Y Y Y
 replace H := if_f b17 H
 refine cs k9 (c_sr fun _ k19 => vm Y Y ?_)
 obtain ⟨t20, e25, H⟩ := bnd H
 refine w_call cf56 trivial Y Y (fun w s => wire_Bytes.calls s p1 _ e25) ?_
 rintro v61 M22 l23 ⟨v26, hv_, h27⟩
 replace hv_ := hv_.symm
 subst hv_
 replace hG := hG.mono l23
 refine wv Y (fun f s => r_b2s underlying91 underlying5 underlying9 h27 s.sub (f.ev Y)) (va Y Y (wk k19 (c_sr fun _ k28 => vm Y Y (vm Y Y (vm Y Y (w_bsl (F := FS) (es := ([([110, 111, 110, 99, 101] : List UInt8), intsB t20, p2] : List (List UInt8))) (xs := [.const (str ([110, 111, 110, 99, 101] : List UInt8)), .tmp 37, .tmp 38]) underlying127 te9 trivial Y Y Y Y Y (by decide) ?_))))))
 intro v29 M30 l31 h32 c33
 replace hG := hG.mono l31
 obtain ⟨t34, e39, H⟩ := bnd H
 refine w_call cf111 trivial Y Y (fun w s => seal_code.calls s hG t3.2.1 12 ([([110, 111, 110, 99, 101] : List UInt8), intsB t20, p2] : List (List UInt8)) v29 h32 _ e39) ?_
 rintro _ M36 l37 rfl
 replace hG := hG.mono l37
 refine va Y Y (wk k28 (c_sr fun _ k40 => vm Y Y (vm Y Y (vm Y Y ?_))))
 obtain ⟨t41, e46, H⟩ := bnd H
 refine w_call cf112 trivial Y Y (fun w s => cipher_Xor.calls s t3.1 1 t34 p2 _ e46) ?_
 rintro _ M43 l44 rfl
 replace hG := hG.mono l44
 refine vm Y Y (v_extract Y Y Y (v_extract Y Y Y (va Y Y (va Y Y (wk k40 (c_sr fun _ k47 => vm Y Y (vm Y Y ?_)))))))
 obtain ⟨g48, H⟩ := grd_s H
 refine wv Y (fun f s => r_sadd (f.ev Y) (f.ev Y) g48) (vm Y Y (vm Y Y (vm Y Y (vm Y Y (w_bsl (F := FS) (es := ([([116, 97, 103] : List UInt8), t34, intsB t20, t41.1] : List (List UInt8))) (xs := [.const (str ([116, 97, 103] : List UInt8)), .tmp 52, .tmp 53, .tmp 54]) underlying127 te9 trivial Y Y Y Y Y (by decide) ?_)))))
 intro v49 M50 l51 h52 c53
 replace hG := hG.mono l51
 obtain ⟨t54, e59, H⟩ := bnd H
 refine w_call cf111 trivial Y Y (fun w s => seal_code.calls s hG t3.2.1 16 ([([116, 97, 103] : List UInt8), t34, intsB t20, t41.1] : List (List UInt8)) v49 h52 _ e59) ?_
 rintro _ M56 l57 rfl
 obtain ⟨g60, H⟩ := grd_s H
 refine wv Y (fun f s => r_sadd (f.ev Y) (f.ev Y) g60) (va Y Y (va Y Y (wk k47 ?_)))
 obtain rfl := some_r H
 exact cx2 hret Y Y Y Y Y
theorem backup_Make.calls (hM : Sub M w) (hG : Gl M) (p0 : (List UInt8)) (p1 : Backup) (v1 : Value) (h2 : RS Key.F M v1 p1.Keys) (r : ((List UInt8) × Int)) (H : backup_Make p0 p1 = some r) :
  Calls prog 14 [str p0, .agg (Backup.C p1 v1).toArray].toArray w (Post M w fun M' v => v = .tuple #[str r.1, .int .i64 r.2]) := by
 refine enter 37 [(0, str p0), (1, .agg (Backup.C p1 v1).toArray)] func14 Y Y Y hM ?_
 intro Q hret
 unfold backup_Make at H
 refine c_sr fun _ k3 => w_boxM trivial Y Y Y ?_
 intro b4 M5 l6 h7
 replace hG := hG.mono l6
 replace h2 := h2.mono l6
 refine va Y Y (va Y Y (wk k3 (c_seq fun K8 k8 => ?_)))
 obtain ⟨t9, H1, H⟩ := bnd H
 refine c_cut (fun a' w' => ∃ (M10 : Heap), HLe M5 M10 ∧ Fr 37 [(0, str p0), (3, ptr b4 0), (16, .bool t9)] a' ∧ St none' M w M10 (lt []) w') ?_ ?_
 ·replace H := H1
  refine c_reg (vm Y Y (wv Y (fun f s => r_slen underlying9 (f.ev Y)) (wv Y (fun f s => r_neq (f.ev Y) (f.ev Y)) (vm Y Y ?_))))
  by_cases b12 : ((p0.length : Int) != 32) = true
  ·replace H := if_t b12 H
   refine wq b12 Y Y Y (wq b12 Y Y Y (wq b12 Y Y Y (wv Y (fun f s => r_pickT (f.ev Y) b12 (f.ev Y)) ?_)))
   obtain rfl := some_r H
   exact w_nil fun a w' f s => ⟨_, HLe.refl _, f.pk Y, s.sel [] (by decide) Y⟩
  replace b12 := Bool.eq_false_iff.2 b12
  replace H := if_f b12 H
  refine wg b12 Y Y Y (fun f s => r_loadA ta26 ts26 (f.ev Y) (s.sub _ _ h7) (Backup.d0_38 _ _) (Backup.len _ _)) ?_
  obtain ⟨t13, e18, H⟩ := bnd H
  refine w_call cf19 (Wnt.of Y Y b12) Y Y (fun w s => backup_Valid.calls s p1 v1 h2 _ e18) ?_
  rintro _ M15 l16 rfl
  replace hG := hG.mono l16
  replace h2 := h2.mono l16
  replace h7 := l16 _ _ h7
  refine wg b12 Y Y Y (fun f s => r_not (f.ev Y)) (wv Y (fun f s => r_pickF (f.ev Y) b12 (f.ev Y)) ?_)
  obtain rfl := some_r H
  exact w_nil fun a w' f s => ⟨_, l16, f.pk Y, s.sel [] (by decide) Y⟩
 rintro a w' ⟨M10, l11, f, s⟩
 refine cof f s ?_
 replace hG := hG.mono l11
 replace h2 := h2.mono l11
 replace h7 := l11 _ _ h7
 refine c_if Y (fun b19 => ?_) (fun b19 => ?_)
 ·replace H := if_t b19 H
  refine c_sr fun _ k20 => va Y Y (va Y Y (wk k20 ?_))
  obtain rfl := some_r H
  exact cx2 hret Y Y Y Y Y
 replace H := if_f b19 H
 refine cs k8 (c_sr fun _ k21 => wv Y (fun f s => r_loadA ta26 ts26 (f.ev Y) (s.sub _ _ h7) (Backup.d0_38 _ _) (Backup.len _ _)) ?_)
 obtain ⟨t22, e27, H⟩ := bnd H
 refine w_call cf22 trivial Y Y (fun w s => backup_Header.calls s p1 v1 h2 _ e27) ?_
 rintro _ M24 l25 rfl
 replace hG := hG.mono l25
 replace h2 := h2.mono l25
 replace h7 := l25 _ _ h7
 refine va Y Y (wk k21 (c_seq fun K28 k28 => ?_))
 obtain ⟨t34, e39, H⟩ := bnd H
 obtain ⟨t50, e55, H⟩ := bnd H
 obtain ⟨t61, e66, H⟩ := bnd H
 refine cV [([], [0]), ([(0, 20)], []), ([], [6]), ([], [3]), ([(3, 23)], []), ([(4, 24)], []), ([(1, 21), (2, 22), (5, 25)], []), ([(6, 26)], []), ([(7, 19)], []), ([(7, 19)], []), ([(8, 27)], []), ([(9, 28)], [])] (by kernel_rfl) (aV (pz Y fun _ f s => r_move (f.ev Y)) (aV (pzc cf54 Y Y fun _ l32 w s => kdf_Derive.calls s (hG.mono l32) p0 ([98, 97, 99, 107, 117, 112] : List UInt8) ([] : (List (List UInt8))) (.slice none 0 0) RS.none _ e39) (aV (pz Y fun _ f s => r_move (f.ev Y)) (aV (pz Y fun _ f s => r_fa fa26_7 (f.ev Y)) (aV (pz Y fun l45 f s => r_load1 ta24 (f.ev Y) (s.sub _ _ (l45 _ _ h7)) (Backup.g37 _ _)) (aV (pzc cf55 Y Y fun _ l48 w s => backup_content.calls s p1.Keys v1 (h2.mono l48) _ e55) (aV (pzc cf53 Y Y fun _ l57 w s => seal_Seal.calls s (hG.mono l57) t34 t22 t50 _ e66) (aV (pz Y fun _ f s => r_move (f.ev Y)) (aV (pz Y fun _ f s => r_extract (f.ev Y) Y) (aV (pz Y fun _ f s => r_extract (f.ev Y) Y) (aV (pz Y fun _ f s => r_assign (f.ev Y)) (aV (pz Y fun _ f s => r_assign (f.ev Y)) aV0)))))))))))) Y fun M82 l83 => ni k28 ?_
 refine c_seq fun K86 k86 => c_sr fun _ k87 => vm Y Y (wv Y (fun f s => r_neq (f.ev Y) (f.ev Y)) (wk k87 (c_if Y (fun b88 => ?_) (fun b88 => ?_))))
 ·replace H := if_t b88 H
  refine c_sr fun _ k89 => vm Y Y (va Y Y (va Y Y (wk k89 ?_)))
  obtain rfl := some_r H
  exact cx2 hret Y Y Y Y Y
 replace H := if_f b88 H
 refine cs k86 (c_sr fun _ k90 => vm Y Y ?_)
 obtain ⟨t91, e96, H⟩ := bnd H
 refine w_call cf56 trivial Y Y (fun w s => wire_Bytes.calls s t22 _ e96) ?_
 rintro v100 M93 l94 ⟨v97, hv_, h98⟩
 replace hv_ := hv_.symm
 subst hv_
 refine wv Y (fun f s => r_b2s underlying91 underlying5 underlying9 h98 s.sub (f.ev Y)) (vm Y Y ?_)
 obtain ⟨g99, H⟩ := grd_s H
 refine wv Y (fun f s => r_sadd (f.ev Y) (f.ev Y) g99) (va Y Y (va Y Y (wk k90 ?_)))
 obtain rfl := some_r H
 exact cx2 hret Y Y Y Y Y
theorem backup_reader_check.calls {M : Heap} {w : World} {b : Nat} {T : TypeId} {q : List Value} {x_ : backup_reader} {v1 : Value} (s : St (fun k => k = b) M w M (lt [.blk b (.cells (backup_reader.C x_ v1 ++ q).toArray T (0, 0))]) w) (h2 : RS (FI .u8) M v1 x_.rest_) (p1 : Bool) (p2 : Int) (r : (Bool × backup_reader)) (H : backup_reader_check x_ p1 p2 = some r) :
  Calls prog 82 [ptr b 0, .bool p1, .int .i64 p2].toArray w (PostI (fun k => k = b) M w fun M' x v => ∃ (v15 : Value), v = (.bool r.1) ∧ RS (FI .u8) M' v15 r.2.rest_ ∧ x = .blk b (.cells (backup_reader.C r.2 v15 ++ q).toArray T (0, 0))) := by
 refine enterI 25 [(0, ptr b 0), (1, .bool p1), (2, .int .i64 p2)] func82 Y Y Y s ?_
 intro Q hret
 unfold backup_reader_check at H
 refine c_sr fun _ k3 => va Y Y (wk k3 ?_)
 refine c_cut (fun a' w' => ∃ (x4 : backup_reader) (v5 : Value) (M7 : Heap), HLe M M7 ∧ RS (FI .u8) M7 v5 x4.rest_ ∧ Fr 25 [(0, ptr b 0)] a' ∧ St (fun k => k = b) M w M7 (lt [.blk b (.cells (backup_reader.C x4 v5 ++ q).toArray T (0, 0))]) w' ∧ backup_reader_check.j1 x4 = some r) ?_ ?_
 ·obtain ⟨t10, H1, H⟩ := bnd H
  refine c_cut (fun a' w' => ∃ (M11 : Heap), HLe M M11 ∧ Fr 25 [(0, ptr b 0), (2, .int .i64 p2), (15, .bool t10)] a' ∧ St (fun k => k = b) M w M11 (lt [.blk b (.cells (backup_reader.C x_ v1 ++ q).toArray T (0, 0))]) w') ?_ ?_
  ·replace H := H1
   refine c_reg (vm Y Y (wv Y (fun f s => r_nilCheck (f.ev Y)) (v_fa fa117_1 Y Y (wv Y (fun f s => r_load1 ta31 (f.ev Y) (s.blk (i := 0) Y) Y) (wv Y (fun f s => r_eql (f.ev Y) (f.ev Y)) (vm Y Y ?_))))))
   by_cases b13 : (x_.e == 0) = true
   ·replace H := if_t b13 H
    refine wg b13 Y Y Y (fun f s => r_move (f.ev Y)) (wg b13 Y Y Y (fun f s => r_not (f.ev Y)) (wv Y (fun f s => r_pickT (f.ev Y) b13 (f.ev Y)) ?_))
    obtain rfl := some_r H
    exact w_nil fun a w' f s => ⟨_, HLe.refl _, f.pk Y, s.sel [0] (by decide) Y⟩
   replace b13 := Bool.eq_false_iff.2 b13
   replace H := if_f b13 H
   refine wq b13 Y Y Y (wq b13 Y Y Y (wv Y (fun f s => r_pickF (f.ev Y) b13 (f.ev Y)) ?_))
   obtain rfl := some_r H
   exact w_nil fun a w' f s => ⟨_, HLe.refl _, f.pk Y, s.sel [0] (by decide) Y⟩
  rintro a w' ⟨M11, l12, f, s⟩
  refine cof f s ?_
  replace h2 := h2.mono l12
  refine c_if Y (fun b14 => ?_) (fun b14 => ?_)
  ·replace H := if_t b14 H
   exact c_reg (vm Y Y (vm Y Y (wv Y (fun f s => r_nilCheck (f.ev Y)) (v_fa fa117_1 Y Y (w_store (i := 0) (A' := (backup_reader.C ({ x_ with e := p2 } : backup_reader) v1 ++ q)) trivial Y Y Y Y ts31 Y (one1 Y) (Nat.le_of_ble_eq_true Y) Y (w_nil fun a w' f s => ⟨({ x_ with e := p2 } : backup_reader), v1, _, l12, h2, f.pk Y, s.selD [some 0] (by decide) Y, H⟩))))))
  replace H := if_f b14 H
  refine c_skip ?_
  intro a w' f s
  exact ⟨x_, v1, _, l12, h2, f.pk Y, s.selD [some 0] (by decide) Y, H⟩
 rintro a w' ⟨x4, v5, M7, l8, h6, f, s, H⟩
 refine cof f s ?_
 unfold backup_reader_check.j1 at H
 refine c_sr fun _ k9 => vm Y Y (wv Y (fun f s => r_nilCheck (f.ev Y)) (v_fa fa117_1 Y Y (wv Y (fun f s => r_load1 ta31 (f.ev Y) (s.blk (i := 0) Y) Y) (wv Y (fun f s => r_eql (f.ev Y) (f.ev Y)) (va Y Y (wk k9 ?_))))))
 obtain rfl := some_r H
 exact cx hret Y fun f s => ⟨_, _, _, Res.of1 Y (RV.t f Y), s.sel [0] (by decide) Y, ⟨_, Y, h6, Y⟩⟩
theorem wire_GetInt.calls (hM : Sub M w) (p0 : (List Int)) (v1 : Value) (h2 : RS (FI .u8) M v1 p0) (r : (Int × Int × Int)) (H : wire_GetInt p0 = some r) :
  Calls prog 170 [v1].toArray w (Post M w fun M' v => v = .tuple #[.int .i64 r.1, .int .i64 r.2.1, .int .i64 r.2.2]) := by
 refine enter 71 [(0, v1)] func170 Y Y Y hM ?_
 intro Q hret
 unfold wire_GetInt at H
 refine c_sr fun _ k3 => va Y Y (va Y Y (va Y Y (wk k3 (c_seq fun K4 k4 => c_sr fun _ k5 => vm Y Y (wv Y (fun f s => r_lenR underlying91 h2 (f.ev Y)) (wv Y (fun f s => r_eql (f.ev Y) (f.ev Y)) (wk k5 (c_if Y (fun b6 => ?_) (fun b6 => ?_)))))))))
 ·replace H := if_t b6 H
  refine c_sr fun _ k7 => va Y Y (va Y Y (va Y Y (wk k7 ?_)))
  obtain rfl := some_r H
  exact cx3 hret Y Y Y Y Y Y
 replace H := if_f b6 H
 refine cs k4 (c_sr fun _ k8 => va Y Y (wk k8 ?_))
 refine c_cut (fun a' w' => ∃ (x9 : Int) (M10 : Heap), HLe M M10 ∧ Fr 71 [(0, v1), (5, .int .u8 x9)] a' ∧ St none' M w M10 (lt []) w' ∧ wire_GetInt.j4 p0 x9 = some r) ?_ ?_
 ·refine c_seq ?_
  intro K57 k57
  refine c_reg (vm Y Y ?_)
  obtain ⟨g58, H⟩ := grd_s H
  refine wv Y (fun f s => r_iR underlying91 ts5 h2 (f.ev Y) (f.ev Y) g58.1 g58.2) (wv Y (fun f s => r_loadE1 ta5 h2 s.sub g58.1 g58.2 (f.ev Y) Y) (v_lss Y Y Y (wk k57 (c_if Y (fun b59 => ?_) (fun b59 => ?_)))))
  ·replace H := if_t b59 H
   exact c_reg (va Y Y (w_nil fun a w' f s => ⟨255, _, HLe.refl _, f.pk Y, s.selD [] (by decide) Y, H⟩))
  replace H := if_f b59 H
  refine c_skip ?_
  intro a w' f s
  exact ⟨0, _, HLe.refl _, f.pk Y, s.selD [] (by decide) Y, H⟩
 rintro a w' ⟨x9, M10, l11, f, s, H⟩
 refine cof f s ?_
 unfold wire_GetInt.j4 at H
 replace h2 := h2.mono l11
 refine c_sr fun _ k12 => vm Y Y ?_
 obtain ⟨g13, H⟩ := grd_s H
 refine wv Y (fun f s => r_iR underlying91 ts5 h2 (f.ev Y) (f.ev Y) g13.1 g13.2) (wv Y (fun f s => r_loadE1 ta5 h2 s.sub g13.1 g13.2 (f.ev Y) Y) (vm Y Y (wv Y (fun f s => r_xor (f.ev Y) (f.ev Y)) (wv Y (fun f s => r_conv underlying5 underlying3 (f.ev Y)) (wv Y (fun f s => r_sub (f.ev Y) (f.ev Y)) (va Y Y (wk k12 (c_seq fun K14 k14 => c_block (c_sr fun _ k15 => vm Y Y (wv Y (fun f s => r_gtr (f.ev Y) (f.ev Y)) (va Y Y (wk k15 (c_if Y (fun b16 => ?_) (fun b16 => ?_))))))))))))))
 ·replace H := if_t b16 H
  refine c_sr fun _ k17 => va Y Y (va Y Y (va Y Y (wk k17 ?_)))
  obtain rfl := some_r H
  exact cx3 hret Y Y Y Y Y Y
 replace H := if_f b16 H
 refine c_sr fun _ k18 => vm Y Y (wv Y (fun f s => r_lenR underlying91 h2 (f.ev Y)) (vm Y Y (wv Y (fun f s => r_leq (f.ev Y) (f.ev Y)) (va Y Y (wk k18 (c_if Y (fun b19 => ?_) (fun b19 => ?_)))))))
 ·replace H := if_t b19 H
  refine c_sr fun _ k20 => va Y Y (va Y Y (va Y Y (wk k20 ?_)))
  obtain rfl := some_r H
  exact cx3 hret Y Y Y Y Y Y
 replace H := if_f b19 H
 obtain ⟨t21, H1, H⟩ := bnd H
 refine c_cut (fun a' w' => ∃ (M22 : Heap), HLe M10 M22 ∧ Fr 71 [(0, v1), (5, .int .u8 x9), (6, .int .i64 (i64.wrap ((i64.wrap (bits .xor .u8 (rd p0 0) x9)) - 128))), (32, .bool t21)] a' ∧ St none' M w M22 (lt []) w') ?_ ?_
 ·replace H := H1
  refine c_reg (vm Y Y (wv Y (fun f s => r_gtr (f.ev Y) (f.ev Y)) (vm Y Y ?_)))
  by_cases b24 : (decide ((0 : Int) < (i64.wrap ((i64.wrap (bits .xor .u8 (rd p0 0) x9)) - 128)))) = true
  ·replace H := if_t b24 H
   refine wg b24 Y Y Y (fun f s => r_move (f.ev Y)) ?_
   obtain ⟨g25, H⟩ := grd_s H
   refine wg b24 Y Y Y (fun f s => r_iR underlying91 ts5 h2 (f.ev Y) (f.ev Y) g25.1 g25.2) (wg b24 Y Y Y (fun f s => r_loadE1 ta5 h2 s.sub g25.1 g25.2 (f.ev Y) Y) (wg b24 Y Y Y (fun f s => r_move (f.ev Y)) (wg b24 Y Y Y (fun f s => r_xor (f.ev Y) (f.ev Y)) (wg b24 Y Y Y (fun f s => r_eql (f.ev Y) (f.ev Y)) (wv Y (fun f s => r_pickT (f.ev Y) b24 (f.ev Y)) (va Y Y ?_))))))
   obtain rfl := some_r H
   exact w_nil fun a w' f s => ⟨_, HLe.refl _, f.pk Y, s.sel [] (by decide) Y⟩
  replace b24 := Bool.eq_false_iff.2 b24
  replace H := if_f b24 H
  refine wq b24 Y Y Y (wq b24 Y Y Y (wq b24 Y Y Y (wq b24 Y Y Y (wq b24 Y Y Y (wq b24 Y Y Y (wv Y (fun f s => r_pickF (f.ev Y) b24 (f.ev Y)) (va Y Y ?_)))))))
  obtain rfl := some_r H
  exact w_nil fun a w' f s => ⟨_, HLe.refl _, f.pk Y, s.sel [] (by decide) Y⟩
 rintro a w' ⟨M22, l23, f, s⟩
 refine cof f s ?_
 replace h2 := h2.mono l23
 refine c_if Y (fun b26 => ?_) (fun b26 => ?_)
 ·replace H := if_t b26 H
  refine c_sr fun _ k27 => va Y Y (va Y Y (va Y Y (wk k27 ?_)))
  obtain rfl := some_r H
  exact cx3 hret Y Y Y Y Y Y
 replace H := if_f b26 H
 refine cs k14 (c_sr fun _ k28 => va Y Y (wk k28 ?_))
 refine c_cut (fun a' w' => ∃ (x29 : Int) (M30 : Heap), HLe M22 M30 ∧ Fr 71 [(5, .int .u8 x9), (6, .int .i64 (i64.wrap ((i64.wrap (bits .xor .u8 (rd p0 0) x9)) - 128))), (7, .int .u64 x29)] a' ∧ St none' M w M30 (lt []) w' ∧ wire_GetInt.j2 x29 x9 p0 = some r) ?_ ?_
 ·refine c_seq ?_
  intro K42 k42
  refine c_reg (vm Y Y (vm Y Y (v_add Y Y Y ?_)))
  obtain ⟨g45, H⟩ := grd_s H
  refine w_ex (Φ := fun v => RS (FI .u8) M22 v ((p0.take (i64.wrap ((i64.wrap ((i64.wrap (bits .xor .u8 (rd p0 0) x9)) - 128)) + (1 : Int))).toNat).drop ((1 : Int)).toNat)) trivial Y (fun a w f s => r_slR underlying91 ts5 (f.ev Y) h2 ⟨_, f.ev Y⟩ ⟨_, f.ev Y⟩ g45.1 g45.2.1 g45.2.2) ?_
  intro v43 h44
  refine wv Y (fun f s => r_lenR underlying91 h44 (f.ev Y)) (vm Y Y (wk k42 (c_block ?_)))
  refine c_loop (fun (s46 : (Int × Int)) a' w' => ∃ (M47 : Heap), HLe M22 M47 ∧ Fr 71 [(5, .int .u8 x9), (6, .int .i64 (i64.wrap ((i64.wrap (bits .xor .u8 (rd p0 0) x9)) - 128))), (7, .int .u64 s46.1), (46, v43), (47, .int .i64 (((p0.take (i64.wrap ((i64.wrap ((i64.wrap (bits .xor .u8 (rd p0 0) x9)) - 128)) + (1 : Int))).toNat).drop ((1 : Int)).toNat).length : Int)), (48, .int .i64 s46.2)] a' ∧ St none' M w M47 (lt []) w') (0, 0) H ?_ ?_
  ·intro a w' f s
   exact ⟨_, HLe.refl _, f.pk Y, s.selD [] (by decide) Y⟩
  intro s46 y50 H r49 a w' hJ
  obtain ⟨M47, l48, f, s⟩ := hJ
  refine cof f s ?_
  unfold wire_GetInt.l3 at H
  replace h44 := h44.mono l48
  refine c_sr fun _ k51 => v_lss Y Y Y (wk k51 (c_seq fun K52 k52 => c_if Y (fun b53 => ?_) (fun b53 => ?_)))
  ·replace H := if_t b53 H
   refine cs k52 (c_seq fun K54 k54 => c_block (c_sr fun _ k55 => ?_))
   obtain ⟨g56, H⟩ := grd_s H
   exact wv Y (fun f s => r_iR underlying91 ts5 h44 (f.ev Y) (f.ev Y) g56.1 g56.2) (wv Y (fun f s => r_loadE1 ta5 h44 s.sub g56.1 g56.2 (f.ev Y) Y) (va Y Y (wk k55 (c_reg (vm Y Y (wv Y (fun f s => r_shl (f.ev Y) (f.ev Y) (by decide)) (vm Y Y (vm Y Y (wv Y (fun f s => r_xor (f.ev Y) (f.ev Y)) (wv Y (fun f s => r_conv underlying5 underlying193 (f.ev Y)) (wv Y (fun f s => r_or (f.ev Y) (f.ev Y)) (va Y Y (wk k54 (c_reg (v_add Y Y Y (vm Y Y (w_nil fun a w' f s => ⟨_, (some_r H).symm, _, l48.trans (HLe.refl _), f.pk Y, s.selD [] (by decide) Y⟩)))))))))))))))))
  replace H := if_f b53 H
  replace H := map_inr H r49
  refine c_exit ?_
  intro a w' f s
  exact ⟨s46.1, _, l48, f.pk Y, s.selD [] (by decide) Y, H⟩
 rintro a w' ⟨x29, M30, l31, f, s, H⟩
 refine cof f s ?_
 unfold wire_GetInt.j2 at H
 refine c_seq fun K32 k32 => c_sr fun _ k33 => vm Y Y (wv Y (fun f s => r_shr (f.ev Y) (f.ev Y) (by decide)) (wv Y (fun f s => r_gtr (f.ev Y) (f.ev Y)) (wk k33 (c_if Y (fun b34 => ?_) (fun b34 => ?_)))))
 ·replace H := if_t b34 H
  refine c_sr fun _ k35 => va Y Y (va Y Y (va Y Y (wk k35 ?_)))
  obtain rfl := some_r H
  exact cx3 hret Y Y Y Y Y Y
 replace H := if_f b34 H
 refine cs k32 ?_
 refine c_cut (fun a' w' => ∃ (x36 : Int) (M37 : Heap), HLe M30 M37 ∧ Fr 71 [(6, .int .i64 (i64.wrap ((i64.wrap (bits .xor .u8 (rd p0 0) x9)) - 128))), (7, .int .u64 x36)] a' ∧ St none' M w M37 (lt []) w' ∧ wire_GetInt.j1 x36 p0 x9 = some r) ?_ ?_
 ·refine c_seq ?_
  intro K40 k40
  refine c_reg (vm Y Y (wv Y (fun f s => r_gtr (f.ev Y) (f.ev Y)) (wk k40 (c_if Y (fun b41 => ?_) (fun b41 => ?_)))))
  ·replace H := if_t b41 H
   exact c_reg (vm Y Y (wv Y (fun f s => r_com (f.ev Y)) (va Y Y (w_nil fun a w' f s => ⟨bits .xor .u64 u64.max x29, _, HLe.refl _, f.pk Y, s.selD [] (by decide) Y, H⟩))))
  replace H := if_f b41 H
  refine c_skip ?_
  intro a w' f s
  exact ⟨x29, _, HLe.refl _, f.pk Y, s.selD [] (by decide) Y, H⟩
 rintro a w' ⟨x36, M37, l38, f, s, H⟩
 refine cof f s ?_
 unfold wire_GetInt.j1 at H
 refine c_sr fun _ k39 => vm Y Y (wv Y (fun f s => r_conv underlying193 underlying3 (f.ev Y)) (vm Y Y (v_add Y Y Y (va Y Y (va Y Y (va Y Y (wk k39 ?_)))))))
 obtain rfl := some_r H
 exact cx3 hret Y Y Y Y Y Y
theorem wire_count.calls (hM : Sub M w) (p0 : (List Int)) (v1 : Value) (h2 : RS (FI .u8) M v1 p0) (p1 : Int) (r : (Int × Int × Int)) (H : wire_count p0 p1 = some r) :
  Calls prog 141 [v1, .int .i64 p1].toArray w (Post M w fun M' v => v = .tuple #[.int .i64 r.1, .int .i64 r.2.1, .int .i64 r.2.2]) := by
 refine enter 31 [(0, v1), (1, .int .i64 p1)] func141 Y Y Y hM ?_
 intro Q hret
 unfold wire_count at H
 refine c_sr fun _ k3 => va Y Y (va Y Y (va Y Y (wk k3 (c_sr fun _ k4 => vm Y Y ?_))))
 obtain ⟨t5, e10, H⟩ := bnd H
 refine w_call cf170 trivial Y Y (fun w s => wire_GetInt.calls s p0 v1 h2 _ e10) ?_
 rintro _ M7 l8 rfl
 replace h2 := h2.mono l8
 refine vm Y Y (v_extract Y Y Y (v_extract Y Y Y (v_extract Y Y Y (va Y Y (va Y Y (va Y Y (wk k4 ?_)))))))
 refine c_cut (fun a' w' => ∃ (x11 : Int) (M12 : Heap), HLe M7 M12 ∧ Fr 31 [(4, .int .i64 t5.1), (5, .int .i64 t5.2.1), (6, .int .i64 x11)] a' ∧ St none' M w M12 (lt []) w' ∧ wire_count.j1 t5 x11 = some r) ?_ ?_
 ·refine c_block (c_sr fun _ k15 => vm Y Y (wv Y (fun f s => r_neq (f.ev Y) (f.ev Y)) (va Y Y (wk k15 (c_if Y (fun b16 => ?_) (fun b16 => ?_))))))
  ·replace H := if_t b16 H
   refine c_skip ?_
   intro a w' f s
   exact ⟨t5.2.2, _, HLe.refl _, f.pk Y, s.selD [] (by decide) Y, H⟩
  replace H := if_f b16 H
  refine c_sr fun _ k17 => vm Y Y (v_lss Y Y Y (va Y Y (wk k17 (c_if Y (fun b18 => ?_) (fun b18 => ?_)))))
  ·replace H := if_t b18 H
   exact c_reg (va Y Y (w_nil fun a w' f s => ⟨6, _, HLe.refl _, f.pk Y, s.selD [] (by decide) Y, H⟩))
  replace H := if_f b18 H
  refine c_sr fun _ k19 => vm Y Y (vm Y Y (wv Y (fun f s => r_lenR underlying91 h2 (f.ev Y)) (vm Y Y (wv Y (fun f s => r_sub (f.ev Y) (f.ev Y)) (vm Y Y ?_)))))
  obtain ⟨g20, H⟩ := grd_s H
  refine wv Y (fun f s => r_quo (f.ev Y) (f.ev Y) g20) (wv Y (fun f s => r_gtr (f.ev Y) (f.ev Y)) (va Y Y (wk k19 (c_if Y (fun b21 => ?_) (fun b21 => ?_)))))
  ·replace H := if_t b21 H
   exact c_reg (va Y Y (w_nil fun a w' f s => ⟨5, _, HLe.refl _, f.pk Y, s.selD [] (by decide) Y, H⟩))
  replace H := if_f b21 H
  refine c_skip ?_
  intro a w' f s
  exact ⟨t5.2.2, _, HLe.refl _, f.pk Y, s.selD [] (by decide) Y, H⟩
 rintro a w' ⟨x11, M12, l13, f, s, H⟩
 refine cof f s ?_
 unfold wire_count.j1 at H
 refine c_sr fun _ k14 => vm Y Y (vm Y Y (vm Y Y (va Y Y (va Y Y (va Y Y (wk k14 ?_))))))
 obtain rfl := some_r H
 exact cx3 hret Y Y Y Y Y Y
theorem wire_GetBytes.calls (hM : Sub M w) (p0 : (List Int)) (v1 : Value) (h2 : RS (FI .u8) M v1 p0) (r : ((List UInt8) × Int × Int)) (H : wire_GetBytes p0 = some r) :
  Calls prog 132 [v1].toArray w (Post M w fun M' v => v = .tuple #[str r.1, .int .i64 r.2.1, .int .i64 r.2.2]) := by
 refine enter 27 [(0, v1)] func132 Y Y Y hM ?_
 intro Q hret
 unfold wire_GetBytes at H
 refine c_sr fun _ k3 => va Y Y (va Y Y (va Y Y (wk k3 (c_sr fun _ k4 => vm Y Y ?_))))
 obtain ⟨t5, e10, H⟩ := bnd H
 refine w_call cf141 trivial Y Y (fun w s => wire_count.calls s p0 v1 h2 1 _ e10) ?_
 rintro _ M7 l8 rfl
 replace h2 := h2.mono l8
 refine vm Y Y (v_extract Y Y Y (v_extract Y Y Y (v_extract Y Y Y (va Y Y (va Y Y (va Y Y (wk k4 (c_seq fun K11 k11 => c_sr fun _ k12 => vm Y Y (wv Y (fun f s => r_neq (f.ev Y) (f.ev Y)) (wk k12 (c_if Y (fun b13 => ?_) (fun b13 => ?_))))))))))))
 ·replace H := if_t b13 H
  refine c_sr fun _ k14 => vm Y Y (va Y Y (va Y Y (va Y Y (wk k14 ?_))))
  obtain rfl := some_r H
  exact cx3 hret Y Y Y Y Y Y
 replace H := if_f b13 H
 refine cs k11 (c_sr fun _ k15 => vm Y Y (vm Y Y (vm Y Y (vm Y Y (v_add Y Y Y ?_)))))
 obtain ⟨g18, H⟩ := grd_s H
 refine w_ex (Φ := fun v => RS (FI .u8) M7 v ((p0.take (i64.wrap (t5.2.1 + t5.1)).toNat).drop (t5.2.1).toNat)) trivial Y (fun a w f s => r_slR underlying91 ts5 (f.ev Y) h2 ⟨_, f.ev Y⟩ ⟨_, f.ev Y⟩ g18.1 g18.2.1 g18.2.2) ?_
 intro v16 h17
 refine wv Y (fun f s => r_b2s underlying91 underlying5 underlying9 h17 s.sub (f.ev Y)) (vm Y Y (vm Y Y (v_add Y Y Y (va Y Y (va Y Y (va Y Y (wk k15 ?_)))))))
 obtain rfl := some_r H
 exact cx3 hret Y Y Y Y Y Y
theorem backup_read_string.calls {M : Heap} {w : World} {b : Nat} {T : TypeId} {q : List Value} {x_ : backup_reader} {v1 : Value} (s : St (fun k => k = b) M w M (lt [.blk b (.cells (backup_reader.C x_ v1 ++ q).toArray T (0, 0))]) w) (h2 : RS (FI .u8) M v1 x_.rest_) (r : ((List UInt8) × backup_reader)) (H : backup_read_string x_ = some r) :
  Calls prog 131 [ptr b 0, .func (.func 132) #[] #[]].toArray w (PostI (fun k => k = b) M w fun M' x v => ∃ (v31 : Value), v = (str r.1) ∧ RS (FI .u8) M' v31 r.2.rest_ ∧ x = .blk b (.cells (backup_reader.C r.2 v31 ++ q).toArray T (0, 0))) := by
 refine enterI 41 [(0, ptr b 0), (1, .func (.func 132) #[] #[])] func131 Y Y Y s ?_
 intro Q hret
 unfold backup_read_string at H
 refine c_sr fun _ k3 => va Y Y (wk k3 (c_seq fun K4 k4 => c_sr fun _ k5 => vm Y Y (wv Y (fun f s => r_nilCheck (f.ev Y)) (v_fa fa117_1 Y Y (wv Y (fun f s => r_load1 ta31 (f.ev Y) (s.blk (i := 0) Y) Y) (wv Y (fun f s => r_neq (f.ev Y) (f.ev Y)) (wk k5 (c_if Y (fun b6 => ?_) (fun b6 => ?_)))))))))
 ·replace H := if_t b6 H
  refine c_sr fun _ k7 => vm Y Y (va Y Y (wk k7 ?_))
  obtain rfl := some_r H
  exact cx hret Y fun f s => ⟨_, _, _, Res.of1 Y (RV.t f Y), s.sel [0] (by decide) Y, ⟨_, Y, h2, Y⟩⟩
 replace H := if_f b6 H
 refine cs k4 (c_sr fun _ k8 => vm Y Y (vm Y Y (wv Y (fun f s => r_nilCheck (f.ev Y)) (v_fa fa117_0 Y Y (wv Y (fun f s => r_load1 ta91 (f.ev Y) (s.blk (i := 0) Y) Y) ?_)))))
 obtain ⟨t9, e14, H⟩ := bnd H
 refine w_callV trivial Y Y Y (fun _ h => by cases h) (fun w s => ⟨_, _, _, Y, cf132, wire_GetBytes.calls s x_.rest_ v1 h2 _ e14⟩) ?_
 rintro _ M11 l12 rfl
 replace h2 := h2.mono l12
 refine vm Y Y (v_extract Y Y Y (v_extract Y Y Y (v_extract Y Y Y (va Y Y (va Y Y (va Y Y (wk k8 (c_seq fun K15 k15 => c_sr fun _ k16 => vm Y Y (vm Y Y (wv Y (fun f s => r_eql (f.ev Y) (f.ev Y)) (vm Y Y ?_)))))))))))
 obtain ⟨t17, e18, H⟩ := bnd H
 refine w_callJ (b0 := b) 0 cf82 trivial Y Y Y Y (fun w s => backup_reader_check.calls (b := b) (T := T) (q := (q)) (x_ := x_) s h2 (t9.2.2 == 0) t9.2.2 _ e18) ?_
 rintro v21 M19 _ l20 ⟨v22, hv_, h23, rfl⟩
 subst hv_
 refine wv Y (fun f s => r_not (f.ev Y)) (wk k16 (c_if Y (fun b24 => ?_) (fun b24 => ?_)))
 ·replace H := if_t b24 H
  refine c_sr fun _ k25 => vm Y Y (va Y Y (wk k25 ?_))
  obtain rfl := some_r H
  exact cx hret Y fun f s => ⟨_, _, _, Res.of1 Y (RV.t f Y), s.sel [0] (by decide) Y, ⟨_, Y, h23, Y⟩⟩
 replace H := if_f b24 H
 refine cs k15 (c_sr fun _ k26 => vm Y Y (vm Y Y (wv Y (fun f s => r_nilCheck (f.ev Y)) (v_fa fa117_0 Y Y (wv Y (fun f s => r_load1 ta91 (f.ev Y) (s.blk (i := 0) Y) Y) (vm Y Y ?_))))))
 obtain ⟨g29, H⟩ := grd_s H
 refine w_ex (Φ := fun v => RS (FI .u8) M19 v ((t17.2.rest_.take ((t17.2.rest_.length : Int)).toNat).drop (t9.2.1).toNat)) trivial Y (fun a w f s => r_slR underlying91 ts5 (f.ev Y) h23 ⟨_, f.ev Y⟩ rfl g29.1 g29.2.1 g29.2.2) ?_
 intro v27 h28
 refine wv Y (fun f s => r_nilCheck (f.ev Y)) (v_fa fa117_0 Y Y (w_store (i := 0) (A' := (backup_reader.C ({ t17.2 with rest_ := ((t17.2.rest_.take ((t17.2.rest_.length : Int)).toNat).drop (t9.2.1).toNat) } : backup_reader) v27 ++ q)) trivial Y Y Y h28.cells1 ts91 Y (one1 h28.one) (Nat.le_of_ble_eq_true Y) Y (wk k26 (c_sr fun _ k30 => vm Y Y (va Y Y (wk k30 ?_))))))
 obtain rfl := some_r H
 exact cx hret Y fun f s => ⟨_, _, _, Res.of1 Y (RV.t f Y), s.sel [0] (by decide) Y, ⟨_, Y, h28, Y⟩⟩
theorem backup_digest.calls (hM : Sub M w) (p0 : (List Int)) (v1 : Value) (h2 : RS (FI .u8) M v1 p0) (r : ((Vector Int 16) × Int × Int)) (H : backup_digest p0 = some r) :
  Calls prog 134 [v1].toArray w (Post M w fun M' v => v = .tuple #[.agg (vI .u8 r.1).toArray, .int .i64 r.2.1, .int .i64 r.2.2]) := by
 refine enter 13 [(0, v1)] func134 Y Y Y hM ?_
 intro Q hret
 unfold backup_digest at H
 refine c_sr fun _ k3 => w_allocL (A := vI .u8 (replicate 16 0)) tz23 trivial Y Y ?_
 intro b4
 refine va Y Y (va Y Y (wk k3 (c_seq fun K5 k5 => c_sr fun _ k6 => vm Y Y (wv Y (fun f s => r_lenR underlying91 h2 (f.ev Y)) (v_lss Y Y Y (wk k6 (c_if Y (fun b7 => ?_) (fun b7 => ?_))))))))
 ·replace H := if_t b7 H
  refine c_sr fun _ k8 => wv Y (fun f s => r_loadA ta23 ts23 (f.ev Y) (s.blk (i := 0) Y) (vI_all _) (vI_len _)) (w_store (i := 0) (A' := vI .u8 (replicate 16 0)) trivial Y Y Y Y ts23 (vI_len _) (vI_one _) (by rw [vI_len]; decide) (vI_whole _ _) (va Y Y (va Y Y (wk k8 ?_))))
  obtain rfl := some_r H
  exact cx hret Y fun f s => ⟨_, _, Res.of3 Y ⟨_, f.get _ _ Y, run_loadA (s.blk (i := 0) Y) ta23 ts23 (vI_all _) (vI_len _)⟩ (RV.t f Y) (RV.t f Y), s.ext, Y⟩
 replace H := if_f b7 H
 refine cs k5 (c_sr fun _ k9 => vm Y Y ?_)
 obtain ⟨g12, H⟩ := grd_s H
 refine w_ex (Φ := fun v => RS (FI .u8) M v ((p0.take ((16 : Int)).toNat).drop ((0 : Int)).toNat)) trivial Y (fun a w f s => r_slR underlying91 ts5 (f.ev Y) h2 Y ⟨_, f.ev Y⟩ g12.1 g12.2.1 g12.2.2) ?_
 intro v10 h11
 obtain ⟨g13, H⟩ := grd_s H
 refine wv Y (fun f s => r_s2aR underlying23 h11 (f.ev Y) g13) (wv Y (fun f s => r_loadSP ta23 ts23 h11 s.sub g13 (f.ev Y)) (w_store (i := 0) (A' := vI .u8 (lv ((p0.take ((16 : Int)).toNat).drop ((0 : Int)).toNat) 0 16)) trivial Y Y Y Y ts23 (vI_len _) (vI_one _) (by rw [vI_len]; decide) (vI_whole _ _) (va Y Y (va Y Y (wk k9 ?_)))))
 obtain rfl := some_r H
 exact cx hret Y fun f s => ⟨_, _, Res.of3 Y ⟨_, f.get _ _ Y, run_loadA (s.blk (i := 0) Y) ta23 ts23 (vI_all _) (vI_len _)⟩ (RV.t f Y) (RV.t f Y), s.ext, Y⟩
theorem backup_read_Digest.calls {M : Heap} {w : World} {b : Nat} {T : TypeId} {q : List Value} {x_ : backup_reader} {v1 : Value} (s : St (fun k => k = b) M w M (lt [.blk b (.cells (backup_reader.C x_ v1 ++ q).toArray T (0, 0))]) w) (h2 : RS (FI .u8) M v1 x_.rest_) (r : ((Vector Int 16) × backup_reader)) (H : backup_read_Digest x_ = some r) :
  Calls prog 133 [ptr b 0, .func (.func 134) #[] #[]].toArray w (PostI (fun k => k = b) M w fun M' x v => ∃ (v33 : Value), v = (.agg (vI .u8 r.1).toArray) ∧ RS (FI .u8) M' v33 r.2.rest_ ∧ x = .blk b (.cells (backup_reader.C r.2 v33 ++ q).toArray T (0, 0))) := by
 refine enterI 41 [(0, ptr b 0), (1, .func (.func 134) #[] #[])] func133 Y Y Y s ?_
 intro Q hret
 unfold backup_read_Digest at H
 refine c_sr fun _ k3 => w_allocL (A := vI .u8 (replicate 16 0)) tz23 trivial Y Y ?_
 intro b4
 refine wk k3 (c_seq fun K5 k5 => c_sr fun _ k6 => vm Y Y (wv Y (fun f s => r_nilCheck (f.ev Y)) (v_fa fa117_1 Y Y (wv Y (fun f s => r_load1 ta31 (f.ev Y) (s.blk (i := 0) Y) Y) (wv Y (fun f s => r_neq (f.ev Y) (f.ev Y)) (wk k6 (c_if Y (fun b7 => ?_) (fun b7 => ?_))))))))
 ·replace H := if_t b7 H
  refine c_sr fun _ k8 => wv Y (fun f s => r_loadA ta23 ts23 (f.ev Y) (s.blk (i := 1) Y) (vI_all _) (vI_len _)) (w_store (i := 1) (A' := vI .u8 (replicate 16 0)) trivial Y Y Y Y ts23 (vI_len _) (vI_one _) (by rw [vI_len]; decide) (vI_whole _ _) (wk k8 ?_))
  obtain rfl := some_r H
  exact cx hret Y fun f s => ⟨_, _, _, Res.of1 Y ⟨_, f.get _ _ Y, run_loadA (s.blk (i := 1) Y) ta23 ts23 (vI_all _) (vI_len _)⟩, s.sel [0] (by decide) Y, ⟨_, Y, h2, Y⟩⟩
 replace H := if_f b7 H
 refine cs k5 (c_sr fun _ k9 => vm Y Y (vm Y Y (wv Y (fun f s => r_nilCheck (f.ev Y)) (v_fa fa117_0 Y Y (wv Y (fun f s => r_load1 ta91 (f.ev Y) (s.blk (i := 0) Y) Y) ?_)))))
 obtain ⟨t10, e15, H⟩ := bnd H
 refine w_callV trivial Y Y Y (fun _ h => by cases h) (fun w s => ⟨_, _, _, Y, cf134, backup_digest.calls s x_.rest_ v1 h2 _ e15⟩) ?_
 rintro _ M12 l13 rfl
 replace h2 := h2.mono l13
 refine vm Y Y (v_extract Y Y Y (v_extract Y Y Y (v_extract Y Y Y (w_allocL (A := vI .u8 (replicate 16 0)) tz23 trivial Y Y ?_))))
 intro b16
 refine w_store (i := 2) (A' := vI .u8 t10.1) trivial Y Y Y Y ts23 (vI_len _) (vI_one _) (by rw [vI_len]; decide) (vI_whole _ _) (va Y Y (va Y Y (wk k9 (c_seq fun K17 k17 => c_sr fun _ k18 => vm Y Y (vm Y Y (wv Y (fun f s => r_eql (f.ev Y) (f.ev Y)) (vm Y Y ?_)))))))
 obtain ⟨t19, e20, H⟩ := bnd H
 refine w_callJ (b0 := b) 0 cf82 trivial Y Y Y Y (fun w s => backup_reader_check.calls (b := b) (T := T) (q := (q)) (x_ := x_) s h2 (t10.2.2 == 0) t10.2.2 _ e20) ?_
 rintro v23 M21 _ l22 ⟨v24, hv_, h25, rfl⟩
 subst hv_
 refine wv Y (fun f s => r_not (f.ev Y)) (wk k18 (c_if Y (fun b26 => ?_) (fun b26 => ?_)))
 ·replace H := if_t b26 H
  refine c_sr fun _ k27 => wv Y (fun f s => r_loadA ta23 ts23 (f.ev Y) (s.blk (i := 1) Y) (vI_all _) (vI_len _)) (w_store (i := 1) (A' := vI .u8 (replicate 16 0)) trivial Y Y Y Y ts23 (vI_len _) (vI_one _) (by rw [vI_len]; decide) (vI_whole _ _) (wk k27 ?_))
  obtain rfl := some_r H
  exact cx hret Y fun f s => ⟨_, _, _, Res.of1 Y ⟨_, f.get _ _ Y, run_loadA (s.blk (i := 1) Y) ta23 ts23 (vI_all _) (vI_len _)⟩, s.sel [0] (by decide) Y, ⟨_, Y, h25, Y⟩⟩
 replace H := if_f b26 H
 refine cs k17 (c_sr fun _ k28 => vm Y Y (vm Y Y (wv Y (fun f s => r_nilCheck (f.ev Y)) (v_fa fa117_0 Y Y (wv Y (fun f s => r_load1 ta91 (f.ev Y) (s.blk (i := 0) Y) Y) (vm Y Y ?_))))))
 obtain ⟨g31, H⟩ := grd_s H
 refine w_ex (Φ := fun v => RS (FI .u8) M21 v ((t19.2.rest_.take ((t19.2.rest_.length : Int)).toNat).drop (t10.2.1).toNat)) trivial Y (fun a w f s => r_slR underlying91 ts5 (f.ev Y) h25 ⟨_, f.ev Y⟩ rfl g31.1 g31.2.1 g31.2.2) ?_
 intro v29 h30
 refine wv Y (fun f s => r_nilCheck (f.ev Y)) (v_fa fa117_0 Y Y (w_store (i := 0) (A' := (backup_reader.C ({ t19.2 with rest_ := ((t19.2.rest_.take ((t19.2.rest_.length : Int)).toNat).drop (t10.2.1).toNat) } : backup_reader) v29 ++ q)) trivial Y Y Y h30.cells1 ts91 Y (one1 h30.one) (Nat.le_of_ble_eq_true Y) Y (wk k28 (c_sr fun _ k32 => wv Y (fun f s => r_loadA ta23 ts23 (f.ev Y) (s.blk (i := 2) Y) (vI_all _) (vI_len _)) (w_store (i := 1) (A' := vI .u8 t10.1) trivial Y Y Y Y ts23 (vI_len _) (vI_one _) (by rw [vI_len]; decide) (vI_whole _ _) (wk k32 ?_))))))
 obtain rfl := some_r H
 exact cx hret Y fun f s => ⟨_, _, _, Res.of1 Y ⟨_, f.get _ _ Y, run_loadA (s.blk (i := 1) Y) ta23 ts23 (vI_all _) (vI_len _)⟩, s.sel [0] (by decide) Y, ⟨_, Y, h30, Y⟩⟩
theorem wire_reader_1.calls {M : Heap} {w : World} {b : Nat} {x_ : Int} (s : St (fun k => k = b) M w M (lt [bk b ([.int .i64 x_]) 3]) w) (c0_ : (List Int)) (cb0_ : Nat) (v1 : Value) (h2 : RS (FI .u8) M v1 c0_) (ch0_ : M cb0_ = some (.cells ([v1]).toArray 91 (0, 0))) (r : ((Int × Int × Int) × Int)) (H : wire_reader_1 c0_ x_ = some r) :
  Calls prog 192 [ptr cb0_ 0, ptr b 0].toArray w (PostI (fun k => k = b) M w fun M' x v => v = .tuple #[.int .i64 r.1.1, .int .i64 r.1.2.1, .int .i64 r.1.2.2] ∧ x = bk b ([.int .i64 r.2]) 3) := by
 refine enterI 22 [(0, ptr cb0_ 0), (1, ptr b 0)] func192 Y Y Y s ?_
 intro Q hret
 unfold wire_reader_1 at H
 refine c_sr fun _ k3 => va Y Y (va Y Y (va Y Y (wk k3 (c_sr fun _ k4 => wv Y (fun f s => r_load1 ta91 (f.ev Y) (s.sub _ _ ch0_) Y) (wv Y (fun f s => r_load1 ta3 (f.ev Y) (s.blk (i := 0) Y) Y) ?_)))))
 obtain ⟨g7, H⟩ := grd_s H
 refine w_ex (Φ := fun v => RS (FI .u8) M v ((c0_.take ((c0_.length : Int)).toNat).drop (x_).toNat)) trivial Y (fun a w f s => r_slR underlying91 ts5 (f.ev Y) h2 ⟨_, f.ev Y⟩ rfl g7.1 g7.2.1 g7.2.2) ?_
 intro v5 h6
 obtain ⟨t8, e13, H⟩ := bnd H
 refine w_call cf170 trivial Y Y (fun w s => wire_GetInt.calls s ((c0_.take ((c0_.length : Int)).toNat).drop (x_).toNat) v5 h6 _ e13) ?_
 rintro _ M10 l11 rfl
 refine vm Y Y (v_extract Y Y Y (v_extract Y Y Y (v_extract Y Y Y (va Y Y (va Y Y (va Y Y (wk k4 (c_sr fun _ k14 => wv Y (fun f s => r_load1 ta3 (f.ev Y) (s.blk (i := 0) Y) Y) (vm Y Y (v_add Y Y Y (w_store (i := 0) (A' := [.int .i64 (i64.wrap (x_ + t8.2.1))]) trivial Y Y Y Y ts3 Y (one1 Y) (Nat.le_of_ble_eq_true Y) Y (wk k14 (c_seq fun K15 k15 => cV [([], [5]), ([], [1]), ([], [7]), ([(0, 19)], []), ([(1, 20)], []), ([(2, 21)], [])] (by kernel_rfl) (aV (pz Y fun _ f s => r_move (f.ev Y)) (aV (pz Y fun _ f s => r_load1 ta3 (f.ev Y) (s.blk (i := 0) Y) Y) (aV (pz Y fun _ f s => r_move (f.ev Y)) (aV (pz Y fun _ f s => r_assign (f.ev Y)) (aV (pz Y fun _ f s => r_assign (f.ev Y)) (aV (pz Y fun _ f s => r_assign (f.ev Y)) aV0)))))) Y fun M31 l32 => ni k15 ?_)))))))))))))
 obtain rfl := some_r H
 exact cx hret Y fun f s => ⟨_, _, _, Res.of3 Y (RV.t f Y) (RV.t f Y) (RV.t f Y), s.sel [0] (by decide) Y, Y, Y⟩
theorem wire_reader.callsC (hM : Sub M w) (v0 : Value) (p1 : Int) (hc : v0.cells = [v0].toArray) :
  Calls prog 168 [v0, .int .i64 p1].toArray w (PostI none' M w fun M' x v => ∃ b0 b1 : Nat, v = .func (.func 192) #[] #[ptr b0 0, ptr b1 0] ∧ M' b0 = some (.cells [v0].toArray 91 (0, 0)) ∧ x = .blk b1 (.cells [.int .i64 p1].toArray 3 (0, 0))) := by
 refine enterR 6 [(0, v0), (1, .int .i64 p1)] func168 Y Y Y hM ?_
 intro Q hret
 refine c_seq fun K1 k1 => c_reg (w_boxM trivial Y Y hc ?_)
 intro b0 M2 hl hb
 refine w_boxL trivial Y Y Y ?_
 intro b1
 exact va Y Y (wk k1 (c_seq fun K2 k2 => c_reg (wv Y (fun f s => r_makeFunc (f.evs Y)) (va Y Y (wk k2 (cx hret Y fun f s => ⟨_, _, _, Res.of1 Y (RV.t f Y), s.sel [0] (by decide) Y, b0, b1, Y, hb, Y⟩))))))
theorem wire_GetInts.calls (hM : Sub M w) (p0 : (List Int)) (v1 : Value) (h2 : RS (FI .u8) M v1 p0) (r : ((List Int) × Int × Int)) (H : wire_GetInts p0 = some r) :
  Calls prog 136 [v1].toArray w (Post M w fun M' v => ∃ v59, v = .tuple #[v59, .int .i64 r.2.1, .int .i64 r.2.2] ∧ RS (FI .i64) M' v59 r.1) := by
 refine enter 45 [(0, v1)] func136 Y Y Y hM ?_
 intro Q hret
 unfold wire_GetInts at H
 refine c_sr fun _ k3 => va Y Y (va Y Y (va Y Y (wk k3 (c_sr fun _ k4 => vm Y Y ?_))))
 obtain ⟨t5, e10, H⟩ := bnd H
 refine w_call cf141 trivial Y Y (fun w s => wire_count.calls s p0 v1 h2 1 _ e10) ?_
 rintro _ M7 l8 rfl
 replace h2 := h2.mono l8
 refine vm Y Y (v_extract Y Y Y (v_extract Y Y Y (v_extract Y Y Y (va Y Y (va Y Y (va Y Y (wk k4 (c_seq fun K11 k11 => c_sr fun _ k12 => vm Y Y (wv Y (fun f s => r_neq (f.ev Y) (f.ev Y)) (wk k12 (c_if Y (fun b13 => ?_) (fun b13 => ?_))))))))))))
 ·replace H := if_t b13 H
  refine c_sr fun _ k14 => vm Y Y (va Y Y (va Y Y (va Y Y (wk k14 ?_))))
  obtain rfl := some_r H
  exact cx3 hret Y Y Y Y Y ⟨_, Y, RS.none⟩
 replace H := if_f b13 H
 refine cs k11 (c_sr fun _ k15 => vm Y Y (vm Y Y (w_callR cf168 trivial Y Y (fun w s => wire_reader.callsC s v1 t5.2.1 (h2.cells1)) ?_)))
 rintro _ M16 _ l17 ⟨b18, b19, rfl, h20, rfl⟩
 replace h2 := h2.mono l17
 refine va Y Y (wk k15 (c_sr fun _ k22 => va Y Y (wk k22 (c_row0 3 1 ?_))))
 refine c_cut (fun a' w' => ∃ (x23 : (List Int)) (v24 : Value) (x25 : Int) (M26 : Heap), HLe M16 M26 ∧ Fr 45 [(6, .int .i64 x25), (9, v24)] a' ∧ St none' M w M26 (lt [dead, rowI (FI .i64) v24 3 x23]) w' ∧ wire_GetInts.j1 x23 x25 = some r) ?_ ?_
 ·refine c_seq ?_
  intro K32 k32
  refine c_reg (vm Y Y (vm Y Y (wk k32 (c_block ?_))))
  refine c_loop (fun (s33 : (Int × (List Int) × Int × Int)) a' w' => ∃ (v34 : Value) (M35 : Heap), HLe M16 M35 ∧ Fr 45 [(6, .int .i64 s33.2.2.1), (8, .func (.func 192) #[] #[ptr b18 0, ptr b19 0]), (9, v34), (25, .int .i64 t5.1), (26, .int .i64 s33.2.2.2)] a' ∧ St none' M w M35 (lt [bk b19 ([.int .i64 s33.1]) 3, rowI (FI .i64) v34 3 s33.2.1]) w') (t5.2.1, ([] : (List Int)), t5.2.1, 0) H ?_ ?_
  ·intro a w' f s
   exact ⟨.slice none 0 0, _, HLe.refl _, f.pk Y, s.selD [some 0, some 1] (by decide) Y⟩
  intro s33 y38 H r37 a w' hJ
  obtain ⟨v34, M35, l36, f, s⟩ := hJ
  refine cof f s ?_
  unfold wire_GetInts.l2 at H
  replace h2 := h2.mono l36
  replace h20 := l36 _ _ h20
  refine c_sr fun _ k39 => v_lss Y Y Y (wk k39 (c_seq fun K40 k40 => c_if Y (fun b41 => ?_) (fun b41 => ?_)))
  ·replace H := if_t b41 H
   refine cs k40 (c_seq fun K42 k42 => c_block (c_sr fun _ k43 => vm Y Y ?_))
   obtain ⟨t44, e45, H⟩ := bnd H
   refine w_callVJ (b0 := b19) (cap := [ptr b18 0, ptr b19 0]) (vs := []) 0 cf192 trivial Y Y Y (fun _ h => by cases h) Y Y (fun w s => wire_reader_1.calls s p0 b18 v1 h2 h20 _ e45) ?_
   rintro _ M46 _ l47 ⟨rfl, rfl⟩
   refine vm Y Y (v_extract Y Y Y (v_extract Y Y Y (v_extract Y Y Y (va Y Y (va Y Y (va Y Y (wk k43 (c_seq fun K48 k48 => c_sr fun _ k49 => vm Y Y (wv Y (fun f s => r_neq (f.ev Y) (f.ev Y)) (wk k49 (c_if Y (fun b50 => ?_) (fun b50 => ?_))))))))))))
   ·replace H := if_t b50 H
    refine c_sr fun _ k51 => vm Y Y (va Y Y (va Y Y (va Y Y (wk k51 ?_))))
    obtain rfl := (r37 _ (Option.some.inj H).symm)
    exact cx3 hret Y Y Y Y Y ⟨_, Y, RS.none⟩
   replace H := if_f b50 H
   refine cs k48 (c_reg (vm Y Y (vm Y Y (w_bsl (F := (FI .i64)) (es := ([t44.1.1] : List Int)) (xs := [.tmp 38]) underlying70 te3 trivial Y Y Y Y Y (by decide) ?_))))
   intro v52 M53 l54 h55 c56
   obtain ⟨g57, H⟩ := grd_s H
   refine w_app (F := (FI .i64)) (m2 := ([t44.1.1] : List Int)) (i := 1) underlying70 te3 underlying70 (.inl ⟨_, Y⟩) trivial Y Y Y Y (Src.rs (FI.one _) h55) g57 ?_
   intro v58
   exact vm Y Y (va Y Y (va Y Y (wk k42 (c_reg (v_add Y Y Y (vm Y Y (w_nil fun a w' f s => ⟨_, (some_r H).symm, v58, _, l36.trans (l47.trans l54), f.pk Y, s.selD [some 0, some 1] (by decide) Y⟩)))))))
  replace H := if_f b41 H
  replace H := map_inr H r37
  refine c_exit ?_
  intro a w' f s
  exact ⟨s33.2.1, v34, s33.2.2.1, _, l36, f.pk Y, s.selD [none, some 1] (by decide) Y, H⟩
 rintro a w' ⟨x23, v24, x25, M26, l27, f, s, H⟩
 refine cof f s ?_
 unfold wire_GetInts.j1 at H
 refine c_sr fun _ k28 => vm Y Y (vm Y Y (va Y Y (va Y Y (va Y Y (wk k28 ?_)))))
 obtain rfl := some_r H
 refine c_ret (n_give 1 Y (fun _ h => h) ?_)
 intro M29 l30 h31
 intro a w' f s
 exact hret _ (.inl Y) a w' f.df ⟨_, _, Res.of3 Y (RV.t f Y) (RV.t f Y) (RV.t f Y), s.ext, ⟨_, Y, h31⟩⟩
theorem backup_read_LLint.calls {M : Heap} {w : World} {b : Nat} {T : TypeId} {q : List Value} {x_ : backup_reader} {v1 : Value} (s : St (fun k => k = b) M w M (lt [.blk b (.cells (backup_reader.C x_ v1 ++ q).toArray T (0, 0))]) w) (h2 : RS (FI .u8) M v1 x_.rest_) (r : ((List Int) × backup_reader)) (H : backup_read_LLint x_ = some r) :
  Calls prog 135 [ptr b 0, .func (.func 136) #[] #[]].toArray w (PostI (fun k => k = b) M w fun M' x v => ∃ (v34 : Value) (v36 : Value), v = v34 ∧ RS (FI .i64) M' v34 r.1 ∧ RS (FI .u8) M' v36 r.2.rest_ ∧ x = .blk b (.cells (backup_reader.C r.2 v36 ++ q).toArray T (0, 0))) := by
 refine enterI 41 [(0, ptr b 0), (1, .func (.func 136) #[] #[])] func135 Y Y Y s ?_
 intro Q hret
 unfold backup_read_LLint at H
 refine c_sr fun _ k3 => va Y Y (wk k3 (c_seq fun K4 k4 => c_sr fun _ k5 => vm Y Y (wv Y (fun f s => r_nilCheck (f.ev Y)) (v_fa fa117_1 Y Y (wv Y (fun f s => r_load1 ta31 (f.ev Y) (s.blk (i := 0) Y) Y) (wv Y (fun f s => r_neq (f.ev Y) (f.ev Y)) (wk k5 (c_if Y (fun b6 => ?_) (fun b6 => ?_)))))))))
 ·replace H := if_t b6 H
  refine c_sr fun _ k7 => vm Y Y (va Y Y (wk k7 ?_))
  obtain rfl := some_r H
  exact cx hret Y fun f s => ⟨_, _, _, Res.of1 Y (RV.t f Y), s.sel [0] (by decide) Y, ⟨_, _, Y, RS.none, h2, Y⟩⟩
 replace H := if_f b6 H
 refine cs k4 (c_sr fun _ k8 => vm Y Y (vm Y Y (wv Y (fun f s => r_nilCheck (f.ev Y)) (v_fa fa117_0 Y Y (wv Y (fun f s => r_load1 ta91 (f.ev Y) (s.blk (i := 0) Y) Y) ?_)))))
 obtain ⟨t9, e14, H⟩ := bnd H
 refine w_callV trivial Y Y Y (fun _ h => by cases h) (fun w s => ⟨_, _, _, Y, cf136, wire_GetInts.calls s x_.rest_ v1 h2 _ e14⟩) ?_
 rintro v33 M11 l12 ⟨v15, hv_, h16⟩
 replace hv_ := hv_.symm
 subst hv_
 replace h2 := h2.mono l12
 refine vm Y Y (v_extract Y Y Y (v_extract Y Y Y (v_extract Y Y Y (va Y Y (va Y Y (va Y Y (wk k8 (c_seq fun K17 k17 => c_sr fun _ k18 => vm Y Y (vm Y Y (wv Y (fun f s => r_eql (f.ev Y) (f.ev Y)) (vm Y Y ?_)))))))))))
 obtain ⟨t19, e20, H⟩ := bnd H
 refine w_callJ (b0 := b) 0 cf82 trivial Y Y Y Y (fun w s => backup_reader_check.calls (b := b) (T := T) (q := (q)) (x_ := x_) s h2 (t9.2.2 == 0) t9.2.2 _ e20) ?_
 rintro v23 M21 _ l22 ⟨v24, hv_, h25, rfl⟩
 subst hv_
 replace h16 := h16.mono l22
 refine wv Y (fun f s => r_not (f.ev Y)) (wk k18 (c_if Y (fun b26 => ?_) (fun b26 => ?_)))
 ·replace H := if_t b26 H
  refine c_sr fun _ k27 => vm Y Y (va Y Y (wk k27 ?_))
  obtain rfl := some_r H
  exact cx hret Y fun f s => ⟨_, _, _, Res.of1 Y (RV.t f Y), s.sel [0] (by decide) Y, ⟨_, _, Y, RS.none, h25, Y⟩⟩
 replace H := if_f b26 H
 refine cs k17 (c_sr fun _ k28 => vm Y Y (vm Y Y (wv Y (fun f s => r_nilCheck (f.ev Y)) (v_fa fa117_0 Y Y (wv Y (fun f s => r_load1 ta91 (f.ev Y) (s.blk (i := 0) Y) Y) (vm Y Y ?_))))))
 obtain ⟨g31, H⟩ := grd_s H
 refine w_ex (Φ := fun v => RS (FI .u8) M21 v ((t19.2.rest_.take ((t19.2.rest_.length : Int)).toNat).drop (t9.2.1).toNat)) trivial Y (fun a w f s => r_slR underlying91 ts5 (f.ev Y) h25 ⟨_, f.ev Y⟩ rfl g31.1 g31.2.1 g31.2.2) ?_
 intro v29 h30
 refine wv Y (fun f s => r_nilCheck (f.ev Y)) (v_fa fa117_0 Y Y (w_store (i := 0) (A' := (backup_reader.C ({ t19.2 with rest_ := ((t19.2.rest_.take ((t19.2.rest_.length : Int)).toNat).drop (t9.2.1).toNat) } : backup_reader) v29 ++ q)) trivial Y Y Y h30.cells1 ts91 Y (one1 h30.one) (Nat.le_of_ble_eq_true Y) Y (wk k28 (c_sr fun _ k32 => vm Y Y (va Y Y (wk k32 ?_))))))
 obtain rfl := some_r H
 exact cx hret Y fun f s => ⟨_, _, _, Res.of1 Y (RV.t f Y), s.sel [0] (by decide) Y, ⟨_, _, Y, h16, h30, Y⟩⟩
theorem backup_whole_string.calls {M : Heap} {w : World} {b : Nat} {T : TypeId} {q : List Value} {x_ : backup_reader} {v1 : Value} (s : St (fun k => k = b) M w M (lt [.blk b (.cells (backup_reader.C x_ v1 ++ q).toArray T (0, 0))]) w) (h2 : RS (FI .u8) M v1 x_.rest_) (r : ((List UInt8) × backup_reader)) (H : backup_whole_string x_ = some r) :
  Calls prog 137 [ptr b 0, .func (.func 132) #[] #[]].toArray w (PostI (fun k => k = b) M w fun M' x v => ∃ (v21 : Value), v = (str r.1) ∧ RS (FI .u8) M' v21 r.2.rest_ ∧ x = .blk b (.cells (backup_reader.C r.2 v21 ++ q).toArray T (0, 0))) := by
 refine enterI 18 [(0, ptr b 0), (1, .func (.func 132) #[] #[])] func137 Y Y Y s ?_
 intro Q hret
 unfold backup_whole_string at H
 refine c_sr fun _ k3 => va Y Y (wk k3 (c_sr fun _ k4 => vm Y Y (vm Y Y ?_)))
 obtain ⟨t5, e6, H⟩ := bnd H
 refine w_callJ (b0 := b) 0 cf131 trivial Y Y Y Y (fun w s => backup_read_string.calls (b := b) (T := T) (q := (q)) (x_ := x_) s h2 _ e6) ?_
 rintro v9 M7 _ l8 ⟨v10, hv_, h11, rfl⟩
 subst hv_
 refine va Y Y (wk k4 (c_sr fun _ k12 => vm Y Y (vm Y Y (wv Y (fun f s => r_nilCheck (f.ev Y)) (v_fa fa117_0 Y Y (wv Y (fun f s => r_load1 ta91 (f.ev Y) (s.blk (i := 0) Y) Y) (wv Y (fun f s => r_lenR underlying91 h11 (f.ev Y)) (wv Y (fun f s => r_eql (f.ev Y) (f.ev Y)) ?_))))))))
 obtain ⟨t13, e14, H⟩ := bnd H
 refine w_callJ (b0 := b) 0 cf82 trivial Y Y Y Y (fun w s => backup_reader_check.calls (b := b) (T := T) (q := (q)) (x_ := t5.2) s h11 ((t5.2.rest_.length : Int) == 0) 6 _ e14) ?_
 rintro v17 M15 _ l16 ⟨v18, hv_, h19, rfl⟩
 subst hv_
 refine wk k12 (c_sr fun _ k20 => vm Y Y (va Y Y (wk k20 ?_)))
 obtain rfl := some_r H
 exact cx hret Y fun f s => ⟨_, _, _, Res.of1 Y (RV.t f Y), s.sel [0] (by decide) Y, ⟨_, Y, h19, Y⟩⟩
end Go.Cu
