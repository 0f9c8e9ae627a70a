/- Each Go function comes to its pure function; condition: that one is defined there. -/
import Derived.Test.YtakfalfggmgcfaaDoorK1
import Derived.Shelf.Strings.Repeat
import Derived.Shelf.Strings.OnBuilder
import Derived.Ground.NamesProg
import Derived.Lib.Agree
import Derived.Test.YtakfalfggmgcfaaDoorProg
import Derived.KernelRfl
set_option linter.unusedVariables false
set_option linter.unusedSimpArgs false
set_option maxHeartbeats 4000000
set_option maxRecDepth 20000
namespace Go.Cu
open Go.Proofs Go.Proofs.Tryd Go.Shelf
theorem ts34 : TSize Tryd.prog 34 1 := by unfold TSize; kernel_rfl
theorem fa36_7 : FA Tryd.prog 36 7 37 := FA.mk Tryd.underlying36 rfl ts34 (by decide) rfl
theorem ta34 : TAgg Tryd.prog 34 false := by unfold TAgg; kernel_rfl
theorem ts55 : TSize Tryd.prog 55 9 := by unfold TSize; kernel_rfl
theorem ts9 : TSize Tryd.prog 9 1 := by unfold TSize; kernel_rfl
theorem fa55_2 : FA Tryd.prog 55 2 2 := FA.mk Tryd.underlying55 rfl ts9 (by decide) rfl
theorem ta9 : TAgg Tryd.prog 9 false := by unfold TAgg; kernel_rfl
theorem fa36_6 : FA Tryd.prog 36 6 36 := FA.mk Tryd.underlying36 rfl ts9 (by decide) rfl
theorem ts5 : TSize Tryd.prog 5 1 := by unfold TSize; kernel_rfl
theorem fz5 : FZ Tryd.prog 5 (FI .u8) (0 : Int) := ⟨ts5, ⟨1, by unfold TBytes; kernel_rfl, by decide⟩, ⟨(.int .u8 0), by unfold TZero; kernel_rfl, rfl⟩⟩
theorem ts3 : TSize Tryd.prog 3 1 := by unfold TSize; kernel_rfl
theorem fa55_1 : FA Tryd.prog 55 1 1 := FA.mk Tryd.underlying55 rfl ts3 (by decide) rfl
theorem ta3 : TAgg Tryd.prog 3 false := by unfold TAgg; kernel_rfl
theorem cf124 : CF Tryd.prog 124 := CF.mk Tryd.func124 (by kernel_rfl) (by kernel_rfl)
theorem fa55_3 : FA Tryd.prog 55 3 3 := FA.mk Tryd.underlying55 rfl ts3 (by decide) rfl
theorem fa55_4 : FA Tryd.prog 55 4 4 := FA.mk Tryd.underlying55 rfl ts3 (by decide) rfl
theorem fa55_5 : FA Tryd.prog 55 5 5 := FA.mk Tryd.underlying55 rfl ts3 (by decide) rfl
theorem fa55_6 : FA Tryd.prog 55 6 6 := FA.mk Tryd.underlying55 rfl ts3 (by decide) rfl
theorem fa55_7 : FA Tryd.prog 55 7 7 := FA.mk Tryd.underlying55 rfl ts3 (by decide) rfl
theorem cf137 : CF Tryd.prog 137 := CF.mk Tryd.func137 (by kernel_rfl) (by kernel_rfl)
theorem cf126 : CF Tryd.prog 126 := CF.mk Tryd.func126 (by kernel_rfl) (by kernel_rfl)
theorem cf125 : CF Tryd.prog 125 := CF.mk Tryd.func125 (by kernel_rfl) (by kernel_rfl)
theorem ta55 : TAgg Tryd.prog 55 true := by unfold TAgg; kernel_rfl
theorem cf91 : CF Tryd.prog 91 := CF.mk Tryd.func91 (by kernel_rfl) (by kernel_rfl)
theorem fa55_0 : FA Tryd.prog 55 0 0 := FA.mk Tryd.underlying55 rfl ts3 (by decide) rfl
theorem tz55 : TZero Tryd.prog 55 (.agg #[.int .i64 0, .int .i64 0, str [], .int .i64 0, .int .i64 0, .int .i64 0, .int .i64 0, .int .i64 0, .bool false]) := by unfold TZero; kernel_rfl
theorem fa36_1 : FA Tryd.prog 36 1 16 := FA.mk Tryd.underlying36 rfl ts3 (by decide) rfl
theorem fa36_2 : FA Tryd.prog 36 2 17 := FA.mk Tryd.underlying36 rfl ts3 (by decide) rfl
theorem fa36_3 : FA Tryd.prog 36 3 18 := FA.mk Tryd.underlying36 rfl ts3 (by decide) rfl
theorem te3 : TEl Tryd.prog 3 1 := ⟨ts3, ⟨8, by unfold TBytes; kernel_rfl, by decide⟩, ⟨(.int .i64 0), by unfold TZero; kernel_rfl, rfl⟩⟩
theorem cf92 : CF Tryd.prog 92 := CF.mk Tryd.func92 (by kernel_rfl) (by kernel_rfl)
theorem fa36_4 : FA Tryd.prog 36 4 19 := FA.mk Tryd.underlying36 rfl ts3 (by decide) rfl
theorem te5 : TEl Tryd.prog 5 1 := ⟨ts5, ⟨1, by unfold TBytes; kernel_rfl, by decide⟩, ⟨(.int .u8 0), by unfold TZero; kernel_rfl, rfl⟩⟩
theorem cf84 : CF Tryd.prog 84 := CF.mk Tryd.func84 (by kernel_rfl) (by kernel_rfl)
theorem ts66 : TSize Tryd.prog 66 1 := by unfold TSize; kernel_rfl
theorem ta66 : TAgg Tryd.prog 66 false := by unfold TAgg; kernel_rfl
theorem cf127 : CF Tryd.prog 127 := CF.mk Tryd.func127 (by kernel_rfl) (by kernel_rfl)
theorem ts33 : TSize Tryd.prog 33 16 := by unfold TSize; kernel_rfl
theorem fa36_0 : FA Tryd.prog 36 0 0 := FA.mk Tryd.underlying36 rfl ts33 (by decide) rfl
theorem cf95 : CF Tryd.prog 95 := CF.mk Tryd.func95 (by kernel_rfl) (by kernel_rfl)
theorem fa36_5 : FA Tryd.prog 36 5 20 := FA.mk Tryd.underlying36 rfl ts33 (by decide) rfl
theorem cf38 : CF Tryd.prog 38 := CF.mk Tryd.func38 (by kernel_rfl) (by kernel_rfl)
theorem te66 : TEl Tryd.prog 66 1 := ⟨ts66, ⟨24, by unfold TBytes; kernel_rfl, by decide⟩, ⟨(.slice none 0 0), by unfold TZero; kernel_rfl, rfl⟩⟩
theorem cf94 : CF Tryd.prog 94 := CF.mk Tryd.func94 (by kernel_rfl) (by kernel_rfl)
theorem tz123 : TZero Tryd.prog 123 (.agg #[.int .u32 0, .int .u32 0, .int .u32 0, .int .u32 0, .int .u32 0, .int .u32 0, .int .u32 0, .int .u32 0, .int .u8 0, .int .u8 0, .int .u8 0, .int .u8 0, .int .u8 0, .int .u8 0, .int .u8 0, .int .u8 0, .int .u8 0, .int .u8 0, .int .u8 0, .int .u8 0, .int .u8 0, .int .u8 0, .int .u8 0, .int .u8 0, .int .u8 0, .int .u8 0, .int .u8 0, .int .u8 0, .int .u8 0, .int .u8 0, .int .u8 0, .int .u8 0, .int .u8 0, .int .u8 0, .int .u8 0, .int .u8 0, .int .u8 0, .int .u8 0, .int .u8 0, .int .u8 0, .int .u8 0, .int .u8 0, .int .u8 0, .int .u8 0, .int .u8 0, .int .u8 0, .int .u8 0, .int .u8 0, .int .u8 0, .int .u8 0, .int .u8 0, .int .u8 0, .int .u8 0, .int .u8 0, .int .u8 0, .int .u8 0, .int .u8 0, .int .u8 0, .int .u8 0, .int .u8 0, .int .u8 0, .int .u8 0, .int .u8 0, .int .u8 0, .int .u8 0, .int .u8 0, .int .u8 0, .int .u8 0, .int .u8 0, .int .u8 0, .int .u8 0, .int .u8 0, .int .u64 0]) := by unfold TZero; kernel_rfl
theorem ts123 : TSize Tryd.prog 123 73 := by unfold TSize; kernel_rfl
theorem ta123 : TAgg Tryd.prog 123 true := by unfold TAgg; kernel_rfl
theorem ta5 : TAgg Tryd.prog 5 false := by unfold TAgg; kernel_rfl
theorem ts70 : TSize Tryd.prog 70 1 := by unfold TSize; kernel_rfl
theorem ta70 : TAgg Tryd.prog 70 false := by unfold TAgg; kernel_rfl
theorem cf139 : CF Tryd.prog 139 := CF.mk Tryd.func139 (by kernel_rfl) (by kernel_rfl)
theorem ta157 : TAgg Tryd.prog 157 true := by unfold TAgg; kernel_rfl
theorem ts157 : TSize Tryd.prog 157 64 := by unfold TSize; kernel_rfl
theorem tz157 : TZero Tryd.prog 157 (.agg #[.int .u32 0, .int .u32 0, .int .u32 0, .int .u32 0, .int .u32 0, .int .u32 0, .int .u32 0, .int .u32 0, .int .u32 0, .int .u32 0, .int .u32 0, .int .u32 0, .int .u32 0, .int .u32 0, .int .u32 0, .int .u32 0, .int .u32 0, .int .u32 0, .int .u32 0, .int .u32 0, .int .u32 0, .int .u32 0, .int .u32 0, .int .u32 0, .int .u32 0, .int .u32 0, .int .u32 0, .int .u32 0, .int .u32 0, .int .u32 0, .int .u32 0, .int .u32 0, .int .u32 0, .int .u32 0, .int .u32 0, .int .u32 0, .int .u32 0, .int .u32 0, .int .u32 0, .int .u32 0, .int .u32 0, .int .u32 0, .int .u32 0, .int .u32 0, .int .u32 0, .int .u32 0, .int .u32 0, .int .u32 0, .int .u32 0, .int .u32 0, .int .u32 0, .int .u32 0, .int .u32 0, .int .u32 0, .int .u32 0, .int .u32 0, .int .u32 0, .int .u32 0, .int .u32 0, .int .u32 0, .int .u32 0, .int .u32 0, .int .u32 0, .int .u32 0]) := by unfold TZero; kernel_rfl
theorem cf132 : CF Tryd.prog 132 := CF.mk Tryd.func132 (by kernel_rfl) (by kernel_rfl)
theorem ta175 : TAgg Tryd.prog 175 true := by unfold TAgg; kernel_rfl
theorem ts175 : TSize Tryd.prog 175 4 := by unfold TSize; kernel_rfl
theorem tz175 : TZero Tryd.prog 175 (.agg #[.int .u32 0, .int .u32 0, .int .u32 0, .int .u32 0]) := by unfold TZero; kernel_rfl
theorem cf133 : CF Tryd.prog 133 := CF.mk Tryd.func133 (by kernel_rfl) (by kernel_rfl)
theorem ta120 : TAgg Tryd.prog 120 true := by unfold TAgg; kernel_rfl
theorem ts120 : TSize Tryd.prog 120 8 := by unfold TSize; kernel_rfl
theorem tz120 : TZero Tryd.prog 120 (.agg #[.int .u32 0, .int .u32 0, .int .u32 0, .int .u32 0, .int .u32 0, .int .u32 0, .int .u32 0, .int .u32 0]) := by unfold TZero; kernel_rfl
theorem ts121 : TSize Tryd.prog 121 1 := by unfold TSize; kernel_rfl
theorem fa123_2 : FA Tryd.prog 123 2 72 := FA.mk Tryd.underlying123 rfl ts121 (by decide) rfl
theorem ta121 : TAgg Tryd.prog 121 false := by unfold TAgg; kernel_rfl
theorem ts119 : TSize Tryd.prog 119 64 := by unfold TSize; kernel_rfl
theorem fa123_1 : FA Tryd.prog 123 1 8 := FA.mk Tryd.underlying123 rfl ts119 (by decide) rfl
theorem fa123_0 : FA Tryd.prog 123 0 0 := FA.mk Tryd.underlying123 rfl ts120 (by decide) rfl
theorem cf114 : CF Tryd.prog 114 := CF.mk Tryd.func114 (by kernel_rfl) (by kernel_rfl)
theorem cf79 : CF Tryd.prog 79 := CF.mk Tryd.func79 (by kernel_rfl) (by kernel_rfl)
theorem ta117 : TAgg Tryd.prog 117 true := by unfold TAgg; kernel_rfl
theorem ts117 : TSize Tryd.prog 117 32 := by unfold TSize; kernel_rfl
theorem tz117 : TZero Tryd.prog 117 (.agg #[.int .u8 0, .int .u8 0, .int .u8 0, .int .u8 0, .int .u8 0, .int .u8 0, .int .u8 0, .int .u8 0, .int .u8 0, .int .u8 0, .int .u8 0, .int .u8 0, .int .u8 0, .int .u8 0, .int .u8 0, .int .u8 0, .int .u8 0, .int .u8 0, .int .u8 0, .int .u8 0, .int .u8 0, .int .u8 0, .int .u8 0, .int .u8 0, .int .u8 0, .int .u8 0, .int .u8 0, .int .u8 0, .int .u8 0, .int .u8 0, .int .u8 0, .int .u8 0]) := by unfold TZero; kernel_rfl
theorem cf78 : CF Tryd.prog 78 := CF.mk Tryd.func78 (by kernel_rfl) (by kernel_rfl)
theorem cf80 : CF Tryd.prog 80 := CF.mk Tryd.func80 (by kernel_rfl) (by kernel_rfl)
theorem tz119 : TZero Tryd.prog 119 (.agg #[.int .u8 0, .int .u8 0, .int .u8 0, .int .u8 0, .int .u8 0, .int .u8 0, .int .u8 0, .int .u8 0, .int .u8 0, .int .u8 0, .int .u8 0, .int .u8 0, .int .u8 0, .int .u8 0, .int .u8 0, .int .u8 0, .int .u8 0, .int .u8 0, .int .u8 0, .int .u8 0, .int .u8 0, .int .u8 0, .int .u8 0, .int .u8 0, .int .u8 0, .int .u8 0, .int .u8 0, .int .u8 0, .int .u8 0, .int .u8 0, .int .u8 0, .int .u8 0, .int .u8 0, .int .u8 0, .int .u8 0, .int .u8 0, .int .u8 0, .int .u8 0, .int .u8 0, .int .u8 0, .int .u8 0, .int .u8 0, .int .u8 0, .int .u8 0, .int .u8 0, .int .u8 0, .int .u8 0, .int .u8 0, .int .u8 0, .int .u8 0, .int .u8 0, .int .u8 0, .int .u8 0, .int .u8 0, .int .u8 0, .int .u8 0, .int .u8 0, .int .u8 0, .int .u8 0, .int .u8 0, .int .u8 0, .int .u8 0, .int .u8 0, .int .u8 0]) := by unfold TZero; kernel_rfl
theorem cf76 : CF Tryd.prog 76 := CF.mk Tryd.func76 (by kernel_rfl) (by kernel_rfl)
theorem cf77 : CF Tryd.prog 77 := CF.mk Tryd.func77 (by kernel_rfl) (by kernel_rfl)
theorem cf36 : CF Tryd.prog 36 := CF.mk Tryd.func36 (by kernel_rfl) (by kernel_rfl)
theorem fz9 : FZ Tryd.prog 9 FS ([] : List UInt8) := ⟨ts9, ⟨16, by unfold TBytes; kernel_rfl, by decide⟩, ⟨(str []), by unfold TZero; kernel_rfl, rfl⟩⟩
theorem ts4 : TSize Tryd.prog 4 1 := by unfold TSize; kernel_rfl
theorem fa55_8 : FA Tryd.prog 55 8 8 := FA.mk Tryd.underlying55 rfl ts4 (by decide) rfl
theorem ta4 : TAgg Tryd.prog 4 false := by unfold TAgg; kernel_rfl
theorem te9 : TEl Tryd.prog 9 1 := ⟨ts9, ⟨16, by unfold TBytes; kernel_rfl, by decide⟩, ⟨(str []), by unfold TZero; kernel_rfl, rfl⟩⟩
theorem cf96 : CF Tryd.prog 96 := CF.mk Tryd.func96 (by kernel_rfl) (by kernel_rfl)
theorem cf85 : CF Tryd.prog 85 := CF.mk Tryd.func85 (by kernel_rfl) (by kernel_rfl)
theorem ta131 : TAgg Tryd.prog 131 true := by unfold TAgg; kernel_rfl
theorem ts131 : TSize Tryd.prog 131 16 := by unfold TSize; kernel_rfl
theorem cf118 : CF Tryd.prog 118 := CF.mk Tryd.func118 (by kernel_rfl) (by kernel_rfl)
theorem tz131 : TZero Tryd.prog 131 (.agg #[.int .u32 0, .int .u32 0, .int .u32 0, .int .u32 0, .int .u32 0, .int .u32 0, .int .u32 0, .int .u32 0, .int .u32 0, .int .u32 0, .int .u32 0, .int .u32 0, .int .u32 0, .int .u32 0, .int .u32 0, .int .u32 0]) := by unfold TZero; kernel_rfl
theorem cf134 : CF Tryd.prog 134 := CF.mk Tryd.func134 (by kernel_rfl) (by kernel_rfl)
theorem cf86 : CF Tryd.prog 86 := CF.mk Tryd.func86 (by kernel_rfl) (by kernel_rfl)
theorem cf119 : CF Tryd.prog 119 := CF.mk Tryd.func119 (by kernel_rfl) (by kernel_rfl)
theorem cf120 : CF Tryd.prog 120 := CF.mk Tryd.func120 (by kernel_rfl) (by kernel_rfl)
theorem cf87 : CF Tryd.prog 87 := CF.mk Tryd.func87 (by kernel_rfl) (by kernel_rfl)
theorem cf13 : CF Tryd.prog 13 := CF.mk Tryd.func13 (by kernel_rfl) (by kernel_rfl)
theorem cf39 : CF Tryd.prog 39 := CF.mk Tryd.func39 (by kernel_rfl) (by kernel_rfl)
theorem cf40 : CF Tryd.prog 40 := CF.mk Tryd.func40 (by kernel_rfl) (by kernel_rfl)
theorem ta36 : TAgg Tryd.prog 36 true := by unfold TAgg; kernel_rfl
theorem ts36 : TSize Tryd.prog 36 38 := by unfold TSize; kernel_rfl
theorem cf46 : CF Tryd.prog 46 := CF.mk Tryd.func46 (by kernel_rfl) (by kernel_rfl)
theorem cf48 : CF Tryd.prog 48 := CF.mk Tryd.func48 (by kernel_rfl) (by kernel_rfl)
theorem cf49 : CF Tryd.prog 49 := CF.mk Tryd.func49 (by kernel_rfl) (by kernel_rfl)
theorem cf50 : CF Tryd.prog 50 := CF.mk Tryd.func50 (by kernel_rfl) (by kernel_rfl)
theorem cf15 : CF Tryd.prog 15 := CF.mk Tryd.func15 (by kernel_rfl) (by kernel_rfl)
theorem ts24 : TSize Tryd.prog 24 1 := by unfold TSize; kernel_rfl
theorem fa80_1 : FA Tryd.prog 80 1 1 := FA.mk Tryd.underlying80 rfl ts24 (by decide) rfl
theorem ta24 : TAgg Tryd.prog 24 false := by unfold TAgg; kernel_rfl
theorem cf129 : CF Tryd.prog 129 := CF.mk Tryd.func129 (by kernel_rfl) (by kernel_rfl)
theorem cf105 : CF Tryd.prog 105 := CF.mk Tryd.func105 (by kernel_rfl) (by kernel_rfl)
theorem fa80_0 : FA Tryd.prog 80 0 0 := FA.mk Tryd.underlying80 rfl ts66 (by decide) rfl
theorem cf98 : CF Tryd.prog 98 := CF.mk Tryd.func98 (by kernel_rfl) (by kernel_rfl)
theorem cf55 : CF Tryd.prog 55 := CF.mk Tryd.func55 (by kernel_rfl) (by kernel_rfl)
theorem ta33 : TAgg Tryd.prog 33 true := by unfold TAgg; kernel_rfl
theorem tz33 : TZero Tryd.prog 33 (.agg #[.int .u8 0, .int .u8 0, .int .u8 0, .int .u8 0, .int .u8 0, .int .u8 0, .int .u8 0, .int .u8 0, .int .u8 0, .int .u8 0, .int .u8 0, .int .u8 0, .int .u8 0, .int .u8 0, .int .u8 0, .int .u8 0]) := by unfold TZero; kernel_rfl
theorem cf100 : CF Tryd.prog 100 := CF.mk Tryd.func100 (by kernel_rfl) (by kernel_rfl)
theorem cf138 : CF Tryd.prog 138 := CF.mk Tryd.func138 (by kernel_rfl) (by kernel_rfl)
theorem cf128 : CF Tryd.prog 128 := CF.mk Tryd.func128 (by kernel_rfl) (by kernel_rfl)
theorem cf102 : CF Tryd.prog 102 := CF.mk Tryd.func102 (by kernel_rfl) (by kernel_rfl)
theorem cf97 : CF Tryd.prog 97 := CF.mk Tryd.func97 (by kernel_rfl) (by kernel_rfl)
theorem ts80 : TSize Tryd.prog 80 2 := by unfold TSize; kernel_rfl
theorem fa82_0 : FA Tryd.prog 82 0 0 := FA.mk Tryd.underlying82 rfl ts80 (by decide) rfl
theorem fa82_1 : FA Tryd.prog 82 1 2 := FA.mk Tryd.underlying82 rfl ts9 (by decide) rfl
theorem tz80 : TZero Tryd.prog 80 (.agg #[.slice none 0 0, .int .i64 0]) := by unfold TZero; kernel_rfl
theorem cf99 : CF Tryd.prog 99 := CF.mk Tryd.func99 (by kernel_rfl) (by kernel_rfl)
theorem cf101 : CF Tryd.prog 101 := CF.mk Tryd.func101 (by kernel_rfl) (by kernel_rfl)
theorem cf103 : CF Tryd.prog 103 := CF.mk Tryd.func103 (by kernel_rfl) (by kernel_rfl)
theorem tz36 : TZero Tryd.prog 36 (.agg #[.int .u8 0, .int .u8 0, .int .u8 0, .int .u8 0, .int .u8 0, .int .u8 0, .int .u8 0, .int .u8 0, .int .u8 0, .int .u8 0, .int .u8 0, .int .u8 0, .int .u8 0, .int .u8 0, .int .u8 0, .int .u8 0, .int .i64 0, .int .i64 0, .int .i64 0, .int .i64 0, .int .u8 0, .int .u8 0, .int .u8 0, .int .u8 0, .int .u8 0, .int .u8 0, .int .u8 0, .int .u8 0, .int .u8 0, .int .u8 0, .int .u8 0, .int .u8 0, .int .u8 0, .int .u8 0, .int .u8 0, .int .u8 0, str [], .slice none 0 0]) := by unfold TZero; kernel_rfl
theorem cf53 : CF Tryd.prog 53 := CF.mk Tryd.func53 (by kernel_rfl) (by kernel_rfl)
theorem cf104 : CF Tryd.prog 104 := CF.mk Tryd.func104 (by kernel_rfl) (by kernel_rfl)
theorem cf52 : CF Tryd.prog 52 := CF.mk Tryd.func52 (by kernel_rfl) (by kernel_rfl)
theorem cf106 : CF Tryd.prog 106 := CF.mk Tryd.func106 (by kernel_rfl) (by kernel_rfl)
theorem tz82 : TZero Tryd.prog 82 (.agg #[.slice none 0 0, .int .i64 0, str []]) := by unfold TZero; kernel_rfl
theorem cf51 : CF Tryd.prog 51 := CF.mk Tryd.func51 (by kernel_rfl) (by kernel_rfl)
theorem cf17 : CF Tryd.prog 17 := CF.mk Tryd.func17 (by kernel_rfl) (by kernel_rfl)
theorem cf54 : CF Tryd.prog 54 := CF.mk Tryd.func54 (by kernel_rfl) (by kernel_rfl)
theorem te55 : TEl Tryd.prog 55 9 := ⟨ts55, ⟨80, by unfold TBytes; kernel_rfl, by decide⟩, ⟨(.agg #[.int .i64 0, .int .i64 0, str [], .int .i64 0, .int .i64 0, .int .i64 0, .int .i64 0, .int .i64 0, .bool false]), by unfold TZero; kernel_rfl, rfl⟩⟩
theorem eqi33 : Eqi Tryd.prog 2 33 (fun v : (Vector Int 16) => vI .u8 v) := Eqi.arr Tryd.underlying33 Tryd.underlying5 ta5 ts5
theorem eq33 : EQ Tryd.prog 33 (fun v : (Vector Int 16) => .agg (vI .u8 v).toArray) := EQ.mk (by kernel_rfl) eqi33 (by decide)
theorem eqi55 : Eqi Tryd.prog 3 55 Key.C := Eqi.st (k := 2) Tryd.underlying55 (by kernel_rfl) fun d i j w => (eqf_cons rfl (part1 ta3 rfl) (part1 ta3 rfl) (run_equalIn_int Tryd.underlying3 w) (eqf_cons rfl (part1 ta3 rfl) (part1 ta3 rfl) (run_equalIn_int Tryd.underlying3 w) (eqf_cons rfl (part1 ta9 rfl) (part1 ta9 rfl) (run_equalIn_str Tryd.underlying9 w) (eqf_cons rfl (part1 ta3 rfl) (part1 ta3 rfl) (run_equalIn_int Tryd.underlying3 w) (eqf_cons rfl (part1 ta3 rfl) (part1 ta3 rfl) (run_equalIn_int Tryd.underlying3 w) (eqf_cons rfl (part1 ta3 rfl) (part1 ta3 rfl) (run_equalIn_int Tryd.underlying3 w) (eqf_cons rfl (part1 ta3 rfl) (part1 ta3 rfl) (run_equalIn_int Tryd.underlying3 w) (eqf_cons rfl (part1 ta3 rfl) (part1 ta3 rfl) (run_equalIn_int Tryd.underlying3 w) (eqf_cons rfl (part1 ta4 rfl) (part1 ta4 rfl) (run_equalIn_bool Tryd.underlying4 w) eqf_nil))))))))).trans (congrArg (Result.ok · w) (by rw [Bool.eq_iff_iff]; cases i; cases j; simp))
theorem eq55 : EQ Tryd.prog 55 (fun x : Key => .agg (Key.C x).toArray) := EQ.mk (by kernel_rfl) eqi55 (by decide)
theorem fa44_1 : FA Tryd.prog 44 1 1 := FA.mk Tryd.underlying44 rfl ts34 (by decide) rfl
theorem cf58 : CF Tryd.prog 58 := CF.mk Tryd.func58 (by kernel_rfl) (by kernel_rfl)
theorem cf66 : CF Tryd.prog 66 := CF.mk Tryd.func66 (by kernel_rfl) (by kernel_rfl)
theorem ta44 : TAgg Tryd.prog 44 true := by unfold TAgg; kernel_rfl
theorem ts44 : TSize Tryd.prog 44 2 := by unfold TSize; kernel_rfl
theorem cf25 : CF Tryd.prog 25 := CF.mk Tryd.func25 (by kernel_rfl) (by kernel_rfl)
theorem cf59 : CF Tryd.prog 59 := CF.mk Tryd.func59 (by kernel_rfl) (by kernel_rfl)
theorem cf21 : CF Tryd.prog 21 := CF.mk Tryd.func21 (by kernel_rfl) (by kernel_rfl)
theorem cf22 : CF Tryd.prog 22 := CF.mk Tryd.func22 (by kernel_rfl) (by kernel_rfl)
theorem tz44 : TZero Tryd.prog 44 (.agg #[.int .i64 0, .slice none 0 0]) := by unfold TZero; kernel_rfl
theorem cf23 : CF Tryd.prog 23 := CF.mk Tryd.func23 (by kernel_rfl) (by kernel_rfl)
theorem cf56 : CF Tryd.prog 56 := CF.mk Tryd.func56 (by kernel_rfl) (by kernel_rfl)
theorem fa44_0 : FA Tryd.prog 44 0 0 := FA.mk Tryd.underlying44 rfl ts3 (by decide) rfl
theorem cf57 : CF Tryd.prog 57 := CF.mk Tryd.func57 (by kernel_rfl) (by kernel_rfl)
theorem cf24 : CF Tryd.prog 24 := CF.mk Tryd.func24 (by kernel_rfl) (by kernel_rfl)
theorem cf67 : CF Tryd.prog 67 := CF.mk Tryd.func67 (by kernel_rfl) (by kernel_rfl)
theorem cf108 : CF Tryd.prog 108 := CF.mk Tryd.func108 (by kernel_rfl) (by kernel_rfl)
theorem cf64 : CF Tryd.prog 64 := CF.mk Tryd.func64 (by kernel_rfl) (by kernel_rfl)
theorem cf32 : CF Tryd.prog 32 := CF.mk Tryd.func32 (by kernel_rfl) (by kernel_rfl)
theorem tz3 : TZero Tryd.prog 3 (.int .i64 0) := by unfold TZero; kernel_rfl
theorem cf65 : CF Tryd.prog 65 := CF.mk Tryd.func65 (by kernel_rfl) (by kernel_rfl)
theorem ta94 : TAgg Tryd.prog 94 true := by unfold TAgg; kernel_rfl
theorem ts94 : TSize Tryd.prog 94 34 := by unfold TSize; kernel_rfl
theorem fa94_2 : FA Tryd.prog 94 2 32 := FA.mk Tryd.underlying94 rfl ts3 (by decide) rfl
theorem fa94_3 : FA Tryd.prog 94 3 33 := FA.mk Tryd.underlying94 rfl ts3 (by decide) rfl
theorem tz94 : TZero Tryd.prog 94 (.agg #[.int .u8 0, .int .u8 0, .int .u8 0, .int .u8 0, .int .u8 0, .int .u8 0, .int .u8 0, .int .u8 0, .int .u8 0, .int .u8 0, .int .u8 0, .int .u8 0, .int .u8 0, .int .u8 0, .int .u8 0, .int .u8 0, .int .u8 0, .int .u8 0, .int .u8 0, .int .u8 0, .int .u8 0, .int .u8 0, .int .u8 0, .int .u8 0, .int .u8 0, .int .u8 0, .int .u8 0, .int .u8 0, .int .u8 0, .int .u8 0, .int .u8 0, .int .u8 0, .int .i64 0, .int .i64 0]) := by unfold TZero; kernel_rfl
theorem eqi94 : Eqi Tryd.prog 3 94 restore_Place.C := Eqi.st (k := 2) Tryd.underlying94 (by kernel_rfl) fun d i j w => (eqf_cons rfl (partA ta33 ts33 (restore_Place.d0_16 _)) (partA ta33 ts33 (restore_Place.d0_16 _)) (eqi33 d _ _ w) (eqf_cons rfl (partA ta33 ts33 (restore_Place.d16_16 _)) (partA ta33 ts33 (restore_Place.d16_16 _)) (eqi33 d _ _ w) (eqf_cons rfl (part1 ta3 (restore_Place.g32 _)) (part1 ta3 (restore_Place.g32 _)) (run_equalIn_int Tryd.underlying3 w) (eqf_cons rfl (part1 ta3 (restore_Place.g33 _)) (part1 ta3 (restore_Place.g33 _)) (run_equalIn_int Tryd.underlying3 w) eqf_nil)))).trans (congrArg (Result.ok · w) (by rw [Bool.eq_iff_iff]; cases i; cases j; simp))
theorem eq94 : EQ Tryd.prog 94 (fun x : restore_Place => .agg (restore_Place.C x).toArray) := EQ.mk (by kernel_rfl) eqi94 (by decide)
theorem cf69 : CF Tryd.prog 69 := CF.mk Tryd.func69 (by kernel_rfl) (by kernel_rfl)
theorem cf35 : CF Tryd.prog 35 := CF.mk Tryd.func35 (by kernel_rfl) (by kernel_rfl)
theorem cf30 : CF Tryd.prog 30 := CF.mk Tryd.func30 (by kernel_rfl) (by kernel_rfl)
theorem cf62 : CF Tryd.prog 62 := CF.mk Tryd.func62 (by kernel_rfl) (by kernel_rfl)
theorem cf63 : CF Tryd.prog 63 := CF.mk Tryd.func63 (by kernel_rfl) (by kernel_rfl)
theorem cf34 : CF Tryd.prog 34 := CF.mk Tryd.func34 (by kernel_rfl) (by kernel_rfl)
theorem cf68 : CF Tryd.prog 68 := CF.mk Tryd.func68 (by kernel_rfl) (by kernel_rfl)
theorem cf28 : CF Tryd.prog 28 := CF.mk Tryd.func28 (by kernel_rfl) (by kernel_rfl)
theorem cf29 : CF Tryd.prog 29 := CF.mk Tryd.func29 (by kernel_rfl) (by kernel_rfl)
theorem cf31 : CF Tryd.prog 31 := CF.mk Tryd.func31 (by kernel_rfl) (by kernel_rfl)
theorem cf33 : CF Tryd.prog 33 := CF.mk Tryd.func33 (by kernel_rfl) (by kernel_rfl)
/-- The package variables hold what they are given. -/
structure Gl (M : Heap) : Prop where
 g1 : ∃ T f, M 1 = some (.cells (vI .u32 hash_constants).toArray T f)
theorem Gl.mono {M M' : Heap} (h : Gl M) (hM : HLe M M') : Gl M' := ⟨h.g1.imp fun _ h => h.imp fun _ h => hM _ _ h⟩
theorem keys_within.calls {M : Heap} {w : World} (hM : Sub M w) (p0 : Int) (p1 : Int) (p2 : Int) (r : Bool) (H : keys_within p0 p1 p2 = some r) :
  Calls Tryd.prog 124 [(.int .i64 p0), (.int .i64 p1), (.int .i64 p2)].toArray w (Post M w fun M' v => v = (.bool r)) := by
 refine enter 15 [(0, (.int .i64 p0)), (1, (.int .i64 p1)), (2, (.int .i64 p2))] Tryd.func124 rfl rfl rfl hM ?_
 intro Q hret
 unfold keys_within at H
 refine c_sr fun _ hK1 => ?_
 refine va rfl rfl ?_
 refine w_nil (hK1 _ _ _ ?_)
 obtain ⟨t2, H1, H⟩ := bnd H
 refine c_cut (fun a' w' => ∃ (M3 : Heap), HLe M M3 ∧ Fr 15 [(6, (.bool t2))] a' ∧ St none' M w M3 (lt []) w') ?_ ?_
 ·replace H := H1
  clear H1
  refine c_reg ?_
  refine vm rfl rfl ?_
  refine vm rfl rfl ?_
  refine wv rfl (fun hf hs => r_leq (hf.ev rfl) (hf.ev rfl)) ?_
  refine vm rfl rfl ?_
  by_cases b5 : (decide (p1 ≤ p0)) = true
  ·replace H := if_t b5 H
   refine wg b5 rfl rfl rfl (fun hf hs => r_move (hf.ev rfl)) ?_
   refine wg b5 rfl rfl rfl (fun hf hs => r_move (hf.ev rfl)) ?_
   refine wg b5 rfl rfl rfl (fun hf hs => r_leq (hf.ev rfl) (hf.ev rfl)) ?_
   refine wv rfl (fun hf hs => r_pickT (hf.ev rfl) b5 (hf.ev rfl)) ?_
   refine va rfl rfl ?_
   obtain rfl := some_r H
   exact w_nil fun a w' hf hs => ⟨_, (HLe.refl _), (hf.pick (pk pk0 rfl)), hs.sel [] (by decide) rfl⟩
  replace b5 := Bool.eq_false_iff.2 b5
  replace H := if_f b5 H
  refine wq b5 rfl rfl rfl ?_
  refine wq b5 rfl rfl rfl ?_
  refine wq b5 rfl rfl rfl ?_
  refine wv rfl (fun hf hs => r_pickF (hf.ev rfl) b5 (hf.ev rfl)) ?_
  refine va rfl rfl ?_
  obtain rfl := some_r H
  exact w_nil fun a w' hf hs => ⟨_, (HLe.refl _), (hf.pick (pk pk0 rfl)), hs.sel [] (by decide) rfl⟩
 clear H1
 rintro a w' ⟨M3, l4, hf, hs⟩
 refine c_of (c := (Cx.mk Tryd.prog 15 none' M w)) ?_ hf hs
 clear hf hs
 obtain rfl := some_r H
 exact c_ret fun a w' hf hs => hret _ (.inl rfl) a w' hf.df ⟨_, _, Res.of1 rfl (RV.t hf rfl), hs.ext, rfl⟩
theorem keys_Valid.calls {M : Heap} {w : World} (hM : Sub M w) (p0 : Key) (r : Bool) (H : keys_Valid p0 = some r) :
  Calls Tryd.prog 91 [(.agg (Key.C p0).toArray)].toArray w (Post M w fun M' v => v = (.bool r)) := by
 refine enter 40 [(0, (.agg (Key.C p0).toArray))] Tryd.func91 rfl rfl rfl hM ?_
 intro Q hret
 unfold keys_Valid at H
 refine c_sr fun _ hK1 => ?_
 refine w_boxM trivial rfl rfl rfl ?_
 intro b2 M3 l4 h5
 refine va rfl rfl ?_
 refine w_nil (hK1 _ _ _ ?_)
 obtain ⟨t6, H1, H⟩ := bnd H
 refine c_cut (fun a' w' => ∃ (M7 : Heap), HLe M3 M7 ∧ Fr 40 [(2, (.bool t6))] a' ∧ St none' M w M7 (lt []) w') ?_ ?_
 ·replace H := H1
  clear H1
  refine c_reg ?_
  refine v_fa fa55_1 rfl rfl ?_
  refine wv rfl (fun hf hs => r_load1 ta3 (hf.ev rfl) (hs.sub _ _ h5) rfl) ?_
  obtain ⟨t9, e14, H⟩ := bnd H
  refine w_call cf124 trivial rfl rfl (fun w hs => keys_within.calls hs p0.Type_ (0 : Int) (31 : Int) _ e14) ?_
  rintro _ M11 l12 rfl
  replace h5 := l12 _ _ h5
  refine vm rfl rfl ?_
  by_cases b15 : t9 = true
  ·replace H := if_t b15 H
   refine wg b15 rfl rfl rfl (fun hf hs => r_fa fa55_2 (hf.ev rfl)) ?_
   refine wg b15 rfl rfl rfl (fun hf hs => r_load1 ta9 (hf.ev rfl) (hs.sub _ _ h5) rfl) ?_
   refine wg b15 rfl rfl rfl (fun hf hs => r_slen Tryd.underlying9 (hf.ev rfl)) ?_
   refine wg b15 rfl rfl rfl (fun hf hs => r_eql (hf.ev rfl) (hf.ev rfl)) ?_
   refine wv rfl (fun hf hs => r_pickT (hf.ev rfl) b15 (hf.ev rfl)) ?_
   refine vm rfl rfl ?_
   by_cases b16 : ((p0.Value.length : Int) == (32 : Int)) = true
   ·replace H := if_t b16 H
    refine wg b16 rfl rfl rfl (fun hf hs => r_fa fa55_3 (hf.ev rfl)) ?_
    refine wg b16 rfl rfl rfl (fun hf hs => r_load1 ta3 (hf.ev rfl) (hs.sub _ _ h5) rfl) ?_
    refine wg b16 rfl rfl rfl (fun hf hs => r_andNot (hf.ev rfl) (hf.ev rfl)) ?_
    refine wg b16 rfl rfl rfl (fun hf hs => r_eql (hf.ev rfl) (hf.ev rfl)) ?_
    refine wv rfl (fun hf hs => r_pickT (hf.ev rfl) b16 (hf.ev rfl)) ?_
    refine vm rfl rfl ?_
    by_cases b17 : ((bits .andNot .i64 p0.Uses (956 : Int)) == (0 : Int)) = true
    ·replace H := if_t b17 H
     refine wg b17 rfl rfl rfl (fun hf hs => r_fa fa55_4 (hf.ev rfl)) ?_
     refine wg b17 rfl rfl rfl (fun hf hs => r_load1 ta3 (hf.ev rfl) (hs.sub _ _ h5) rfl) ?_
     refine wg b17 rfl rfl rfl (fun hf hs => r_fa fa55_5 (hf.ev rfl)) ?_
     refine wg b17 rfl rfl rfl (fun hf hs => r_load1 ta3 (hf.ev rfl) (hs.sub _ _ h5) rfl) ?_
     obtain ⟨t18, e23, H⟩ := bnd H
     refine w_call cf124 (Wnt.of rfl rfl b17) rfl rfl (fun w hs => keys_within.calls hs p0.Start (0 : Int) p0.End _ e23) ?_
     rintro _ M20 l21 rfl
     replace h5 := l21 _ _ h5
     refine wv rfl (fun hf hs => r_pickT (hf.ev rfl) b17 (hf.ev rfl)) ?_
     refine vm rfl rfl ?_
     by_cases b24 : t18 = true
     ·replace H := if_t b24 H
      refine wg b24 rfl rfl rfl (fun hf hs => r_fa fa55_5 (hf.ev rfl)) ?_
      refine wg b24 rfl rfl rfl (fun hf hs => r_load1 ta3 (hf.ev rfl) (hs.sub _ _ h5) rfl) ?_
      obtain ⟨t25, e30, H⟩ := bnd H
      refine w_call cf124 (Wnt.of rfl rfl b24) rfl rfl (fun w hs => keys_within.calls hs p0.End (0 : Int) (1099511627776 : Int) _ e30) ?_
      rintro _ M27 l28 rfl
      replace h5 := l28 _ _ h5
      refine wv rfl (fun hf hs => r_pickT (hf.ev rfl) b24 (hf.ev rfl)) ?_
      refine vm rfl rfl ?_
      by_cases b31 : t25 = true
      ·replace H := if_t b31 H
       refine wg b31 rfl rfl rfl (fun hf hs => r_fa fa55_6 (hf.ev rfl)) ?_
       refine wg b31 rfl rfl rfl (fun hf hs => r_load1 ta3 (hf.ev rfl) (hs.sub _ _ h5) rfl) ?_
       obtain ⟨t32, e37, H⟩ := bnd H
       refine w_call cf124 (Wnt.of rfl rfl b31) rfl rfl (fun w hs => keys_within.calls hs p0.Version (1 : Int) (2147483647 : Int) _ e37) ?_
       rintro _ M34 l35 rfl
       replace h5 := l35 _ _ h5
       refine wv rfl (fun hf hs => r_pickT (hf.ev rfl) b31 (hf.ev rfl)) ?_
       refine vm rfl rfl ?_
       by_cases b38 : t32 = true
       ·replace H := if_t b38 H
        refine wg b38 rfl rfl rfl (fun hf hs => r_fa fa55_7 (hf.ev rfl)) ?_
        refine wg b38 rfl rfl rfl (fun hf hs => r_load1 ta3 (hf.ev rfl) (hs.sub _ _ h5) rfl) ?_
        obtain ⟨t39, e44, H⟩ := bnd H
        refine w_call cf124 (Wnt.of rfl rfl b38) rfl rfl (fun w hs => keys_within.calls hs p0.Parent (0 : Int) (2147483647 : Int) _ e44) ?_
        rintro _ M41 l42 rfl
        refine wv rfl (fun hf hs => r_pickT (hf.ev rfl) b38 (hf.ev rfl)) ?_
        refine va rfl rfl ?_
        obtain rfl := some_r H
        exact w_nil fun a w' hf hs => ⟨_, (l12.trans (l21.trans (l28.trans (l35.trans l42)))), (hf.pick (pk pk0 rfl)), hs.sel [] (by decide) rfl⟩
       replace b38 := Bool.eq_false_iff.2 b38
       replace H := if_f b38 H
       refine wq b38 rfl rfl rfl ?_
       refine wq b38 rfl rfl rfl ?_
       refine wq b38 rfl rfl rfl ?_
       refine wv rfl (fun hf hs => r_pickF (hf.ev rfl) b38 (hf.ev rfl)) ?_
       refine va rfl rfl ?_
       obtain rfl := some_r H
       exact w_nil fun a w' hf hs => ⟨_, (l12.trans (l21.trans (l28.trans l35))), (hf.pick (pk pk0 rfl)), hs.sel [] (by decide) rfl⟩
      replace b31 := Bool.eq_false_iff.2 b31
      replace H := if_f b31 H
      refine wq b31 rfl rfl rfl ?_
      refine wq b31 rfl rfl rfl ?_
      refine wq b31 rfl rfl rfl ?_
      refine wv rfl (fun hf hs => r_pickF (hf.ev rfl) b31 (hf.ev rfl)) ?_
      refine vm rfl rfl ?_
      refine wq rfl rfl rfl rfl ?_
      refine wq rfl rfl rfl rfl ?_
      refine wq rfl rfl rfl rfl ?_
      refine wv rfl (fun hf hs => r_pickF (hf.ev rfl) rfl (hf.ev rfl)) ?_
      refine va rfl rfl ?_
      obtain rfl := some_r H
      exact w_nil fun a w' hf hs => ⟨_, (l12.trans (l21.trans l28)), (hf.pick (pk pk0 rfl)), hs.sel [] (by decide) rfl⟩
     replace b24 := Bool.eq_false_iff.2 b24
     replace H := if_f b24 H
     refine wq b24 rfl rfl rfl ?_
     refine wq b24 rfl rfl rfl ?_
     refine wq b24 rfl rfl rfl ?_
     refine wv rfl (fun hf hs => r_pickF (hf.ev rfl) b24 (hf.ev rfl)) ?_
     refine vm rfl rfl ?_
     refine wq rfl rfl rfl rfl ?_
     refine wq rfl rfl rfl rfl ?_
     refine wq rfl rfl rfl rfl ?_
     refine wv rfl (fun hf hs => r_pickF (hf.ev rfl) rfl (hf.ev rfl)) ?_
     refine vm rfl rfl ?_
     refine wq rfl rfl rfl rfl ?_
     refine wq rfl rfl rfl rfl ?_
     refine wq rfl rfl rfl rfl ?_
     refine wv rfl (fun hf hs => r_pickF (hf.ev rfl) rfl (hf.ev rfl)) ?_
     refine va rfl rfl ?_
     obtain rfl := some_r H
     exact w_nil fun a w' hf hs => ⟨_, (l12.trans l21), (hf.pick (pk pk0 rfl)), hs.sel [] (by decide) rfl⟩
    replace b17 := Bool.eq_false_iff.2 b17
    replace H := if_f b17 H
    refine wq b17 rfl rfl rfl ?_
    refine wq b17 rfl rfl rfl ?_
    refine wq b17 rfl rfl rfl ?_
    refine wq b17 rfl rfl rfl ?_
    refine wq b17 rfl rfl rfl ?_
    refine wv rfl (fun hf hs => r_pickF (hf.ev rfl) b17 (hf.ev rfl)) ?_
    refine vm rfl rfl ?_
    refine wq rfl rfl rfl rfl ?_
    refine wq rfl rfl rfl rfl ?_
    refine wq rfl rfl rfl rfl ?_
    refine wv rfl (fun hf hs => r_pickF (hf.ev rfl) rfl (hf.ev rfl)) ?_
    refine vm rfl rfl ?_
    refine wq rfl rfl rfl rfl ?_
    refine wq rfl rfl rfl rfl ?_
    refine wq rfl rfl rfl rfl ?_
    refine wv rfl (fun hf hs => r_pickF (hf.ev rfl) rfl (hf.ev rfl)) ?_
    refine vm rfl rfl ?_
    refine wq rfl rfl rfl rfl ?_
    refine wq rfl rfl rfl rfl ?_
    refine wq rfl rfl rfl rfl ?_
    refine wv rfl (fun hf hs => r_pickF (hf.ev rfl) rfl (hf.ev rfl)) ?_
    refine va rfl rfl ?_
    obtain rfl := some_r H
    exact w_nil fun a w' hf hs => ⟨_, l12, (hf.pick (pk pk0 rfl)), hs.sel [] (by decide) rfl⟩
   replace b16 := Bool.eq_false_iff.2 b16
   replace H := if_f b16 H
   refine wq b16 rfl rfl rfl ?_
   refine wq b16 rfl rfl rfl ?_
   refine wq b16 rfl rfl rfl ?_
   refine wq b16 rfl rfl rfl ?_
   refine wv rfl (fun hf hs => r_pickF (hf.ev rfl) b16 (hf.ev rfl)) ?_
   refine vm rfl rfl ?_
   refine wq rfl rfl rfl rfl ?_
   refine wq rfl rfl rfl rfl ?_
   refine wq rfl rfl rfl rfl ?_
   refine wq rfl rfl rfl rfl ?_
   refine wq rfl rfl rfl rfl ?_
   refine wv rfl (fun hf hs => r_pickF (hf.ev rfl) rfl (hf.ev rfl)) ?_
   refine vm rfl rfl ?_
   refine wq rfl rfl rfl rfl ?_
   refine wq rfl rfl rfl rfl ?_
   refine wq rfl rfl rfl rfl ?_
   refine wv rfl (fun hf hs => r_pickF (hf.ev rfl) rfl (hf.ev rfl)) ?_
   refine vm rfl rfl ?_
   refine wq rfl rfl rfl rfl ?_
   refine wq rfl rfl rfl rfl ?_
   refine wq rfl rfl rfl rfl ?_
   refine wv rfl (fun hf hs => r_pickF (hf.ev rfl) rfl (hf.ev rfl)) ?_
   refine vm rfl rfl ?_
   refine wq rfl rfl rfl rfl ?_
   refine wq rfl rfl rfl rfl ?_
   refine wq rfl rfl rfl rfl ?_
   refine wv rfl (fun hf hs => r_pickF (hf.ev rfl) rfl (hf.ev rfl)) ?_
   refine va rfl rfl ?_
   obtain rfl := some_r H
   exact w_nil fun a w' hf hs => ⟨_, l12, (hf.pick (pk pk0 rfl)), hs.sel [] (by decide) rfl⟩
  replace b15 := Bool.eq_false_iff.2 b15
  replace H := if_f b15 H
  refine wq b15 rfl rfl rfl ?_
  refine wq b15 rfl rfl rfl ?_
  refine wq b15 rfl rfl rfl ?_
  refine wq b15 rfl rfl rfl ?_
  refine wv rfl (fun hf hs => r_pickF (hf.ev rfl) b15 (hf.ev rfl)) ?_
  refine vm rfl rfl ?_
  refine wq rfl rfl rfl rfl ?_
  refine wq rfl rfl rfl rfl ?_
  refine wq rfl rfl rfl rfl ?_
  refine wq rfl rfl rfl rfl ?_
  refine wv rfl (fun hf hs => r_pickF (hf.ev rfl) rfl (hf.ev rfl)) ?_
  refine vm rfl rfl ?_
  refine wq rfl rfl rfl rfl ?_
  refine wq rfl rfl rfl rfl ?_
  refine wq rfl rfl rfl rfl ?_
  refine wq rfl rfl rfl rfl ?_
  refine wq rfl rfl rfl rfl ?_
  refine wv rfl (fun hf hs => r_pickF (hf.ev rfl) rfl (hf.ev rfl)) ?_
  refine vm rfl rfl ?_
  refine wq rfl rfl rfl rfl ?_
  refine wq rfl rfl rfl rfl ?_
  refine wq rfl rfl rfl rfl ?_
  refine wv rfl (fun hf hs => r_pickF (hf.ev rfl) rfl (hf.ev rfl)) ?_
  refine vm rfl rfl ?_
  refine wq rfl rfl rfl rfl ?_
  refine wq rfl rfl rfl rfl ?_
  refine wq rfl rfl rfl rfl ?_
  refine wv rfl (fun hf hs => r_pickF (hf.ev rfl) rfl (hf.ev rfl)) ?_
  refine vm rfl rfl ?_
  refine wq rfl rfl rfl rfl ?_
  refine wq rfl rfl rfl rfl ?_
  refine wq rfl rfl rfl rfl ?_
  refine wv rfl (fun hf hs => r_pickF (hf.ev rfl) rfl (hf.ev rfl)) ?_
  refine va rfl rfl ?_
  obtain rfl := some_r H
  exact w_nil fun a w' hf hs => ⟨_, l12, (hf.pick (pk pk0 rfl)), hs.sel [] (by decide) rfl⟩
 clear H1
 rintro a w' ⟨M7, l8, hf, hs⟩
 refine c_of (c := (Cx.mk Tryd.prog 40 none' M w)) ?_ hf hs
 clear hf hs
 obtain rfl := some_r H
 exact c_ret fun a w' hf hs => hret _ (.inl rfl) a w' hf.df ⟨_, _, Res.of1 rfl (RV.t hf rfl), hs.ext, rfl⟩
theorem backup_within_1.calls {M : Heap} {w : World} (hM : Sub M w) (p0 : Int) (c0_ : Int) (cb0_ : Nat) (ch0_ : M cb0_ = some (.cells ([(.int .i64 c0_)]).toArray 3 (0, 0))) (r : Bool) (H : backup_within_1 p0 c0_ = some r) :
  Calls Tryd.prog 126 [(.int .i64 p0), (ptr cb0_ 0)].toArray w (Post M w fun M' v => v = (.bool r)) := by
 refine enter 11 [(0, (.int .i64 p0)), (1, (ptr cb0_ 0))] Tryd.func126 rfl rfl rfl hM ?_
 intro Q hret
 unfold backup_within_1 at H
 refine c_sr fun _ hK1 => ?_
 refine va rfl rfl ?_
 refine w_nil (hK1 _ _ _ ?_)
 obtain ⟨t2, H1, H⟩ := bnd H
 refine c_cut (fun a' w' => ∃ (M3 : Heap), HLe M M3 ∧ Fr 11 [(3, (.bool t2))] a' ∧ St none' M w M3 (lt []) w') ?_ ?_
 ·replace H := H1
  clear H1
  refine c_reg ?_
  refine vm rfl rfl ?_
  refine v_lss rfl rfl rfl ?_
  refine vm rfl rfl ?_
  by_cases b5 : (decide (p0 < (0 : Int))) = true
  ·replace H := if_t b5 H
   refine wq b5 rfl rfl rfl ?_
   refine wq b5 rfl rfl rfl ?_
   refine wq b5 rfl rfl rfl ?_
   refine wv rfl (fun hf hs => r_pickT (hf.ev rfl) b5 (hf.ev rfl)) ?_
   refine va rfl rfl ?_
   obtain rfl := some_r H
   exact w_nil fun a w' hf hs => ⟨_, (HLe.refl _), (hf.pick (pk pk0 rfl)), hs.sel [] (by decide) rfl⟩
  replace b5 := Bool.eq_false_iff.2 b5
  replace H := if_f b5 H
  refine wg b5 rfl rfl rfl (fun hf hs => r_move (hf.ev rfl)) ?_
  refine wg b5 rfl rfl rfl (fun hf hs => r_load1 ta3 (hf.ev rfl) (hs.sub _ _ ch0_) rfl) ?_
  refine wg b5 rfl rfl rfl (fun hf hs => r_gtr (hf.ev rfl) (hf.ev rfl)) ?_
  refine wv rfl (fun hf hs => r_pickF (hf.ev rfl) b5 (hf.ev rfl)) ?_
  refine va rfl rfl ?_
  obtain rfl := some_r H
  exact w_nil fun a w' hf hs => ⟨_, (HLe.refl _), (hf.pick (pk pk0 rfl)), hs.sel [] (by decide) rfl⟩
 clear H1
 rintro a w' ⟨M3, l4, hf, hs⟩
 refine c_of (c := (Cx.mk Tryd.prog 11 none' M w)) ?_ hf hs
 clear hf hs
 obtain rfl := some_r H
 exact c_ret fun a w' hf hs => hret _ (.inl rfl) a w' hf.df ⟨_, _, Res.of1 rfl (RV.t hf rfl), hs.ext, rfl⟩
theorem slices_IndexFunc_int.calls {M : Heap} {w : World} (hM : Sub M w) (p0 : (List Int)) (v1 : Value) (h2 : RS (FI .i64) M v1 p0) (p1 : (Int → Option Bool)) (p1v : Value) (p1h : FnS Tryd.prog M p1v (Value.int .i64) Value.bool p1) (r : Int) (H : slices_IndexFunc_int p0 p1 = some r) :
  Calls Tryd.prog 137 [v1, p1v].toArray w (Post M w fun M' v => v = (.int .i64 r)) := by
 refine enter 19 [(0, v1), (1, p1v)] Tryd.func137 rfl rfl rfl hM ?_
 intro Q hret
 unfold slices_IndexFunc_int at H
 refine c_sr fun _ hK3 => ?_
 refine va rfl rfl ?_
 refine w_nil (hK3 _ _ _ ?_)
 refine c_cut (fun a' w' => ∃ (M4 : Heap), HLe M M4 ∧ Fr 19 [] a' ∧ St none' M w M4 (lt []) w' ∧ slices_IndexFunc_int.j1  = some r) ?_ ?_
 ·refine c_seq ?_
  intro K7 hK7
  refine c_reg ?_
  refine vm rfl rfl ?_
  refine wv rfl (fun hf hs => r_lenR Tryd.underlying51 h2 (hf.ev rfl)) ?_
  refine vm rfl rfl ?_
  refine w_nil (hK7 _ _ _ ?_)
  refine c_block ?_
  refine c_loop (fun (s8 : Int) a' w' => ∃ (M9 : Heap), HLe M M9 ∧ Fr 19 [(0, v1), (1, p1v), (7, (.int .i64 (p0.length : Int))), (8, (.int .i64 s8))] a' ∧ St none' M w M9 (lt []) w') (0 : Int) H ?_ ?_
  ·intro a w' hf hs
   exact ⟨_, HLe.refl _, (hf.pick (pk (pk (pk (pk pk0 rfl) rfl) rfl) rfl)), hs.selD [] (by decide) rfl⟩
  clear H
  intro s8 y12 H r11 a w' hJ
  obtain ⟨M9, l10, hf, hs⟩ := hJ
  refine c_of (c := (Cx.mk Tryd.prog 19 none' M w)) ?_ hf hs
  unfold slices_IndexFunc_int.l2 at H
  clear hf hs
  replace h2 := h2.mono l10
  replace p1h := p1h.mono l10
  refine c_sr fun _ hK13 => ?_
  refine v_lss rfl rfl rfl ?_
  refine w_nil (hK13 _ _ _ ?_)
  refine c_seq fun K14 hK14 => ?_
  refine c_if rfl (fun b15 => ?_) (fun b15 => ?_)
  ·replace H := if_t b15 H
   refine c_skip (hK14 _ _ _ ?_)
   refine c_seq fun K16 hK16 => ?_
   refine c_block ?_
   refine c_sr fun _ hK17 => ?_
   refine vm rfl rfl ?_
   refine va rfl rfl ?_
   refine w_nil (hK17 _ _ _ ?_)
   refine c_sr fun _ hK18 => ?_
   refine vm rfl rfl ?_
   refine vm rfl rfl ?_
   refine vm rfl rfl ?_
   obtain ⟨g19, H⟩ := grd_s H
   refine wv rfl (fun hf hs => r_iR Tryd.underlying51 ts3 h2 (hf.ev rfl) (hf.ev rfl) g19.1 g19.2) ?_
   refine wv rfl (fun hf hs => r_loadE1 ta3 h2 hs.sub g19.1 g19.2 (hf.ev rfl) rfl) ?_
   obtain ⟨t20, e25, H⟩ := bnd H
   refine w_callV trivial rfl rfl rfl (fun _ h => by cases h) (fun w hs => p1h _ w _ _ (HLe.refl _) hs e25) ?_
   rintro _ M22 l23 rfl
   refine w_nil (hK18 _ _ _ ?_)
   refine c_if rfl (fun b26 => ?_) (fun b26 => ?_)
   ·replace H := if_t b26 H
    refine c_sr fun _ hK27 => ?_
    refine vm rfl rfl ?_
    refine va rfl rfl ?_
    refine w_nil (hK27 _ _ _ ?_)
    obtain rfl := (r11 _ (Option.some.inj H).symm)
    exact c_ret fun a w' hf hs => hret _ (.inl rfl) a w' hf.df ⟨_, _, Res.of1 rfl (RV.t hf rfl), hs.ext, rfl⟩
   replace H := if_f b26 H
   refine c_skip (hK16 _ _ _ ?_)
   refine c_reg ?_
   refine v_add rfl rfl rfl ?_
   refine vm rfl rfl ?_
   exact w_nil fun a w' hf hs => ⟨_, (some_r H).symm, _, l10.trans l23, (hf.pick (pk (pk (pk (pk pk0 rfl) rfl) rfl) rfl)), hs.selD [] (by decide) rfl⟩
  replace H := if_f b15 H
  replace H := map_inr H r11
  refine c_exit ?_
  intro a w' hf hs
  exact ⟨_, l10, hf.nil, hs.selD [] (by decide) rfl, H⟩
 rintro a w' ⟨M4, l5, hf, hs, H⟩
 refine c_of (c := (Cx.mk Tryd.prog 19 none' M w)) ?_ hf hs
 unfold slices_IndexFunc_int.j1 at H
 clear hf hs
 refine c_sr fun _ hK6 => ?_
 refine va rfl rfl ?_
 refine w_nil (hK6 _ _ _ ?_)
 obtain rfl := some_r H
 exact c_ret fun a w' hf hs => hret _ (.inl rfl) a w' hf.df ⟨_, _, Res.of1 rfl (RV.t hf rfl), hs.ext, rfl⟩
theorem slices_ContainsFunc_int.calls {M : Heap} {w : World} (hM : Sub M w) (p0 : (List Int)) (v1 : Value) (h2 : RS (FI .i64) M v1 p0) (p1 : (Int → Option Bool)) (p1v : Value) (p1h : FnS Tryd.prog M p1v (Value.int .i64) Value.bool p1) (r : Bool) (H : slices_ContainsFunc_int p0 p1 = some r) :
  Calls Tryd.prog 125 [v1, p1v].toArray w (Post M w fun M' v => v = (.bool r)) := by
 refine enter 9 [(0, v1), (1, p1v)] Tryd.func125 rfl rfl rfl hM ?_
 intro Q hret
 unfold slices_ContainsFunc_int at H
 refine c_sr fun _ hK3 => ?_
 refine va rfl rfl ?_
 refine w_nil (hK3 _ _ _ ?_)
 refine c_sr fun _ hK4 => ?_
 refine vm rfl rfl ?_
 refine vm rfl rfl ?_
 obtain ⟨t5, e10, H⟩ := bnd H
 refine w_call cf137 trivial rfl rfl (fun w hs => slices_IndexFunc_int.calls hs p0 v1 h2 p1 p1v p1h _ e10) ?_
 rintro _ M7 l8 rfl
 refine wv rfl (fun hf hs => r_geq (hf.ev rfl) (hf.ev rfl)) ?_
 refine va rfl rfl ?_
 refine w_nil (hK4 _ _ _ ?_)
 obtain rfl := some_r H
 exact c_ret fun a w' hf hs => hret _ (.inl rfl) a w' hf.df ⟨_, _, Res.of1 rfl (RV.t hf rfl), hs.ext, rfl⟩
theorem backup_within.calls {M : Heap} {w : World} (hM : Sub M w) (p0 : Int) (p1 : (List Int)) (v1 : Value) (h2 : RS (FI .i64) M v1 p1) (r : Bool) (H : backup_within p0 p1 = some r) :
  Calls Tryd.prog 92 [(.int .i64 p0), v1].toArray w (Post M w fun M' v => v = (.bool r)) := by
 refine enter 9 [(0, (.int .i64 p0)), (1, v1)] Tryd.func92 rfl rfl rfl hM ?_
 intro Q hret
 unfold backup_within at H
 refine c_sr fun _ hK3 => ?_
 refine w_boxM trivial rfl rfl rfl ?_
 intro b4 M5 l6 h7
 replace h2 := h2.mono l6
 refine va rfl rfl ?_
 refine w_nil (hK3 _ _ _ ?_)
 refine c_sr fun _ hK8 => ?_
 refine vm rfl rfl ?_
 refine wv rfl (fun hf hs => r_makeFunc (hf.evs rfl)) ?_
 obtain ⟨t9, e14, H⟩ := bnd H
 refine w_call cf125 trivial rfl rfl (fun w hs => slices_ContainsFunc_int.calls hs p1 v1 h2 (fun x => backup_within_1 x p0) (.func (.func 126) #[] #[(ptr b4 0)]) (FnS.of cf126 fun M' w x r hM hs hp => Calls.mono (backup_within_1.calls hs x p0 b4 (hM _ _ h7) _ hp) fun e w' q => q) _ e14) ?_
 rintro _ M11 l12 rfl
 refine wv rfl (fun hf hs => r_not (hf.ev rfl)) ?_
 refine va rfl rfl ?_
 refine w_nil (hK8 _ _ _ ?_)
 obtain rfl := some_r H
 exact c_ret fun a w' hf hs => hret _ (.inl rfl) a w' hf.df ⟨_, _, Res.of1 rfl (RV.t hf rfl), hs.ext, rfl⟩
theorem backup_Valid.calls {M : Heap} {w : World} (hM : Sub M w) (p0 : Backup) (v1 : Value) (h2 : RS Key.F M v1 p0.Keys) (r : Bool) (H : backup_Valid p0 = some r) :
  Calls Tryd.prog 46 [(.agg (Backup.C p0 v1).toArray)].toArray w (Post M w fun M' v => v = (.bool r)) := by
 refine enter 58 [(0, (.agg (Backup.C p0 v1).toArray))] Tryd.func46 rfl rfl rfl hM ?_
 intro Q hret
 unfold backup_Valid at H
 refine c_sr fun _ hK3 => ?_
 refine w_boxM trivial rfl rfl rfl ?_
 intro b4 M5 l6 h7
 replace h2 := h2.mono l6
 refine va rfl rfl ?_
 refine w_nil (hK3 _ _ _ ?_)
 refine c_sr fun _ hK8 => ?_
 refine va rfl rfl ?_
 refine w_nil (hK8 _ _ _ ?_)
 refine c_cut (fun a' w' => ∃ (M9 : Heap), HLe M5 M9 ∧ Fr 58 [(1, (ptr b4 0))] a' ∧ St none' M w M9 (lt []) w' ∧ backup_Valid.j1 p0 = some r) ?_ ?_
 ·refine c_seq ?_
  intro K50 hK50
  refine c_reg ?_
  refine v_fa fa36_7 rfl rfl ?_
  refine wv rfl (fun hf hs => r_load1 ta34 (hf.ev rfl) (hs.sub _ _ h7) (Backup.g37 _ _)) ?_
  refine wv rfl (fun hf hs => r_lenR Tryd.underlying34 h2 (hf.ev rfl)) ?_
  refine vm rfl rfl ?_
  refine w_nil (hK50 _ _ _ ?_)
  refine c_block ?_
  refine c_loop (fun (s51 : (Int × Int)) a' w' => ∃ (M52 : Heap), HLe M5 M52 ∧ Fr 58 [(1, (ptr b4 0)), (3, (.int .i64 s51.1)), (7, v1), (8, (.int .i64 (p0.Keys.length : Int))), (9, (.int .i64 s51.2))] a' ∧ St none' M w M52 (lt []) w') ((0 : Int), (0 : Int)) H ?_ ?_
  ·intro a w' hf hs
   exact ⟨_, HLe.refl _, (hf.pick (pk (pk (pk (pk (pk pk0 rfl) rfl) rfl) rfl) rfl)), hs.selD [] (by decide) rfl⟩
  clear H
  intro s51 y55 H r54 a w' hJ
  obtain ⟨M52, l53, hf, hs⟩ := hJ
  refine c_of (c := (Cx.mk Tryd.prog 58 none' M w)) ?_ hf hs
  unfold backup_Valid.l2 at H
  clear hf hs
  replace h2 := h2.mono l53
  replace h7 := l53 _ _ h7
  refine c_sr fun _ hK56 => ?_
  refine v_lss rfl rfl rfl ?_
  refine w_nil (hK56 _ _ _ ?_)
  refine c_seq fun K57 hK57 => ?_
  refine c_if rfl (fun b58 => ?_) (fun b58 => ?_)
  ·replace H := if_t b58 H
   refine c_skip (hK57 _ _ _ ?_)
   refine c_seq fun K59 hK59 => ?_
   refine c_block ?_
   refine c_sr fun _ hK60 => ?_
   obtain ⟨g61, H⟩ := grd_s H
   refine wv rfl (fun hf hs => r_iR Tryd.underlying34 ts55 h2 (hf.ev rfl) (hf.ev rfl) g61.1 g61.2) ?_
   refine wv rfl (fun hf hs => r_loadEA ta55 ts55 h2 hs.sub g61.1 g61.2 (hf.ev rfl) rfl rfl) ?_
   refine w_allocL (A := Key.C (⟨0, 0, [], 0, 0, 0, 0, 0, false⟩ : Key)) tz55 trivial rfl rfl ?_
   intro b62
   refine w_store (i := 0) (vs := Key.C (rd p0.Keys s51.2)) (A' := Key.C (rd p0.Keys s51.2)) trivial rfl rfl rfl rfl ts55 rfl (Key.F_one _) (Nat.le_of_ble_eq_true rfl) rfl ?_
   refine w_nil (hK60 _ _ _ ?_)
   refine c_seq fun K63 hK63 => ?_
   obtain ⟨t64, H1, H⟩ := bnd H
   refine c_cut (fun a' w' => ∃ (M65 : Heap), HLe M52 M65 ∧ Fr 58 [(1, (ptr b4 0)), (5, (ptr b62 0)), (7, v1), (8, (.int .i64 (p0.Keys.length : Int))), (9, (.int .i64 s51.2)), (26, (.bool t64))] a' ∧ St none' M w M65 (lt [.blk b62 (.cells (Key.C (rd p0.Keys s51.2)).toArray 55 (0, 0))]) w') ?_ ?_
   ·replace H := H1
    clear H1
    refine c_reg ?_
    refine wv rfl (fun hf hs => r_loadA ta55 ts55 (hf.ev rfl) (hs.blk (i := 0) rfl) rfl rfl) ?_
    obtain ⟨t67, e72, H⟩ := bnd H
    refine w_call cf91 trivial rfl rfl (fun w hs => keys_Valid.calls hs (rd p0.Keys s51.2) _ e72) ?_
    rintro _ M69 l70 rfl
    replace h2 := h2.mono l70
    replace h7 := l70 _ _ h7
    refine wv rfl (fun hf hs => r_not (hf.ev rfl)) ?_
    refine vm rfl rfl ?_
    by_cases b73 : (!t67) = true
    ·replace H := if_t b73 H
     refine wq b73 rfl rfl rfl ?_
     refine wq b73 rfl rfl rfl ?_
     refine wq b73 rfl rfl rfl ?_
     refine wq b73 rfl rfl rfl ?_
     refine wv rfl (fun hf hs => r_pickT (hf.ev rfl) b73 (hf.ev rfl)) ?_
     refine vm rfl rfl ?_
     refine wq rfl rfl rfl rfl ?_
     refine wq rfl rfl rfl rfl ?_
     refine wq rfl rfl rfl rfl ?_
     refine wv rfl (fun hf hs => r_pickT (hf.ev rfl) rfl (hf.ev rfl)) ?_
     obtain rfl := some_r H
     exact w_nil fun a w' hf hs => ⟨_, l70, (hf.pick (pk (pk (pk (pk (pk (pk pk0 rfl) rfl) rfl) rfl) rfl) rfl)), hs.sel [0] (by decide) rfl⟩
    replace b73 := Bool.eq_false_iff.2 b73
    replace H := if_f b73 H
    refine wg b73 rfl rfl rfl (fun hf hs => r_fa fa55_0 (hf.ev rfl)) ?_
    refine wg b73 rfl rfl rfl (fun hf hs => r_load1 ta3 (hf.ev rfl) (hs.blk (i := 0) rfl) rfl) ?_
    refine wg b73 rfl rfl rfl (fun hf hs => r_move (hf.ev rfl)) ?_
    refine wg b73 rfl rfl rfl (fun hf hs => r_leq (hf.ev rfl) (hf.ev rfl)) ?_
    refine wv rfl (fun hf hs => r_pickF (hf.ev rfl) b73 (hf.ev rfl)) ?_
    refine vm rfl rfl ?_
    by_cases b74 : (decide (((rd p0.Keys s51.2).Id) ≤ s51.1)) = true
    ·replace H := if_t b74 H
     refine wq b74 rfl rfl rfl ?_
     refine wq b74 rfl rfl rfl ?_
     refine wq b74 rfl rfl rfl ?_
     refine wv rfl (fun hf hs => r_pickT (hf.ev rfl) b74 (hf.ev rfl)) ?_
     obtain rfl := some_r H
     exact w_nil fun a w' hf hs => ⟨_, l70, (hf.pick (pk (pk (pk (pk (pk (pk pk0 rfl) rfl) rfl) rfl) rfl) rfl)), hs.sel [0] (by decide) rfl⟩
    replace b74 := Bool.eq_false_iff.2 b74
    replace H := if_f b74 H
    refine wg b74 rfl rfl rfl (fun hf hs => r_fa fa55_0 (hf.ev rfl)) ?_
    refine wg b74 rfl rfl rfl (fun hf hs => r_load1 ta3 (hf.ev rfl) (hs.blk (i := 0) rfl) rfl) ?_
    refine wg b74 rfl rfl rfl (fun hf hs => r_gtr (hf.ev rfl) (hf.ev rfl)) ?_
    refine wv rfl (fun hf hs => r_pickF (hf.ev rfl) b74 (hf.ev rfl)) ?_
    obtain rfl := some_r H
    exact w_nil fun a w' hf hs => ⟨_, l70, (hf.pick (pk (pk (pk (pk (pk (pk pk0 rfl) rfl) rfl) rfl) rfl) rfl)), hs.sel [0] (by decide) rfl⟩
   clear H1
   rintro a w' ⟨M65, l66, hf, hs⟩
   refine c_of (c := (Cx.mk Tryd.prog 58 none' M w)) ?_ hf hs
   clear hf hs
   replace h2 := h2.mono l66
   replace h7 := l66 _ _ h7
   refine c_if rfl (fun b75 => ?_) (fun b75 => ?_)
   ·replace H := if_t b75 H
    refine c_sr fun _ hK76 => ?_
    refine va rfl rfl ?_
    refine w_nil (hK76 _ _ _ ?_)
    obtain rfl := (r54 _ (Option.some.inj H).symm)
    exact c_ret fun a w' hf hs => hret _ (.inl rfl) a w' hf.df ⟨_, _, Res.of1 rfl (RV.t hf rfl), hs.ext, rfl⟩
   replace H := if_f b75 H
   refine c_skip (hK63 _ _ _ ?_)
   refine c_reg ?_
   refine v_fa fa55_0 rfl rfl ?_
   refine wv rfl (fun hf hs => r_load1 ta3 (hf.ev rfl) (hs.blk (i := 0) rfl) rfl) ?_
   refine va rfl rfl ?_
   refine w_nil (hK59 _ _ _ ?_)
   refine c_reg ?_
   refine v_add rfl rfl rfl ?_
   refine vm rfl rfl ?_
   exact w_nil fun a w' hf hs => ⟨_, (some_r H).symm, _, l53.trans l66, (hf.pick (pk (pk (pk (pk (pk pk0 rfl) rfl) rfl) rfl) rfl)), hs.selD [] (by decide) rfl⟩
  replace H := if_f b58 H
  replace H := map_inr H r54
  refine c_exit ?_
  intro a w' hf hs
  exact ⟨_, l53, (hf.pick (pk pk0 rfl)), hs.selD [] (by decide) rfl, H⟩
 rintro a w' ⟨M9, l10, hf, hs, H⟩
 refine c_of (c := (Cx.mk Tryd.prog 58 none' M w)) ?_ hf hs
 unfold backup_Valid.j1 at H
 clear hf hs
 replace h2 := h2.mono l10
 replace h7 := l10 _ _ h7
 obtain ⟨t11, H1, H⟩ := bnd H
 refine c_cut (fun a' w' => ∃ (M12 : Heap), HLe M9 M12 ∧ Fr 58 [(2, (.bool t11))] a' ∧ St none' M w M12 (lt []) w') ?_ ?_
 ·replace H := H1
  clear H1
  refine c_reg ?_
  refine v_fa fa36_1 rfl rfl ?_
  refine wv rfl (fun hf hs => r_load1 ta3 (hf.ev rfl) (hs.sub _ _ h7) (Backup.g16 _ _)) ?_
  refine v_fa fa36_2 rfl rfl ?_
  refine wv rfl (fun hf hs => r_load1 ta3 (hf.ev rfl) (hs.sub _ _ h7) (Backup.g17 _ _)) ?_
  refine v_fa fa36_3 rfl rfl ?_
  refine wv rfl (fun hf hs => r_load1 ta3 (hf.ev rfl) (hs.sub _ _ h7) (Backup.g18 _ _)) ?_
  refine w_bsl (F := (FI .i64)) (es := ([p0.Epoch, p0.Number, p0.Firmware] : List Int)) (xs := [.tmp 31, .tmp 33, .tmp 35]) (vs := [(.int .i64 p0.Epoch), (.int .i64 p0.Number), (.int .i64 p0.Firmware)]) Tryd.underlying51 te3 trivial rfl rfl rfl rfl rfl (by decide) ?_
  intro v14 M15 l16 h17 c18
  replace h2 := h2.mono l16
  replace h7 := l16 _ _ h7
  obtain ⟨t19, e24, H⟩ := bnd H
  refine w_call cf92 trivial rfl rfl (fun w hs => backup_within.calls hs (2147483647 : Int) ([p0.Epoch, p0.Number, p0.Firmware] : List Int) v14 h17 _ e24) ?_
  rintro _ M21 l22 rfl
  replace h2 := h2.mono l22
  replace h7 := l22 _ _ h7
  refine vm rfl rfl ?_
  by_cases b25 : t19 = true
  ·replace H := if_t b25 H
   refine wg b25 rfl rfl rfl (fun hf hs => r_fa fa36_4 (hf.ev rfl)) ?_
   refine wg b25 rfl rfl rfl (fun hf hs => r_load1 ta3 (hf.ev rfl) (hs.sub _ _ h7) (Backup.g19 _ _)) ?_
   refine w_bsl (F := (FI .i64)) (es := ([p0.Time] : List Int)) (xs := [.tmp 40]) (vs := [(.int .i64 p0.Time)]) Tryd.underlying51 te3 (Wnt.of rfl rfl b25) rfl rfl rfl rfl rfl (by decide) ?_
   intro v26 M27 l28 h29 c30
   replace h2 := h2.mono l28
   replace h7 := l28 _ _ h7
   obtain ⟨t31, e36, H⟩ := bnd H
   refine w_call cf92 (Wnt.of rfl rfl b25) rfl rfl (fun w hs => backup_within.calls hs (1099511627776 : Int) ([p0.Time] : List Int) v26 h29 _ e36) ?_
   rintro _ M33 l34 rfl
   replace h2 := h2.mono l34
   replace h7 := l34 _ _ h7
   refine wv rfl (fun hf hs => r_pickT (hf.ev rfl) b25 (hf.ev rfl)) ?_
   refine vm rfl rfl ?_
   by_cases b37 : t31 = true
   ·replace H := if_t b37 H
    refine wg b37 rfl rfl rfl (fun hf hs => r_fa fa36_6 (hf.ev rfl)) ?_
    refine wg b37 rfl rfl rfl (fun hf hs => r_load1 ta9 (hf.ev rfl) (hs.sub _ _ h7) (Backup.g36 _ _)) ?_
    refine wg b37 rfl rfl rfl (fun hf hs => r_slen Tryd.underlying9 (hf.ev rfl)) ?_
    refine wg b37 rfl rfl rfl (fun hf hs => r_sub (hf.ev rfl) (hf.ev rfl)) ?_
    refine w_bsl (F := (FI .i64)) (es := ([(IntKind.i64.wrap ((p0.Module.length : Int) - (1 : Int)))] : List Int)) (xs := [.tmp 48]) (vs := [(.int .i64 (IntKind.i64.wrap ((p0.Module.length : Int) - (1 : Int))))]) Tryd.underlying51 te3 (Wnt.of rfl rfl b37) rfl rfl rfl rfl rfl (by decide) ?_
    intro v38 M39 l40 h41 c42
    replace h2 := h2.mono l40
    replace h7 := l40 _ _ h7
    obtain ⟨t43, e48, H⟩ := bnd H
    refine w_call cf92 (Wnt.of rfl rfl b37) rfl rfl (fun w hs => backup_within.calls hs (11 : Int) ([(IntKind.i64.wrap ((p0.Module.length : Int) - (1 : Int)))] : List Int) v38 h41 _ e48) ?_
    rintro _ M45 l46 rfl
    replace h2 := h2.mono l46
    replace h7 := l46 _ _ h7
    refine wv rfl (fun hf hs => r_pickT (hf.ev rfl) b37 (hf.ev rfl)) ?_
    refine vm rfl rfl ?_
    by_cases b49 : t43 = true
    ·replace H := if_t b49 H
     refine wg b49 rfl rfl rfl (fun hf hs => r_fa fa36_7 (hf.ev rfl)) ?_
     refine wg b49 rfl rfl rfl (fun hf hs => r_load1 ta34 (hf.ev rfl) (hs.sub _ _ h7) (Backup.g37 _ _)) ?_
     refine wg b49 rfl rfl rfl (fun hf hs => r_lenR Tryd.underlying34 h2 (hf.ev rfl)) ?_
     refine wg b49 rfl rfl rfl (fun hf hs => r_leq (hf.ev rfl) (hf.ev rfl)) ?_
     refine wv rfl (fun hf hs => r_pickT (hf.ev rfl) b49 (hf.ev rfl)) ?_
     refine va rfl rfl ?_
     obtain rfl := some_r H
     exact w_nil fun a w' hf hs => ⟨_, (l16.trans (l22.trans (l28.trans (l34.trans (l40.trans l46))))), (hf.pick (pk pk0 rfl)), hs.sel [] (by decide) rfl⟩
    replace b49 := Bool.eq_false_iff.2 b49
    replace H := if_f b49 H
    refine wq b49 rfl rfl rfl ?_
    refine wq b49 rfl rfl rfl ?_
    refine wq b49 rfl rfl rfl ?_
    refine wq b49 rfl rfl rfl ?_
    refine wv rfl (fun hf hs => r_pickF (hf.ev rfl) b49 (hf.ev rfl)) ?_
    refine va rfl rfl ?_
    obtain rfl := some_r H
    exact w_nil fun a w' hf hs => ⟨_, (l16.trans (l22.trans (l28.trans (l34.trans (l40.trans l46))))), (hf.pick (pk pk0 rfl)), hs.sel [] (by decide) rfl⟩
   replace b37 := Bool.eq_false_iff.2 b37
   replace H := if_f b37 H
   refine wq b37 rfl rfl rfl ?_
   refine wq b37 rfl rfl rfl ?_
   refine wq b37 rfl rfl rfl ?_
   refine wq b37 rfl rfl rfl ?_
   refine wq b37 rfl rfl rfl ?_
   refine wq b37 rfl rfl rfl ?_
   refine wv rfl (fun hf hs => r_pickF (hf.ev rfl) b37 (hf.ev rfl)) ?_
   refine vm rfl rfl ?_
   refine wq rfl rfl rfl rfl ?_
   refine wq rfl rfl rfl rfl ?_
   refine wq rfl rfl rfl rfl ?_
   refine wq rfl rfl rfl rfl ?_
   refine wv rfl (fun hf hs => r_pickF (hf.ev rfl) rfl (hf.ev rfl)) ?_
   refine va rfl rfl ?_
   obtain rfl := some_r H
   exact w_nil fun a w' hf hs => ⟨_, (l16.trans (l22.trans (l28.trans l34))), (hf.pick (pk pk0 rfl)), hs.sel [] (by decide) rfl⟩
  replace b25 := Bool.eq_false_iff.2 b25
  replace H := if_f b25 H
  refine wq b25 rfl rfl rfl ?_
  refine wq b25 rfl rfl rfl ?_
  refine wq b25 rfl rfl rfl ?_
  refine wq b25 rfl rfl rfl ?_
  refine wv rfl (fun hf hs => r_pickF (hf.ev rfl) b25 (hf.ev rfl)) ?_
  refine vm rfl rfl ?_
  refine wq rfl rfl rfl rfl ?_
  refine wq rfl rfl rfl rfl ?_
  refine wq rfl rfl rfl rfl ?_
  refine wq rfl rfl rfl rfl ?_
  refine wq rfl rfl rfl rfl ?_
  refine wq rfl rfl rfl rfl ?_
  refine wv rfl (fun hf hs => r_pickF (hf.ev rfl) rfl (hf.ev rfl)) ?_
  refine vm rfl rfl ?_
  refine wq rfl rfl rfl rfl ?_
  refine wq rfl rfl rfl rfl ?_
  refine wq rfl rfl rfl rfl ?_
  refine wq rfl rfl rfl rfl ?_
  refine wv rfl (fun hf hs => r_pickF (hf.ev rfl) rfl (hf.ev rfl)) ?_
  refine va rfl rfl ?_
  obtain rfl := some_r H
  exact w_nil fun a w' hf hs => ⟨_, (l16.trans l22), (hf.pick (pk pk0 rfl)), hs.sel [] (by decide) rfl⟩
 clear H1
 rintro a w' ⟨M12, l13, hf, hs⟩
 refine c_of (c := (Cx.mk Tryd.prog 58 none' M w)) ?_ hf hs
 clear hf hs
 obtain rfl := some_r H
 exact c_ret fun a w' hf hs => hret _ (.inl rfl) a w' hf.df ⟨_, _, Res.of1 rfl (RV.t hf rfl), hs.ext, rfl⟩
theorem wire_Int.callsR {M : Heap} {w : World} (hM : Sub M w) (p0 : Int) (r : (List Int)) (H : wire_Int p0 = some r) :
  Calls Tryd.prog 84 [(.int .i64 p0)].toArray w (PostI none' M w fun M' x v => x = rowI (FI .u8) v 5 r) := by
 refine enterR 47 [(0, (.int .i64 p0))] Tryd.func84 rfl rfl rfl hM ?_
 intro Q hret
 unfold wire_Int at H
 refine c_sr fun _ hK1 => ?_
 refine va rfl rfl ?_
 refine w_nil (hK1 _ _ _ ?_)
 refine c_scope ?_
 refine c_sr fun _ hK2 => ?_
 refine vm rfl rfl ?_
 refine wv rfl (fun hf hs => r_conv Tryd.underlying3 Tryd.underlying121 (hf.ev rfl)) ?_
 refine va rfl rfl ?_
 refine va rfl rfl ?_
 refine w_nil (hK2 _ _ _ ?_)
 refine c_cut (fun a' w' => ∃ (x3 : Int) (x4 : Int) (M5 : Heap), HLe M M5 ∧ Fr 47 [(3, (.int .u64 x3)), (4, (.int .u8 x4))] a' ∧ St none' M w M5 (lt []) w' ∧ wire_Int.j5 x3 x4 = some r) ?_ ?_
 ·refine c_seq ?_
  intro K50 hK50
  refine c_reg ?_
  refine vm rfl rfl ?_
  refine v_lss rfl rfl rfl ?_
  refine w_nil (hK50 _ _ _ ?_)
  refine c_if rfl (fun b51 => ?_) (fun b51 => ?_)
  ·replace H := if_t b51 H
   refine c_reg ?_
   refine vm rfl rfl ?_
   refine wv rfl (fun hf hs => r_com (hf.ev rfl)) ?_
   refine va rfl rfl ?_
   refine va rfl rfl ?_
   exact w_nil fun a w' hf hs => ⟨(bits .xor .u64 IntKind.u64.max (IntKind.u64.wrap p0)), (255 : Int), _, (HLe.refl _), (hf.pick (pk (pk pk0 rfl) rfl)), hs.selD [] (by decide) rfl, H⟩
  replace H := if_f b51 H
  refine c_skip ?_
  intro a w' hf hs
  exact ⟨(IntKind.u64.wrap p0), (0 : Int), _, (HLe.refl _), (hf.pick (pk (pk pk0 rfl) rfl)), hs.selD [] (by decide) rfl, H⟩
 rintro a w' ⟨x3, x4, M5, l6, hf, hs, H⟩
 refine c_of (c := (Cx.mk Tryd.prog 47 none' M w)) ?_ hf hs
 unfold wire_Int.j5 at H
 clear hf hs
 refine c_sr fun _ hK7 => ?_
 refine va rfl rfl ?_
 refine w_nil (hK7 _ _ _ ?_)
 refine c_seq fun K8 hK8 => ?_
 refine c_label (hK8 _ _ _ ?_)
 refine c_cut (fun a' w' => ∃ (x9 : Int) (M10 : Heap), HLe M5 M10 ∧ Fr 47 [(3, (.int .u64 x3)), (4, (.int .u8 x4)), (5, (.int .i64 x9))] a' ∧ St none' M w M10 (lt []) w' ∧ wire_Int.j3 x3 x4 x9 = some r) ?_ ?_
 ·refine c_block ?_
  refine c_loop (fun (s38 : Int) a' w' => ∃ (M39 : Heap), HLe M5 M39 ∧ Fr 47 [(3, (.int .u64 x3)), (4, (.int .u8 x4)), (5, (.int .i64 s38))] a' ∧ St none' M w M39 (lt []) w') (8 : Int) H ?_ ?_
  ·intro a w' hf hs
   exact ⟨_, HLe.refl _, (hf.pick (pk (pk (pk pk0 rfl) rfl) rfl)), hs.selD [] (by decide) rfl⟩
  clear H
  intro s38 y42 H r41 a w' hJ
  obtain ⟨M39, l40, hf, hs⟩ := hJ
  refine c_of (c := (Cx.mk Tryd.prog 47 none' M w)) ?_ hf hs
  unfold wire_Int.l4 at H
  clear hf hs
  refine c_seq fun K43 hK43 => ?_
  refine c_sr fun _ hK44 => ?_
  refine vm rfl rfl ?_
  refine wv rfl (fun hf hs => r_gtr (hf.ev rfl) (hf.ev rfl)) ?_
  refine w_nil (hK44 _ _ _ ?_)
  refine c_if rfl (fun b45 => ?_) (fun b45 => ?_)
  ·replace H := if_t b45 H
   refine c_skip (hK43 _ _ _ ?_)
   refine c_block ?_
   refine c_seq fun K46 hK46 => ?_
   refine c_sr fun _ hK47 => ?_
   refine vm rfl rfl ?_
   refine vm rfl rfl ?_
   refine wv rfl (fun hf hs => r_sub (hf.ev rfl) (hf.ev rfl)) ?_
   refine wv rfl (fun hf hs => r_mul (hf.ev rfl) (hf.ev rfl)) ?_
   obtain ⟨g48, H⟩ := grd_s H
   refine wv rfl (fun hf hs => r_shr (hf.ev rfl) (hf.ev rfl) g48) ?_
   refine wv rfl (fun hf hs => r_gtr (hf.ev rfl) (hf.ev rfl)) ?_
   refine w_nil (hK47 _ _ _ ?_)
   refine c_if rfl (fun b49 => ?_) (fun b49 => ?_)
   ·replace H := if_t b49 H
    replace H := map_inr H r41
    refine c_exit ?_
    intro a w' hf hs
    exact ⟨s38, _, l40, (hf.pick (pk (pk (pk pk0 rfl) rfl) rfl)), hs.selD [] (by decide) rfl, H⟩
   replace H := if_f b49 H
   refine c_skip (hK46 _ _ _ ?_)
   refine c_reg ?_
   refine vm rfl rfl ?_
   refine wv rfl (fun hf hs => r_sub (hf.ev rfl) (hf.ev rfl)) ?_
   refine va rfl rfl ?_
   exact w_nil fun a w' hf hs => ⟨_, (some_r H).symm, _, l40.trans (HLe.refl _), (hf.pick (pk (pk (pk pk0 rfl) rfl) rfl)), hs.selD [] (by decide) rfl⟩
  replace H := if_f b45 H
  replace H := map_inr H r41
  refine c_exit ?_
  intro a w' hf hs
  exact ⟨s38, _, l40, (hf.pick (pk (pk (pk pk0 rfl) rfl) rfl)), hs.selD [] (by decide) rfl, H⟩
 rintro a w' ⟨x9, M10, l11, hf, hs, H⟩
 refine c_of (c := (Cx.mk Tryd.prog 47 none' M w)) ?_ hf hs
 unfold wire_Int.j3 at H
 clear hf hs
 refine c_sr fun _ hK12 => ?_
 refine vm rfl rfl ?_
 refine v_add rfl rfl rfl ?_
 refine wv rfl (fun hf hs => r_conv Tryd.underlying3 Tryd.underlying5 (hf.ev rfl)) ?_
 refine vm rfl rfl ?_
 refine wv rfl (fun hf hs => r_xor (hf.ev rfl) (hf.ev rfl)) ?_
 refine w_bslW (F := (FI .u8)) (es := ([(bits .xor .u8 (IntKind.u8.wrap (IntKind.i64.wrap ((128 : Int) + x9))) x4)] : List Int)) (xs := [.tmp 28]) (vs := [(.int .u8 (bits .xor .u8 (IntKind.u8.wrap (IntKind.i64.wrap ((128 : Int) + x9))) x4))]) Tryd.underlying66 te5 trivial rfl rfl rfl rfl rfl (by decide) ?_
 intro v13
 refine va rfl rfl ?_
 refine w_nil (hK12 _ _ _ ?_)
 refine c_cut (fun a' w' => ∃ (x14 : (List Int)) (v15 : Value) (M16 : Heap), HLe M10 M16 ∧ Fr 47 [(6, v15)] a' ∧ St none' M w M16 (lt [rowI (FI .u8) v15 5 x14]) w' ∧ wire_Int.j1 x14 = some r) ?_ ?_
 ·refine c_seq ?_
  intro K19 hK19
  refine c_reg ?_
  refine vm rfl rfl ?_
  refine wv rfl (fun hf hs => r_sub (hf.ev rfl) (hf.ev rfl)) ?_
  refine va rfl rfl ?_
  refine w_nil (hK19 _ _ _ ?_)
  refine c_block ?_
  refine c_loop (fun (s20 : ((List Int) × Int)) a' w' => ∃ (v21 : Value) (M22 : Heap), HLe M10 M22 ∧ Fr 47 [(3, (.int .u64 x3)), (4, (.int .u8 x4)), (6, v21), (7, (.int .i64 s20.2))] a' ∧ St none' M w M22 (lt [rowI (FI .u8) v21 5 s20.1]) w') (([(bits .xor .u8 (IntKind.u8.wrap (IntKind.i64.wrap ((128 : Int) + x9))) x4)] : List Int), (IntKind.i64.wrap (x9 - (1 : Int)))) H ?_ ?_
  ·intro a w' hf hs
   exact ⟨v13, _, HLe.refl _, (hf.pick (pk (pk (pk (pk pk0 rfl) rfl) rfl) rfl)), hs.selD [some 0] (by decide) rfl⟩
  clear H
  intro s20 y25 H r24 a w' hJ
  obtain ⟨v21, M22, l23, hf, hs⟩ := hJ
  refine c_of (c := (Cx.mk Tryd.prog 47 none' M w)) ?_ hf hs
  unfold wire_Int.l2 at H
  clear hf hs
  refine c_seq fun K26 hK26 => ?_
  refine c_sr fun _ hK27 => ?_
  refine vm rfl rfl ?_
  refine wv rfl (fun hf hs => r_geq (hf.ev rfl) (hf.ev rfl)) ?_
  refine w_nil (hK27 _ _ _ ?_)
  refine c_if rfl (fun b28 => ?_) (fun b28 => ?_)
  ·replace H := if_t b28 H
   refine c_skip (hK26 _ _ _ ?_)
   refine c_seq fun K29 hK29 => ?_
   refine c_block ?_
   refine c_reg ?_
   refine vm rfl rfl ?_
   refine vm rfl rfl ?_
   refine vm rfl rfl ?_
   refine wv rfl (fun hf hs => r_mul (hf.ev rfl) (hf.ev rfl)) ?_
   obtain ⟨g30, H⟩ := grd_s H
   refine wv rfl (fun hf hs => r_shr (hf.ev rfl) (hf.ev rfl) g30) ?_
   refine wv rfl (fun hf hs => r_conv Tryd.underlying121 Tryd.underlying5 (hf.ev rfl)) ?_
   refine vm rfl rfl ?_
   refine wv rfl (fun hf hs => r_xor (hf.ev rfl) (hf.ev rfl)) ?_
   refine w_bsl (F := (FI .u8)) (es := ([(bits .xor .u8 (IntKind.u8.wrap (shrI .u64 x3 (IntKind.i64.wrap ((8 : Int) * s20.2)))) x4)] : List Int)) (xs := [.tmp 43]) (vs := [(.int .u8 (bits .xor .u8 (IntKind.u8.wrap (shrI .u64 x3 (IntKind.i64.wrap ((8 : Int) * s20.2)))) x4))]) Tryd.underlying66 te5 trivial rfl rfl rfl rfl rfl (by decide) ?_
   intro v31 M32 l33 h34 c35
   obtain ⟨g36, H⟩ := grd_s H
   refine w_app (F := (FI .u8)) (m2 := ([(bits .xor .u8 (IntKind.u8.wrap (shrI .u64 x3 (IntKind.i64.wrap ((8 : Int) * s20.2)))) x4)] : List Int)) (i := 0) Tryd.underlying66 te5 Tryd.underlying66 (.inl ⟨_, rfl⟩) trivial rfl rfl rfl rfl (Src.rs (FI.one _) h34) g36 ?_
   intro v37
   refine va rfl rfl ?_
   refine w_nil (hK29 _ _ _ ?_)
   refine c_reg ?_
   refine vm rfl rfl ?_
   refine wv rfl (fun hf hs => r_sub (hf.ev rfl) (hf.ev rfl)) ?_
   refine va rfl rfl ?_
   exact w_nil fun a w' hf hs => ⟨_, (some_r H).symm, v37, _, l23.trans l33, (hf.pick (pk (pk (pk (pk pk0 rfl) rfl) rfl) rfl)), hs.selD [some 0] (by decide) rfl⟩
  replace H := if_f b28 H
  replace H := map_inr H r24
  refine c_exit ?_
  intro a w' hf hs
  exact ⟨s20.1, v21, _, l23, (hf.pick (pk pk0 rfl)), hs.selD [some 0] (by decide) rfl, H⟩
 rintro a w' ⟨x14, v15, M16, l17, hf, hs, H⟩
 refine c_of (c := (Cx.mk Tryd.prog 47 none' M w)) ?_ hf hs
 unfold wire_Int.j1 at H
 clear hf hs
 refine c_sr fun _ hK18 => ?_
 refine vm rfl rfl ?_
 refine va rfl rfl ?_
 refine w_nil (hK18 _ _ _ ?_)
 obtain rfl := some_r H
 exact c_ret fun a w' hf hs => hret _ (.inl rfl) a w' hf.df ⟨_, _, _, Res.of1 rfl (RV.t hf rfl), hs.sel [0] (by decide) rfl, rfl⟩
theorem wire_Int.calls {M : Heap} {w : World} (hM : Sub M w) (p0 : Int) (r : (List Int)) (H : wire_Int p0 = some r) :
  Calls Tryd.prog 84 [(.int .i64 p0)].toArray w (Post M w fun M' v => ∃ v52, v = v52 ∧ RS (FI .u8) M' v52 r) := by
 exact postR (wire_Int.callsR hM p0 r H)
theorem wire_Ints.callsR {M : Heap} {w : World} (hM : Sub M w) (p0 : (List Int)) (v1 : Value) (h2 : RS (FI .i64) M v1 p0) (r : (List Int)) (H : wire_Ints p0 = some r) :
  Calls Tryd.prog 95 [v1].toArray w (PostI none' M w fun M' x v => x = rowI (FI .u8) v 5 r) := by
 refine enterR 21 [(0, v1)] Tryd.func95 rfl rfl rfl hM ?_
 intro Q hret
 unfold wire_Ints at H
 refine c_sr fun _ hK3 => ?_
 refine va rfl rfl ?_
 refine w_nil (hK3 _ _ _ ?_)
 refine c_sr fun _ hK4 => ?_
 refine vm rfl rfl ?_
 refine wv rfl (fun hf hs => r_lenR Tryd.underlying51 h2 (hf.ev rfl)) ?_
 obtain ⟨t5, e6, H⟩ := bnd H
 refine w_callR cf84 trivial rfl rfl (fun w hs => wire_Int.callsR hs (p0.length : Int) _ e6) ?_
 rintro v9 M7 _ l8 rfl
 replace h2 := h2.mono l8
 refine va rfl rfl ?_
 refine w_nil (hK4 _ _ _ ?_)
 refine c_cut (fun a' w' => ∃ (x10 : (List Int)) (v11 : Value) (M12 : Heap), HLe M7 M12 ∧ Fr 21 [(3, v11)] a' ∧ St none' M w M12 (lt [rowI (FI .u8) v11 5 x10]) w' ∧ wire_Ints.j1 x10 = some r) ?_ ?_
 ·refine c_seq ?_
  intro K15 hK15
  refine c_reg ?_
  refine vm rfl rfl ?_
  refine wv rfl (fun hf hs => r_lenR Tryd.underlying51 h2 (hf.ev rfl)) ?_
  refine vm rfl rfl ?_
  refine w_nil (hK15 _ _ _ ?_)
  refine c_block ?_
  refine c_loop (fun (s16 : ((List Int) × Int)) a' w' => ∃ (v17 : Value) (M18 : Heap), HLe M7 M18 ∧ Fr 21 [(3, v17), (9, v1), (10, (.int .i64 (p0.length : Int))), (11, (.int .i64 s16.2))] a' ∧ St none' M w M18 (lt [rowI (FI .u8) v17 5 s16.1]) w') (t5, (0 : Int)) H ?_ ?_
  ·intro a w' hf hs
   exact ⟨v9, _, HLe.refl _, (hf.pick (pk (pk (pk (pk pk0 rfl) rfl) rfl) rfl)), hs.selD [some 0] (by decide) rfl⟩
  clear H
  intro s16 y21 H r20 a w' hJ
  obtain ⟨v17, M18, l19, hf, hs⟩ := hJ
  refine c_of (c := (Cx.mk Tryd.prog 21 none' M w)) ?_ hf hs
  unfold wire_Ints.l2 at H
  clear hf hs
  replace h2 := h2.mono l19
  refine c_sr fun _ hK22 => ?_
  refine v_lss rfl rfl rfl ?_
  refine w_nil (hK22 _ _ _ ?_)
  refine c_seq fun K23 hK23 => ?_
  refine c_if rfl (fun b24 => ?_) (fun b24 => ?_)
  ·replace H := if_t b24 H
   refine c_skip (hK23 _ _ _ ?_)
   refine c_seq fun K25 hK25 => ?_
   refine c_block ?_
   refine c_sr fun _ hK26 => ?_
   obtain ⟨g27, H⟩ := grd_s H
   refine wv rfl (fun hf hs => r_iR Tryd.underlying51 ts3 h2 (hf.ev rfl) (hf.ev rfl) g27.1 g27.2) ?_
   refine wv rfl (fun hf hs => r_loadE1 ta3 h2 hs.sub g27.1 g27.2 (hf.ev rfl) rfl) ?_
   refine va rfl rfl ?_
   refine w_nil (hK26 _ _ _ ?_)
   refine c_reg ?_
   refine vm rfl rfl ?_
   refine vm rfl rfl ?_
   obtain ⟨t28, e33, H⟩ := bnd H
   refine w_call cf84 trivial rfl rfl (fun w hs => wire_Int.calls hs (rd p0 s16.2) _ e33) ?_
   rintro v38 M30 l31 ⟨v34, hv_, h35⟩
   replace hv_ := hv_.symm
   subst hv_
   obtain ⟨g36, H⟩ := grd_s H
   refine w_app (F := (FI .u8)) (m2 := t28) (i := 0) Tryd.underlying66 te5 Tryd.underlying66 (.inl ⟨_, rfl⟩) trivial rfl rfl rfl rfl (Src.rs (FI.one _) h35) g36 ?_
   intro v37
   refine va rfl rfl ?_
   refine w_nil (hK25 _ _ _ ?_)
   refine c_reg ?_
   refine v_add rfl rfl rfl ?_
   refine vm rfl rfl ?_
   exact w_nil fun a w' hf hs => ⟨_, (some_r H).symm, v37, _, l19.trans l31, (hf.pick (pk (pk (pk (pk pk0 rfl) rfl) rfl) rfl)), hs.selD [some 0] (by decide) rfl⟩
  replace H := if_f b24 H
  replace H := map_inr H r20
  refine c_exit ?_
  intro a w' hf hs
  exact ⟨s16.1, v17, _, l19, (hf.pick (pk pk0 rfl)), hs.selD [some 0] (by decide) rfl, H⟩
 rintro a w' ⟨x10, v11, M12, l13, hf, hs, H⟩
 refine c_of (c := (Cx.mk Tryd.prog 21 none' M w)) ?_ hf hs
 unfold wire_Ints.j1 at H
 clear hf hs
 refine c_sr fun _ hK14 => ?_
 refine vm rfl rfl ?_
 refine va rfl rfl ?_
 refine w_nil (hK14 _ _ _ ?_)
 obtain rfl := some_r H
 exact c_ret fun a w' hf hs => hret _ (.inl rfl) a w' hf.df ⟨_, _, _, Res.of1 rfl (RV.t hf rfl), hs.sel [0] (by decide) rfl, rfl⟩
theorem wire_Ints.calls {M : Heap} {w : World} (hM : Sub M w) (p0 : (List Int)) (v1 : Value) (h2 : RS (FI .i64) M v1 p0) (r : (List Int)) (H : wire_Ints p0 = some r) :
  Calls Tryd.prog 95 [v1].toArray w (Post M w fun M' v => ∃ v39, v = v39 ∧ RS (FI .u8) M' v39 r) := by
 exact postR (wire_Ints.callsR hM p0 v1 h2 r H)
theorem wire_Bytes.callsR {M : Heap} {w : World} (hM : Sub M w) (p0 : (List UInt8)) (r : (List Int)) (H : wire_Bytes p0 = some r) :
  Calls Tryd.prog 38 [(str p0)].toArray w (PostI none' M w fun M' x v => x = rowI (FI .u8) v 5 r) := by
 refine enterR 8 [(0, (str p0))] Tryd.func38 rfl rfl rfl hM ?_
 intro Q hret
 unfold wire_Bytes at H
 refine c_sr fun _ hK1 => ?_
 refine va rfl rfl ?_
 refine w_nil (hK1 _ _ _ ?_)
 refine c_sr fun _ hK2 => ?_
 refine vm rfl rfl ?_
 refine wv rfl (fun hf hs => r_slen Tryd.underlying9 (hf.ev rfl)) ?_
 obtain ⟨t3, e4, H⟩ := bnd H
 refine w_callR cf84 trivial rfl rfl (fun w hs => wire_Int.callsR hs (p0.length : Int) _ e4) ?_
 rintro v7 M5 _ l6 rfl
 refine vm rfl rfl ?_
 obtain ⟨g8, H⟩ := grd_s H
 refine w_app (F := (FI .u8)) (m2 := (bytesI p0)) (i := 0) Tryd.underlying66 te5 Tryd.underlying9 (.inr rfl) trivial rfl rfl rfl rfl (srcStrB _) g8 ?_
 intro v9
 refine va rfl rfl ?_
 refine w_nil (hK2 _ _ _ ?_)
 obtain rfl := some_r H
 exact c_ret fun a w' hf hs => hret _ (.inl rfl) a w' hf.df ⟨_, _, _, Res.of1 rfl (RV.t hf rfl), hs.sel [0] (by decide) rfl, rfl⟩
theorem wire_Bytes.calls {M : Heap} {w : World} (hM : Sub M w) (p0 : (List UInt8)) (r : (List Int)) (H : wire_Bytes p0 = some r) :
  Calls Tryd.prog 38 [(str p0)].toArray w (Post M w fun M' v => ∃ v10, v = v10 ∧ RS (FI .u8) M' v10 r) := by
 exact postR (wire_Bytes.callsR hM p0 r H)
theorem fGrow : Tryd.laysGrow_ren.f 4 = 127 := by kernel_rfl
theorem tGrow : Tryd.laysGrow_ren.t 25 = 5 := by kernel_rfl
theorem infoGrow : (Tryd.prog.info? 5).map (fun i => (i.zero, i.size, i.bytes)) = some (some (.int .u8 0), 1, 1) := by kernel_rfl
theorem slices_Grow_byte.callsR {M : Heap} {w : World} (hM : Sub M w) (p1 : Int) (r : List Int) (H : slices_Grow_byte p1 = some r) :
  Calls Tryd.prog 127 [(.slice none 0 0), (.int .i64 p1)].toArray w (PostI none' M w fun M' x v => x = rowI (FI .u8) v 5 r) := by
 unfold slices_Grow_byte at H
 obtain ⟨g, H⟩ := grd_s H
 obtain rfl := some_r H
 obtain ⟨c, rfl⟩ := Int.eq_ofNat_of_zero_le g.1
 have hc : c ≤ 140737488355328 := by omega
 by_cases h0 : c = 0
 ·subst h0
  have h := Go.Proofs.Any8.slices_Grow_room Tryd.laysGrow none 0 0 0 w (by omega) (by omega) (by omega) (by omega)
  rw [fGrow] at h
  refine Calls.mono h ?_
  rintro e w' ⟨rfl, rfl⟩
  exact ⟨_, M, _, rfl, (St.start hM).row0 5 1, rfl⟩
 ·cases hi : Tryd.prog.info? 5 with
  | none => have := infoGrow; rw [hi] at this; cases this
  | some i0 =>
   have hm := infoGrow
   rw [hi] at hm
   obtain ⟨hz, hs, hb⟩ : i0.zero = some (.int .u8 0) ∧ i0.size = 1 ∧ i0.bytes = 1 := by
    simpa using hm
   have h := Go.Proofs.Any8.slices_Grow_grow Tryd.laysGrow i0 (.int .u8 0) (by rw [tGrow]; exact hi) hz (by omega) none 0 0 c [] w (by omega) (by omega) (by rw [hb]; omega) (by omega) (by simp) (fun _ => rfl) (fun a h => by cases h)
   rw [fGrow, tGrow] at h
   refine Calls.mono h ?_
   rintro e w' ⟨rfl, rfl⟩
   obtain ⟨cap, hcap⟩ : ∃ cap, cap = grownCap w (0 + c) 0 5 := ⟨_, rfl⟩
   have hge : 0 + c ≤ cap := by rw [hcap]; exact grownCap_ge w (0 + c) 0 5
   refine ⟨_, M, .row (.slice (some ⟨w.heap.size, 0, none⟩) 0 (grownCap w (0 + c) 0 5)) 5 1 0 [], rfl, ?_, rfl⟩
   rw [← hcap]
   have hd : w.drew.heap.size = w.heap.size := rfl
   have := (St.start (X := none') hM).drew.newL (o := .cells (([] : List Value).toArray ++ Builtin.zeroCells (Value.cells (.int .u8 0)) (0 + c - 0) ++ Builtin.zeroCells (Value.cells (.int .u8 0)) (cap - (0 + c))) 5) (x := .row (.slice (some ⟨w.heap.size, 0, none⟩) 0 cap) 5 1 0 []) (by
    refine ⟨cap, (([] : List Value).toArray ++ Builtin.zeroCells (Value.cells (.int .u8 0)) (0 + c - 0) ++ Builtin.zeroCells (Value.cells (.int .u8 0)) (cap - (0 + c))).toList, (0, 0), rfl, rfl, Nat.zero_le _, ?_, by simp, ?_⟩
    ·have e1 : (Value.cells (.int .u8 0)).size = 1 := rfl
     simp [Builtin.zeroCells, e1]; omega
    ·rw [alloc_get]; simp)
   exact this
theorem slices_Concat_byte.calls {M : Heap} {w : World} (hM : Sub M w) (p0 : (List (List Int))) (v1 : Value) (h2 : RSS (FI .u8) M v1 p0) (r : (List Int)) (H : slices_Concat_byte p0 = some r) :
  Calls Tryd.prog 94 [v1].toArray w (Post M w fun M' v => ∃ v56, v = v56 ∧ RS (FI .u8) M' v56 r) := by
 refine enter 36 [(0, v1)] Tryd.func94 rfl rfl rfl hM ?_
 intro Q hret
 unfold slices_Concat_byte at H
 refine c_sr fun _ hK3 => ?_
 refine va rfl rfl ?_
 refine w_nil (hK3 _ _ _ ?_)
 refine c_sr fun _ hK4 => ?_
 refine va rfl rfl ?_
 refine w_nil (hK4 _ _ _ ?_)
 refine c_cut (fun a' w' => ∃ (x5 : Int) (M6 : Heap), HLe M M6 ∧ Fr 36 [(0, v1), (3, (.int .i64 x5))] a' ∧ St none' M w M6 (lt []) w' ∧ slices_Concat_byte.j3 x5 p0 = some r) ?_ ?_
 ·refine c_seq ?_
  intro K39 hK39
  refine c_reg ?_
  refine vm rfl rfl ?_
  refine wv rfl (fun hf hs => r_lenSS Tryd.underlying165 h2 (hf.ev rfl)) ?_
  refine vm rfl rfl ?_
  refine w_nil (hK39 _ _ _ ?_)
  refine c_block ?_
  refine c_loop (fun (s40 : (Int × Int)) a' w' => ∃ (M41 : Heap), HLe M M41 ∧ Fr 36 [(0, v1), (3, (.int .i64 s40.1)), (9, v1), (10, (.int .i64 (p0.length : Int))), (11, (.int .i64 s40.2))] a' ∧ St none' M w M41 (lt []) w') ((0 : Int), (0 : Int)) H ?_ ?_
  ·intro a w' hf hs
   exact ⟨_, HLe.refl _, (hf.pick (pk (pk (pk (pk (pk pk0 rfl) rfl) rfl) rfl) rfl)), hs.selD [] (by decide) rfl⟩
  clear H
  intro s40 y44 H r43 a w' hJ
  obtain ⟨M41, l42, hf, hs⟩ := hJ
  refine c_of (c := (Cx.mk Tryd.prog 36 none' M w)) ?_ hf hs
  unfold slices_Concat_byte.l4 at H
  clear hf hs
  replace h2 := h2.mono l42
  refine c_sr fun _ hK45 => ?_
  refine v_lss rfl rfl rfl ?_
  refine w_nil (hK45 _ _ _ ?_)
  refine c_seq fun K46 hK46 => ?_
  refine c_if rfl (fun b47 => ?_) (fun b47 => ?_)
  ·replace H := if_t b47 H
   refine c_skip (hK46 _ _ _ ?_)
   refine c_seq fun K48 hK48 => ?_
   refine c_block ?_
   refine c_sr fun _ hK49 => ?_
   obtain ⟨g50, H⟩ := grd_s H
   refine wv rfl (fun hf hs => r_iSS Tryd.underlying165 ts66 h2 (hf.ev rfl) (hf.ev rfl) g50.1 g50.2) ?_
   refine w_ex (Φ := fun v => RS (FI .u8) M41 v (rd p0 s40.2)) trivial rfl (fun a w hf hs => r_loadSS ta66 h2 (St.sub hs) g50.1 g50.2 (hf.ev rfl)) ?_
   intro v51 h52
   refine va rfl rfl ?_
   refine w_nil (hK49 _ _ _ ?_)
   refine c_sr fun _ hK53 => ?_
   refine vm rfl rfl ?_
   refine vm rfl rfl ?_
   refine wv rfl (fun hf hs => r_lenR Tryd.underlying66 h52 (hf.ev rfl)) ?_
   refine v_add rfl rfl rfl ?_
   refine va rfl rfl ?_
   refine w_nil (hK53 _ _ _ ?_)
   refine c_sr fun _ hK54 => ?_
   refine vm rfl rfl ?_
   refine v_lss rfl rfl rfl ?_
   refine w_nil (hK54 _ _ _ ?_)
   refine c_if rfl (fun b55 => ?_) (fun b55 => ?_)
   ·replace H := if_t b55 H
    cases H
   replace H := if_f b55 H
   refine c_skip (hK48 _ _ _ ?_)
   refine c_reg ?_
   refine v_add rfl rfl rfl ?_
   refine vm rfl rfl ?_
   exact w_nil fun a w' hf hs => ⟨_, (some_r H).symm, _, l42.trans (HLe.refl _), (hf.pick (pk (pk (pk (pk (pk pk0 rfl) rfl) rfl) rfl) rfl)), hs.selD [] (by decide) rfl⟩
  replace H := if_f b47 H
  replace H := map_inr H r43
  refine c_exit ?_
  intro a w' hf hs
  exact ⟨s40.1, _, l42, (hf.pick (pk (pk pk0 rfl) rfl)), hs.selD [] (by decide) rfl, H⟩
 rintro a w' ⟨x5, M6, l7, hf, hs, H⟩
 refine c_of (c := (Cx.mk Tryd.prog 36 none' M w)) ?_ hf hs
 unfold slices_Concat_byte.j3 at H
 clear hf hs
 replace h2 := h2.mono l7
 refine c_sr fun _ hK8 => ?_
 refine vm rfl rfl ?_
 obtain ⟨t9, e10, H⟩ := bnd H
 refine w_callR cf127 trivial rfl rfl (fun w hs => slices_Grow_byte.callsR hs x5 _ e10) ?_
 rintro v13 M11 _ l12 rfl
 replace h2 := h2.mono l12
 refine va rfl rfl ?_
 refine w_nil (hK8 _ _ _ ?_)
 refine c_cut (fun a' w' => ∃ (x14 : (List Int)) (v15 : Value) (M16 : Heap), HLe M11 M16 ∧ Fr 36 [(6, v15)] a' ∧ St none' M w M16 (lt [rowI (FI .u8) v15 5 x14]) w' ∧ slices_Concat_byte.j1 x14 = some r) ?_ ?_
 ·refine c_seq ?_
  intro K22 hK22
  refine c_reg ?_
  refine vm rfl rfl ?_
  refine wv rfl (fun hf hs => r_lenSS Tryd.underlying165 h2 (hf.ev rfl)) ?_
  refine vm rfl rfl ?_
  refine w_nil (hK22 _ _ _ ?_)
  refine c_block ?_
  refine c_loop (fun (s23 : ((List Int) × Int)) a' w' => ∃ (v24 : Value) (M25 : Heap), HLe M11 M25 ∧ Fr 36 [(6, v24), (25, v1), (26, (.int .i64 (p0.length : Int))), (27, (.int .i64 s23.2))] a' ∧ St none' M w M25 (lt [rowI (FI .u8) v24 5 s23.1]) w') (t9, (0 : Int)) H ?_ ?_
  ·intro a w' hf hs
   exact ⟨v13, _, HLe.refl _, (hf.pick (pk (pk (pk (pk pk0 rfl) rfl) rfl) rfl)), hs.selD [some 0] (by decide) rfl⟩
  clear H
  intro s23 y28 H r27 a w' hJ
  obtain ⟨v24, M25, l26, hf, hs⟩ := hJ
  refine c_of (c := (Cx.mk Tryd.prog 36 none' M w)) ?_ hf hs
  unfold slices_Concat_byte.l2 at H
  clear hf hs
  replace h2 := h2.mono l26
  refine c_sr fun _ hK29 => ?_
  refine v_lss rfl rfl rfl ?_
  refine w_nil (hK29 _ _ _ ?_)
  refine c_seq fun K30 hK30 => ?_
  refine c_if rfl (fun b31 => ?_) (fun b31 => ?_)
  ·replace H := if_t b31 H
   refine c_skip (hK30 _ _ _ ?_)
   refine c_seq fun K32 hK32 => ?_
   refine c_block ?_
   refine c_sr fun _ hK33 => ?_
   obtain ⟨g34, H⟩ := grd_s H
   refine wv rfl (fun hf hs => r_iSS Tryd.underlying165 ts66 h2 (hf.ev rfl) (hf.ev rfl) g34.1 g34.2) ?_
   refine w_ex (Φ := fun v => RS (FI .u8) M25 v (rd p0 s23.2)) trivial rfl (fun a w hf hs => r_loadSS ta66 h2 (St.sub hs) g34.1 g34.2 (hf.ev rfl)) ?_
   intro v35 h36
   refine va rfl rfl ?_
   refine w_nil (hK33 _ _ _ ?_)
   refine c_reg ?_
   refine vm rfl rfl ?_
   refine vm rfl rfl ?_
   obtain ⟨g37, H⟩ := grd_s H
   refine w_app (F := (FI .u8)) (m2 := (rd p0 s23.2)) (i := 0) Tryd.underlying66 te5 Tryd.underlying66 (.inl ⟨_, rfl⟩) trivial rfl rfl rfl rfl (Src.rs (FI.one _) h36) g37 ?_
   intro v38
   refine va rfl rfl ?_
   refine w_nil (hK32 _ _ _ ?_)
   refine c_reg ?_
   refine v_add rfl rfl rfl ?_
   refine vm rfl rfl ?_
   exact w_nil fun a w' hf hs => ⟨_, (some_r H).symm, v38, _, l26.trans (HLe.refl _), (hf.pick (pk (pk (pk (pk pk0 rfl) rfl) rfl) rfl)), hs.selD [some 0] (by decide) rfl⟩
  replace H := if_f b31 H
  replace H := map_inr H r27
  refine c_exit ?_
  intro a w' hf hs
  exact ⟨s23.1, v24, _, l26, (hf.pick (pk pk0 rfl)), hs.selD [some 0] (by decide) rfl, H⟩
 rintro a w' ⟨x14, v15, M16, l17, hf, hs, H⟩
 refine c_of (c := (Cx.mk Tryd.prog 36 none' M w)) ?_ hf hs
 unfold slices_Concat_byte.j1 at H
 clear hf hs
 refine c_sr fun _ hK18 => ?_
 refine vm rfl rfl ?_
 refine va rfl rfl ?_
 refine w_nil (hK18 _ _ _ ?_)
 obtain rfl := some_r H
 refine c_ret ?_
 refine n_give 0 rfl (fun _ h => h) ?_
 intro M19 l20 h21
 intro a w' hf hs
 exact hret _ (.inl rfl) a w' hf.df ⟨_, _, Res.of1 rfl (RV.t hf rfl), hs.ext, ⟨_, rfl, h21⟩⟩
theorem backup_Header.calls {M : Heap} {w : World} (hM : Sub M w) (p0 : Backup) (v1 : Value) (h2 : RS Key.F M v1 p0.Keys) (r : (List UInt8)) (H : backup_Header p0 = some r) :
  Calls Tryd.prog 48 [(.agg (Backup.C p0 v1).toArray)].toArray w (Post M w fun M' v => v = (str r)) := by
 refine enter 23 [(0, (.agg (Backup.C p0 v1).toArray))] Tryd.func48 rfl rfl rfl hM ?_
 intro Q hret
 unfold backup_Header at H
 refine c_sr fun _ hK3 => ?_
 refine w_boxM trivial rfl rfl rfl ?_
 intro b4 M5 l6 h7
 refine va rfl rfl ?_
 refine w_nil (hK3 _ _ _ ?_)
 refine c_seq fun K8 hK8 => ?_
 obtain ⟨t52, e57, H⟩ := bnd H
 obtain ⟨t74, e79, H⟩ := bnd H
 obtain ⟨t104, e109, H⟩ := bnd H
 refine c_drawP [([], [1]), ([(0, 3)], []), ([], [1]), ([(2, 5)], []), ([], [1]), ([(4, 7)], []), ([], [1]), ([(6, 9)], []), ([], [1]), ([(8, 11)], []), ([(3, 6), (5, 8), (7, 10), (9, 12)], []), ([(10, 13)], []), ([], [1]), ([(12, 15)], []), ([], [1]), ([(14, 17)], []), ([(15, 18)], []), ([(1, 4), (11, 14), (13, 16), (16, 19)], []), ([(17, 20)], []), ([(18, 21)], []), ([(19, 22)], [])] [vq (ptr b4 0), vq (vw b4 0 16 ((0 : Int)).toNat ((16 : Int)).toNat), vq (ptr b4 16), vq (.int .i64 p0.Epoch), vq (ptr b4 17), vq (.int .i64 p0.Number), vq (ptr b4 18), vq (.int .i64 p0.Firmware), vq (ptr b4 19), vq (.int .i64 p0.Time), fun v M => ∃ (v40 : Value), v = v40 ∧ RS (FI .i64) M v40 ([p0.Epoch, p0.Number, p0.Firmware, p0.Time] : List Int) ∧ ∃ A, v40 = .slice A ([p0.Epoch, p0.Number, p0.Firmware, p0.Time] : List Int).length ([p0.Epoch, p0.Number, p0.Firmware, p0.Time] : List Int).length, fun v M => ∃ (v58 : Value), v = v58 ∧ RS (FI .u8) M v58 t52, vq (ptr b4 20), vq (vw b4 20 16 ((0 : Int)).toNat ((16 : Int)).toNat), vq (ptr b4 36), vq (str p0.Module), fun v M => ∃ (v80 : Value), v = v80 ∧ RS (FI .u8) M v80 t74, fun v M => ∃ (v93 : Value), v = v93 ∧ RSS (FI .u8) M v93 ([((p0.Domain.toList.take ((16 : Int)).toNat).drop ((0 : Int)).toNat), t52, ((p0.Policy.toList.take ((16 : Int)).toNat).drop ((0 : Int)).toNat), t74] : (List (List Int))), fun v M => ∃ (v110 : Value), v = v110 ∧ RS (FI .u8) M v110 t104, vq (str (intsB t104)), vq (str (intsB t104))] (by kernel_rfl) (by kernel_rfl) ?_ (aT ?_ (aT ?_ (aT ?_ (aT ?_ (aT ?_ (aT ?_ (aT ?_ (aT ?_ (aT ?_ (aT ?_ (aT ?_ (aT ?_ (aT ?_ (aT ?_ (aT ?_ (aT ?_ (aT ?_ (aT ?_ (aT ?_ (aT ?_ (aT ?_ AllT.nil))))))))))))))))))))) ?_
 ·exact (mC (mC (mC (mC (mC (mC (mC (mC (mC (mC (MonoA.cons (fun _ _ _ hM h => by obtain ⟨v40, e_, q0, q1⟩ := h; exact ⟨v40, e_, q0.mono hM, q1⟩) (MonoA.cons (fun _ _ _ hM h => by obtain ⟨v58, e_, q0⟩ := h; exact ⟨v58, e_, q0.mono hM⟩) (mC (mC (mC (mC (MonoA.cons (fun _ _ _ hM h => by obtain ⟨v80, e_, q0⟩ := h; exact ⟨v80, e_, q0.mono hM⟩) (MonoA.cons (fun _ _ _ hM h => by obtain ⟨v93, e_, q0⟩ := h; exact ⟨v93, e_, q0.mono hM⟩) (MonoA.cons (fun _ _ _ hM h => by obtain ⟨v110, e_, q0⟩ := h; exact ⟨v110, e_, q0.mono hM⟩) (mC (mC MonoA.nil)))))))))))))))))))))
 ·intro a w' _ l10 hd hs
  replace h7 := l10 _ _ h7
  exact pv (hd.fr.add (hd.base 1 _ rfl rfl)) hs rfl (fun hf hs => r_fa fa36_0 (hf.ev rfl)) rfl
 ·intro a w' _ l12 hd hs
  replace h7 := l12 _ _ h7
  exact pv (hd.fr.add (hd.val 0 3 _ rfl rfl)) hs rfl (fun hf hs => r_view Tryd.underlying33 ts5 (hf.ev rfl) rfl rfl (by decide) (by decide) (by decide)) rfl
 ·intro a w' _ l15 hd hs
  replace h7 := l15 _ _ h7
  exact pv (hd.fr.add (hd.base 1 _ rfl rfl)) hs rfl (fun hf hs => r_fa fa36_1 (hf.ev rfl)) rfl
 ·intro a w' _ l17 hd hs
  exact pv (hd.fr.add (hd.val 2 5 _ rfl rfl)) hs rfl (fun hf hs => r_load1 ta3 (hf.ev rfl) (hs.sub _ _ (l17 _ _ h7)) (Backup.g16 _ _)) rfl
 ·intro a w' _ l20 hd hs
  replace h7 := l20 _ _ h7
  exact pv (hd.fr.add (hd.base 1 _ rfl rfl)) hs rfl (fun hf hs => r_fa fa36_2 (hf.ev rfl)) rfl
 ·intro a w' _ l22 hd hs
  exact pv (hd.fr.add (hd.val 4 7 _ rfl rfl)) hs rfl (fun hf hs => r_load1 ta3 (hf.ev rfl) (hs.sub _ _ (l22 _ _ h7)) (Backup.g17 _ _)) rfl
 ·intro a w' _ l25 hd hs
  replace h7 := l25 _ _ h7
  exact pv (hd.fr.add (hd.base 1 _ rfl rfl)) hs rfl (fun hf hs => r_fa fa36_3 (hf.ev rfl)) rfl
 ·intro a w' _ l27 hd hs
  exact pv (hd.fr.add (hd.val 6 9 _ rfl rfl)) hs rfl (fun hf hs => r_load1 ta3 (hf.ev rfl) (hs.sub _ _ (l27 _ _ h7)) (Backup.g18 _ _)) rfl
 ·intro a w' _ l30 hd hs
  replace h7 := l30 _ _ h7
  exact pv (hd.fr.add (hd.base 1 _ rfl rfl)) hs rfl (fun hf hs => r_fa fa36_4 (hf.ev rfl)) rfl
 ·intro a w' _ l32 hd hs
  exact pv (hd.fr.add (hd.val 8 11 _ rfl rfl)) hs rfl (fun hf hs => r_load1 ta3 (hf.ev rfl) (hs.sub _ _ (l32 _ _ h7)) (Backup.g19 _ _)) rfl
 ·intro a w' _ _ hd hs
  have e36 := hd.val 3 6 _ rfl rfl
  have e37 := hd.val 5 8 _ rfl rfl
  have e38 := hd.val 7 10 _ rfl rfl
  have e39 := hd.val 9 12 _ rfl rfl
  refine OP.ofW (l := [(6, (.int .i64 p0.Epoch)), (8, (.int .i64 p0.Number)), (10, (.int .i64 p0.Firmware)), (12, (.int .i64 p0.Time))]) ((((hd.fr.add e39).add e38).add e37).add e36) hs rfl ?_
  refine w_bsl (F := (FI .i64)) (es := ([p0.Epoch, p0.Number, p0.Firmware, p0.Time] : List Int)) (xs := [.tmp 6, .tmp 8, .tmp 10, .tmp 12]) (vs := [(.int .i64 p0.Epoch), (.int .i64 p0.Number), (.int .i64 p0.Firmware), (.int .i64 p0.Time)]) Tryd.underlying51 te3 trivial rfl rfl rfl rfl rfl (by decide) ?_
  intro v40 M41 l42 h43 c44
  exact w_nil fun a w' hf hs => ⟨rfl, hf.df, _, l42, hs, ⟨v40, hf.get _ _ rfl, h43, c44⟩⟩
 ·intro a w' _ _ hd hs
  obtain ⟨v47, e51, h48, h50⟩ := hd.val 10 13 _ rfl rfl
  refine OP.ofW (l := [(13, v47)]) (hd.fr.add e51) hs rfl ?_
  refine w_call cf95 trivial rfl rfl (fun w hs => wire_Ints.calls hs ([p0.Epoch, p0.Number, p0.Firmware, p0.Time] : List Int) v47 h48 _ e57) ?_
  rintro v60 M54 l55 ⟨v58, hv_, h59⟩
  replace hv_ := hv_.symm
  subst hv_
  exact w_nil fun a w' hf hs => ⟨rfl, hf.df, _, l55, hs, ⟨v58, hf.get _ _ rfl, h59⟩⟩
 ·intro a w' _ l62 hd hs
  replace h7 := l62 _ _ h7
  exact pv (hd.fr.add (hd.base 1 _ rfl rfl)) hs rfl (fun hf hs => r_fa fa36_5 (hf.ev rfl)) rfl
 ·intro a w' _ l64 hd hs
  replace h7 := l64 _ _ h7
  exact pv (hd.fr.add (hd.val 12 15 _ rfl rfl)) hs rfl (fun hf hs => r_view Tryd.underlying33 ts5 (hf.ev rfl) rfl rfl (by decide) (by decide) (by decide)) rfl
 ·intro a w' _ l67 hd hs
  replace h7 := l67 _ _ h7
  exact pv (hd.fr.add (hd.base 1 _ rfl rfl)) hs rfl (fun hf hs => r_fa fa36_6 (hf.ev rfl)) rfl
 ·intro a w' _ l69 hd hs
  exact pv (hd.fr.add (hd.val 14 17 _ rfl rfl)) hs rfl (fun hf hs => r_load1 ta9 (hf.ev rfl) (hs.sub _ _ (l69 _ _ h7)) (Backup.g36 _ _)) rfl
 ·intro a w' _ _ hd hs
  have e73 := hd.val 15 18 _ rfl rfl
  refine OP.ofW (l := [(18, (str p0.Module))]) (hd.fr.add e73) hs rfl ?_
  refine w_call cf38 trivial rfl rfl (fun w hs => wire_Bytes.calls hs p0.Module _ e79) ?_
  rintro v82 M76 l77 ⟨v80, hv_, h81⟩
  replace hv_ := hv_.symm
  subst hv_
  exact w_nil fun a w' hf hs => ⟨rfl, hf.df, _, l77, hs, ⟨v80, hf.get _ _ rfl, h81⟩⟩
 ·intro a w' M83 l84 hd hs
  have e85 := hd.val 1 4 _ rfl rfl
  replace h7 := l84 _ _ h7
  obtain ⟨v86, e88, h87⟩ := hd.val 11 14 _ rfl rfl
  have e89 := hd.val 13 16 _ rfl rfl
  obtain ⟨v90, e92, h91⟩ := hd.val 16 19 _ rfl rfl
  refine OP.ofW (l := [(4, (vw b4 0 16 ((0 : Int)).toNat ((16 : Int)).toNat)), (14, v86), (16, (vw b4 20 16 ((0 : Int)).toNat ((16 : Int)).toNat)), (19, v90)]) ((((hd.fr.add e92).add e89).add e88).add e85) hs rfl ?_
  refine w_bsl (F := FVl) (es := [(vw b4 0 16 ((0 : Int)).toNat ((16 : Int)).toNat), v86, (vw b4 20 16 ((0 : Int)).toNat ((16 : Int)).toNat), v90]) (xs := [.tmp 4, .tmp 14, .tmp 16, .tmp 19]) (vs := [(vw b4 0 16 ((0 : Int)).toNat ((16 : Int)).toNat), v86, (vw b4 20 16 ((0 : Int)).toNat ((16 : Int)).toNat), v90]) Tryd.underlying165 te66 trivial rfl rfl rfl rfl (RSL.cells (F := (FI .u8)) (M := M83) (L := ([((p0.Domain.toList.take ((16 : Int)).toNat).drop ((0 : Int)).toNat), t52, ((p0.Policy.toList.take ((16 : Int)).toNat).drop ((0 : Int)).toNat), t74] : (List (List Int)))) (.cons (RS.view h7 (Backup.d0_16 _ _) (by decide) (by decide) (by decide)) (.cons h87 (.cons (RS.view h7 (Backup.d20_16 _ _) (by decide) (by decide) (by decide)) (.cons h91 .nil))))) (by decide) ?_
  intro v93 M94 l95 h96 c97
  replace h7 := l95 _ _ h7
  replace h87 := h87.mono l95
  replace h91 := h91.mono l95
  have h98 : RSS (FI .u8) M94 v93 ([((p0.Domain.toList.take ((16 : Int)).toNat).drop ((0 : Int)).toNat), t52, ((p0.Policy.toList.take ((16 : Int)).toNat).drop ((0 : Int)).toNat), t74] : (List (List Int))) := RSS.of h96 (.cons (RS.view h7 (Backup.d0_16 _ _) (by decide) (by decide) (by decide)) (.cons h87 (.cons (RS.view h7 (Backup.d20_16 _ _) (by decide) (by decide) (by decide)) (.cons h91 .nil))))
  clear h96 c97
  exact w_nil fun a w' hf hs => ⟨rfl, hf.df, _, l95, hs, ⟨v93, hf.get _ _ rfl, h98⟩⟩
 ·intro a w' _ _ hd hs
  obtain ⟨v101, e103, h102⟩ := hd.val 17 20 _ rfl rfl
  refine OP.ofW (l := [(20, v101)]) (hd.fr.add e103) hs rfl ?_
  refine w_call cf94 trivial rfl rfl (fun w hs => slices_Concat_byte.calls hs ([((p0.Domain.toList.take ((16 : Int)).toNat).drop ((0 : Int)).toNat), t52, ((p0.Policy.toList.take ((16 : Int)).toNat).drop ((0 : Int)).toNat), t74] : (List (List Int))) v101 h102 _ e109) ?_
  rintro v112 M106 l107 ⟨v110, hv_, h111⟩
  replace hv_ := hv_.symm
  subst hv_
  exact w_nil fun a w' hf hs => ⟨rfl, hf.df, _, l107, hs, ⟨v110, hf.get _ _ rfl, h111⟩⟩
 ·intro a w' _ _ hd hs
  obtain ⟨v115, e117, h116⟩ := hd.val 18 21 _ rfl rfl
  exact pv (hd.fr.add e117) hs rfl (fun hf hs => r_b2s Tryd.underlying66 Tryd.underlying5 Tryd.underlying9 h116 hs.sub (hf.ev rfl)) rfl
 ·intro a w' _ _ hd hs
  exact pv (hd.fr.add (hd.val 19 22 _ rfl rfl)) hs rfl (fun hf hs => r_assign (hf.ev rfl)) rfl
 intro a w' M121 l122 hdf hsz hb hv hs
 have e123 := hv 20 2 _ rfl rfl
 refine n_of (c := (Cx.mk Tryd.prog 23 none' M w)) (l := [(2, (str (intsB t104)))]) ?_ ((Fr.start hdf hsz).add e123) hs
 clear hdf hsz hb hv hs e123
 refine n_id (hK8 _ _ _ ?_)
 obtain rfl := some_r H
 exact c_ret fun a w' hf hs => hret _ (.inl rfl) a w' hf.df ⟨_, _, Res.of1 rfl (RV.t hf rfl), hs.ext, rfl⟩
theorem hash_Begin.calls {M : Heap} {w : World} (hM : Sub M w)  (r : hash_Stream) (H : hash_Begin  = some r) :
  Calls Tryd.prog 78 [].toArray w (Post M w fun M' v => v = (.agg (hash_Stream.C r).toArray)) := by
 refine enter 3 [] Tryd.func78 rfl rfl rfl hM ?_
 intro Q hret
 unfold hash_Begin at H
 refine c_sr fun _ hK1 => ?_
 refine w_allocL (A := hash_Stream.C (⟨(Vector.replicate 8 0), (Vector.replicate 64 0), 0⟩ : hash_Stream)) tz123 trivial rfl rfl ?_
 intro b2
 refine w_nil (hK1 _ _ _ ?_)
 refine c_sr fun _ hK3 => ?_
 refine wv rfl (fun hf hs => r_build (is := [0, 1, 2, 3, 4, 5, 6, 7]) (xs := [.const (.int .u32 1779033703), .const (.int .u32 3144134277), .const (.int .u32 1013904242), .const (.int .u32 2773480762), .const (.int .u32 1359893119), .const (.int .u32 2600822924), .const (.int .u32 528734635), .const (.int .u32 1541459225)]) (vs := [(.int .u32 1779033703), (.int .u32 3144134277), (.int .u32 1013904242), (.int .u32 2773480762), (.int .u32 1359893119), (.int .u32 2600822924), (.int .u32 528734635), (.int .u32 1541459225)]) (A := vI .u32 (#v[(1779033703 : Int), (3144134277 : Int), (1013904242 : Int), (2773480762 : Int), (1359893119 : Int), (2600822924 : Int), (528734635 : Int), (1541459225 : Int)] : Vector Int 8)) rfl (hf.evs rfl) (by kernel_rfl)) ?_
 refine wv rfl (fun hf hs => r_build (is := [0]) (xs := [.tmp 1]) (vs := [(.agg (vI .u32 (#v[(1779033703 : Int), (3144134277 : Int), (1013904242 : Int), (2773480762 : Int), (1359893119 : Int), (2600822924 : Int), (528734635 : Int), (1541459225 : Int)] : Vector Int 8)).toArray)]) (A := hash_Stream.C (⟨(#v[(1779033703 : Int), (3144134277 : Int), (1013904242 : Int), (2773480762 : Int), (1359893119 : Int), (2600822924 : Int), (528734635 : Int), (1541459225 : Int)] : Vector Int 8), (Vector.replicate 64 0), 0⟩ : hash_Stream)) rfl (hf.evs rfl) (built_of (pl := [(0, 8), (8, 64), (72, 1)]) (A0 := hash_Stream.C (⟨(Vector.replicate 8 0), (Vector.replicate 64 0), 0⟩ : hash_Stream)) tz123 Tryd.underlying123 (by kernel_rfl) rfl (.cons (vs := vI .u32 (#v[(1779033703 : Int), (3144134277 : Int), (1013904242 : Int), (2773480762 : Int), (1359893119 : Int), (2600822924 : Int), (528734635 : Int), (1541459225 : Int)] : Vector Int 8)) (B := hash_Stream.C (⟨(#v[(1779033703 : Int), (3144134277 : Int), (1013904242 : Int), (2773480762 : Int), (1359893119 : Int), (2600822924 : Int), (528734635 : Int), (1541459225 : Int)] : Vector Int 8), (Vector.replicate 64 0), 0⟩ : hash_Stream)) rfl rfl (by simp) (by rw [hash_Stream.len]; decide) (hash_Stream.s0_8 _) .nil))) ?_
 obtain ⟨z4, e6, H⟩ := bnd H
 have e5 := some_r e6
 refine w_store (i := 0) (vs := hash_Stream.C (⟨(#v[(1779033703 : Int), (3144134277 : Int), (1013904242 : Int), (2773480762 : Int), (1359893119 : Int), (2600822924 : Int), (528734635 : Int), (1541459225 : Int)] : Vector Int 8), (Vector.replicate 64 0), 0⟩ : hash_Stream)) (A' := hash_Stream.C z4) trivial rfl rfl rfl rfl ts123 (hash_Stream.len _) (hash_Stream.F_one _) (by rw [hash_Stream.len]; decide) (by rw [← e5]; exact (splice_all _ _ (by simp [hash_Stream.C]))) ?_
 clear e6 e5
 refine w_nil (hK3 _ _ _ ?_)
 obtain rfl := some_r H
 exact c_ret fun a w' hf hs => hret _ (.inl rfl) a w' hf.df ⟨_, _, Res.of1 rfl ⟨_, hf.get _ _ rfl, run_loadA (hs.blk (i := 0) rfl) ta123 ts123 (hash_Stream.d0_73 _) (hash_Stream.len _)⟩, hs.ext, rfl⟩
theorem bits_RotateLeft32.calls {M : Heap} {w : World} (hM : Sub M w) (p0 : Int) (p1 : Int) (r : Int) (H : bits_RotateLeft32 p0 p1 = some r) :
  Calls Tryd.prog 139 [(.int .u32 p0), (.int .i64 p1)].toArray w (Post M w fun M' v => v = (.int .u32 r)) := by
 refine enter 17 [(0, (.int .u32 p0)), (1, (.int .i64 p1))] Tryd.func139 rfl rfl rfl hM ?_
 intro Q hret
 unfold bits_RotateLeft32 at H
 refine c_sr fun _ hK1 => ?_
 refine va rfl rfl ?_
 refine w_nil (hK1 _ _ _ ?_)
 refine c_sr fun _ hK2 => ?_
 refine vm rfl rfl ?_
 refine wv rfl (fun hf hs => r_conv Tryd.underlying3 Tryd.underlying103 (hf.ev rfl)) ?_
 refine wv rfl (fun hf hs => r_and (hf.ev rfl) (hf.ev rfl)) ?_
 refine va rfl rfl ?_
 refine w_nil (hK2 _ _ _ ?_)
 refine c_sr fun _ hK3 => ?_
 refine vm rfl rfl ?_
 refine vm rfl rfl ?_
 obtain ⟨g4, H⟩ := grd_s H
 refine wv rfl (fun hf hs => r_shl (hf.ev rfl) (hf.ev rfl) g4) ?_
 refine vm rfl rfl ?_
 refine vm rfl rfl ?_
 refine wv rfl (fun hf hs => r_sub (hf.ev rfl) (hf.ev rfl)) ?_
 obtain ⟨g5, H⟩ := grd_s H
 refine wv rfl (fun hf hs => r_shr (hf.ev rfl) (hf.ev rfl) g5) ?_
 refine wv rfl (fun hf hs => r_or (hf.ev rfl) (hf.ev rfl)) ?_
 refine va rfl rfl ?_
 refine w_nil (hK3 _ _ _ ?_)
 obtain rfl := some_r H
 exact c_ret fun a w' hf hs => hret _ (.inl rfl) a w' hf.df ⟨_, _, Res.of1 rfl (RV.t hf rfl), hs.ext, rfl⟩
theorem hash_schedule.calls {M : Heap} {w : World} (hM : Sub M w) (p0 : (List Int)) (v1 : Value) (h2 : RS (FI .u8) M v1 p0) (r : (Vector Int 64)) (H : hash_schedule p0 = some r) :
  Calls Tryd.prog 132 [v1].toArray w (Post M w fun M' v => v = (.agg (vI .u32 r).toArray)) := by
 refine enter 79 [(0, v1)] Tryd.func132 rfl rfl rfl hM ?_
 intro Q hret
 unfold hash_schedule at H
 refine c_sr fun _ hK3 => ?_
 refine w_allocL (A := vI .u32 (Vector.replicate 64 (0 : Int))) tz157 trivial rfl rfl ?_
 intro b4
 refine w_nil (hK3 _ _ _ ?_)
 refine c_sr fun _ hK5 => ?_
 refine w_allocL (A := vI .u32 (Vector.replicate 64 (0 : Int))) tz157 trivial rfl rfl ?_
 intro b6
 refine w_nil (hK5 _ _ _ ?_)
 refine c_cut (fun a' w' => ∃ (x7 : (Vector Int 64)) (M8 : Heap), HLe M M8 ∧ Fr 79 [(2, (ptr b4 0)), (3, (ptr b6 0))] a' ∧ St none' M w M8 (lt [.blk b4 (.cells (vI .u32 (Vector.replicate 64 (0 : Int))).toArray 157 (0, 0)), .blk b6 (.cells (vI .u32 x7).toArray 157 (0, 0))]) w' ∧ hash_schedule.j1 x7 = some r) ?_ ?_
 ·refine c_seq ?_
  intro K11 hK11
  refine c_reg ?_
  refine vm rfl rfl ?_
  refine w_nil (hK11 _ _ _ ?_)
  refine c_block ?_
  refine c_loop (fun (s12 : ((Vector Int 64) × Int)) a' w' => ∃ (M13 : Heap), HLe M M13 ∧ Fr 79 [(0, v1), (2, (ptr b4 0)), (3, (ptr b6 0)), (11, (.int .i64 s12.2))] a' ∧ St none' M w M13 (lt [.blk b4 (.cells (vI .u32 (Vector.replicate 64 (0 : Int))).toArray 157 (0, 0)), .blk b6 (.cells (vI .u32 s12.1).toArray 157 (0, 0))]) w') ((Vector.replicate 64 (0 : Int)), (0 : Int)) H ?_ ?_
  ·intro a w' hf hs
   exact ⟨_, HLe.refl _, (hf.pick (pk (pk (pk (pk pk0 rfl) rfl) rfl) rfl)), hs.selD [some 0, some 1] (by decide) rfl⟩
  clear H
  intro s12 y16 H r15 a w' hJ
  obtain ⟨M13, l14, hf, hs⟩ := hJ
  refine c_of (c := (Cx.mk Tryd.prog 79 none' M w)) ?_ hf hs
  unfold hash_schedule.l6 at H
  clear hf hs
  replace h2 := h2.mono l14
  refine c_sr fun _ hK17 => ?_
  refine v_lss rfl rfl rfl ?_
  refine w_nil (hK17 _ _ _ ?_)
  refine c_seq fun K18 hK18 => ?_
  refine c_if rfl (fun b19 => ?_) (fun b19 => ?_)
  ·replace H := if_t b19 H
   refine c_skip (hK18 _ _ _ ?_)
   refine c_cut (fun a' w' => ∃ (x20 : (Vector Int 64)) (M21 : Heap), HLe M13 M21 ∧ Fr 79 [(0, v1), (2, (ptr b4 0)), (3, (ptr b6 0)), (11, (.int .i64 s12.2))] a' ∧ St none' M w M21 (lt [.blk b4 (.cells (vI .u32 (Vector.replicate 64 (0 : Int))).toArray 157 (0, 0)), .blk b6 (.cells (vI .u32 x20).toArray 157 (0, 0))]) w' ∧ hash_schedule.j2 x20 s12 = some y16) ?_ ?_
   ·refine c_block ?_
    refine c_sr fun _ hK23 => ?_
    refine vm rfl rfl ?_
    refine va rfl rfl ?_
    refine w_nil (hK23 _ _ _ ?_)
    refine c_cut (fun a' w' => ∃ (M24 : Heap), HLe M13 M24 ∧ Fr 79 [(0, v1), (2, (ptr b4 0)), (3, (ptr b6 0)), (4, (.int .i64 s12.2)), (11, (.int .i64 s12.2))] a' ∧ St none' M w M24 (lt [.blk b4 (.cells (vI .u32 (Vector.replicate 64 (0 : Int))).toArray 157 (0, 0)), .blk b6 (.cells (vI .u32 s12.1).toArray 157 (0, 0))]) w' ∧ hash_schedule.j3 s12 = some y16) ?_ ?_
    ·refine c_seq ?_
     intro K138 hK138
     refine c_reg ?_
     refine vm rfl rfl ?_
     refine v_lss rfl rfl rfl ?_
     refine w_nil (hK138 _ _ _ ?_)
     refine c_if rfl (fun b139 => ?_) (fun b139 => ?_)
     ·replace H := if_t b139 H
      refine c_cut (fun a' w' => ∃ (x140 : (Vector Int 64)) (M141 : Heap), HLe M13 M141 ∧ Fr 79 [(0, v1), (2, (ptr b4 0)), (3, (ptr b6 0)), (11, (.int .i64 s12.2))] a' ∧ St none' M w M141 (lt [.blk b4 (.cells (vI .u32 (Vector.replicate 64 (0 : Int))).toArray 157 (0, 0)), .blk b6 (.cells (vI .u32 x140).toArray 157 (0, 0))]) w' ∧ hash_schedule.j4 x140 s12 = some y16) ?_ ?_
      ·refine c_seq ?_
       intro K143 hK143
       refine c_reg ?_
       refine vm rfl rfl ?_
       refine vm rfl rfl ?_
       refine wv rfl (fun hf hs => r_mul (hf.ev rfl) (hf.ev rfl)) ?_
       refine vm rfl rfl ?_
       refine wv rfl (fun hf hs => r_mul (hf.ev rfl) (hf.ev rfl)) ?_
       refine v_add rfl rfl rfl ?_
       obtain ⟨g146, H⟩ := grd_s H
       refine w_ex (Φ := fun v => RS (FI .u8) M13 v ((p0.take ((IntKind.i64.wrap ((IntKind.i64.wrap ((4 : Int) * s12.2)) + (4 : Int)))).toNat).drop ((IntKind.i64.wrap ((4 : Int) * s12.2))).toNat)) trivial rfl (fun a w hf hs => r_slR Tryd.underlying66 ts5 (hf.ev rfl) h2 ⟨_, hf.ev rfl⟩ ⟨_, hf.ev rfl⟩ g146.1 g146.2.1 g146.2.2) ?_
       intro v144 h145
       refine wv rfl (fun hf hs => r_lenR Tryd.underlying66 h145 (hf.ev rfl)) ?_
       refine vm rfl rfl ?_
       refine w_nil (hK143 _ _ _ ?_)
       refine c_block ?_
       refine c_loop (fun (s147 : ((Vector Int 64) × Int)) a' w' => ∃ (M148 : Heap), HLe M13 M148 ∧ Fr 79 [(0, v1), (2, (ptr b4 0)), (3, (ptr b6 0)), (4, (.int .i64 s12.2)), (11, (.int .i64 s12.2)), (22, v144), (23, (.int .i64 (((p0.take ((IntKind.i64.wrap ((IntKind.i64.wrap ((4 : Int) * s12.2)) + (4 : Int)))).toNat).drop ((IntKind.i64.wrap ((4 : Int) * s12.2))).toNat).length : Int))), (24, (.int .i64 s147.2))] a' ∧ St none' M w M148 (lt [.blk b4 (.cells (vI .u32 (Vector.replicate 64 (0 : Int))).toArray 157 (0, 0)), .blk b6 (.cells (vI .u32 s147.1).toArray 157 (0, 0))]) w') (s12.1, (0 : Int)) H ?_ ?_
       ·intro a w' hf hs
        exact ⟨_, HLe.refl _, (hf.pick (pk (pk (pk (pk (pk (pk (pk (pk pk0 rfl) rfl) rfl) rfl) rfl) rfl) rfl) rfl)), hs.selD [some 0, some 1] (by decide) rfl⟩
       clear H
       intro s147 y151 H r150 a w' hJ
       obtain ⟨M148, l149, hf, hs⟩ := hJ
       refine c_of (c := (Cx.mk Tryd.prog 79 none' M w)) ?_ hf hs
       unfold hash_schedule.l5 at H
       clear hf hs
       replace h145 := h145.mono l149
       refine c_sr fun _ hK152 => ?_
       refine v_lss rfl rfl rfl ?_
       refine w_nil (hK152 _ _ _ ?_)
       refine c_seq fun K153 hK153 => ?_
       refine c_if rfl (fun b154 => ?_) (fun b154 => ?_)
       ·replace H := if_t b154 H
        refine c_skip (hK153 _ _ _ ?_)
        refine c_seq fun K155 hK155 => ?_
        refine c_block ?_
        refine c_sr fun _ hK156 => ?_
        obtain ⟨g157, H⟩ := grd_s H
        refine wv rfl (fun hf hs => r_iR Tryd.underlying66 ts5 h145 (hf.ev rfl) (hf.ev rfl) g157.1 g157.2) ?_
        refine wv rfl (fun hf hs => r_loadE1 ta5 h145 hs.sub g157.1 g157.2 (hf.ev rfl) rfl) ?_
        refine va rfl rfl ?_
        refine w_nil (hK156 _ _ _ ?_)
        refine c_reg ?_
        refine vm rfl rfl ?_
        refine vm rfl rfl ?_
        obtain ⟨g158, H⟩ := grd_s H
        refine wv rfl (fun hf hs => r_iaI Tryd.underlying157 ts70 (hf.ev rfl) (hf.ev rfl) g158.1 g158.2) ?_
        refine wv rfl (fun hf hs => r_load1 ta70 (hf.ev rfl) (hs.blk (i := 1) rfl) (vI_get0 g158.1 g158.2)) ?_
        refine wv rfl (fun hf hs => r_shl (hf.ev rfl) (hf.ev rfl) (by decide)) ?_
        refine vm rfl rfl ?_
        refine wv rfl (fun hf hs => r_conv Tryd.underlying5 Tryd.underlying70 (hf.ev rfl)) ?_
        refine wv rfl (fun hf hs => r_or (hf.ev rfl) (hf.ev rfl)) ?_
        obtain ⟨g159, H⟩ := grd_s H
        refine wv rfl (fun hf hs => r_iaI Tryd.underlying157 ts70 (hf.ev rfl) (hf.ev rfl) g159.1 g159.2) ?_
        obtain ⟨z160, e161, H⟩ := bnd H
        have e162 := some_r e161
        refine w_store (i := 1) (vs := [(.int .u32 (bits .or .u32 (shlI .u32 (rd s147.1.toList s12.2) (8 : Int)) (IntKind.u32.wrap (rd ((p0.take ((IntKind.i64.wrap ((IntKind.i64.wrap ((4 : Int) * s12.2)) + (4 : Int)))).toNat).drop ((IntKind.i64.wrap ((4 : Int) * s12.2))).toNat) s147.2))))]) (A' := vI .u32 z160) trivial rfl rfl rfl rfl ts70 rfl (one1 rfl) (idx_le g159.1 g159.2 (vI_len _) (by decide)) (by rw [← e162]; exact (vI_set0 g159.1 g159.2)) ?_
        clear e161 e162
        refine w_nil (hK155 _ _ _ ?_)
        refine c_reg ?_
        refine v_add rfl rfl rfl ?_
        refine vm rfl rfl ?_
        exact w_nil fun a w' hf hs => ⟨_, (some_r H).symm, _, l149.trans (HLe.refl _), (hf.pick (pk (pk (pk (pk (pk (pk (pk (pk pk0 rfl) rfl) rfl) rfl) rfl) rfl) rfl) rfl)), hs.selD [some 0, some 1] (by decide) rfl⟩
       replace H := if_f b154 H
       replace H := map_inr H r150
       refine c_exit ?_
       intro a w' hf hs
       exact ⟨s147.1, _, l149, (hf.pick (pk (pk (pk (pk pk0 rfl) rfl) rfl) rfl)), hs.selD [some 0, some 1] (by decide) rfl, H⟩
      rintro a w' ⟨x140, M141, l142, hf, hs, H⟩
      refine c_of (c := (Cx.mk Tryd.prog 79 none' M w)) ?_ hf hs
      unfold hash_schedule.j4 at H
      clear hf hs
      refine c_exit ?_
      intro a w' hf hs
      exact ⟨x140, _, l142, (hf.pick (pk (pk (pk (pk pk0 rfl) rfl) rfl) rfl)), hs.selD [some 0, some 1] (by decide) rfl, H⟩
     replace H := if_f b139 H
     refine c_skip ?_
     intro a w' hf hs
     exact ⟨_, (HLe.refl _), (hf.pick (pk (pk (pk (pk (pk pk0 rfl) rfl) rfl) rfl) rfl)), hs.selD [some 0, some 1] (by decide) rfl, H⟩
    rintro a w' ⟨M24, l25, hf, hs, H⟩
    refine c_of (c := (Cx.mk Tryd.prog 79 none' M w)) ?_ hf hs
    unfold hash_schedule.j3 at H
    clear hf hs
    refine c_seq fun K26 hK26 => ?_
    obtain ⟨g35, H⟩ := grd_s H
    obtain ⟨g47, H⟩ := grd_s H
    refine c_drawP [([], [4]), ([(0, 38)], []), ([(1, 39)], [3]), ([(2, 40)], []), ([], [4]), ([(4, 42)], []), ([(5, 43)], [3]), ([(6, 44)], []), ([(3, 41)], []), ([(7, 45)], [])] [vq (.int .i64 s12.2), vq (.int .i64 (IntKind.i64.wrap (s12.2 - (15 : Int)))), vq (ptr b6 (0 + ((IntKind.i64.wrap (s12.2 - (15 : Int)))).toNat)), vq (.int .u32 (rd s12.1.toList (IntKind.i64.wrap (s12.2 - (15 : Int))))), vq (.int .i64 s12.2), vq (.int .i64 (IntKind.i64.wrap (s12.2 - (2 : Int)))), vq (ptr b6 (0 + ((IntKind.i64.wrap (s12.2 - (2 : Int)))).toNat)), vq (.int .u32 (rd s12.1.toList (IntKind.i64.wrap (s12.2 - (2 : Int))))), vq (.int .u32 (rd s12.1.toList (IntKind.i64.wrap (s12.2 - (15 : Int))))), vq (.int .u32 (rd s12.1.toList (IntKind.i64.wrap (s12.2 - (2 : Int)))))] (by kernel_rfl) (by kernel_rfl) ?_ (aT ?_ (aT ?_ (aT ?_ (aT ?_ (aT ?_ (aT ?_ (aT ?_ (aT ?_ (aT ?_ (aT ?_ AllT.nil)))))))))) ?_
    ·exact (mC (mC (mC (mC (mC (mC (mC (mC (mC (mC MonoA.nil))))))))))
    ·intro a w' _ _ hd hs
     exact pv (hd.fr.add (hd.base 4 _ rfl rfl)) hs rfl (fun hf hs => r_move (hf.ev rfl)) rfl
    ·intro a w' _ _ hd hs
     exact pv (hd.fr.add (hd.val 0 38 _ rfl rfl)) hs rfl (fun hf hs => r_sub (hf.ev rfl) (hf.ev rfl)) rfl
    ·intro a w' _ _ hd hs
     exact pv ((hd.fr.add (hd.val 1 39 _ rfl rfl)).add (hd.base 3 _ rfl rfl)) hs rfl (fun hf hs => r_iaI Tryd.underlying157 ts70 (hf.ev rfl) (hf.ev rfl) g35.1 g35.2) rfl
    ·intro a w' _ _ hd hs
     exact pv (hd.fr.add (hd.val 2 40 _ rfl rfl)) hs rfl (fun hf hs => r_load1 ta70 (hf.ev rfl) (hs.blk (i := 1) rfl) (vI_get0 g35.1 g35.2)) rfl
    ·intro a w' _ _ hd hs
     exact pv (hd.fr.add (hd.base 4 _ rfl rfl)) hs rfl (fun hf hs => r_move (hf.ev rfl)) rfl
    ·intro a w' _ _ hd hs
     exact pv (hd.fr.add (hd.val 4 42 _ rfl rfl)) hs rfl (fun hf hs => r_sub (hf.ev rfl) (hf.ev rfl)) rfl
    ·intro a w' _ _ hd hs
     exact pv ((hd.fr.add (hd.val 5 43 _ rfl rfl)).add (hd.base 3 _ rfl rfl)) hs rfl (fun hf hs => r_iaI Tryd.underlying157 ts70 (hf.ev rfl) (hf.ev rfl) g47.1 g47.2) rfl
    ·intro a w' _ _ hd hs
     exact pv (hd.fr.add (hd.val 6 44 _ rfl rfl)) hs rfl (fun hf hs => r_load1 ta70 (hf.ev rfl) (hs.blk (i := 1) rfl) (vI_get0 g47.1 g47.2)) rfl
    ·intro a w' _ _ hd hs
     exact pv (hd.fr.add (hd.val 3 41 _ rfl rfl)) hs rfl (fun hf hs => r_assign (hf.ev rfl)) rfl
    ·intro a w' _ _ hd hs
     exact pv (hd.fr.add (hd.val 7 45 _ rfl rfl)) hs rfl (fun hf hs => r_assign (hf.ev rfl)) rfl
    intro a w' M57 l58 hdf hsz hb hv hs
    have e59 := hv 8 7 _ rfl rfl
    have e60 := hv 9 8 _ rfl rfl
    refine n_of (c := (Cx.mk Tryd.prog 79 none' M w)) (l := [(0, v1), (2, (ptr b4 0)), (3, (ptr b6 0)), (4, (.int .i64 s12.2)), (7, (.int .u32 (rd s12.1.toList (IntKind.i64.wrap (s12.2 - (15 : Int)))))), (8, (.int .u32 (rd s12.1.toList (IntKind.i64.wrap (s12.2 - (2 : Int)))))), (11, (.int .i64 s12.2))]) ?_ ((((((((Fr.start hdf hsz).add (hb 11 _ rfl rfl)).add e60).add e59).add (hb 4 _ rfl rfl)).add (hb 3 _ rfl rfl)).add (hb 2 _ rfl rfl)).add (hb 0 _ rfl rfl)) hs
    clear hdf hsz hb hv hs e59 e60
    refine n_id (hK26 _ _ _ ?_)
    refine c_sr fun _ hK61 => ?_
    refine vm rfl rfl ?_
    obtain ⟨t62, e67, H⟩ := bnd H
    refine w_call cf139 trivial rfl rfl (fun w hs => bits_RotateLeft32.calls hs (rd s12.1.toList (IntKind.i64.wrap (s12.2 - (15 : Int)))) (-7 : Int) _ e67) ?_
    rintro _ M64 l65 rfl
    refine vm rfl rfl ?_
    obtain ⟨t68, e73, H⟩ := bnd H
    refine w_call cf139 trivial rfl rfl (fun w hs => bits_RotateLeft32.calls hs (rd s12.1.toList (IntKind.i64.wrap (s12.2 - (15 : Int)))) (-18 : Int) _ e73) ?_
    rintro _ M70 l71 rfl
    refine wv rfl (fun hf hs => r_xor (hf.ev rfl) (hf.ev rfl)) ?_
    refine vm rfl rfl ?_
    refine wv rfl (fun hf hs => r_shr (hf.ev rfl) (hf.ev rfl) (by decide)) ?_
    refine wv rfl (fun hf hs => r_xor (hf.ev rfl) (hf.ev rfl)) ?_
    refine va rfl rfl ?_
    refine w_nil (hK61 _ _ _ ?_)
    refine c_sr fun _ hK74 => ?_
    refine vm rfl rfl ?_
    obtain ⟨t75, e80, H⟩ := bnd H
    refine w_call cf139 trivial rfl rfl (fun w hs => bits_RotateLeft32.calls hs (rd s12.1.toList (IntKind.i64.wrap (s12.2 - (2 : Int)))) (-17 : Int) _ e80) ?_
    rintro _ M77 l78 rfl
    refine vm rfl rfl ?_
    obtain ⟨t81, e86, H⟩ := bnd H
    refine w_call cf139 trivial rfl rfl (fun w hs => bits_RotateLeft32.calls hs (rd s12.1.toList (IntKind.i64.wrap (s12.2 - (2 : Int)))) (-19 : Int) _ e86) ?_
    rintro _ M83 l84 rfl
    refine wv rfl (fun hf hs => r_xor (hf.ev rfl) (hf.ev rfl)) ?_
    refine vm rfl rfl ?_
    refine wv rfl (fun hf hs => r_shr (hf.ev rfl) (hf.ev rfl) (by decide)) ?_
    refine wv rfl (fun hf hs => r_xor (hf.ev rfl) (hf.ev rfl)) ?_
    refine va rfl rfl ?_
    refine w_nil (hK74 _ _ _ ?_)
    refine c_split2 14 (by kernel_rfl) (by kernel_rfl) (by kernel_rfl) (by kernel_rfl) rfl ?_
    intro K87 hK87
    obtain ⟨g98, H⟩ := grd_s H
    obtain ⟨g116, H⟩ := grd_s H
    refine d_drawP [([], [4]), ([], [4]), ([(1, 63)], []), ([(2, 64)], [3]), ([(3, 65)], []), ([], [9]), ([(4, 66), (5, 67)], []), ([], [4]), ([(7, 69)], []), ([(8, 70)], [3]), ([(9, 71)], []), ([(6, 68), (10, 72)], []), ([], [10]), ([(11, 73), (12, 74)], [])] [vq (.int .i64 s12.2), vq (.int .i64 s12.2), vq (.int .i64 (IntKind.i64.wrap (s12.2 - (16 : Int)))), vq (ptr b6 (0 + ((IntKind.i64.wrap (s12.2 - (16 : Int)))).toNat)), vq (.int .u32 (rd s12.1.toList (IntKind.i64.wrap (s12.2 - (16 : Int))))), vq (.int .u32 (bits .xor .u32 (bits .xor .u32 t62 t68) (shrI .u32 (rd s12.1.toList (IntKind.i64.wrap (s12.2 - (15 : Int)))) (3 : Int)))), vq (.int .u32 (IntKind.u32.wrap ((rd s12.1.toList (IntKind.i64.wrap (s12.2 - (16 : Int)))) + (bits .xor .u32 (bits .xor .u32 t62 t68) (shrI .u32 (rd s12.1.toList (IntKind.i64.wrap (s12.2 - (15 : Int)))) (3 : Int)))))), vq (.int .i64 s12.2), vq (.int .i64 (IntKind.i64.wrap (s12.2 - (7 : Int)))), vq (ptr b6 (0 + ((IntKind.i64.wrap (s12.2 - (7 : Int)))).toNat)), vq (.int .u32 (rd s12.1.toList (IntKind.i64.wrap (s12.2 - (7 : Int))))), vq (.int .u32 (IntKind.u32.wrap ((IntKind.u32.wrap ((rd s12.1.toList (IntKind.i64.wrap (s12.2 - (16 : Int)))) + (bits .xor .u32 (bits .xor .u32 t62 t68) (shrI .u32 (rd s12.1.toList (IntKind.i64.wrap (s12.2 - (15 : Int)))) (3 : Int))))) + (rd s12.1.toList (IntKind.i64.wrap (s12.2 - (7 : Int))))))), vq (.int .u32 (bits .xor .u32 (bits .xor .u32 t75 t81) (shrI .u32 (rd s12.1.toList (IntKind.i64.wrap (s12.2 - (2 : Int)))) (10 : Int)))), vq (.int .u32 (IntKind.u32.wrap ((IntKind.u32.wrap ((IntKind.u32.wrap ((rd s12.1.toList (IntKind.i64.wrap (s12.2 - (16 : Int)))) + (bits .xor .u32 (bits .xor .u32 t62 t68) (shrI .u32 (rd s12.1.toList (IntKind.i64.wrap (s12.2 - (15 : Int)))) (3 : Int))))) + (rd s12.1.toList (IntKind.i64.wrap (s12.2 - (7 : Int)))))) + (bits .xor .u32 (bits .xor .u32 t75 t81) (shrI .u32 (rd s12.1.toList (IntKind.i64.wrap (s12.2 - (2 : Int)))) (10 : Int))))))] (by kernel_rfl) (by kernel_rfl) ?_ (aT ?_ (aT ?_ (aT ?_ (aT ?_ (aT ?_ (aT ?_ (aT ?_ (aT ?_ (aT ?_ (aT ?_ (aT ?_ (aT ?_ (aT ?_ (aT ?_ AllT.nil)))))))))))))) ?_
    ·exact (mC (mC (mC (mC (mC (mC (mC (mC (mC (mC (mC (mC (mC (mC MonoA.nil))))))))))))))
    ·intro a w' _ _ hd hs
     exact pv (hd.fr.add (hd.base 4 _ rfl rfl)) hs rfl (fun hf hs => r_move (hf.ev rfl)) rfl
    ·intro a w' _ _ hd hs
     exact pv (hd.fr.add (hd.base 4 _ rfl rfl)) hs rfl (fun hf hs => r_move (hf.ev rfl)) rfl
    ·intro a w' _ _ hd hs
     exact pv (hd.fr.add (hd.val 1 63 _ rfl rfl)) hs rfl (fun hf hs => r_sub (hf.ev rfl) (hf.ev rfl)) rfl
    ·intro a w' _ _ hd hs
     exact pv ((hd.fr.add (hd.val 2 64 _ rfl rfl)).add (hd.base 3 _ rfl rfl)) hs rfl (fun hf hs => r_iaI Tryd.underlying157 ts70 (hf.ev rfl) (hf.ev rfl) g98.1 g98.2) rfl
    ·intro a w' _ _ hd hs
     exact pv (hd.fr.add (hd.val 3 65 _ rfl rfl)) hs rfl (fun hf hs => r_load1 ta70 (hf.ev rfl) (hs.blk (i := 1) rfl) (vI_get0 g98.1 g98.2)) rfl
    ·intro a w' _ _ hd hs
     exact pv (hd.fr.add (hd.base 9 _ rfl rfl)) hs rfl (fun hf hs => r_move (hf.ev rfl)) rfl
    ·intro a w' _ _ hd hs
     exact pv ((hd.fr.add (hd.val 5 67 _ rfl rfl)).add (hd.val 4 66 _ rfl rfl)) hs rfl (fun hf hs => r_add (hf.ev rfl) (hf.ev rfl)) rfl
    ·intro a w' _ _ hd hs
     exact pv (hd.fr.add (hd.base 4 _ rfl rfl)) hs rfl (fun hf hs => r_move (hf.ev rfl)) rfl
    ·intro a w' _ _ hd hs
     exact pv (hd.fr.add (hd.val 7 69 _ rfl rfl)) hs rfl (fun hf hs => r_sub (hf.ev rfl) (hf.ev rfl)) rfl
    ·intro a w' _ _ hd hs
     exact pv ((hd.fr.add (hd.val 8 70 _ rfl rfl)).add (hd.base 3 _ rfl rfl)) hs rfl (fun hf hs => r_iaI Tryd.underlying157 ts70 (hf.ev rfl) (hf.ev rfl) g116.1 g116.2) rfl
    ·intro a w' _ _ hd hs
     exact pv (hd.fr.add (hd.val 9 71 _ rfl rfl)) hs rfl (fun hf hs => r_load1 ta70 (hf.ev rfl) (hs.blk (i := 1) rfl) (vI_get0 g116.1 g116.2)) rfl
    ·intro a w' _ _ hd hs
     exact pv ((hd.fr.add (hd.val 10 72 _ rfl rfl)).add (hd.val 6 68 _ rfl rfl)) hs rfl (fun hf hs => r_add (hf.ev rfl) (hf.ev rfl)) rfl
    ·intro a w' _ _ hd hs
     exact pv (hd.fr.add (hd.base 10 _ rfl rfl)) hs rfl (fun hf hs => r_move (hf.ev rfl)) rfl
    ·intro a w' _ _ hd hs
     exact pv ((hd.fr.add (hd.val 12 74 _ rfl rfl)).add (hd.val 11 73 _ rfl rfl)) hs rfl (fun hf hs => r_add (hf.ev rfl) (hf.ev rfl)) rfl
    intro a w' M130 l131 hdf hsz hb hv hs
    have e132 := hv 0 62 _ rfl rfl
    have e133 := hv 13 75 _ rfl rfl
    refine n_of (c := (Cx.mk Tryd.prog 79 none' M w)) (l := [(0, v1), (2, (ptr b4 0)), (3, (ptr b6 0)), (11, (.int .i64 s12.2)), (62, (.int .i64 s12.2)), (75, (.int .u32 (IntKind.u32.wrap ((IntKind.u32.wrap ((IntKind.u32.wrap ((rd s12.1.toList (IntKind.i64.wrap (s12.2 - (16 : Int)))) + (bits .xor .u32 (bits .xor .u32 t62 t68) (shrI .u32 (rd s12.1.toList (IntKind.i64.wrap (s12.2 - (15 : Int)))) (3 : Int))))) + (rd s12.1.toList (IntKind.i64.wrap (s12.2 - (7 : Int)))))) + (bits .xor .u32 (bits .xor .u32 t75 t81) (shrI .u32 (rd s12.1.toList (IntKind.i64.wrap (s12.2 - (2 : Int)))) (10 : Int)))))))]) ?_ (((((((Fr.start hdf hsz).add e133).add e132).add (hb 11 _ rfl rfl)).add (hb 3 _ rfl rfl)).add (hb 2 _ rfl rfl)).add (hb 0 _ rfl rfl)) hs
    clear hdf hsz hb hv hs e132 e133
    refine n_id (hK87 _ _ _ ?_)
    obtain ⟨g134, H⟩ := grd_s H
    refine wv rfl (fun hf hs => r_iaI Tryd.underlying157 ts70 (hf.ev rfl) (hf.ev rfl) g134.1 g134.2) ?_
    obtain ⟨z135, e136, H⟩ := bnd H
    have e137 := some_r e136
    refine w_store (i := 1) (vs := [(.int .u32 (IntKind.u32.wrap ((IntKind.u32.wrap ((IntKind.u32.wrap ((rd s12.1.toList (IntKind.i64.wrap (s12.2 - (16 : Int)))) + (bits .xor .u32 (bits .xor .u32 t62 t68) (shrI .u32 (rd s12.1.toList (IntKind.i64.wrap (s12.2 - (15 : Int)))) (3 : Int))))) + (rd s12.1.toList (IntKind.i64.wrap (s12.2 - (7 : Int)))))) + (bits .xor .u32 (bits .xor .u32 t75 t81) (shrI .u32 (rd s12.1.toList (IntKind.i64.wrap (s12.2 - (2 : Int)))) (10 : Int))))))]) (A' := vI .u32 z135) trivial rfl rfl rfl rfl ts70 rfl (one1 rfl) (idx_le g134.1 g134.2 (vI_len _) (by decide)) (by rw [← e137]; exact (vI_set0 g134.1 g134.2)) ?_
    clear e136 e137
    exact w_nil fun a w' hf hs => ⟨z135, _, (l25.trans (l58.trans (l65.trans (l71.trans (l78.trans (l84.trans l131)))))), (hf.pick (pk (pk (pk (pk pk0 rfl) rfl) rfl) rfl)), hs.selD [some 0, some 1] (by decide) rfl, H⟩
   rintro a w' ⟨x20, M21, l22, hf, hs, H⟩
   refine c_of (c := (Cx.mk Tryd.prog 79 none' M w)) ?_ hf hs
   unfold hash_schedule.j2 at H
   clear hf hs
   refine c_reg ?_
   refine v_add rfl rfl rfl ?_
   refine vm rfl rfl ?_
   exact w_nil fun a w' hf hs => ⟨_, (some_r H).symm, _, l14.trans l22, (hf.pick (pk (pk (pk (pk pk0 rfl) rfl) rfl) rfl)), hs.selD [some 0, some 1] (by decide) rfl⟩
  replace H := if_f b19 H
  replace H := map_inr H r15
  refine c_exit ?_
  intro a w' hf hs
  exact ⟨s12.1, _, l14, (hf.pick (pk (pk pk0 rfl) rfl)), hs.selD [some 0, some 1] (by decide) rfl, H⟩
 rintro a w' ⟨x7, M8, l9, hf, hs, H⟩
 refine c_of (c := (Cx.mk Tryd.prog 79 none' M w)) ?_ hf hs
 unfold hash_schedule.j1 at H
 clear hf hs
 refine c_sr fun _ hK10 => ?_
 refine wv rfl (fun hf hs => r_loadA ta157 ts157 (hf.ev rfl) (hs.blk (i := 1) rfl) (vI_all _) (vI_len _)) ?_
 refine w_store (i := 0) (vs := vI .u32 x7) (A' := vI .u32 x7) trivial rfl rfl rfl rfl ts157 (vI_len _) (vI_one _) (by rw [vI_len]; decide) (vI_whole _ _) ?_
 refine w_nil (hK10 _ _ _ ?_)
 obtain rfl := some_r H
 exact c_ret fun a w' hf hs => hret _ (.inl rfl) a w' hf.df ⟨_, _, Res.of1 rfl ⟨_, hf.get _ _ rfl, run_loadA (hs.blk (i := 0) rfl) ta157 ts157 (vI_all _) (vI_len _)⟩, hs.ext, rfl⟩
theorem hash_mix.calls {M : Heap} {w : World} (hM : Sub M w) (p0 : Int) (p1 : Int) (p2 : Int) (p3 : Int) (r : Int) (H : hash_mix p0 p1 p2 p3 = some r) :
  Calls Tryd.prog 133 [(.int .u32 p0), (.int .i64 p1), (.int .i64 p2), (.int .i64 p3)].toArray w (Post M w fun M' v => v = (.int .u32 r)) := by
 refine enter 23 [(0, (.int .u32 p0)), (1, (.int .i64 p1)), (2, (.int .i64 p2)), (3, (.int .i64 p3))] Tryd.func133 rfl rfl rfl hM ?_
 intro Q hret
 unfold hash_mix at H
 refine c_sr fun _ hK1 => ?_
 refine va rfl rfl ?_
 refine w_nil (hK1 _ _ _ ?_)
 refine c_sr fun _ hK2 => ?_
 refine vm rfl rfl ?_
 refine vm rfl rfl ?_
 refine wv rfl (fun hf hs => r_neg (hf.ev rfl)) ?_
 obtain ⟨t3, e8, H⟩ := bnd H
 refine w_call cf139 trivial rfl rfl (fun w hs => bits_RotateLeft32.calls hs p0 (IntKind.i64.wrap (0 - p1)) _ e8) ?_
 rintro _ M5 l6 rfl
 refine vm rfl rfl ?_
 refine vm rfl rfl ?_
 refine wv rfl (fun hf hs => r_neg (hf.ev rfl)) ?_
 obtain ⟨t9, e14, H⟩ := bnd H
 refine w_call cf139 trivial rfl rfl (fun w hs => bits_RotateLeft32.calls hs p0 (IntKind.i64.wrap (0 - p2)) _ e14) ?_
 rintro _ M11 l12 rfl
 refine wv rfl (fun hf hs => r_xor (hf.ev rfl) (hf.ev rfl)) ?_
 refine vm rfl rfl ?_
 refine vm rfl rfl ?_
 refine wv rfl (fun hf hs => r_neg (hf.ev rfl)) ?_
 obtain ⟨t15, e20, H⟩ := bnd H
 refine w_call cf139 trivial rfl rfl (fun w hs => bits_RotateLeft32.calls hs p0 (IntKind.i64.wrap (0 - p3)) _ e20) ?_
 rintro _ M17 l18 rfl
 refine wv rfl (fun hf hs => r_xor (hf.ev rfl) (hf.ev rfl)) ?_
 refine va rfl rfl ?_
 refine w_nil (hK2 _ _ _ ?_)
 obtain rfl := some_r H
 exact c_ret fun a w' hf hs => hret _ (.inl rfl) a w' hf.df ⟨_, _, Res.of1 rfl (RV.t hf rfl), hs.ext, rfl⟩
theorem hash_compress.calls {M : Heap} {w : World} (hM : Sub M w) (hG : Gl M) (p0 : (Vector Int 8)) (p1 : (List Int)) (v1 : Value) (h2 : RS (FI .u8) M v1 p1) (r : (Vector Int 8)) (H : hash_compress p0 p1 = some r) :
  Calls Tryd.prog 114 [(.agg (vI .u32 p0).toArray), v1].toArray w (Post M w fun M' v => v = (.agg (vI .u32 r).toArray)) := by
 obtain ⟨T1_, f1_, hg1_⟩ := hG.g1
 refine enter 116 [(0, (.agg (vI .u32 p0).toArray)), (1, v1)] Tryd.func114 rfl rfl rfl hM ?_
 intro Q hret
 unfold hash_compress at H
 refine c_sr fun _ hK3 => ?_
 refine w_boxL trivial rfl rfl rfl ?_
 intro b4
 refine w_allocL (A := vI .u32 (Vector.replicate 8 (0 : Int))) tz120 trivial rfl rfl ?_
 intro b5
 refine w_nil (hK3 _ _ _ ?_)
 refine c_sr fun _ hK6 => ?_
 refine vm rfl rfl ?_
 obtain ⟨t7, e12, H⟩ := bnd H
 refine w_call cf132 trivial rfl rfl (fun w hs => hash_schedule.calls hs p1 v1 h2 _ e12) ?_
 rintro _ M9 l10 rfl
 replace hg1_ := l10 _ _ hg1_
 refine w_allocL (A := vI .u32 (Vector.replicate 64 (0 : Int))) tz157 trivial rfl rfl ?_
 intro b13
 refine w_store (i := 2) (vs := vI .u32 t7) (A' := vI .u32 t7) trivial rfl rfl rfl rfl ts157 (vI_len _) (vI_one _) (by rw [vI_len]; decide) (vI_whole _ _) ?_
 refine w_nil (hK6 _ _ _ ?_)
 refine c_seq fun K14 hK14 => ?_
 refine c_split2 9 (by kernel_rfl) (by kernel_rfl) (by kernel_rfl) (by kernel_rfl) rfl ?_
 intro K15 hK15
 refine d_drawN [6, 7] [[], [], [], [8], []] [⟨[], [2], [(0, 0)], none, none⟩, ⟨[(0, 15)], [], [], none, none⟩, ⟨[(1, 16)], [], [(0, 0)], none, none⟩, ⟨[], [2], [(0, 0)], none, none⟩, ⟨[(3, 18)], [], [], none, none⟩, ⟨[(4, 19)], [], [(0, 0)], none, none⟩, ⟨[], [], [], none, some 0⟩, ⟨[], [], [], none, some 1⟩, ⟨[(2, 17), (6, 6)], [], [(3, 0)], some (3, 0), none⟩] [vq (vw b4 0 8 ((0 : Int)).toNat ((4 : Int)).toNat), vq (ptr b4 (0 + ((0 : Int)).toNat)), vq (.agg (vI .u32 (lv p0.toList ((0 : Int)).toNat 4)).toArray), vq (vw b4 0 8 ((4 : Int)).toNat ((8 : Int)).toNat), vq (ptr b4 (0 + ((4 : Int)).toNat)), vq (.agg (vI .u32 (lv p0.toList ((4 : Int)).toNat 4)).toArray), fun _ _ => True, fun _ _ => True, fun _ _ => True] [[fun y M => y = .blk b4 (.cells (vI .u32 p0).toArray 120 (0, 0))], [fun y M => y = .blk b5 (.cells (vI .u32 (Vector.replicate 8 (0 : Int))).toArray 120 (0, 0))], [fun y M => y = .blk b13 (.cells (vI .u32 t7).toArray 157 (0, 0))], [fun y M => ∃ (b34 : Nat), y = .blk b34 (.cells (vI .u32 (Vector.replicate 4 (0 : Int))).toArray 175 (0, 0)), fun y M => ∃ (b34 : Nat), y = .blk b34 (.cells (vI .u32 (lv p0.toList ((0 : Int)).toNat 4)).toArray 175 (0, 0))], [fun y M => ∃ (b37 : Nat), y = .blk b37 (.cells (vI .u32 (Vector.replicate 4 (0 : Int))).toArray 175 (0, 0))]] (by kernel_rfl) (by kernel_rfl) ?_ ?_ rfl ?_ (AllN.cons ?_ (AllN.cons ?_ (AllN.cons ?_ (AllN.cons ?_ (AllN.cons ?_ (AllN.cons ?_ (AllN.cons ?_ (AllN.cons ?_ (AllN.cons ?_ AllN.nil))))))))) ?_
 ·exact (mC (mC (mC (mC (mC (mC (mC (mC (mC MonoA.nil)))))))))
 ·exact (MonoK.cons (mono_cons (fun _ _ _ _ h => h) mono_nil) (MonoK.cons (mono_cons (fun _ _ _ _ h => h) mono_nil) (MonoK.cons (mono_cons (fun _ _ _ _ h => h) mono_nil) (MonoK.cons (mono_cons (fun _ _ _ _ h => h) (mono_cons (fun _ _ _ _ h => h) mono_nil)) (MonoK.cons (mono_cons (fun _ _ _ _ h => h) mono_nil) MonoK.nil)))))
 ·exact (All0N.cons rfl (All0N.cons rfl (All0N.cons rfl All0N.nil)))
 ·intro a w' _ _ _ hL hd hs
  obtain ⟨x0_, x1_, x2_, x3_, x4_, rfl⟩ := ln5 hL
  obtain ⟨_, ⟨⟩, rfl⟩ := hd.item 0 0 _ rfl rfl
  refine OP.ofW (l := [(2, (ptr b4 0))]) (hd.fr.add (hd.base 2 _ rfl rfl)) hs rfl ?_
  refine wv rfl (fun hf hs => r_view Tryd.underlying120 ts70 (hf.ev rfl) rfl ⟨_, (hf.ev rfl)⟩ (by decide) (by decide) (by decide)) ?_
  exact w_nil fun a w' hf hs => ⟨rfl, hf.df, _, _, (HLe.refl _), hs, hf.get _ _ rfl, rfl⟩
 ·intro a w' _ _ _ hL hd hs
  obtain ⟨x0_, x1_, x2_, x3_, x4_, rfl⟩ := ln5 hL
  exact pw (hd.fr.add (hd.val 0 15 _ rfl rfl)) hs rfl (fun hf hs => r_vwptr Tryd.underlying175 (hf.ev rfl) (by decide) (by decide)) rfl rfl
 ·intro a w' _ _ _ hL hd hs
  obtain ⟨x0_, x1_, x2_, x3_, x4_, rfl⟩ := ln5 hL
  obtain ⟨_, ⟨⟩, rfl⟩ := hd.item 0 0 _ rfl rfl
  exact pw (hd.fr.add (hd.val 1 16 _ rfl rfl)) hs rfl (fun hf hs => r_loadA ta175 ts175 (hf.ev rfl) (hs.blk (i := 0) rfl) (vI_sub (by decide)) (vI_len _)) rfl rfl
 ·intro a w' _ _ _ hL hd hs
  obtain ⟨x0_, x1_, x2_, x3_, x4_, rfl⟩ := ln5 hL
  obtain ⟨_, ⟨⟩, rfl⟩ := hd.item 0 0 _ rfl rfl
  refine OP.ofW (l := [(2, (ptr b4 0))]) (hd.fr.add (hd.base 2 _ rfl rfl)) hs rfl ?_
  refine wv rfl (fun hf hs => r_view Tryd.underlying120 ts70 (hf.ev rfl) ⟨_, (hf.ev rfl)⟩ rfl (by decide) (by decide) (by decide)) ?_
  exact w_nil fun a w' hf hs => ⟨rfl, hf.df, _, _, (HLe.refl _), hs, hf.get _ _ rfl, rfl⟩
 ·intro a w' _ _ _ hL hd hs
  obtain ⟨x0_, x1_, x2_, x3_, x4_, rfl⟩ := ln5 hL
  exact pw (hd.fr.add (hd.val 3 18 _ rfl rfl)) hs rfl (fun hf hs => r_vwptr Tryd.underlying175 (hf.ev rfl) (by decide) (by decide)) rfl rfl
 ·intro a w' _ _ _ hL hd hs
  obtain ⟨x0_, x1_, x2_, x3_, x4_, rfl⟩ := ln5 hL
  obtain ⟨_, ⟨⟩, rfl⟩ := hd.item 0 0 _ rfl rfl
  exact pw (hd.fr.add (hd.val 4 19 _ rfl rfl)) hs rfl (fun hf hs => r_loadA ta175 ts175 (hf.ev rfl) (hs.blk (i := 0) rfl) (vI_sub (by decide)) (vI_len _)) rfl rfl
 ·intro a w' _ _ _ hL hd hs
  obtain ⟨x0_, x1_, x2_, x3_, x4_, rfl⟩ := ln5 hL
  refine OP.ofW (l := []) hd.fr hs rfl ?_
  refine w_allocL (A := vI .u32 (Vector.replicate 4 (0 : Int))) tz175 trivial rfl rfl ?_
  intro b34
  exact w_nil fun a w' hf hs => ⟨rfl, hf.df, _, _, (HLe.refl _), (hs.sel [0, 1, 2, 5, 4] (by decide) rfl), trivial, ⟨.blk b34 (.cells (vI .u32 (Vector.replicate 4 (0 : Int))).toArray 175 (0, 0)), rfl, of_some (q := fun y M => ∃ (b34 : Nat), y = .blk b34 (.cells (vI .u32 (Vector.replicate 4 (0 : Int))).toArray 175 (0, 0))) ⟨b34, rfl⟩, (hf.get _ _ rfl).symm⟩⟩
 ·intro a w' _ _ _ hL hd hs
  obtain ⟨x0_, x1_, x2_, x3_, x4_, rfl⟩ := ln5 hL
  refine OP.ofW (l := []) hd.fr hs rfl ?_
  refine w_allocL (A := vI .u32 (Vector.replicate 4 (0 : Int))) tz175 trivial rfl rfl ?_
  intro b37
  exact w_nil fun a w' hf hs => ⟨rfl, hf.df, _, _, (HLe.refl _), (hs.sel [0, 1, 2, 3, 5] (by decide) rfl), trivial, ⟨.blk b37 (.cells (vI .u32 (Vector.replicate 4 (0 : Int))).toArray 175 (0, 0)), rfl, of_some (q := fun y M => ∃ (b37 : Nat), y = .blk b37 (.cells (vI .u32 (Vector.replicate 4 (0 : Int))).toArray 175 (0, 0))) ⟨b37, rfl⟩, (hf.get _ _ rfl).symm⟩⟩
 ·intro a w' _ _ _ hL hd hs
  have e40 := hd.val 2 17 _ rfl rfl
  obtain ⟨x0_, x1_, x2_, x3_, x4_, rfl⟩ := ln5 hL
  obtain ⟨_, hy, v41, rfl⟩ := hd.item 3 0 _ rfl rfl
  have e42 := (hd.link 0 6 6 0 _ rfl rfl rfl hy).symm
  obtain rfl := Option.some.inj hy
  refine OP.ofW (l := [(17, (.agg (vI .u32 (lv p0.toList ((0 : Int)).toNat 4)).toArray)), (6, (ptr v41 0))]) ((hd.fr.add e42).add e40) hs rfl ?_
  refine w_store (i := 3) (vs := vI .u32 (lv p0.toList ((0 : Int)).toNat 4)) (A' := vI .u32 (lv p0.toList ((0 : Int)).toNat 4)) trivial rfl rfl rfl rfl ts175 (vI_len _) (vI_one _) (by rw [vI_len]; decide) (vI_whole _ _) ?_
  exact w_nil fun a w' hf hs => ⟨rfl, hf.df, _, _, (HLe.refl _), hs, trivial, ⟨.blk v41 (.cells (vI .u32 (lv p0.toList ((0 : Int)).toNat 4)).toArray 175 (0, 0)), rfl, of_some (q := fun y M => ∃ (b34 : Nat), y = .blk b34 (.cells (vI .u32 (lv p0.toList ((0 : Int)).toNat 4)).toArray 175 (0, 0))) ⟨v41, rfl⟩, fun _ y0 hy0 => by obtain rfl := Option.some.inj hy0; rfl⟩⟩
 intro a w' M43 L_ l44 hL hdf hsz hb hv hi hk_ hs
 replace hg1_ := l44 _ _ hg1_
 have e45 := hv 5 20 _ rfl rfl
 obtain ⟨x0_, x1_, x2_, x3_, x4_, rfl⟩ := ln5 hL
 obtain ⟨_, hy, rfl⟩ := hi 0 _ rfl
 obtain rfl := Option.some.inj hy
 obtain ⟨_, hy, rfl⟩ := hi 1 _ rfl
 obtain rfl := Option.some.inj hy
 obtain ⟨_, hy, rfl⟩ := hi 2 _ rfl
 obtain rfl := Option.some.inj hy
 obtain ⟨_, hy, b46, rfl⟩ := hi 3 _ rfl
 have e47 := (hk_ 0 6 6 _ rfl rfl hy).symm
 obtain rfl := Option.some.inj hy
 obtain ⟨_, hy, b48, rfl⟩ := hi 4 _ rfl
 have e49 := (hk_ 1 7 7 _ rfl rfl hy).symm
 obtain rfl := Option.some.inj hy
 clear hi hy hk_
 refine n_of (c := (Cx.mk Tryd.prog 116 none' M w)) (l := [(2, (ptr b4 0)), (4, (ptr b5 0)), (5, (ptr b13 0)), (20, (.agg (vI .u32 (lv p0.toList ((4 : Int)).toNat 4)).toArray)), (6, (ptr b46 0)), (7, (ptr b48 0))]) ?_ (((((((Fr.start hdf hsz).add e49).add e47).add e45).add (hb 5 _ rfl rfl)).add (hb 4 _ rfl rfl)).add (hb 2 _ rfl rfl)) hs
 clear hdf hsz hb hv hs e45 e47 e49
 refine n_id (hK15 _ _ _ ?_)
 refine w_store (i := 4) (vs := vI .u32 (lv p0.toList ((4 : Int)).toNat 4)) (A' := vI .u32 (lv p0.toList ((4 : Int)).toNat 4)) trivial rfl rfl rfl rfl ts175 (vI_len _) (vI_one _) (by rw [vI_len]; decide) (vI_whole _ _) ?_
 refine w_nil (hK14 _ _ _ ?_)
 refine c_cut (fun a' w' => ∃ (x50 : (Vector Int 4)) (x51 : (Vector Int 4)) (M52 : Heap), HLe M43 M52 ∧ Fr 116 [(2, (ptr b4 0)), (4, (ptr b5 0)), (6, (ptr b46 0)), (7, (ptr b48 0))] a' ∧ St none' M w M52 (lt [.blk b4 (.cells (vI .u32 p0).toArray 120 (0, 0)), .blk b5 (.cells (vI .u32 (Vector.replicate 8 (0 : Int))).toArray 120 (0, 0)), dead, .blk b46 (.cells (vI .u32 x50).toArray 175 (0, 0)), .blk b48 (.cells (vI .u32 x51).toArray 175 (0, 0))]) w' ∧ hash_compress.j3 x50 x51 p0 = some r) ?_ ?_
 ·refine c_seq ?_
  intro K126 hK126
  refine c_reg ?_
  refine wv rfl (fun hf hs => r_loadA ta157 ts157 (hf.ev rfl) (hs.sub _ _ hg1_) (vI_all _) (vI_len _)) ?_
  refine vm rfl rfl ?_
  refine w_nil (hK126 _ _ _ ?_)
  refine c_block ?_
  refine c_loop (fun (s127 : ((Vector Int 4) × (Vector Int 4) × Int)) a' w' => ∃ (M128 : Heap), HLe M43 M128 ∧ Fr 116 [(2, (ptr b4 0)), (4, (ptr b5 0)), (5, (ptr b13 0)), (6, (ptr b46 0)), (7, (ptr b48 0)), (21, (.agg (vI .u32 hash_constants).toArray)), (22, (.int .i64 s127.2.2))] a' ∧ St none' M w M128 (lt [.blk b4 (.cells (vI .u32 p0).toArray 120 (0, 0)), .blk b5 (.cells (vI .u32 (Vector.replicate 8 (0 : Int))).toArray 120 (0, 0)), .blk b13 (.cells (vI .u32 t7).toArray 157 (0, 0)), .blk b46 (.cells (vI .u32 s127.1).toArray 175 (0, 0)), .blk b48 (.cells (vI .u32 s127.2.1).toArray 175 (0, 0))]) w') ((lv p0.toList ((0 : Int)).toNat 4), (lv p0.toList ((4 : Int)).toNat 4), (0 : Int)) H ?_ ?_
  ·intro a w' hf hs
   exact ⟨_, HLe.refl _, (hf.pick (pk (pk (pk (pk (pk (pk (pk pk0 rfl) rfl) rfl) rfl) rfl) rfl) rfl)), hs.selD [some 0, some 1, some 2, some 3, some 4] (by decide) rfl⟩
  clear H
  intro s127 y131 H r130 a w' hJ
  obtain ⟨M128, l129, hf, hs⟩ := hJ
  refine c_of (c := (Cx.mk Tryd.prog 116 none' M w)) ?_ hf hs
  unfold hash_compress.l4 at H
  clear hf hs
  refine c_sr fun _ hK132 => ?_
  refine v_lss rfl rfl rfl ?_
  refine w_nil (hK132 _ _ _ ?_)
  refine c_seq fun K133 hK133 => ?_
  refine c_if rfl (fun b134 => ?_) (fun b134 => ?_)
  ·replace H := if_t b134 H
   refine c_skip (hK133 _ _ _ ?_)
   refine c_seq fun K135 hK135 => ?_
   refine c_block ?_
   refine c_sr fun _ hK136 => ?_
   refine vm rfl rfl ?_
   obtain ⟨g137, H⟩ := grd_s H
   refine wv rfl (fun hf hs => r_index Tryd.underlying157 ta70 ts70 (hf.ev rfl) (hf.ev rfl) g137.1 g137.2 (vI_get g137.1 g137.2)) ?_
   refine va rfl rfl ?_
   refine va rfl rfl ?_
   refine w_nil (hK136 _ _ _ ?_)
   refine c_seq fun K138 hK138 => ?_
   obtain ⟨t152, e157, H⟩ := bnd H
   obtain ⟨g212, H⟩ := grd_s H
   refine c_drawP [([], [7]), ([(0, 26)], []), ([], [7]), ([(2, 28)], []), ([(3, 29)], []), ([(1, 27), (4, 30)], []), ([], [7]), ([(6, 32)], []), ([], [7]), ([(8, 34)], []), ([(7, 33), (9, 35)], []), ([], [7]), ([(11, 37)], []), ([(12, 38)], []), ([], [7]), ([(14, 40)], []), ([(13, 39), (15, 41)], []), ([(10, 36), (16, 42)], []), ([(5, 31), (17, 43)], []), ([], [9]), ([(18, 44), (19, 45)], []), ([], [8]), ([(21, 47)], [5]), ([(22, 48)], []), ([(20, 46), (23, 49)], []), ([(24, 50)], [])] [vq (ptr b48 (0 + ((3 : Int)).toNat)), vq (.int .u32 (rd s127.2.1.toList 3)), vq (ptr b48 (0 + ((0 : Int)).toNat)), vq (.int .u32 (rd s127.2.1.toList 0)), vq (.int .u32 t152), vq (.int .u32 (IntKind.u32.wrap ((rd s127.2.1.toList 3) + t152))), vq (ptr b48 (0 + ((0 : Int)).toNat)), vq (.int .u32 (rd s127.2.1.toList 0)), vq (ptr b48 (0 + ((1 : Int)).toNat)), vq (.int .u32 (rd s127.2.1.toList 1)), vq (.int .u32 (bits .and .u32 (rd s127.2.1.toList 0) (rd s127.2.1.toList 1))), vq (ptr b48 (0 + ((0 : Int)).toNat)), vq (.int .u32 (rd s127.2.1.toList 0)), vq (.int .u32 (bits .xor .u32 IntKind.u32.max (rd s127.2.1.toList 0))), vq (ptr b48 (0 + ((2 : Int)).toNat)), vq (.int .u32 (rd s127.2.1.toList 2)), vq (.int .u32 (bits .and .u32 (bits .xor .u32 IntKind.u32.max (rd s127.2.1.toList 0)) (rd s127.2.1.toList 2))), vq (.int .u32 (bits .xor .u32 (bits .and .u32 (rd s127.2.1.toList 0) (rd s127.2.1.toList 1)) (bits .and .u32 (bits .xor .u32 IntKind.u32.max (rd s127.2.1.toList 0)) (rd s127.2.1.toList 2)))), vq (.int .u32 (IntKind.u32.wrap ((IntKind.u32.wrap ((rd s127.2.1.toList 3) + t152)) + (bits .xor .u32 (bits .and .u32 (rd s127.2.1.toList 0) (rd s127.2.1.toList 1)) (bits .and .u32 (bits .xor .u32 IntKind.u32.max (rd s127.2.1.toList 0)) (rd s127.2.1.toList 2)))))), vq (.int .u32 (rd hash_constants.toList s127.2.2)), vq (.int .u32 (IntKind.u32.wrap ((IntKind.u32.wrap ((IntKind.u32.wrap ((rd s127.2.1.toList 3) + t152)) + (bits .xor .u32 (bits .and .u32 (rd s127.2.1.toList 0) (rd s127.2.1.toList 1)) (bits .and .u32 (bits .xor .u32 IntKind.u32.max (rd s127.2.1.toList 0)) (rd s127.2.1.toList 2))))) + (rd hash_constants.toList s127.2.2)))), vq (.int .i64 s127.2.2), vq (ptr b13 (0 + (s127.2.2).toNat)), vq (.int .u32 (rd t7.toList s127.2.2)), vq (.int .u32 (IntKind.u32.wrap ((IntKind.u32.wrap ((IntKind.u32.wrap ((IntKind.u32.wrap ((rd s127.2.1.toList 3) + t152)) + (bits .xor .u32 (bits .and .u32 (rd s127.2.1.toList 0) (rd s127.2.1.toList 1)) (bits .and .u32 (bits .xor .u32 IntKind.u32.max (rd s127.2.1.toList 0)) (rd s127.2.1.toList 2))))) + (rd hash_constants.toList s127.2.2))) + (rd t7.toList s127.2.2)))), vq (.int .u32 (IntKind.u32.wrap ((IntKind.u32.wrap ((IntKind.u32.wrap ((IntKind.u32.wrap ((rd s127.2.1.toList 3) + t152)) + (bits .xor .u32 (bits .and .u32 (rd s127.2.1.toList 0) (rd s127.2.1.toList 1)) (bits .and .u32 (bits .xor .u32 IntKind.u32.max (rd s127.2.1.toList 0)) (rd s127.2.1.toList 2))))) + (rd hash_constants.toList s127.2.2))) + (rd t7.toList s127.2.2))))] (by kernel_rfl) (by kernel_rfl) ?_ (aT ?_ (aT ?_ (aT ?_ (aT ?_ (aT ?_ (aT ?_ (aT ?_ (aT ?_ (aT ?_ (aT ?_ (aT ?_ (aT ?_ (aT ?_ (aT ?_ (aT ?_ (aT ?_ (aT ?_ (aT ?_ (aT ?_ (aT ?_ (aT ?_ (aT ?_ (aT ?_ (aT ?_ (aT ?_ (aT ?_ AllT.nil)))))))))))))))))))))))))) ?_
   ·exact (mC (mC (mC (mC (mC (mC (mC (mC (mC (mC (mC (mC (mC (mC (mC (mC (mC (mC (mC (mC (mC (mC (mC (mC (mC (mC MonoA.nil))))))))))))))))))))))))))
   ·intro a w' _ _ hd hs
    exact pv (hd.fr.add (hd.base 7 _ rfl rfl)) hs rfl (fun hf hs => r_iaI Tryd.underlying175 ts70 (hf.ev rfl) (hf.ev rfl) (by decide : (0 : Int) ≤ (3 : Int)) (by decide : (3 : Int) < ((4 : Nat) : Int))) rfl
   ·intro a w' _ _ hd hs
    exact pv (hd.fr.add (hd.val 0 26 _ rfl rfl)) hs rfl (fun hf hs => r_load1 ta70 (hf.ev rfl) (hs.blk (i := 4) rfl) (vI_get0 (by decide : (0 : Int) ≤ (3 : Int)) (by decide : (3 : Int) < ((4 : Nat) : Int)))) rfl
   ·intro a w' _ _ hd hs
    exact pv (hd.fr.add (hd.base 7 _ rfl rfl)) hs rfl (fun hf hs => r_iaI Tryd.underlying175 ts70 (hf.ev rfl) (hf.ev rfl) (by decide : (0 : Int) ≤ (0 : Int)) (by decide : (0 : Int) < ((4 : Nat) : Int))) rfl
   ·intro a w' _ _ hd hs
    exact pv (hd.fr.add (hd.val 2 28 _ rfl rfl)) hs rfl (fun hf hs => r_load1 ta70 (hf.ev rfl) (hs.blk (i := 4) rfl) (vI_get0 (by decide : (0 : Int) ≤ (0 : Int)) (by decide : (0 : Int) < ((4 : Nat) : Int)))) rfl
   ·intro a w' _ _ hd hs
    have e151 := hd.val 3 29 _ rfl rfl
    refine OP.ofW (l := [(29, (.int .u32 (rd s127.2.1.toList 0)))]) (hd.fr.add e151) hs rfl ?_
    refine w_call cf133 trivial rfl rfl (fun w hs => hash_mix.calls hs (rd s127.2.1.toList 0) (6 : Int) (11 : Int) (25 : Int) _ e157) ?_
    rintro _ M154 l155 rfl
    exact w_nil fun a w' hf hs => ⟨rfl, hf.df, _, l155, hs, hf.get _ _ rfl⟩
   ·intro a w' _ _ hd hs
    exact pv ((hd.fr.add (hd.val 4 30 _ rfl rfl)).add (hd.val 1 27 _ rfl rfl)) hs rfl (fun hf hs => r_add (hf.ev rfl) (hf.ev rfl)) rfl
   ·intro a w' _ _ hd hs
    exact pv (hd.fr.add (hd.base 7 _ rfl rfl)) hs rfl (fun hf hs => r_iaI Tryd.underlying175 ts70 (hf.ev rfl) (hf.ev rfl) (by decide : (0 : Int) ≤ (0 : Int)) (by decide : (0 : Int) < ((4 : Nat) : Int))) rfl
   ·intro a w' _ _ hd hs
    exact pv (hd.fr.add (hd.val 6 32 _ rfl rfl)) hs rfl (fun hf hs => r_load1 ta70 (hf.ev rfl) (hs.blk (i := 4) rfl) (vI_get0 (by decide : (0 : Int) ≤ (0 : Int)) (by decide : (0 : Int) < ((4 : Nat) : Int)))) rfl
   ·intro a w' _ _ hd hs
    exact pv (hd.fr.add (hd.base 7 _ rfl rfl)) hs rfl (fun hf hs => r_iaI Tryd.underlying175 ts70 (hf.ev rfl) (hf.ev rfl) (by decide : (0 : Int) ≤ (1 : Int)) (by decide : (1 : Int) < ((4 : Nat) : Int))) rfl
   ·intro a w' _ _ hd hs
    exact pv (hd.fr.add (hd.val 8 34 _ rfl rfl)) hs rfl (fun hf hs => r_load1 ta70 (hf.ev rfl) (hs.blk (i := 4) rfl) (vI_get0 (by decide : (0 : Int) ≤ (1 : Int)) (by decide : (1 : Int) < ((4 : Nat) : Int)))) rfl
   ·intro a w' _ _ hd hs
    exact pv ((hd.fr.add (hd.val 9 35 _ rfl rfl)).add (hd.val 7 33 _ rfl rfl)) hs rfl (fun hf hs => r_and (hf.ev rfl) (hf.ev rfl)) rfl
   ·intro a w' _ _ hd hs
    exact pv (hd.fr.add (hd.base 7 _ rfl rfl)) hs rfl (fun hf hs => r_iaI Tryd.underlying175 ts70 (hf.ev rfl) (hf.ev rfl) (by decide : (0 : Int) ≤ (0 : Int)) (by decide : (0 : Int) < ((4 : Nat) : Int))) rfl
   ·intro a w' _ _ hd hs
    exact pv (hd.fr.add (hd.val 11 37 _ rfl rfl)) hs rfl (fun hf hs => r_load1 ta70 (hf.ev rfl) (hs.blk (i := 4) rfl) (vI_get0 (by decide : (0 : Int) ≤ (0 : Int)) (by decide : (0 : Int) < ((4 : Nat) : Int)))) rfl
   ·intro a w' _ _ hd hs
    exact pv (hd.fr.add (hd.val 12 38 _ rfl rfl)) hs rfl (fun hf hs => r_com (hf.ev rfl)) rfl
   ·intro a w' _ _ hd hs
    exact pv (hd.fr.add (hd.base 7 _ rfl rfl)) hs rfl (fun hf hs => r_iaI Tryd.underlying175 ts70 (hf.ev rfl) (hf.ev rfl) (by decide : (0 : Int) ≤ (2 : Int)) (by decide : (2 : Int) < ((4 : Nat) : Int))) rfl
   ·intro a w' _ _ hd hs
    exact pv (hd.fr.add (hd.val 14 40 _ rfl rfl)) hs rfl (fun hf hs => r_load1 ta70 (hf.ev rfl) (hs.blk (i := 4) rfl) (vI_get0 (by decide : (0 : Int) ≤ (2 : Int)) (by decide : (2 : Int) < ((4 : Nat) : Int)))) rfl
   ·intro a w' _ _ hd hs
    exact pv ((hd.fr.add (hd.val 15 41 _ rfl rfl)).add (hd.val 13 39 _ rfl rfl)) hs rfl (fun hf hs => r_and (hf.ev rfl) (hf.ev rfl)) rfl
   ·intro a w' _ _ hd hs
    exact pv ((hd.fr.add (hd.val 16 42 _ rfl rfl)).add (hd.val 10 36 _ rfl rfl)) hs rfl (fun hf hs => r_xor (hf.ev rfl) (hf.ev rfl)) rfl
   ·intro a w' _ _ hd hs
    exact pv ((hd.fr.add (hd.val 17 43 _ rfl rfl)).add (hd.val 5 31 _ rfl rfl)) hs rfl (fun hf hs => r_add (hf.ev rfl) (hf.ev rfl)) rfl
   ·intro a w' _ _ hd hs
    exact pv (hd.fr.add (hd.base 9 _ rfl rfl)) hs rfl (fun hf hs => r_move (hf.ev rfl)) rfl
   ·intro a w' _ _ hd hs
    exact pv ((hd.fr.add (hd.val 19 45 _ rfl rfl)).add (hd.val 18 44 _ rfl rfl)) hs rfl (fun hf hs => r_add (hf.ev rfl) (hf.ev rfl)) rfl
   ·intro a w' _ _ hd hs
    exact pv (hd.fr.add (hd.base 8 _ rfl rfl)) hs rfl (fun hf hs => r_move (hf.ev rfl)) rfl
   ·intro a w' _ _ hd hs
    exact pv ((hd.fr.add (hd.val 21 47 _ rfl rfl)).add (hd.base 5 _ rfl rfl)) hs rfl (fun hf hs => r_iaI Tryd.underlying157 ts70 (hf.ev rfl) (hf.ev rfl) g212.1 g212.2) rfl
   ·intro a w' _ _ hd hs
    exact pv (hd.fr.add (hd.val 22 48 _ rfl rfl)) hs rfl (fun hf hs => r_load1 ta70 (hf.ev rfl) (hs.blk (i := 2) rfl) (vI_get0 g212.1 g212.2)) rfl
   ·intro a w' _ _ hd hs
    exact pv ((hd.fr.add (hd.val 23 49 _ rfl rfl)).add (hd.val 20 46 _ rfl rfl)) hs rfl (fun hf hs => r_add (hf.ev rfl) (hf.ev rfl)) rfl
   ·intro a w' _ _ hd hs
    exact pv (hd.fr.add (hd.val 24 50 _ rfl rfl)) hs rfl (fun hf hs => r_assign (hf.ev rfl)) rfl
   intro a w' M223 l224 hdf hsz hb hv hs
   have e225 := hv 25 10 _ rfl rfl
   refine n_of (c := (Cx.mk Tryd.prog 116 none' M w)) (l := [(2, (ptr b4 0)), (4, (ptr b5 0)), (5, (ptr b13 0)), (6, (ptr b46 0)), (7, (ptr b48 0)), (10, (.int .u32 (IntKind.u32.wrap ((IntKind.u32.wrap ((IntKind.u32.wrap ((IntKind.u32.wrap ((rd s127.2.1.toList 3) + t152)) + (bits .xor .u32 (bits .and .u32 (rd s127.2.1.toList 0) (rd s127.2.1.toList 1)) (bits .and .u32 (bits .xor .u32 IntKind.u32.max (rd s127.2.1.toList 0)) (rd s127.2.1.toList 2))))) + (rd hash_constants.toList s127.2.2))) + (rd t7.toList s127.2.2))))), (21, (.agg (vI .u32 hash_constants).toArray)), (22, (.int .i64 s127.2.2))]) ?_ (((((((((Fr.start hdf hsz).add (hb 22 _ rfl rfl)).add (hb 21 _ rfl rfl)).add e225).add (hb 7 _ rfl rfl)).add (hb 6 _ rfl rfl)).add (hb 5 _ rfl rfl)).add (hb 4 _ rfl rfl)).add (hb 2 _ rfl rfl)) hs
   clear hdf hsz hb hv hs e225
   refine n_id (hK138 _ _ _ ?_)
   refine c_seq fun K226 hK226 => ?_
   obtain ⟨t235, e240, H⟩ := bnd H
   refine c_drawP [([], [6]), ([(0, 51)], []), ([(1, 52)], []), ([], [6]), ([(3, 54)], []), ([], [6]), ([(5, 56)], []), ([(4, 55), (6, 57)], []), ([], [6]), ([(8, 59)], []), ([], [6]), ([(10, 61)], []), ([(9, 60), (11, 62)], []), ([(7, 58), (12, 63)], []), ([], [6]), ([(14, 65)], []), ([], [6]), ([(16, 67)], []), ([(15, 66), (17, 68)], []), ([(13, 64), (18, 69)], []), ([(2, 53), (19, 70)], []), ([(20, 71)], [])] [vq (ptr b46 (0 + ((0 : Int)).toNat)), vq (.int .u32 (rd s127.1.toList 0)), vq (.int .u32 t235), vq (ptr b46 (0 + ((0 : Int)).toNat)), vq (.int .u32 (rd s127.1.toList 0)), vq (ptr b46 (0 + ((1 : Int)).toNat)), vq (.int .u32 (rd s127.1.toList 1)), vq (.int .u32 (bits .and .u32 (rd s127.1.toList 0) (rd s127.1.toList 1))), vq (ptr b46 (0 + ((0 : Int)).toNat)), vq (.int .u32 (rd s127.1.toList 0)), vq (ptr b46 (0 + ((2 : Int)).toNat)), vq (.int .u32 (rd s127.1.toList 2)), vq (.int .u32 (bits .and .u32 (rd s127.1.toList 0) (rd s127.1.toList 2))), vq (.int .u32 (bits .xor .u32 (bits .and .u32 (rd s127.1.toList 0) (rd s127.1.toList 1)) (bits .and .u32 (rd s127.1.toList 0) (rd s127.1.toList 2)))), vq (ptr b46 (0 + ((1 : Int)).toNat)), vq (.int .u32 (rd s127.1.toList 1)), vq (ptr b46 (0 + ((2 : Int)).toNat)), vq (.int .u32 (rd s127.1.toList 2)), vq (.int .u32 (bits .and .u32 (rd s127.1.toList 1) (rd s127.1.toList 2))), vq (.int .u32 (bits .xor .u32 (bits .xor .u32 (bits .and .u32 (rd s127.1.toList 0) (rd s127.1.toList 1)) (bits .and .u32 (rd s127.1.toList 0) (rd s127.1.toList 2))) (bits .and .u32 (rd s127.1.toList 1) (rd s127.1.toList 2)))), vq (.int .u32 (IntKind.u32.wrap (t235 + (bits .xor .u32 (bits .xor .u32 (bits .and .u32 (rd s127.1.toList 0) (rd s127.1.toList 1)) (bits .and .u32 (rd s127.1.toList 0) (rd s127.1.toList 2))) (bits .and .u32 (rd s127.1.toList 1) (rd s127.1.toList 2)))))), vq (.int .u32 (IntKind.u32.wrap (t235 + (bits .xor .u32 (bits .xor .u32 (bits .and .u32 (rd s127.1.toList 0) (rd s127.1.toList 1)) (bits .and .u32 (rd s127.1.toList 0) (rd s127.1.toList 2))) (bits .and .u32 (rd s127.1.toList 1) (rd s127.1.toList 2))))))] (by kernel_rfl) (by kernel_rfl) ?_ (aT ?_ (aT ?_ (aT ?_ (aT ?_ (aT ?_ (aT ?_ (aT ?_ (aT ?_ (aT ?_ (aT ?_ (aT ?_ (aT ?_ (aT ?_ (aT ?_ (aT ?_ (aT ?_ (aT ?_ (aT ?_ (aT ?_ (aT ?_ (aT ?_ (aT ?_ AllT.nil)))))))))))))))))))))) ?_
   ·exact (mC (mC (mC (mC (mC (mC (mC (mC (mC (mC (mC (mC (mC (mC (mC (mC (mC (mC (mC (mC (mC (mC MonoA.nil))))))))))))))))))))))
   ·intro a w' _ _ hd hs
    exact pv (hd.fr.add (hd.base 6 _ rfl rfl)) hs rfl (fun hf hs => r_iaI Tryd.underlying175 ts70 (hf.ev rfl) (hf.ev rfl) (by decide : (0 : Int) ≤ (0 : Int)) (by decide : (0 : Int) < ((4 : Nat) : Int))) rfl
   ·intro a w' _ _ hd hs
    exact pv (hd.fr.add (hd.val 0 51 _ rfl rfl)) hs rfl (fun hf hs => r_load1 ta70 (hf.ev rfl) (hs.blk (i := 3) rfl) (vI_get0 (by decide : (0 : Int) ≤ (0 : Int)) (by decide : (0 : Int) < ((4 : Nat) : Int)))) rfl
   ·intro a w' _ _ hd hs
    have e234 := hd.val 1 52 _ rfl rfl
    refine OP.ofW (l := [(52, (.int .u32 (rd s127.1.toList 0)))]) (hd.fr.add e234) hs rfl ?_
    refine w_call cf133 trivial rfl rfl (fun w hs => hash_mix.calls hs (rd s127.1.toList 0) (2 : Int) (13 : Int) (22 : Int) _ e240) ?_
    rintro _ M237 l238 rfl
    exact w_nil fun a w' hf hs => ⟨rfl, hf.df, _, l238, hs, hf.get _ _ rfl⟩
   ·intro a w' _ _ hd hs
    exact pv (hd.fr.add (hd.base 6 _ rfl rfl)) hs rfl (fun hf hs => r_iaI Tryd.underlying175 ts70 (hf.ev rfl) (hf.ev rfl) (by decide : (0 : Int) ≤ (0 : Int)) (by decide : (0 : Int) < ((4 : Nat) : Int))) rfl
   ·intro a w' _ _ hd hs
    exact pv (hd.fr.add (hd.val 3 54 _ rfl rfl)) hs rfl (fun hf hs => r_load1 ta70 (hf.ev rfl) (hs.blk (i := 3) rfl) (vI_get0 (by decide : (0 : Int) ≤ (0 : Int)) (by decide : (0 : Int) < ((4 : Nat) : Int)))) rfl
   ·intro a w' _ _ hd hs
    exact pv (hd.fr.add (hd.base 6 _ rfl rfl)) hs rfl (fun hf hs => r_iaI Tryd.underlying175 ts70 (hf.ev rfl) (hf.ev rfl) (by decide : (0 : Int) ≤ (1 : Int)) (by decide : (1 : Int) < ((4 : Nat) : Int))) rfl
   ·intro a w' _ _ hd hs
    exact pv (hd.fr.add (hd.val 5 56 _ rfl rfl)) hs rfl (fun hf hs => r_load1 ta70 (hf.ev rfl) (hs.blk (i := 3) rfl) (vI_get0 (by decide : (0 : Int) ≤ (1 : Int)) (by decide : (1 : Int) < ((4 : Nat) : Int)))) rfl
   ·intro a w' _ _ hd hs
    exact pv ((hd.fr.add (hd.val 6 57 _ rfl rfl)).add (hd.val 4 55 _ rfl rfl)) hs rfl (fun hf hs => r_and (hf.ev rfl) (hf.ev rfl)) rfl
   ·intro a w' _ _ hd hs
    exact pv (hd.fr.add (hd.base 6 _ rfl rfl)) hs rfl (fun hf hs => r_iaI Tryd.underlying175 ts70 (hf.ev rfl) (hf.ev rfl) (by decide : (0 : Int) ≤ (0 : Int)) (by decide : (0 : Int) < ((4 : Nat) : Int))) rfl
   ·intro a w' _ _ hd hs
    exact pv (hd.fr.add (hd.val 8 59 _ rfl rfl)) hs rfl (fun hf hs => r_load1 ta70 (hf.ev rfl) (hs.blk (i := 3) rfl) (vI_get0 (by decide : (0 : Int) ≤ (0 : Int)) (by decide : (0 : Int) < ((4 : Nat) : Int)))) rfl
   ·intro a w' _ _ hd hs
    exact pv (hd.fr.add (hd.base 6 _ rfl rfl)) hs rfl (fun hf hs => r_iaI Tryd.underlying175 ts70 (hf.ev rfl) (hf.ev rfl) (by decide : (0 : Int) ≤ (2 : Int)) (by decide : (2 : Int) < ((4 : Nat) : Int))) rfl
   ·intro a w' _ _ hd hs
    exact pv (hd.fr.add (hd.val 10 61 _ rfl rfl)) hs rfl (fun hf hs => r_load1 ta70 (hf.ev rfl) (hs.blk (i := 3) rfl) (vI_get0 (by decide : (0 : Int) ≤ (2 : Int)) (by decide : (2 : Int) < ((4 : Nat) : Int)))) rfl
   ·intro a w' _ _ hd hs
    exact pv ((hd.fr.add (hd.val 11 62 _ rfl rfl)).add (hd.val 9 60 _ rfl rfl)) hs rfl (fun hf hs => r_and (hf.ev rfl) (hf.ev rfl)) rfl
   ·intro a w' _ _ hd hs
    exact pv ((hd.fr.add (hd.val 12 63 _ rfl rfl)).add (hd.val 7 58 _ rfl rfl)) hs rfl (fun hf hs => r_xor (hf.ev rfl) (hf.ev rfl)) rfl
   ·intro a w' _ _ hd hs
    exact pv (hd.fr.add (hd.base 6 _ rfl rfl)) hs rfl (fun hf hs => r_iaI Tryd.underlying175 ts70 (hf.ev rfl) (hf.ev rfl) (by decide : (0 : Int) ≤ (1 : Int)) (by decide : (1 : Int) < ((4 : Nat) : Int))) rfl
   ·intro a w' _ _ hd hs
    exact pv (hd.fr.add (hd.val 14 65 _ rfl rfl)) hs rfl (fun hf hs => r_load1 ta70 (hf.ev rfl) (hs.blk (i := 3) rfl) (vI_get0 (by decide : (0 : Int) ≤ (1 : Int)) (by decide : (1 : Int) < ((4 : Nat) : Int)))) rfl
   ·intro a w' _ _ hd hs
    exact pv (hd.fr.add (hd.base 6 _ rfl rfl)) hs rfl (fun hf hs => r_iaI Tryd.underlying175 ts70 (hf.ev rfl) (hf.ev rfl) (by decide : (0 : Int) ≤ (2 : Int)) (by decide : (2 : Int) < ((4 : Nat) : Int))) rfl
   ·intro a w' _ _ hd hs
    exact pv (hd.fr.add (hd.val 16 67 _ rfl rfl)) hs rfl (fun hf hs => r_load1 ta70 (hf.ev rfl) (hs.blk (i := 3) rfl) (vI_get0 (by decide : (0 : Int) ≤ (2 : Int)) (by decide : (2 : Int) < ((4 : Nat) : Int)))) rfl
   ·intro a w' _ _ hd hs
    exact pv ((hd.fr.add (hd.val 17 68 _ rfl rfl)).add (hd.val 15 66 _ rfl rfl)) hs rfl (fun hf hs => r_and (hf.ev rfl) (hf.ev rfl)) rfl
   ·intro a w' _ _ hd hs
    exact pv ((hd.fr.add (hd.val 18 69 _ rfl rfl)).add (hd.val 13 64 _ rfl rfl)) hs rfl (fun hf hs => r_xor (hf.ev rfl) (hf.ev rfl)) rfl
   ·intro a w' _ _ hd hs
    exact pv ((hd.fr.add (hd.val 19 70 _ rfl rfl)).add (hd.val 2 53 _ rfl rfl)) hs rfl (fun hf hs => r_add (hf.ev rfl) (hf.ev rfl)) rfl
   ·intro a w' _ _ hd hs
    exact pv (hd.fr.add (hd.val 20 71 _ rfl rfl)) hs rfl (fun hf hs => r_assign (hf.ev rfl)) rfl
   intro a w' M298 l299 hdf hsz hb hv hs
   have e300 := hv 21 11 _ rfl rfl
   refine n_of (c := (Cx.mk Tryd.prog 116 none' M w)) (l := [(2, (ptr b4 0)), (4, (ptr b5 0)), (5, (ptr b13 0)), (6, (ptr b46 0)), (7, (ptr b48 0)), (10, (.int .u32 (IntKind.u32.wrap ((IntKind.u32.wrap ((IntKind.u32.wrap ((IntKind.u32.wrap ((rd s127.2.1.toList 3) + t152)) + (bits .xor .u32 (bits .and .u32 (rd s127.2.1.toList 0) (rd s127.2.1.toList 1)) (bits .and .u32 (bits .xor .u32 IntKind.u32.max (rd s127.2.1.toList 0)) (rd s127.2.1.toList 2))))) + (rd hash_constants.toList s127.2.2))) + (rd t7.toList s127.2.2))))), (11, (.int .u32 (IntKind.u32.wrap (t235 + (bits .xor .u32 (bits .xor .u32 (bits .and .u32 (rd s127.1.toList 0) (rd s127.1.toList 1)) (bits .and .u32 (rd s127.1.toList 0) (rd s127.1.toList 2))) (bits .and .u32 (rd s127.1.toList 1) (rd s127.1.toList 2))))))), (21, (.agg (vI .u32 hash_constants).toArray)), (22, (.int .i64 s127.2.2))]) ?_ ((((((((((Fr.start hdf hsz).add (hb 22 _ rfl rfl)).add (hb 21 _ rfl rfl)).add e300).add (hb 10 _ rfl rfl)).add (hb 7 _ rfl rfl)).add (hb 6 _ rfl rfl)).add (hb 5 _ rfl rfl)).add (hb 4 _ rfl rfl)).add (hb 2 _ rfl rfl)) hs
   clear hdf hsz hb hv hs e300
   refine n_id (hK226 _ _ _ ?_)
   refine c_sr fun _ hK301 => ?_
   refine wv rfl (fun hf hs => r_iaI Tryd.underlying175 ts70 (hf.ev rfl) (hf.ev rfl) (by decide : (0 : Int) ≤ (3 : Int)) (by decide : (3 : Int) < ((4 : Nat) : Int))) ?_
   refine wv rfl (fun hf hs => r_load1 ta70 (hf.ev rfl) (hs.blk (i := 3) rfl) (vI_get0 (by decide : (0 : Int) ≤ (3 : Int)) (by decide : (3 : Int) < ((4 : Nat) : Int)))) ?_
   refine vm rfl rfl ?_
   refine v_add rfl rfl rfl ?_
   refine wv rfl (fun hf hs => r_iaI Tryd.underlying175 ts70 (hf.ev rfl) (hf.ev rfl) (by decide : (0 : Int) ≤ (0 : Int)) (by decide : (0 : Int) < ((4 : Nat) : Int))) ?_
   refine wv rfl (fun hf hs => r_load1 ta70 (hf.ev rfl) (hs.blk (i := 4) rfl) (vI_get0 (by decide : (0 : Int) ≤ (0 : Int)) (by decide : (0 : Int) < ((4 : Nat) : Int)))) ?_
   refine wv rfl (fun hf hs => r_iaI Tryd.underlying175 ts70 (hf.ev rfl) (hf.ev rfl) (by decide : (0 : Int) ≤ (1 : Int)) (by decide : (1 : Int) < ((4 : Nat) : Int))) ?_
   refine wv rfl (fun hf hs => r_load1 ta70 (hf.ev rfl) (hs.blk (i := 4) rfl) (vI_get0 (by decide : (0 : Int) ≤ (1 : Int)) (by decide : (1 : Int) < ((4 : Nat) : Int)))) ?_
   refine wv rfl (fun hf hs => r_iaI Tryd.underlying175 ts70 (hf.ev rfl) (hf.ev rfl) (by decide : (0 : Int) ≤ (2 : Int)) (by decide : (2 : Int) < ((4 : Nat) : Int))) ?_
   refine wv rfl (fun hf hs => r_load1 ta70 (hf.ev rfl) (hs.blk (i := 4) rfl) (vI_get0 (by decide : (0 : Int) ≤ (2 : Int)) (by decide : (2 : Int) < ((4 : Nat) : Int)))) ?_
   refine wv rfl (fun hf hs => r_build (is := [0, 1, 2, 3]) (xs := [.tmp 75, .tmp 77, .tmp 79, .tmp 81]) (vs := [(.int .u32 (IntKind.u32.wrap ((rd s127.1.toList 3) + (IntKind.u32.wrap ((IntKind.u32.wrap ((IntKind.u32.wrap ((IntKind.u32.wrap ((rd s127.2.1.toList 3) + t152)) + (bits .xor .u32 (bits .and .u32 (rd s127.2.1.toList 0) (rd s127.2.1.toList 1)) (bits .and .u32 (bits .xor .u32 IntKind.u32.max (rd s127.2.1.toList 0)) (rd s127.2.1.toList 2))))) + (rd hash_constants.toList s127.2.2))) + (rd t7.toList s127.2.2)))))), (.int .u32 (rd s127.2.1.toList 0)), (.int .u32 (rd s127.2.1.toList 1)), (.int .u32 (rd s127.2.1.toList 2))]) (A := vI .u32 (#v[(IntKind.u32.wrap ((rd s127.1.toList 3) + (IntKind.u32.wrap ((IntKind.u32.wrap ((IntKind.u32.wrap ((IntKind.u32.wrap ((rd s127.2.1.toList 3) + t152)) + (bits .xor .u32 (bits .and .u32 (rd s127.2.1.toList 0) (rd s127.2.1.toList 1)) (bits .and .u32 (bits .xor .u32 IntKind.u32.max (rd s127.2.1.toList 0)) (rd s127.2.1.toList 2))))) + (rd hash_constants.toList s127.2.2))) + (rd t7.toList s127.2.2))))), (rd s127.2.1.toList 0), (rd s127.2.1.toList 1), (rd s127.2.1.toList 2)] : Vector Int 4)) rfl (hf.evs rfl) (by kernel_rfl)) ?_
   refine w_store (i := 4) (vs := vI .u32 (#v[(IntKind.u32.wrap ((rd s127.1.toList 3) + (IntKind.u32.wrap ((IntKind.u32.wrap ((IntKind.u32.wrap ((IntKind.u32.wrap ((rd s127.2.1.toList 3) + t152)) + (bits .xor .u32 (bits .and .u32 (rd s127.2.1.toList 0) (rd s127.2.1.toList 1)) (bits .and .u32 (bits .xor .u32 IntKind.u32.max (rd s127.2.1.toList 0)) (rd s127.2.1.toList 2))))) + (rd hash_constants.toList s127.2.2))) + (rd t7.toList s127.2.2))))), (rd s127.2.1.toList 0), (rd s127.2.1.toList 1), (rd s127.2.1.toList 2)] : Vector Int 4)) (A' := vI .u32 (#v[(IntKind.u32.wrap ((rd s127.1.toList 3) + (IntKind.u32.wrap ((IntKind.u32.wrap ((IntKind.u32.wrap ((IntKind.u32.wrap ((rd s127.2.1.toList 3) + t152)) + (bits .xor .u32 (bits .and .u32 (rd s127.2.1.toList 0) (rd s127.2.1.toList 1)) (bits .and .u32 (bits .xor .u32 IntKind.u32.max (rd s127.2.1.toList 0)) (rd s127.2.1.toList 2))))) + (rd hash_constants.toList s127.2.2))) + (rd t7.toList s127.2.2))))), (rd s127.2.1.toList 0), (rd s127.2.1.toList 1), (rd s127.2.1.toList 2)] : Vector Int 4)) trivial rfl rfl rfl rfl ts175 (vI_len _) (vI_one _) (by rw [vI_len]; decide) (vI_whole _ _) ?_
   refine w_nil (hK301 _ _ _ ?_)
   refine c_reg ?_
   refine vm rfl rfl ?_
   refine vm rfl rfl ?_
   refine v_add rfl rfl rfl ?_
   refine wv rfl (fun hf hs => r_iaI Tryd.underlying175 ts70 (hf.ev rfl) (hf.ev rfl) (by decide : (0 : Int) ≤ (0 : Int)) (by decide : (0 : Int) < ((4 : Nat) : Int))) ?_
   refine wv rfl (fun hf hs => r_load1 ta70 (hf.ev rfl) (hs.blk (i := 3) rfl) (vI_get0 (by decide : (0 : Int) ≤ (0 : Int)) (by decide : (0 : Int) < ((4 : Nat) : Int)))) ?_
   refine wv rfl (fun hf hs => r_iaI Tryd.underlying175 ts70 (hf.ev rfl) (hf.ev rfl) (by decide : (0 : Int) ≤ (1 : Int)) (by decide : (1 : Int) < ((4 : Nat) : Int))) ?_
   refine wv rfl (fun hf hs => r_load1 ta70 (hf.ev rfl) (hs.blk (i := 3) rfl) (vI_get0 (by decide : (0 : Int) ≤ (1 : Int)) (by decide : (1 : Int) < ((4 : Nat) : Int)))) ?_
   refine wv rfl (fun hf hs => r_iaI Tryd.underlying175 ts70 (hf.ev rfl) (hf.ev rfl) (by decide : (0 : Int) ≤ (2 : Int)) (by decide : (2 : Int) < ((4 : Nat) : Int))) ?_
   refine wv rfl (fun hf hs => r_load1 ta70 (hf.ev rfl) (hs.blk (i := 3) rfl) (vI_get0 (by decide : (0 : Int) ≤ (2 : Int)) (by decide : (2 : Int) < ((4 : Nat) : Int)))) ?_
   refine wv rfl (fun hf hs => r_build (is := [0, 1, 2, 3]) (xs := [.tmp 85, .tmp 87, .tmp 89, .tmp 91]) (vs := [(.int .u32 (IntKind.u32.wrap ((IntKind.u32.wrap ((IntKind.u32.wrap ((IntKind.u32.wrap ((IntKind.u32.wrap ((rd s127.2.1.toList 3) + t152)) + (bits .xor .u32 (bits .and .u32 (rd s127.2.1.toList 0) (rd s127.2.1.toList 1)) (bits .and .u32 (bits .xor .u32 IntKind.u32.max (rd s127.2.1.toList 0)) (rd s127.2.1.toList 2))))) + (rd hash_constants.toList s127.2.2))) + (rd t7.toList s127.2.2))) + (IntKind.u32.wrap (t235 + (bits .xor .u32 (bits .xor .u32 (bits .and .u32 (rd s127.1.toList 0) (rd s127.1.toList 1)) (bits .and .u32 (rd s127.1.toList 0) (rd s127.1.toList 2))) (bits .and .u32 (rd s127.1.toList 1) (rd s127.1.toList 2)))))))), (.int .u32 (rd s127.1.toList 0)), (.int .u32 (rd s127.1.toList 1)), (.int .u32 (rd s127.1.toList 2))]) (A := vI .u32 (#v[(IntKind.u32.wrap ((IntKind.u32.wrap ((IntKind.u32.wrap ((IntKind.u32.wrap ((IntKind.u32.wrap ((rd s127.2.1.toList 3) + t152)) + (bits .xor .u32 (bits .and .u32 (rd s127.2.1.toList 0) (rd s127.2.1.toList 1)) (bits .and .u32 (bits .xor .u32 IntKind.u32.max (rd s127.2.1.toList 0)) (rd s127.2.1.toList 2))))) + (rd hash_constants.toList s127.2.2))) + (rd t7.toList s127.2.2))) + (IntKind.u32.wrap (t235 + (bits .xor .u32 (bits .xor .u32 (bits .and .u32 (rd s127.1.toList 0) (rd s127.1.toList 1)) (bits .and .u32 (rd s127.1.toList 0) (rd s127.1.toList 2))) (bits .and .u32 (rd s127.1.toList 1) (rd s127.1.toList 2))))))), (rd s127.1.toList 0), (rd s127.1.toList 1), (rd s127.1.toList 2)] : Vector Int 4)) rfl (hf.evs rfl) (by kernel_rfl)) ?_
   refine w_store (i := 3) (vs := vI .u32 (#v[(IntKind.u32.wrap ((IntKind.u32.wrap ((IntKind.u32.wrap ((IntKind.u32.wrap ((IntKind.u32.wrap ((rd s127.2.1.toList 3) + t152)) + (bits .xor .u32 (bits .and .u32 (rd s127.2.1.toList 0) (rd s127.2.1.toList 1)) (bits .and .u32 (bits .xor .u32 IntKind.u32.max (rd s127.2.1.toList 0)) (rd s127.2.1.toList 2))))) + (rd hash_constants.toList s127.2.2))) + (rd t7.toList s127.2.2))) + (IntKind.u32.wrap (t235 + (bits .xor .u32 (bits .xor .u32 (bits .and .u32 (rd s127.1.toList 0) (rd s127.1.toList 1)) (bits .and .u32 (rd s127.1.toList 0) (rd s127.1.toList 2))) (bits .and .u32 (rd s127.1.toList 1) (rd s127.1.toList 2))))))), (rd s127.1.toList 0), (rd s127.1.toList 1), (rd s127.1.toList 2)] : Vector Int 4)) (A' := vI .u32 (#v[(IntKind.u32.wrap ((IntKind.u32.wrap ((IntKind.u32.wrap ((IntKind.u32.wrap ((IntKind.u32.wrap ((rd s127.2.1.toList 3) + t152)) + (bits .xor .u32 (bits .and .u32 (rd s127.2.1.toList 0) (rd s127.2.1.toList 1)) (bits .and .u32 (bits .xor .u32 IntKind.u32.max (rd s127.2.1.toList 0)) (rd s127.2.1.toList 2))))) + (rd hash_constants.toList s127.2.2))) + (rd t7.toList s127.2.2))) + (IntKind.u32.wrap (t235 + (bits .xor .u32 (bits .xor .u32 (bits .and .u32 (rd s127.1.toList 0) (rd s127.1.toList 1)) (bits .and .u32 (rd s127.1.toList 0) (rd s127.1.toList 2))) (bits .and .u32 (rd s127.1.toList 1) (rd s127.1.toList 2))))))), (rd s127.1.toList 0), (rd s127.1.toList 1), (rd s127.1.toList 2)] : Vector Int 4)) trivial rfl rfl rfl rfl ts175 (vI_len _) (vI_one _) (by rw [vI_len]; decide) (vI_whole _ _) ?_
   refine w_nil (hK135 _ _ _ ?_)
   refine c_reg ?_
   refine v_add rfl rfl rfl ?_
   refine vm rfl rfl ?_
   exact w_nil fun a w' hf hs => ⟨_, (some_r H).symm, _, l129.trans (l224.trans l299), (hf.pick (pk (pk (pk (pk (pk (pk (pk pk0 rfl) rfl) rfl) rfl) rfl) rfl) rfl)), hs.selD [some 0, some 1, some 2, some 3, some 4] (by decide) rfl⟩
  replace H := if_f b134 H
  replace H := map_inr H r130
  refine c_exit ?_
  intro a w' hf hs
  exact ⟨s127.1, s127.2.1, _, l129, (hf.pick (pk (pk (pk (pk pk0 rfl) rfl) rfl) rfl)), hs.selD [some 0, some 1, none, some 3, some 4] (by decide) rfl, H⟩
 rintro a w' ⟨x50, x51, M52, l53, hf, hs, H⟩
 refine c_of (c := (Cx.mk Tryd.prog 116 none' M w)) ?_ hf hs
 unfold hash_compress.j3 at H
 clear hf hs
 refine c_cut (fun a' w' => ∃ (x54 : (Vector Int 8)) (M55 : Heap), HLe M52 M55 ∧ Fr 116 [(2, (ptr b4 0)), (4, (ptr b5 0))] a' ∧ St none' M w M55 (lt [.blk b4 (.cells (vI .u32 x54).toArray 120 (0, 0)), .blk b5 (.cells (vI .u32 (Vector.replicate 8 (0 : Int))).toArray 120 (0, 0)), dead, dead, dead]) w' ∧ hash_compress.j1 x54 = some r) ?_ ?_
 ·refine c_seq ?_
  intro K58 hK58
  refine c_reg ?_
  refine vm rfl rfl ?_
  refine w_nil (hK58 _ _ _ ?_)
  refine c_block ?_
  refine c_loop (fun (s59 : ((Vector Int 8) × Int)) a' w' => ∃ (M60 : Heap), HLe M52 M60 ∧ Fr 116 [(2, (ptr b4 0)), (4, (ptr b5 0)), (6, (ptr b46 0)), (7, (ptr b48 0)), (94, (.int .i64 s59.2))] a' ∧ St none' M w M60 (lt [.blk b4 (.cells (vI .u32 s59.1).toArray 120 (0, 0)), .blk b5 (.cells (vI .u32 (Vector.replicate 8 (0 : Int))).toArray 120 (0, 0)), dead, .blk b46 (.cells (vI .u32 x50).toArray 175 (0, 0)), .blk b48 (.cells (vI .u32 x51).toArray 175 (0, 0))]) w') (p0, (0 : Int)) H ?_ ?_
  ·intro a w' hf hs
   exact ⟨_, HLe.refl _, (hf.pick (pk (pk (pk (pk (pk pk0 rfl) rfl) rfl) rfl) rfl)), hs.selD [some 0, some 1, none, some 3, some 4] (by decide) rfl⟩
  clear H
  intro s59 y63 H r62 a w' hJ
  obtain ⟨M60, l61, hf, hs⟩ := hJ
  refine c_of (c := (Cx.mk Tryd.prog 116 none' M w)) ?_ hf hs
  unfold hash_compress.l2 at H
  clear hf hs
  refine c_sr fun _ hK64 => ?_
  refine v_lss rfl rfl rfl ?_
  refine w_nil (hK64 _ _ _ ?_)
  refine c_seq fun K65 hK65 => ?_
  refine c_if rfl (fun b66 => ?_) (fun b66 => ?_)
  ·replace H := if_t b66 H
   refine c_skip (hK65 _ _ _ ?_)
   refine c_seq fun K67 hK67 => ?_
   refine c_block ?_
   refine c_sr fun _ hK68 => ?_
   refine vm rfl rfl ?_
   refine va rfl rfl ?_
   refine w_nil (hK68 _ _ _ ?_)
   refine c_seq fun K69 hK69 => ?_
   refine c_split2 6 (by kernel_rfl) (by kernel_rfl) (by kernel_rfl) (by kernel_rfl) rfl ?_
   intro K70 hK70
   obtain ⟨g76, H⟩ := grd_s H
   obtain ⟨g85, H⟩ := grd_s H
   refine d_drawP [([], [12]), ([(0, 97)], [2]), ([(1, 98)], []), ([], [12]), ([(3, 100)], [6]), ([(4, 101)], [])] [vq (.int .i64 s59.2), vq (ptr b4 (0 + (s59.2).toNat)), vq (.int .u32 (rd s59.1.toList s59.2)), vq (.int .i64 s59.2), vq (ptr b46 (0 + (s59.2).toNat)), vq (.int .u32 (rd x50.toList s59.2))] (by kernel_rfl) (by kernel_rfl) ?_ (aT ?_ (aT ?_ (aT ?_ (aT ?_ (aT ?_ (aT ?_ AllT.nil)))))) ?_
   ·exact (mC (mC (mC (mC (mC (mC MonoA.nil))))))
   ·intro a w' _ _ hd hs
    exact pv (hd.fr.add (hd.base 12 _ rfl rfl)) hs rfl (fun hf hs => r_move (hf.ev rfl)) rfl
   ·intro a w' _ _ hd hs
    exact pv ((hd.fr.add (hd.val 0 97 _ rfl rfl)).add (hd.base 2 _ rfl rfl)) hs rfl (fun hf hs => r_iaI Tryd.underlying120 ts70 (hf.ev rfl) (hf.ev rfl) g76.1 g76.2) rfl
   ·intro a w' _ _ hd hs
    exact pv (hd.fr.add (hd.val 1 98 _ rfl rfl)) hs rfl (fun hf hs => r_load1 ta70 (hf.ev rfl) (hs.blk (i := 0) rfl) (vI_get0 g76.1 g76.2)) rfl
   ·intro a w' _ _ hd hs
    exact pv (hd.fr.add (hd.base 12 _ rfl rfl)) hs rfl (fun hf hs => r_move (hf.ev rfl)) rfl
   ·intro a w' _ _ hd hs
    exact pv ((hd.fr.add (hd.val 3 100 _ rfl rfl)).add (hd.base 6 _ rfl rfl)) hs rfl (fun hf hs => r_iaI Tryd.underlying175 ts70 (hf.ev rfl) (hf.ev rfl) g85.1 g85.2) rfl
   ·intro a w' _ _ hd hs
    exact pv (hd.fr.add (hd.val 4 101 _ rfl rfl)) hs rfl (fun hf hs => r_load1 ta70 (hf.ev rfl) (hs.blk (i := 3) rfl) (vI_get0 g85.1 g85.2)) rfl
   intro a w' M89 l90 hdf hsz hb hv hs
   have e91 := hv 0 97 _ rfl rfl
   have e92 := hv 2 99 _ rfl rfl
   have e93 := hv 5 102 _ rfl rfl
   refine n_of (c := (Cx.mk Tryd.prog 116 none' M w)) (l := [(2, (ptr b4 0)), (4, (ptr b5 0)), (6, (ptr b46 0)), (7, (ptr b48 0)), (12, (.int .i64 s59.2)), (94, (.int .i64 s59.2)), (97, (.int .i64 s59.2)), (99, (.int .u32 (rd s59.1.toList s59.2))), (102, (.int .u32 (rd x50.toList s59.2)))]) ?_ ((((((((((Fr.start hdf hsz).add e93).add e92).add e91).add (hb 94 _ rfl rfl)).add (hb 12 _ rfl rfl)).add (hb 7 _ rfl rfl)).add (hb 6 _ rfl rfl)).add (hb 4 _ rfl rfl)).add (hb 2 _ rfl rfl)) hs
   clear hdf hsz hb hv hs e91 e92 e93
   refine n_id (hK70 _ _ _ ?_)
   refine v_add rfl rfl rfl ?_
   obtain ⟨g94, H⟩ := grd_s H
   refine wv rfl (fun hf hs => r_iaI Tryd.underlying120 ts70 (hf.ev rfl) (hf.ev rfl) g94.1 g94.2) ?_
   refine w_store (i := 0) (vs := [(.int .u32 (IntKind.u32.wrap ((rd s59.1.toList s59.2) + (rd x50.toList s59.2))))]) (A' := vI .u32 (vs s59.1 s59.2 (IntKind.u32.wrap ((rd s59.1.toList s59.2) + (rd x50.toList s59.2))))) trivial rfl rfl rfl rfl ts70 rfl (one1 rfl) (idx_le g94.1 g94.2 (vI_len _) (by decide)) (vI_set0 g94.1 g94.2) ?_
   refine w_nil (hK69 _ _ _ ?_)
   refine c_split2 7 (by kernel_rfl) (by kernel_rfl) (by kernel_rfl) (by kernel_rfl) rfl ?_
   intro K95 hK95
   obtain ⟨g104, H⟩ := grd_s H
   obtain ⟨g113, H⟩ := grd_s H
   refine d_drawP [([], [12]), ([(0, 105)], []), ([(1, 106)], [2]), ([(2, 107)], []), ([], [12]), ([(4, 109)], [7]), ([(5, 110)], [])] [vq (.int .i64 s59.2), vq (.int .i64 (IntKind.i64.wrap (s59.2 + (4 : Int)))), vq (ptr b4 (0 + ((IntKind.i64.wrap (s59.2 + (4 : Int)))).toNat)), vq (.int .u32 (rd (vs s59.1 s59.2 (IntKind.u32.wrap ((rd s59.1.toList s59.2) + (rd x50.toList s59.2)))).toList (IntKind.i64.wrap (s59.2 + (4 : Int))))), vq (.int .i64 s59.2), vq (ptr b48 (0 + (s59.2).toNat)), vq (.int .u32 (rd x51.toList s59.2))] (by kernel_rfl) (by kernel_rfl) ?_ (aT ?_ (aT ?_ (aT ?_ (aT ?_ (aT ?_ (aT ?_ (aT ?_ AllT.nil))))))) ?_
   ·exact (mC (mC (mC (mC (mC (mC (mC MonoA.nil)))))))
   ·intro a w' _ _ hd hs
    exact pv (hd.fr.add (hd.base 12 _ rfl rfl)) hs rfl (fun hf hs => r_move (hf.ev rfl)) rfl
   ·intro a w' _ _ hd hs
    exact pv (hd.fr.add (hd.val 0 105 _ rfl rfl)) hs rfl (fun hf hs => r_add (hf.ev rfl) (hf.ev rfl)) rfl
   ·intro a w' _ _ hd hs
    exact pv ((hd.fr.add (hd.val 1 106 _ rfl rfl)).add (hd.base 2 _ rfl rfl)) hs rfl (fun hf hs => r_iaI Tryd.underlying120 ts70 (hf.ev rfl) (hf.ev rfl) g104.1 g104.2) rfl
   ·intro a w' _ _ hd hs
    exact pv (hd.fr.add (hd.val 2 107 _ rfl rfl)) hs rfl (fun hf hs => r_load1 ta70 (hf.ev rfl) (hs.blk (i := 0) rfl) (vI_get0 g104.1 g104.2)) rfl
   ·intro a w' _ _ hd hs
    exact pv (hd.fr.add (hd.base 12 _ rfl rfl)) hs rfl (fun hf hs => r_move (hf.ev rfl)) rfl
   ·intro a w' _ _ hd hs
    exact pv ((hd.fr.add (hd.val 4 109 _ rfl rfl)).add (hd.base 7 _ rfl rfl)) hs rfl (fun hf hs => r_iaI Tryd.underlying175 ts70 (hf.ev rfl) (hf.ev rfl) g113.1 g113.2) rfl
   ·intro a w' _ _ hd hs
    exact pv (hd.fr.add (hd.val 5 110 _ rfl rfl)) hs rfl (fun hf hs => r_load1 ta70 (hf.ev rfl) (hs.blk (i := 4) rfl) (vI_get0 g113.1 g113.2)) rfl
   intro a w' M117 l118 hdf hsz hb hv hs
   have e119 := hv 1 106 _ rfl rfl
   have e120 := hv 3 108 _ rfl rfl
   have e121 := hv 6 111 _ rfl rfl
   refine n_of (c := (Cx.mk Tryd.prog 116 none' M w)) (l := [(2, (ptr b4 0)), (4, (ptr b5 0)), (6, (ptr b46 0)), (7, (ptr b48 0)), (94, (.int .i64 s59.2)), (106, (.int .i64 (IntKind.i64.wrap (s59.2 + (4 : Int))))), (108, (.int .u32 (rd (vs s59.1 s59.2 (IntKind.u32.wrap ((rd s59.1.toList s59.2) + (rd x50.toList s59.2)))).toList (IntKind.i64.wrap (s59.2 + (4 : Int)))))), (111, (.int .u32 (rd x51.toList s59.2)))]) ?_ (((((((((Fr.start hdf hsz).add e121).add e120).add e119).add (hb 94 _ rfl rfl)).add (hb 7 _ rfl rfl)).add (hb 6 _ rfl rfl)).add (hb 4 _ rfl rfl)).add (hb 2 _ rfl rfl)) hs
   clear hdf hsz hb hv hs e119 e120 e121
   refine n_id (hK95 _ _ _ ?_)
   refine v_add rfl rfl rfl ?_
   obtain ⟨g122, H⟩ := grd_s H
   refine wv rfl (fun hf hs => r_iaI Tryd.underlying120 ts70 (hf.ev rfl) (hf.ev rfl) g122.1 g122.2) ?_
   obtain ⟨z123, e124, H⟩ := bnd H
   have e125 := some_r e124
   refine w_store (i := 0) (vs := [(.int .u32 (IntKind.u32.wrap ((rd (vs s59.1 s59.2 (IntKind.u32.wrap ((rd s59.1.toList s59.2) + (rd x50.toList s59.2)))).toList (IntKind.i64.wrap (s59.2 + (4 : Int)))) + (rd x51.toList s59.2))))]) (A' := vI .u32 z123) trivial rfl rfl rfl rfl ts70 rfl (one1 rfl) (idx_le g122.1 g122.2 (vI_len _) (by decide)) (by rw [← e125]; exact (vI_set0 g122.1 g122.2)) ?_
   clear e124 e125
   refine w_nil (hK67 _ _ _ ?_)
   refine c_reg ?_
   refine v_add rfl rfl rfl ?_
   refine vm rfl rfl ?_
   exact w_nil fun a w' hf hs => ⟨_, (some_r H).symm, _, l61.trans (l90.trans l118), (hf.pick (pk (pk (pk (pk (pk pk0 rfl) rfl) rfl) rfl) rfl)), hs.selD [some 0, some 1, none, some 3, some 4] (by decide) rfl⟩
  replace H := if_f b66 H
  replace H := map_inr H r62
  refine c_exit ?_
  intro a w' hf hs
  exact ⟨s59.1, _, l61, (hf.pick (pk (pk pk0 rfl) rfl)), hs.selD [some 0, some 1, none, none, none] (by decide) rfl, H⟩
 rintro a w' ⟨x54, M55, l56, hf, hs, H⟩
 refine c_of (c := (Cx.mk Tryd.prog 116 none' M w)) ?_ hf hs
 unfold hash_compress.j1 at H
 clear hf hs
 refine c_sr fun _ hK57 => ?_
 refine wv rfl (fun hf hs => r_loadA ta120 ts120 (hf.ev rfl) (hs.blk (i := 0) rfl) (vI_all _) (vI_len _)) ?_
 refine w_store (i := 1) (vs := vI .u32 x54) (A' := vI .u32 x54) trivial rfl rfl rfl rfl ts120 (vI_len _) (vI_one _) (by rw [vI_len]; decide) (vI_whole _ _) ?_
 refine w_nil (hK57 _ _ _ ?_)
 obtain rfl := some_r H
 exact c_ret fun a w' hf hs => hret _ (.inl rfl) a w' hf.df ⟨_, _, Res.of1 rfl ⟨_, hf.get _ _ rfl, run_loadA (hs.blk (i := 1) rfl) ta120 ts120 (vI_all _) (vI_len _)⟩, hs.ext, rfl⟩
theorem hash_Stream_Add.calls {M : Heap} {w : World} (hM : Sub M w) (hG : Gl M) (p0 : hash_Stream) (p1 : (List UInt8)) (r : hash_Stream) (H : hash_Stream_Add p0 p1 = some r) :
  Calls Tryd.prog 79 [(.agg (hash_Stream.C p0).toArray), (str p1)].toArray w (Post M w fun M' v => v = (.agg (hash_Stream.C r).toArray)) := by
 refine enter 38 [(0, (.agg (hash_Stream.C p0).toArray)), (1, (str p1))] Tryd.func79 rfl rfl rfl hM ?_
 intro Q hret
 unfold hash_Stream_Add at H
 refine c_sr fun _ hK1 => ?_
 refine w_boxL trivial rfl rfl rfl ?_
 intro b2
 refine w_allocL (A := hash_Stream.C (⟨(Vector.replicate 8 0), (Vector.replicate 64 0), 0⟩ : hash_Stream)) tz123 trivial rfl rfl ?_
 intro b3
 refine w_nil (hK1 _ _ _ ?_)
 refine c_cut (fun a' w' => ∃ (x4 : hash_Stream) (M5 : Heap), HLe M M5 ∧ Fr 38 [(2, (ptr b2 0)), (4, (ptr b3 0))] a' ∧ St none' M w M5 (lt [.blk b2 (.cells (hash_Stream.C x4).toArray 123 (0, 0)), .blk b3 (.cells (hash_Stream.C (⟨(Vector.replicate 8 0), (Vector.replicate 64 0), 0⟩ : hash_Stream)).toArray 123 (0, 0))]) w' ∧ hash_Stream_Add.j1 x4 = some r) ?_ ?_
 ·refine c_block ?_
  refine c_loop (fun (s8 : (hash_Stream × (List UInt8))) a' w' => ∃ (M9 : Heap), HLe M M9 ∧ Fr 38 [(1, (str s8.2)), (2, (ptr b2 0)), (4, (ptr b3 0))] a' ∧ St none' M w M9 (lt [.blk b2 (.cells (hash_Stream.C s8.1).toArray 123 (0, 0)), .blk b3 (.cells (hash_Stream.C (⟨(Vector.replicate 8 0), (Vector.replicate 64 0), 0⟩ : hash_Stream)).toArray 123 (0, 0))]) w') (p0, p1) H ?_ ?_
  ·intro a w' hf hs
   exact ⟨_, HLe.refl _, (hf.pick (pk (pk (pk pk0 rfl) rfl) rfl)), hs.selD [some 0, some 1] (by decide) rfl⟩
  clear H
  intro s8 y12 H r11 a w' hJ
  obtain ⟨M9, l10, hf, hs⟩ := hJ
  refine c_of (c := (Cx.mk Tryd.prog 38 none' M w)) ?_ hf hs
  unfold hash_Stream_Add.l2 at H
  clear hf hs
  replace hG := hG.mono l10
  refine c_seq fun K13 hK13 => ?_
  refine c_sr fun _ hK14 => ?_
  refine vm rfl rfl ?_
  refine wv rfl (fun hf hs => r_sneq (hf.ev rfl) (hf.ev rfl)) ?_
  refine w_nil (hK14 _ _ _ ?_)
  refine c_if rfl (fun b15 => ?_) (fun b15 => ?_)
  ·replace H := if_t b15 H
   refine c_skip (hK13 _ _ _ ?_)
   refine c_block ?_
   refine c_sr fun _ hK16 => ?_
   refine v_fa fa123_2 rfl rfl ?_
   refine wv rfl (fun hf hs => r_load1 ta121 (hf.ev rfl) (hs.blk (i := 0) rfl) (hash_Stream.g72 _)) ?_
   refine wv rfl (fun hf hs => r_rem (hf.ev rfl) (hf.ev rfl) (by decide)) ?_
   refine wv rfl (fun hf hs => r_conv Tryd.underlying121 Tryd.underlying3 (hf.ev rfl)) ?_
   refine va rfl rfl ?_
   refine w_nil (hK16 _ _ _ ?_)
   refine c_sr fun _ hK17 => ?_
   refine v_fa fa123_1 rfl rfl ?_
   refine vm rfl rfl ?_
   obtain ⟨g18, H⟩ := grd_s H
   refine wv rfl (fun hf hs => r_view Tryd.underlying119 ts5 (hf.ev rfl) ⟨_, (hf.ev rfl)⟩ rfl g18.1 g18.2.2.1 g18.2.2.2) ?_
   refine vm rfl rfl ?_
   refine w_copy (i := 0) (m := (bytesI s8.2)) (A' := hash_Stream.C ({ s8.1 with block := (vcp s8.1.block ((IntKind.i64.wrap (Int.tmod s8.1.n (64 : Int)))).toNat ((bytesI s8.2).take (((64 : Int)).toNat - ((IntKind.i64.wrap (Int.tmod s8.1.n (64 : Int)))).toNat))) } : hash_Stream)) Tryd.underlying66 ts5 trivial rfl rfl rfl rfl (hash_Stream.d8_64 _) (by rw [hash_Stream.len]; decide) (toNat_le g18.2.2.1) (toNat_le' g18.2.2.2) (SrcC.str _) (hash_Stream.s8_64 _) ?_
   refine va rfl rfl ?_
   refine w_nil (hK17 _ _ _ ?_)
   refine c_sr fun _ hK19 => ?_
   refine vm rfl rfl ?_
   refine vm rfl rfl ?_
   obtain ⟨g20, H⟩ := grd_s H
   refine wv rfl (fun hf hs => r_sslice Tryd.underlying9 (hf.ev rfl) ⟨_, (hf.ev rfl)⟩ rfl g20.1 g20.2.1 g20.2.2) ?_
   refine va rfl rfl ?_
   refine w_nil (hK19 _ _ _ ?_)
   refine c_sr fun _ hK21 => ?_
   refine v_fa fa123_2 rfl rfl ?_
   refine wv rfl (fun hf hs => r_load1 ta121 (hf.ev rfl) (hs.blk (i := 0) rfl) (hash_Stream.g72 _)) ?_
   refine vm rfl rfl ?_
   refine wv rfl (fun hf hs => r_conv Tryd.underlying3 Tryd.underlying121 (hf.ev rfl)) ?_
   refine v_add rfl rfl rfl ?_
   refine v_fa fa123_2 rfl rfl ?_
   refine w_store (i := 0) (vs := [(.int .u64 (IntKind.u64.wrap (s8.1.n + (IntKind.u64.wrap (((bytesI s8.2).take (((64 : Int)).toNat - ((IntKind.i64.wrap (Int.tmod s8.1.n (64 : Int)))).toNat)).length : Int)))))]) (A' := hash_Stream.C ({ ({ s8.1 with block := (vcp s8.1.block ((IntKind.i64.wrap (Int.tmod s8.1.n (64 : Int)))).toNat ((bytesI s8.2).take (((64 : Int)).toNat - ((IntKind.i64.wrap (Int.tmod s8.1.n (64 : Int)))).toNat))) } : hash_Stream) with n := (IntKind.u64.wrap (s8.1.n + (IntKind.u64.wrap (((bytesI s8.2).take (((64 : Int)).toNat - ((IntKind.i64.wrap (Int.tmod s8.1.n (64 : Int)))).toNat)).length : Int)))) } : hash_Stream)) trivial rfl rfl rfl rfl ts121 rfl (one1 rfl) (by rw [hash_Stream.len]; decide) (hash_Stream.s72_1 _) ?_
   refine w_nil (hK21 _ _ _ ?_)
   refine c_sr fun _ hK22 => ?_
   refine vm rfl rfl ?_
   refine vm rfl rfl ?_
   refine v_add rfl rfl rfl ?_
   refine wv rfl (fun hf hs => r_eql (hf.ev rfl) (hf.ev rfl)) ?_
   refine w_nil (hK22 _ _ _ ?_)
   refine c_if rfl (fun b23 => ?_) (fun b23 => ?_)
   ·replace H := if_t b23 H
    refine c_split2 4 (by kernel_rfl) (by kernel_rfl) (by kernel_rfl) (by kernel_rfl) rfl ?_
    intro K24 hK24
    refine d_drawP [([], [2]), ([(0, 31)], []), ([], [2]), ([(2, 33)], [])] [vq (ptr b2 0), vq (.agg (vI .u32 s8.1.state).toArray), vq (ptr b2 8), vq (vw b2 8 64 ((0 : Int)).toNat ((64 : Int)).toNat)] (by kernel_rfl) (by kernel_rfl) ?_ (aT ?_ (aT ?_ (aT ?_ (aT ?_ AllT.nil)))) ?_
    ·exact (mC (mC (mC (mC MonoA.nil))))
    ·intro a w' _ _ hd hs
     exact pv (hd.fr.add (hd.base 2 _ rfl rfl)) hs rfl (fun hf hs => r_fa fa123_0 (hf.ev rfl)) rfl
    ·intro a w' _ _ hd hs
     exact pv (hd.fr.add (hd.val 0 31 _ rfl rfl)) hs rfl (fun hf hs => r_loadA ta120 ts120 (hf.ev rfl) (hs.blk (i := 0) rfl) (hash_Stream.d0_8 _) (vI_len _)) rfl
    ·intro a w' _ _ hd hs
     exact pv (hd.fr.add (hd.base 2 _ rfl rfl)) hs rfl (fun hf hs => r_fa fa123_1 (hf.ev rfl)) rfl
    ·intro a w' _ _ hd hs
     exact pv (hd.fr.add (hd.val 2 33 _ rfl rfl)) hs rfl (fun hf hs => r_view Tryd.underlying119 ts5 (hf.ev rfl) rfl rfl (by decide) (by decide) (by decide)) rfl
    intro a w' M35 l36 hdf hsz hb hv hs
    replace hG := hG.mono l36
    have e37 := hv 1 32 _ rfl rfl
    have e38 := hv 3 34 _ rfl rfl
    refine n_of (c := (Cx.mk Tryd.prog 38 none' M w)) (l := [(1, (str ((s8.2.take ((s8.2.length : Int)).toNat).drop ((((bytesI s8.2).take (((64 : Int)).toNat - ((IntKind.i64.wrap (Int.tmod s8.1.n (64 : Int)))).toNat)).length : Int)).toNat))), (2, (ptr b2 0)), (4, (ptr b3 0)), (32, (.agg (vI .u32 s8.1.state).toArray)), (34, (vw b2 8 64 ((0 : Int)).toNat ((64 : Int)).toNat))]) ?_ ((((((Fr.start hdf hsz).add e38).add e37).add (hb 4 _ rfl rfl)).add (hb 2 _ rfl rfl)).add (hb 1 _ rfl rfl)) hs
    clear hdf hsz hb hv hs e37 e38
    refine n_id (hK24 _ _ _ ?_)
    obtain ⟨t39, e40, H⟩ := bnd H
    refine w_callS (Φ := fun v => v = (.agg (vI .u32 t39).toArray)) 0 cf114 trivial rfl rfl rfl (fun _ w hl_ hb_ hs => hash_compress.calls hs (hG.mono hl_) s8.1.state (((vcp s8.1.block ((IntKind.i64.wrap (Int.tmod s8.1.n (64 : Int)))).toNat ((bytesI s8.2).take (((64 : Int)).toNat - ((IntKind.i64.wrap (Int.tmod s8.1.n (64 : Int)))).toNat))).toList.take ((64 : Int)).toNat).drop ((0 : Int)).toNat) _ (RS.view hb_ (hash_Stream.d8_64 _) (by decide) (by decide) (by decide)) _ e40) ?_
    rintro _ M41 l42 rfl
    refine v_fa fa123_0 rfl rfl ?_
    refine w_store (i := 0) (vs := vI .u32 t39) (A' := hash_Stream.C (⟨t39, (vcp s8.1.block ((IntKind.i64.wrap (Int.tmod s8.1.n (64 : Int)))).toNat ((bytesI s8.2).take (((64 : Int)).toNat - ((IntKind.i64.wrap (Int.tmod s8.1.n (64 : Int)))).toNat))), (IntKind.u64.wrap (s8.1.n + (IntKind.u64.wrap (((bytesI s8.2).take (((64 : Int)).toNat - ((IntKind.i64.wrap (Int.tmod s8.1.n (64 : Int)))).toNat)).length : Int))))⟩ : hash_Stream)) trivial rfl rfl rfl rfl ts120 (vI_len _) (vI_one _) (by rw [hash_Stream.len]; decide) (hash_Stream.s0_8 _) ?_
    exact w_nil fun a w' hf hs => ⟨_, (some_r H).symm, _, l10.trans (l36.trans l42), (hf.pick (pk (pk (pk pk0 rfl) rfl) rfl)), hs.selD [some 0, some 1] (by decide) rfl⟩
   replace H := if_f b23 H
   refine c_skip ?_
   intro a w' hf hs
   exact ⟨_, (some_r H).symm, _, l10.trans (HLe.refl _), (hf.pick (pk (pk (pk pk0 rfl) rfl) rfl)), hs.selD [some 0, some 1] (by decide) rfl⟩
  replace H := if_f b15 H
  replace H := map_inr H r11
  refine c_exit ?_
  intro a w' hf hs
  exact ⟨s8.1, _, l10, (hf.pick (pk (pk pk0 rfl) rfl)), hs.selD [some 0, some 1] (by decide) rfl, H⟩
 rintro a w' ⟨x4, M5, l6, hf, hs, H⟩
 refine c_of (c := (Cx.mk Tryd.prog 38 none' M w)) ?_ hf hs
 unfold hash_Stream_Add.j1 at H
 clear hf hs
 refine c_sr fun _ hK7 => ?_
 refine wv rfl (fun hf hs => r_loadA ta123 ts123 (hf.ev rfl) (hs.blk (i := 0) rfl) (hash_Stream.d0_73 _) (hash_Stream.len _)) ?_
 refine w_store (i := 1) (vs := hash_Stream.C x4) (A' := hash_Stream.C x4) trivial rfl rfl rfl rfl ts123 (hash_Stream.len _) (hash_Stream.F_one _) (by rw [hash_Stream.len]; decide) (splice_all _ _ (by simp [hash_Stream.C])) ?_
 refine w_nil (hK7 _ _ _ ?_)
 obtain rfl := some_r H
 exact c_ret fun a w' hf hs => hret _ (.inl rfl) a w' hf.df ⟨_, _, Res.of1 rfl ⟨_, hf.get _ _ rfl, run_loadA (hs.blk (i := 1) rfl) ta123 ts123 (hash_Stream.d0_73 _) (hash_Stream.len _)⟩, hs.ext, rfl⟩
theorem hash_Stream_Sum.calls {M : Heap} {w : World} (hM : Sub M w) (hG : Gl M) (p0 : hash_Stream) (r : (Vector Int 32)) (H : hash_Stream_Sum p0 = some r) :
  Calls Tryd.prog 80 [(.agg (hash_Stream.C p0).toArray)].toArray w (Post M w fun M' v => v = (.agg (vI .u8 r).toArray)) := by
 refine enter 58 [(0, (.agg (hash_Stream.C p0).toArray))] Tryd.func80 rfl rfl rfl hM ?_
 intro Q hret
 unfold hash_Stream_Sum at H
 refine c_sr fun _ hK1 => ?_
 refine w_boxL trivial rfl rfl rfl ?_
 intro b2
 refine w_allocL (A := vI .u8 (Vector.replicate 32 (0 : Int))) tz117 trivial rfl rfl ?_
 intro b3
 refine w_nil (hK1 _ _ _ ?_)
 refine c_sr fun _ hK4 => ?_
 refine v_fa fa123_2 rfl rfl ?_
 refine wv rfl (fun hf hs => r_load1 ta121 (hf.ev rfl) (hs.blk (i := 0) rfl) (hash_Stream.g72 _)) ?_
 refine wv rfl (fun hf hs => r_mul (hf.ev rfl) (hf.ev rfl)) ?_
 refine va rfl rfl ?_
 refine w_nil (hK4 _ _ _ ?_)
 refine c_sr fun _ hK5 => ?_
 refine w_bslW (F := (FI .u8)) (es := ([(128 : Int)] : List Int)) (xs := [.const (.int .u8 128)]) (vs := [(.int .u8 128)]) Tryd.underlying66 te5 trivial rfl rfl rfl rfl rfl (by decide) ?_
 intro v6
 refine va rfl rfl ?_
 refine w_nil (hK5 _ _ _ ?_)
 refine c_cut (fun a' w' => ∃ (x7 : (List Int)) (v8 : Value) (M9 : Heap), HLe M M9 ∧ Fr 58 [(1, (ptr b2 0)), (2, (ptr b3 0)), (3, (.int .u64 (IntKind.u64.wrap ((8 : Int) * p0.n)))), (4, v8)] a' ∧ St none' M w M9 (lt [.blk b2 (.cells (hash_Stream.C p0).toArray 123 (0, 0)), .blk b3 (.cells (vI .u8 (Vector.replicate 32 (0 : Int))).toArray 117 (0, 0)), rowI (FI .u8) v8 5 x7]) w' ∧ hash_Stream_Sum.j5 p0 x7 = some r) ?_ ?_
 ·refine c_block ?_
  refine c_loop (fun (s68 : (List Int)) a' w' => ∃ (v69 : Value) (M70 : Heap), HLe M M70 ∧ Fr 58 [(1, (ptr b2 0)), (2, (ptr b3 0)), (3, (.int .u64 (IntKind.u64.wrap ((8 : Int) * p0.n)))), (4, v69)] a' ∧ St none' M w M70 (lt [.blk b2 (.cells (hash_Stream.C p0).toArray 123 (0, 0)), .blk b3 (.cells (vI .u8 (Vector.replicate 32 (0 : Int))).toArray 117 (0, 0)), rowI (FI .u8) v69 5 s68]) w') ([(128 : Int)] : List Int) H ?_ ?_
  ·intro a w' hf hs
   exact ⟨v6, _, HLe.refl _, (hf.pick (pk (pk (pk (pk pk0 rfl) rfl) rfl) rfl)), hs.selD [some 0, some 1, some 2] (by decide) rfl⟩
  clear H
  intro s68 y73 H r72 a w' hJ
  obtain ⟨v69, M70, l71, hf, hs⟩ := hJ
  refine c_of (c := (Cx.mk Tryd.prog 58 none' M w)) ?_ hf hs
  unfold hash_Stream_Sum.l6 at H
  clear hf hs
  replace hG := hG.mono l71
  refine c_seq fun K74 hK74 => ?_
  refine c_sr fun _ hK75 => ?_
  refine v_fa fa123_2 rfl rfl ?_
  refine wv rfl (fun hf hs => r_load1 ta121 (hf.ev rfl) (hs.blk (i := 0) rfl) (hash_Stream.g72 _)) ?_
  refine wv rfl (fun hf hs => r_conv Tryd.underlying121 Tryd.underlying3 (hf.ev rfl)) ?_
  refine vm rfl rfl ?_
  refine wv rfl (fun hf hs => r_lenW 2 hs rfl Tryd.underlying66 (hf.ev rfl)) ?_
  refine v_add rfl rfl rfl ?_
  refine wv rfl (fun hf hs => r_rem (hf.ev rfl) (hf.ev rfl) (by decide)) ?_
  refine wv rfl (fun hf hs => r_neq (hf.ev rfl) (hf.ev rfl)) ?_
  refine w_nil (hK75 _ _ _ ?_)
  refine c_if rfl (fun b76 => ?_) (fun b76 => ?_)
  ·replace H := if_t b76 H
   refine c_skip (hK74 _ _ _ ?_)
   refine c_block ?_
   refine c_reg ?_
   refine vm rfl rfl ?_
   refine w_bsl (F := (FI .u8)) (es := ([(0 : Int)] : List Int)) (xs := [.const (.int .u8 0)]) (vs := [(.int .u8 0)]) Tryd.underlying66 te5 trivial rfl rfl rfl rfl rfl (by decide) ?_
   intro v77 M78 l79 h80 c81
   replace hG := hG.mono l79
   obtain ⟨g82, H⟩ := grd_s H
   refine w_app (F := (FI .u8)) (m2 := ([(0 : Int)] : List Int)) (i := 2) Tryd.underlying66 te5 Tryd.underlying66 (.inl ⟨_, rfl⟩) trivial rfl rfl rfl rfl (Src.rs (FI.one _) h80) g82 ?_
   intro v83
   refine va rfl rfl ?_
   exact w_nil fun a w' hf hs => ⟨_, (some_r H).symm, v83, _, l71.trans l79, (hf.pick (pk (pk (pk (pk pk0 rfl) rfl) rfl) rfl)), hs.selD [some 0, some 1, some 2] (by decide) rfl⟩
  replace H := if_f b76 H
  replace H := map_inr H r72
  refine c_exit ?_
  intro a w' hf hs
  exact ⟨s68, v69, _, l71, (hf.pick (pk (pk (pk (pk pk0 rfl) rfl) rfl) rfl)), hs.selD [some 0, some 1, some 2] (by decide) rfl, H⟩
 rintro a w' ⟨x7, v8, M9, l10, hf, hs, H⟩
 refine c_of (c := (Cx.mk Tryd.prog 58 none' M w)) ?_ hf hs
 unfold hash_Stream_Sum.j5 at H
 clear hf hs
 replace hG := hG.mono l10
 refine c_cut (fun a' w' => ∃ (x11 : (List Int)) (v12 : Value) (M13 : Heap), HLe M9 M13 ∧ Fr 58 [(1, (ptr b2 0)), (2, (ptr b3 0)), (4, v12)] a' ∧ St none' M w M13 (lt [.blk b2 (.cells (hash_Stream.C p0).toArray 123 (0, 0)), .blk b3 (.cells (vI .u8 (Vector.replicate 32 (0 : Int))).toArray 117 (0, 0)), rowI (FI .u8) v12 5 x11]) w' ∧ hash_Stream_Sum.j3 p0 x11 = some r) ?_ ?_
 ·refine c_seq ?_
  intro K48 hK48
  refine c_reg ?_
  refine vm rfl rfl ?_
  refine w_nil (hK48 _ _ _ ?_)
  refine c_block ?_
  refine c_loop (fun (s49 : ((List Int) × Int)) a' w' => ∃ (v50 : Value) (M51 : Heap), HLe M9 M51 ∧ Fr 58 [(1, (ptr b2 0)), (2, (ptr b3 0)), (3, (.int .u64 (IntKind.u64.wrap ((8 : Int) * p0.n)))), (4, v50), (23, (.int .i64 s49.2))] a' ∧ St none' M w M51 (lt [.blk b2 (.cells (hash_Stream.C p0).toArray 123 (0, 0)), .blk b3 (.cells (vI .u8 (Vector.replicate 32 (0 : Int))).toArray 117 (0, 0)), rowI (FI .u8) v50 5 s49.1]) w') (x7, (0 : Int)) H ?_ ?_
  ·intro a w' hf hs
   exact ⟨v8, _, HLe.refl _, (hf.pick (pk (pk (pk (pk (pk pk0 rfl) rfl) rfl) rfl) rfl)), hs.selD [some 0, some 1, some 2] (by decide) rfl⟩
  clear H
  intro s49 y54 H r53 a w' hJ
  obtain ⟨v50, M51, l52, hf, hs⟩ := hJ
  refine c_of (c := (Cx.mk Tryd.prog 58 none' M w)) ?_ hf hs
  unfold hash_Stream_Sum.l4 at H
  clear hf hs
  replace hG := hG.mono l52
  refine c_sr fun _ hK55 => ?_
  refine v_lss rfl rfl rfl ?_
  refine w_nil (hK55 _ _ _ ?_)
  refine c_seq fun K56 hK56 => ?_
  refine c_if rfl (fun b57 => ?_) (fun b57 => ?_)
  ·replace H := if_t b57 H
   refine c_skip (hK56 _ _ _ ?_)
   refine c_seq fun K58 hK58 => ?_
   refine c_block ?_
   refine c_sr fun _ hK59 => ?_
   refine vm rfl rfl ?_
   refine va rfl rfl ?_
   refine w_nil (hK59 _ _ _ ?_)
   refine c_reg ?_
   refine vm rfl rfl ?_
   refine vm rfl rfl ?_
   refine vm rfl rfl ?_
   refine wv rfl (fun hf hs => r_mul (hf.ev rfl) (hf.ev rfl)) ?_
   refine wv rfl (fun hf hs => r_sub (hf.ev rfl) (hf.ev rfl)) ?_
   obtain ⟨g60, H⟩ := grd_s H
   refine wv rfl (fun hf hs => r_shr (hf.ev rfl) (hf.ev rfl) g60) ?_
   refine wv rfl (fun hf hs => r_conv Tryd.underlying121 Tryd.underlying5 (hf.ev rfl)) ?_
   refine w_bsl (F := (FI .u8)) (es := ([(IntKind.u8.wrap (shrI .u64 (IntKind.u64.wrap ((8 : Int) * p0.n)) (IntKind.i64.wrap ((56 : Int) - (IntKind.i64.wrap ((8 : Int) * s49.2))))))] : List Int)) (xs := [.tmp 32]) (vs := [(.int .u8 (IntKind.u8.wrap (shrI .u64 (IntKind.u64.wrap ((8 : Int) * p0.n)) (IntKind.i64.wrap ((56 : Int) - (IntKind.i64.wrap ((8 : Int) * s49.2)))))))]) Tryd.underlying66 te5 trivial rfl rfl rfl rfl rfl (by decide) ?_
   intro v61 M62 l63 h64 c65
   replace hG := hG.mono l63
   obtain ⟨g66, H⟩ := grd_s H
   refine w_app (F := (FI .u8)) (m2 := ([(IntKind.u8.wrap (shrI .u64 (IntKind.u64.wrap ((8 : Int) * p0.n)) (IntKind.i64.wrap ((56 : Int) - (IntKind.i64.wrap ((8 : Int) * s49.2))))))] : List Int)) (i := 2) Tryd.underlying66 te5 Tryd.underlying66 (.inl ⟨_, rfl⟩) trivial rfl rfl rfl rfl (Src.rs (FI.one _) h64) g66 ?_
   intro v67
   refine va rfl rfl ?_
   refine w_nil (hK58 _ _ _ ?_)
   refine c_reg ?_
   refine v_add rfl rfl rfl ?_
   refine vm rfl rfl ?_
   exact w_nil fun a w' hf hs => ⟨_, (some_r H).symm, v67, _, l52.trans l63, (hf.pick (pk (pk (pk (pk (pk pk0 rfl) rfl) rfl) rfl) rfl)), hs.selD [some 0, some 1, some 2] (by decide) rfl⟩
  replace H := if_f b57 H
  replace H := map_inr H r53
  refine c_exit ?_
  intro a w' hf hs
  exact ⟨s49.1, v50, _, l52, (hf.pick (pk (pk (pk pk0 rfl) rfl) rfl)), hs.selD [some 0, some 1, some 2] (by decide) rfl, H⟩
 rintro a w' ⟨x11, v12, M13, l14, hf, hs, H⟩
 refine c_of (c := (Cx.mk Tryd.prog 58 none' M w)) ?_ hf hs
 unfold hash_Stream_Sum.j3 at H
 clear hf hs
 replace hG := hG.mono l14
 refine c_sr fun _ hK15 => ?_
 refine wv rfl (fun hf hs => r_loadA ta123 ts123 (hf.ev rfl) (hs.blk (i := 0) rfl) (hash_Stream.d0_73 _) (hash_Stream.len _)) ?_
 refine vm rfl rfl ?_
 refine w_give 2 rfl (fun _ h => h) ?_
 intro M16 l17 h18
 replace hG := hG.mono l17
 refine wv rfl (fun hf hs => r_b2s Tryd.underlying66 Tryd.underlying5 Tryd.underlying9 h18 hs.sub (hf.ev rfl)) ?_
 obtain ⟨t19, e24, H⟩ := bnd H
 refine w_call cf79 trivial rfl rfl (fun w hs => hash_Stream_Add.calls hs hG p0 (intsB x11) _ e24) ?_
 rintro _ M21 l22 rfl
 refine w_store (i := 0) (vs := hash_Stream.C t19) (A' := hash_Stream.C t19) trivial rfl rfl rfl rfl ts123 (hash_Stream.len _) (hash_Stream.F_one _) (by rw [hash_Stream.len]; decide) (splice_all _ _ (by simp [hash_Stream.C])) ?_
 refine w_nil (hK15 _ _ _ ?_)
 refine c_sr fun _ hK25 => ?_
 refine w_allocL (A := vI .u8 (Vector.replicate 32 (0 : Int))) tz117 trivial rfl rfl ?_
 intro b26
 refine w_nil (hK25 _ _ _ ?_)
 refine c_cut (fun a' w' => ∃ (x27 : (Vector Int 32)) (M28 : Heap), HLe M21 M28 ∧ Fr 58 [(2, (ptr b3 0)), (6, (ptr b26 0))] a' ∧ St none' M w M28 (lt [dead, .blk b3 (.cells (vI .u8 (Vector.replicate 32 (0 : Int))).toArray 117 (0, 0)), dead, .blk b26 (.cells (vI .u8 x27).toArray 117 (0, 0))]) w' ∧ hash_Stream_Sum.j1 x27 = some r) ?_ ?_
 ·refine c_seq ?_
  intro K31 hK31
  refine c_reg ?_
  refine vm rfl rfl ?_
  refine w_nil (hK31 _ _ _ ?_)
  refine c_block ?_
  refine c_loop (fun (s32 : ((Vector Int 32) × Int)) a' w' => ∃ (M33 : Heap), HLe M21 M33 ∧ Fr 58 [(1, (ptr b2 0)), (2, (ptr b3 0)), (6, (ptr b26 0)), (40, (.int .i64 s32.2))] a' ∧ St none' M w M33 (lt [.blk b2 (.cells (hash_Stream.C t19).toArray 123 (0, 0)), .blk b3 (.cells (vI .u8 (Vector.replicate 32 (0 : Int))).toArray 117 (0, 0)), dead, .blk b26 (.cells (vI .u8 s32.1).toArray 117 (0, 0))]) w') ((Vector.replicate 32 (0 : Int)), (0 : Int)) H ?_ ?_
  ·intro a w' hf hs
   exact ⟨_, HLe.refl _, (hf.pick (pk (pk (pk (pk pk0 rfl) rfl) rfl) rfl)), hs.selD [some 0, some 1, none, some 3] (by decide) rfl⟩
  clear H
  intro s32 y36 H r35 a w' hJ
  obtain ⟨M33, l34, hf, hs⟩ := hJ
  refine c_of (c := (Cx.mk Tryd.prog 58 none' M w)) ?_ hf hs
  unfold hash_Stream_Sum.l2 at H
  clear hf hs
  refine c_sr fun _ hK37 => ?_
  refine v_lss rfl rfl rfl ?_
  refine w_nil (hK37 _ _ _ ?_)
  refine c_seq fun K38 hK38 => ?_
  refine c_if rfl (fun b39 => ?_) (fun b39 => ?_)
  ·replace H := if_t b39 H
   refine c_skip (hK38 _ _ _ ?_)
   refine c_seq fun K40 hK40 => ?_
   refine c_block ?_
   refine c_sr fun _ hK41 => ?_
   refine vm rfl rfl ?_
   refine va rfl rfl ?_
   refine w_nil (hK41 _ _ _ ?_)
   refine c_reg ?_
   refine vm rfl rfl ?_
   refine vm rfl rfl ?_
   refine wv rfl (fun hf hs => r_quo (hf.ev rfl) (hf.ev rfl) (by decide)) ?_
   refine v_fa fa123_0 rfl rfl ?_
   obtain ⟨g42, H⟩ := grd_s H
   refine wv rfl (fun hf hs => r_iaI Tryd.underlying120 ts70 (hf.ev rfl) (hf.ev rfl) g42.1 g42.2) ?_
   refine wv rfl (fun hf hs => r_load1 ta70 (hf.ev rfl) (hs.blk (i := 0) rfl) (part_get (hash_Stream.d0_8 _) (idx_lt g42.1 g42.2) (vI_get g42.1 g42.2))) ?_
   refine vm rfl rfl ?_
   refine wv rfl (fun hf hs => r_rem (hf.ev rfl) (hf.ev rfl) (by decide)) ?_
   refine wv rfl (fun hf hs => r_mul (hf.ev rfl) (hf.ev rfl)) ?_
   refine wv rfl (fun hf hs => r_sub (hf.ev rfl) (hf.ev rfl)) ?_
   obtain ⟨g43, H⟩ := grd_s H
   refine wv rfl (fun hf hs => r_shr (hf.ev rfl) (hf.ev rfl) g43) ?_
   refine wv rfl (fun hf hs => r_conv Tryd.underlying70 Tryd.underlying5 (hf.ev rfl)) ?_
   obtain ⟨g44, H⟩ := grd_s H
   refine wv rfl (fun hf hs => r_iaI Tryd.underlying117 ts5 (hf.ev rfl) (hf.ev rfl) g44.1 g44.2) ?_
   obtain ⟨z45, e46, H⟩ := bnd H
   have e47 := some_r e46
   refine w_store (i := 3) (vs := [(.int .u8 (IntKind.u8.wrap (shrI .u32 (rd t19.state.toList (IntKind.i64.wrap (Int.tdiv s32.2 (4 : Int)))) (IntKind.i64.wrap ((24 : Int) - (IntKind.i64.wrap ((8 : Int) * (Int.tmod s32.2 (4 : Int)))))))))]) (A' := vI .u8 z45) trivial rfl rfl rfl rfl ts5 rfl (one1 rfl) (idx_le g44.1 g44.2 (vI_len _) (by decide)) (by rw [← e47]; exact (vI_set0 g44.1 g44.2)) ?_
   clear e46 e47
   refine w_nil (hK40 _ _ _ ?_)
   refine c_reg ?_
   refine v_add rfl rfl rfl ?_
   refine vm rfl rfl ?_
   exact w_nil fun a w' hf hs => ⟨_, (some_r H).symm, _, l34.trans (HLe.refl _), (hf.pick (pk (pk (pk (pk pk0 rfl) rfl) rfl) rfl)), hs.selD [some 0, some 1, none, some 3] (by decide) rfl⟩
  replace H := if_f b39 H
  replace H := map_inr H r35
  refine c_exit ?_
  intro a w' hf hs
  exact ⟨s32.1, _, l34, (hf.pick (pk (pk pk0 rfl) rfl)), hs.selD [none, some 1, none, some 3] (by decide) rfl, H⟩
 rintro a w' ⟨x27, M28, l29, hf, hs, H⟩
 refine c_of (c := (Cx.mk Tryd.prog 58 none' M w)) ?_ hf hs
 unfold hash_Stream_Sum.j1 at H
 clear hf hs
 refine c_sr fun _ hK30 => ?_
 refine wv rfl (fun hf hs => r_loadA ta117 ts117 (hf.ev rfl) (hs.blk (i := 3) rfl) (vI_all _) (vI_len _)) ?_
 refine w_store (i := 1) (vs := vI .u8 x27) (A' := vI .u8 x27) trivial rfl rfl rfl rfl ts117 (vI_len _) (vI_one _) (by rw [vI_len]; decide) (vI_whole _ _) ?_
 refine w_nil (hK30 _ _ _ ?_)
 obtain rfl := some_r H
 exact c_ret fun a w' hf hs => hret _ (.inl rfl) a w' hf.df ⟨_, _, Res.of1 rfl ⟨_, hf.get _ _ rfl, run_loadA (hs.blk (i := 1) rfl) ta117 ts117 (vI_all _) (vI_len _)⟩, hs.ext, rfl⟩
theorem hash_Sum.calls {M : Heap} {w : World} (hM : Sub M w) (hG : Gl M) (p0 : (List Int)) (v1 : Value) (h2 : RS (FI .u8) M v1 p0) (r : (Vector Int 32)) (H : hash_Sum p0 = some r) :
  Calls Tryd.prog 76 [v1].toArray w (Post M w fun M' v => v = (.agg (vI .u8 r).toArray)) := by
 refine enter 8 [(0, v1)] Tryd.func76 rfl rfl rfl hM ?_
 intro Q hret
 unfold hash_Sum at H
 refine c_sr fun _ hK3 => ?_
 refine w_allocL (A := vI .u8 (Vector.replicate 32 (0 : Int))) tz117 trivial rfl rfl ?_
 intro b4
 refine w_nil (hK3 _ _ _ ?_)
 refine c_seq fun K5 hK5 => ?_
 refine c_split2 3 (by kernel_rfl) (by kernel_rfl) (by kernel_rfl) (by kernel_rfl) rfl ?_
 intro K6 hK6
 obtain ⟨t9, e14, H⟩ := bnd H
 refine d_drawP [([], []), ([], [0]), ([(1, 4)], [])] [vq (.agg (hash_Stream.C t9).toArray), vq v1, vq (str (intsB p0))] (by kernel_rfl) (by kernel_rfl) ?_ (aT ?_ (aT ?_ (aT ?_ AllT.nil))) ?_
 ·exact (mC (mC (mC MonoA.nil)))
 ·intro a w' _ _ hd hs
  refine OP.ofW (l := []) hd.fr hs rfl ?_
  refine w_call cf78 trivial rfl rfl (fun w hs => hash_Begin.calls hs  _ e14) ?_
  rintro _ M11 l12 rfl
  exact w_nil fun a w' hf hs => ⟨rfl, hf.df, _, l12, hs, hf.get _ _ rfl⟩
 ·intro a w' _ l16 hd hs
  replace h2 := h2.mono l16
  exact pv (hd.fr.add (hd.base 0 _ rfl rfl)) hs rfl (fun hf hs => r_move (hf.ev rfl)) rfl
 ·intro a w' _ l18 hd hs
  exact pv (hd.fr.add (hd.val 1 4 _ rfl rfl)) hs rfl (fun hf hs => r_b2s Tryd.underlying66 Tryd.underlying5 Tryd.underlying9 (h2.mono l18) hs.sub (hf.ev rfl)) rfl
 intro a w' M20 l21 hdf hsz hb hv hs
 replace hG := hG.mono l21
 have e22 := hv 0 3 _ rfl rfl
 have e23 := hv 2 5 _ rfl rfl
 refine n_of (c := (Cx.mk Tryd.prog 8 none' M w)) (l := [(2, (ptr b4 0)), (3, (.agg (hash_Stream.C t9).toArray)), (5, (str (intsB p0)))]) ?_ ((((Fr.start hdf hsz).add e23).add e22).add (hb 2 _ rfl rfl)) hs
 clear hdf hsz hb hv hs e22 e23
 refine n_id (hK6 _ _ _ ?_)
 obtain ⟨t24, e29, H⟩ := bnd H
 refine w_call cf79 trivial rfl rfl (fun w hs => hash_Stream_Add.calls hs hG t9 (intsB p0) _ e29) ?_
 rintro _ M26 l27 rfl
 replace hG := hG.mono l27
 obtain ⟨t30, e35, H⟩ := bnd H
 refine w_call cf80 trivial rfl rfl (fun w hs => hash_Stream_Sum.calls hs hG t24 _ e35) ?_
 rintro _ M32 l33 rfl
 refine w_store (i := 0) (vs := vI .u8 t30) (A' := vI .u8 t30) trivial rfl rfl rfl rfl ts117 (vI_len _) (vI_one _) (by rw [vI_len]; decide) (vI_whole _ _) ?_
 refine w_nil (hK5 _ _ _ ?_)
 obtain rfl := some_r H
 exact c_ret fun a w' hf hs => hret _ (.inl rfl) a w' hf.df ⟨_, _, Res.of1 rfl ⟨_, hf.get _ _ rfl, run_loadA (hs.blk (i := 0) rfl) ta117 ts117 (vI_all _) (vI_len _)⟩, hs.ext, rfl⟩
theorem hash_Mac_1.calls {M : Heap} {w : World} (hM : Sub M w) (p0 : Int) (c0_ : (List UInt8)) (cb0_ : Nat) (ch0_ : M cb0_ = some (.cells ([(str c0_)]).toArray 9 (0, 0))) (r : (List UInt8)) (H : hash_Mac_1 p0 c0_ = some r) :
  Calls Tryd.prog 77 [(.int .u8 p0), (ptr cb0_ 0)].toArray w (Post M w fun M' v => v = (str r)) := by
 refine enter 21 [(0, (.int .u8 p0)), (1, (ptr cb0_ 0))] Tryd.func77 rfl rfl rfl hM ?_
 intro Q hret
 unfold hash_Mac_1 at H
 refine c_sr fun _ hK1 => ?_
 refine va rfl rfl ?_
 refine w_nil (hK1 _ _ _ ?_)
 refine c_sr fun _ hK2 => ?_
 refine w_allocL (A := vI .u8 (Vector.replicate 64 (0 : Int))) tz119 trivial rfl rfl ?_
 intro b3
 refine w_nil (hK2 _ _ _ ?_)
 refine c_seq fun K4 hK4 => ?_
 refine c_split2 2 (by kernel_rfl) (by kernel_rfl) (by kernel_rfl) (by kernel_rfl) rfl ?_
 intro K5 hK5
 refine d_drawP [([], [4]), ([], [1])] [vq (vw b3 0 64 ((0 : Int)).toNat ((64 : Int)).toNat), vq (str c0_)] (by kernel_rfl) (by kernel_rfl) ?_ (aT ?_ (aT ?_ AllT.nil)) ?_
 ·exact (mC (mC MonoA.nil))
 ·intro a w' _ _ hd hs
  exact pv (hd.fr.add (hd.base 4 _ rfl rfl)) hs rfl (fun hf hs => r_view Tryd.underlying119 ts5 (hf.ev rfl) rfl rfl (by decide) (by decide) (by decide)) rfl
 ·intro a w' _ l9 hd hs
  replace ch0_ := l9 _ _ ch0_
  exact pv (hd.fr.add (hd.base 1 _ rfl rfl)) hs rfl (fun hf hs => r_load1 ta9 (hf.ev rfl) (hs.sub _ _ ch0_) rfl) rfl
 intro a w' M10 l11 hdf hsz hb hv hs
 have e12 := hv 0 6 _ rfl rfl
 have e13 := hv 1 7 _ rfl rfl
 refine n_of (c := (Cx.mk Tryd.prog 21 none' M w)) (l := [(0, (.int .u8 p0)), (4, (ptr b3 0)), (6, (vw b3 0 64 ((0 : Int)).toNat ((64 : Int)).toNat)), (7, (str c0_))]) ?_ (((((Fr.start hdf hsz).add e13).add e12).add (hb 4 _ rfl rfl)).add (hb 0 _ rfl rfl)) hs
 clear hdf hsz hb hv hs e12 e13
 refine n_id (hK5 _ _ _ ?_)
 refine w_copy (i := 0) (m := (bytesI c0_)) (A' := vI .u8 (vcp (Vector.replicate 64 (0 : Int)) ((0 : Int)).toNat ((bytesI c0_).take (((64 : Int)).toNat - ((0 : Int)).toNat)))) Tryd.underlying66 ts5 trivial rfl rfl rfl rfl (vI_all _) (by rw [vI_len]; decide) (by decide) (by decide) (SrcC.str _) (vI_whole _ _) ?_
 refine w_nil (hK4 _ _ _ ?_)
 refine c_cut (fun a' w' => ∃ (x14 : (Vector Int 64)) (M15 : Heap), HLe M10 M15 ∧ Fr 21 [(4, (ptr b3 0))] a' ∧ St none' M w M15 (lt [.blk b3 (.cells (vI .u8 x14).toArray 119 (0, 0))]) w' ∧ hash_Mac_1.j1 x14 = some r) ?_ ?_
 ·refine c_seq ?_
  intro K18 hK18
  refine c_reg ?_
  refine vm rfl rfl ?_
  refine w_nil (hK18 _ _ _ ?_)
  refine c_block ?_
  refine c_loop (fun (s19 : ((Vector Int 64) × Int)) a' w' => ∃ (M20 : Heap), HLe M10 M20 ∧ Fr 21 [(0, (.int .u8 p0)), (4, (ptr b3 0)), (9, (.int .i64 s19.2))] a' ∧ St none' M w M20 (lt [.blk b3 (.cells (vI .u8 s19.1).toArray 119 (0, 0))]) w') ((vcp (Vector.replicate 64 (0 : Int)) ((0 : Int)).toNat ((bytesI c0_).take (((64 : Int)).toNat - ((0 : Int)).toNat))), (0 : Int)) H ?_ ?_
  ·intro a w' hf hs
   exact ⟨_, HLe.refl _, (hf.pick (pk (pk (pk pk0 rfl) rfl) rfl)), hs.selD [some 0] (by decide) rfl⟩
  clear H
  intro s19 y23 H r22 a w' hJ
  obtain ⟨M20, l21, hf, hs⟩ := hJ
  refine c_of (c := (Cx.mk Tryd.prog 21 none' M w)) ?_ hf hs
  unfold hash_Mac_1.l2 at H
  clear hf hs
  refine c_sr fun _ hK24 => ?_
  refine v_lss rfl rfl rfl ?_
  refine w_nil (hK24 _ _ _ ?_)
  refine c_seq fun K25 hK25 => ?_
  refine c_if rfl (fun b26 => ?_) (fun b26 => ?_)
  ·replace H := if_t b26 H
   refine c_skip (hK25 _ _ _ ?_)
   refine c_seq fun K27 hK27 => ?_
   refine c_block ?_
   refine c_sr fun _ hK28 => ?_
   refine vm rfl rfl ?_
   refine va rfl rfl ?_
   refine w_nil (hK28 _ _ _ ?_)
   refine c_reg ?_
   refine vm rfl rfl ?_
   obtain ⟨g29, H⟩ := grd_s H
   refine wv rfl (fun hf hs => r_iaI Tryd.underlying119 ts5 (hf.ev rfl) (hf.ev rfl) g29.1 g29.2) ?_
   refine wv rfl (fun hf hs => r_load1 ta5 (hf.ev rfl) (hs.blk (i := 0) rfl) (vI_get0 g29.1 g29.2)) ?_
   refine vm rfl rfl ?_
   refine wv rfl (fun hf hs => r_xor (hf.ev rfl) (hf.ev rfl)) ?_
   obtain ⟨g30, H⟩ := grd_s H
   refine wv rfl (fun hf hs => r_iaI Tryd.underlying119 ts5 (hf.ev rfl) (hf.ev rfl) g30.1 g30.2) ?_
   refine w_store (i := 0) (vs := [(.int .u8 (bits .xor .u8 (rd s19.1.toList s19.2) p0))]) (A' := vI .u8 (vs s19.1 s19.2 (bits .xor .u8 (rd s19.1.toList s19.2) p0))) trivial rfl rfl rfl rfl ts5 rfl (one1 rfl) (idx_le g30.1 g30.2 (vI_len _) (by decide)) (vI_set0 g30.1 g30.2) ?_
   refine w_nil (hK27 _ _ _ ?_)
   refine c_reg ?_
   refine v_add rfl rfl rfl ?_
   refine vm rfl rfl ?_
   exact w_nil fun a w' hf hs => ⟨_, (some_r H).symm, _, l21.trans (HLe.refl _), (hf.pick (pk (pk (pk pk0 rfl) rfl) rfl)), hs.selD [some 0] (by decide) rfl⟩
  replace H := if_f b26 H
  replace H := map_inr H r22
  refine c_exit ?_
  intro a w' hf hs
  exact ⟨s19.1, _, l21, (hf.pick (pk pk0 rfl)), hs.selD [some 0] (by decide) rfl, H⟩
 rintro a w' ⟨x14, M15, l16, hf, hs, H⟩
 refine c_of (c := (Cx.mk Tryd.prog 21 none' M w)) ?_ hf hs
 unfold hash_Mac_1.j1 at H
 clear hf hs
 refine c_sr fun _ hK17 => ?_
 refine wv rfl (fun hf hs => r_view Tryd.underlying119 ts5 (hf.ev rfl) rfl rfl (by decide) (by decide) (by decide)) ?_
 refine wv rfl (fun hf hs => r_vw2s Tryd.underlying66 Tryd.underlying5 Tryd.underlying9 (hf.ev rfl) (hs.blk (i := 0) rfl) (vI_all _) (by decide) (by decide)) ?_
 refine va rfl rfl ?_
 refine w_nil (hK17 _ _ _ ?_)
 obtain rfl := some_r H
 exact c_ret fun a w' hf hs => hret _ (.inl rfl) a w' hf.df ⟨_, _, Res.of1 rfl (RV.t hf rfl), hs.ext, rfl⟩
theorem hash_Mac.calls {M : Heap} {w : World} (hM : Sub M w) (hG : Gl M) (p0 : (List UInt8)) (p1 : (List UInt8)) (r : (List UInt8)) (H : hash_Mac p0 p1 = some r) :
  Calls Tryd.prog 36 [(str p0), (str p1)].toArray w (Post M w fun M' v => v = (str r)) := by
 refine enter 35 [(0, (str p0)), (1, (str p1))] Tryd.func36 rfl rfl rfl hM ?_
 intro Q hret
 unfold hash_Mac at H
 refine c_sr fun _ hK1 => ?_
 refine w_boxL trivial rfl rfl rfl ?_
 intro b2
 refine va rfl rfl ?_
 refine w_nil (hK1 _ _ _ ?_)
 refine c_cut (fun a' w' => ∃ (x3 : (List UInt8)) (M4 : Heap), HLe M M4 ∧ Fr 35 [(1, (str p1)), (2, (ptr b2 0))] a' ∧ St none' M w M4 (lt [.blk b2 (.cells ([(str x3)]).toArray 9 (0, 0))]) w' ∧ hash_Mac.j1 x3 p1 = some r) ?_ ?_
 ·refine c_seq ?_
  intro K106 hK106
  refine c_reg ?_
  refine wv rfl (fun hf hs => r_load1 ta9 (hf.ev rfl) (hs.blk (i := 0) rfl) rfl) ?_
  refine wv rfl (fun hf hs => r_slen Tryd.underlying9 (hf.ev rfl)) ?_
  refine wv rfl (fun hf hs => r_gtr (hf.ev rfl) (hf.ev rfl)) ?_
  refine w_nil (hK106 _ _ _ ?_)
  refine c_if rfl (fun b107 => ?_) (fun b107 => ?_)
  ·replace H := if_t b107 H
   refine c_sr fun _ hK108 => ?_
   refine wv rfl (fun hf hs => r_load1 ta9 (hf.ev rfl) (hs.blk (i := 0) rfl) rfl) ?_
   refine w_s2b Tryd.underlying9 Tryd.underlying66 Tryd.underlying5 trivial rfl rfl ?_
   intro v109 M110 l111 h112
   replace hG := hG.mono l111
   obtain ⟨t113, e118, H⟩ := bnd H
   refine w_call cf76 trivial rfl rfl (fun w hs => hash_Sum.calls hs hG (bytesI p0) v109 h112 _ e118) ?_
   rintro _ M115 l116 rfl
   replace hG := hG.mono l116
   refine w_allocL (A := vI .u8 (Vector.replicate 32 (0 : Int))) tz117 trivial rfl rfl ?_
   intro b119
   refine w_store (i := 1) (vs := vI .u8 t113) (A' := vI .u8 t113) trivial rfl rfl rfl rfl ts117 (vI_len _) (vI_one _) (by rw [vI_len]; decide) (vI_whole _ _) ?_
   refine w_nil (hK108 _ _ _ ?_)
   refine c_reg ?_
   refine wv rfl (fun hf hs => r_view Tryd.underlying117 ts5 (hf.ev rfl) rfl rfl (by decide) (by decide) (by decide)) ?_
   refine wv rfl (fun hf hs => r_vw2s Tryd.underlying66 Tryd.underlying5 Tryd.underlying9 (hf.ev rfl) (hs.blk (i := 1) rfl) (vI_all _) (by decide) (by decide)) ?_
   refine w_store (i := 0) (vs := [(str (intsB ((t113.toList.take ((32 : Int)).toNat).drop ((0 : Int)).toNat)))]) (A' := [(str (intsB ((t113.toList.take ((32 : Int)).toNat).drop ((0 : Int)).toNat)))]) trivial rfl rfl rfl rfl ts9 rfl (one1 rfl) (Nat.le_of_ble_eq_true rfl) rfl ?_
   exact w_nil fun a w' hf hs => ⟨(intsB ((t113.toList.take ((32 : Int)).toNat).drop ((0 : Int)).toNat)), _, (l111.trans l116), (hf.pick (pk (pk pk0 rfl) rfl)), hs.selD [some 0] (by decide) rfl, H⟩
  replace H := if_f b107 H
  refine c_skip ?_
  intro a w' hf hs
  exact ⟨p0, _, (HLe.refl _), (hf.pick (pk (pk pk0 rfl) rfl)), hs.selD [some 0] (by decide) rfl, H⟩
 rintro a w' ⟨x3, M4, l5, hf, hs, H⟩
 refine c_of (c := (Cx.mk Tryd.prog 35 none' M w)) ?_ hf hs
 unfold hash_Mac.j1 at H
 clear hf hs
 replace hG := hG.mono l5
 refine c_sr fun _ hK6 => ?_
 refine w_giveB 0 rfl (fun h => h) ?_
 intro M7 l8 h9
 replace hG := hG.mono l8
 refine wv rfl (fun hf hs => r_makeFunc (hf.evs rfl)) ?_
 refine va rfl rfl ?_
 refine w_nil (hK6 _ _ _ ?_)
 refine c_sr fun _ hK10 => ?_
 obtain ⟨t11, e16, H⟩ := bnd H
 refine w_call cf78 trivial rfl rfl (fun w hs => hash_Begin.calls hs  _ e16) ?_
 rintro _ M13 l14 rfl
 replace hG := hG.mono l14
 replace h9 := l14 _ _ h9
 refine vm rfl rfl ?_
 obtain ⟨t17, e22, H⟩ := bnd H
 refine w_callV trivial rfl rfl rfl (fun _ h => by cases h) (fun w hs => ⟨_, _, _, rfl, cf77, hash_Mac_1.calls hs (54 : Int) x3 b2 h9 _ e22⟩) ?_
 rintro _ M19 l20 rfl
 replace hG := hG.mono l20
 replace h9 := l20 _ _ h9
 obtain ⟨t23, e28, H⟩ := bnd H
 refine w_call cf79 trivial rfl rfl (fun w hs => hash_Stream_Add.calls hs hG t11 t17 _ e28) ?_
 rintro _ M25 l26 rfl
 replace hG := hG.mono l26
 replace h9 := l26 _ _ h9
 refine vm rfl rfl ?_
 obtain ⟨t29, e34, H⟩ := bnd H
 refine w_call cf79 trivial rfl rfl (fun w hs => hash_Stream_Add.calls hs hG t23 p1 _ e34) ?_
 rintro _ M31 l32 rfl
 replace hG := hG.mono l32
 replace h9 := l32 _ _ h9
 obtain ⟨t35, e40, H⟩ := bnd H
 refine w_call cf80 trivial rfl rfl (fun w hs => hash_Stream_Sum.calls hs hG t29 _ e40) ?_
 rintro _ M37 l38 rfl
 replace hG := hG.mono l38
 replace h9 := l38 _ _ h9
 refine w_allocL (A := vI .u8 (Vector.replicate 32 (0 : Int))) tz117 trivial rfl rfl ?_
 intro b41
 refine w_store (i := 1) (vs := vI .u8 t35) (A' := vI .u8 t35) trivial rfl rfl rfl rfl ts117 (vI_len _) (vI_one _) (by rw [vI_len]; decide) (vI_whole _ _) ?_
 refine w_nil (hK10 _ _ _ ?_)
 refine c_seq fun K42 hK42 => ?_
 refine c_split2 9 (by kernel_rfl) (by kernel_rfl) (by kernel_rfl) (by kernel_rfl) rfl ?_
 intro K43 hK43
 obtain ⟨t46, e51, H⟩ := bnd H
 obtain ⟨t57, e62, H⟩ := bnd H
 obtain ⟨t67, e72, H⟩ := bnd H
 obtain ⟨t82, e87, H⟩ := bnd H
 obtain ⟨t91, e96, H⟩ := bnd H
 refine d_drawN [8] [[], [], []] [⟨[], [], [], none, none⟩, ⟨[], [6], [], none, none⟩, ⟨[(1, 26)], [], [], none, none⟩, ⟨[(0, 25), (2, 27)], [], [], none, none⟩, ⟨[], [7], [(1, 0)], none, none⟩, ⟨[(4, 29)], [], [(1, 0)], none, none⟩, ⟨[(3, 28), (5, 30)], [], [], none, none⟩, ⟨[(6, 31)], [], [], none, none⟩, ⟨[], [], [], none, some 0⟩] [vq (.agg (hash_Stream.C t46).toArray), vq (.func (.func 77) #[] #[(ptr b2 0)]), vq (str t57), vq (.agg (hash_Stream.C t67).toArray), vq (vw b41 0 32 ((0 : Int)).toNat ((32 : Int)).toNat), vq (str (intsB ((t35.toList.take ((32 : Int)).toNat).drop ((0 : Int)).toNat))), vq (.agg (hash_Stream.C t82).toArray), vq (.agg (vI .u8 t91).toArray), fun _ _ => True] [[fun y M => y = dead], [fun y M => y = .blk b41 (.cells (vI .u8 t35).toArray 117 (0, 0))], [fun y M => ∃ (b99 : Nat), y = .blk b99 (.cells (vI .u8 (Vector.replicate 32 (0 : Int))).toArray 117 (0, 0))]] (by kernel_rfl) (by kernel_rfl) ?_ ?_ rfl ?_ (AllN.cons ?_ (AllN.cons ?_ (AllN.cons ?_ (AllN.cons ?_ (AllN.cons ?_ (AllN.cons ?_ (AllN.cons ?_ (AllN.cons ?_ (AllN.cons ?_ AllN.nil))))))))) ?_
 ·exact (mC (mC (mC (mC (mC (mC (mC (mC (mC MonoA.nil)))))))))
 ·exact (MonoK.cons (mono_cons (fun _ _ _ _ h => h) mono_nil) (MonoK.cons (mono_cons (fun _ _ _ _ h => h) mono_nil) (MonoK.cons (mono_cons (fun _ _ _ _ h => h) mono_nil) MonoK.nil)))
 ·exact (All0N.cons rfl (All0N.cons rfl All0N.nil))
 ·intro a w' _ _ _ hL hd hs
  obtain ⟨x0_, x1_, x2_, rfl⟩ := ln3 hL
  refine OP.ofW (l := []) hd.fr hs rfl ?_
  refine w_call cf78 trivial rfl rfl (fun w hs => hash_Begin.calls hs  _ e51) ?_
  rintro _ M48 l49 rfl
  exact w_nil fun a w' hf hs => ⟨rfl, hf.df, _, _, l49, hs, hf.get _ _ rfl, rfl⟩
 ·intro a w' _ _ l53 hL hd hs
  replace h9 := l53 _ _ h9
  obtain ⟨x0_, x1_, x2_, rfl⟩ := ln3 hL
  exact pw (hd.fr.add (hd.base 6 _ rfl rfl)) hs rfl (fun hf hs => r_move (hf.ev rfl)) rfl rfl
 ·intro a w' _ _ l55 hL hd hs
  have e56 := hd.val 1 26 _ rfl rfl
  replace h9 := l55 _ _ h9
  obtain ⟨x0_, x1_, x2_, rfl⟩ := ln3 hL
  refine OP.ofW (l := [(26, (.func (.func 77) #[] #[(ptr b2 0)]))]) (hd.fr.add e56) hs rfl ?_
  refine w_callV trivial rfl rfl rfl (fun _ h => by cases h) (fun w hs => ⟨_, _, _, rfl, cf77, hash_Mac_1.calls hs (92 : Int) x3 b2 h9 _ e62⟩) ?_
  rintro _ M59 l60 rfl
  exact w_nil fun a w' hf hs => ⟨rfl, hf.df, _, _, l60, hs, hf.get _ _ rfl, rfl⟩
 ·intro a w' _ _ l64 hL hd hs
  have e65 := hd.val 0 25 _ rfl rfl
  have e66 := hd.val 2 27 _ rfl rfl
  obtain ⟨x0_, x1_, x2_, rfl⟩ := ln3 hL
  replace hG := hG.mono l64
  refine OP.ofW (l := [(25, (.agg (hash_Stream.C t46).toArray)), (27, (str t57))]) ((hd.fr.add e66).add e65) hs rfl ?_
  refine w_call cf79 trivial rfl rfl (fun w hs => hash_Stream_Add.calls hs hG t46 t57 _ e72) ?_
  rintro _ M69 l70 rfl
  exact w_nil fun a w' hf hs => ⟨rfl, hf.df, _, _, l70, hs, hf.get _ _ rfl, rfl⟩
 ·intro a w' _ _ _ hL hd hs
  obtain ⟨x0_, x1_, x2_, rfl⟩ := ln3 hL
  obtain ⟨_, ⟨⟩, rfl⟩ := hd.item 1 0 _ rfl rfl
  exact pw (hd.fr.add (hd.base 7 _ rfl rfl)) hs rfl (fun hf hs => r_view Tryd.underlying117 ts5 (hf.ev rfl) rfl rfl (by decide) (by decide) (by decide)) rfl rfl
 ·intro a w' _ _ _ hL hd hs
  obtain ⟨x0_, x1_, x2_, rfl⟩ := ln3 hL
  obtain ⟨_, ⟨⟩, rfl⟩ := hd.item 1 0 _ rfl rfl
  exact pw (hd.fr.add (hd.val 4 29 _ rfl rfl)) hs rfl (fun hf hs => r_vw2s Tryd.underlying66 Tryd.underlying5 Tryd.underlying9 (hf.ev rfl) (hs.blk (i := 1) rfl) (vI_all _) (by decide) (by decide)) rfl rfl
 ·intro a w' _ _ l79 hL hd hs
  have e80 := hd.val 3 28 _ rfl rfl
  have e81 := hd.val 5 30 _ rfl rfl
  obtain ⟨x0_, x1_, x2_, rfl⟩ := ln3 hL
  replace hG := hG.mono l79
  refine OP.ofW (l := [(28, (.agg (hash_Stream.C t67).toArray)), (30, (str (intsB ((t35.toList.take ((32 : Int)).toNat).drop ((0 : Int)).toNat))))]) ((hd.fr.add e81).add e80) hs rfl ?_
  refine w_call cf79 trivial rfl rfl (fun w hs => hash_Stream_Add.calls hs hG t67 (intsB ((t35.toList.take ((32 : Int)).toNat).drop ((0 : Int)).toNat)) _ e87) ?_
  rintro _ M84 l85 rfl
  exact w_nil fun a w' hf hs => ⟨rfl, hf.df, _, _, l85, hs, hf.get _ _ rfl, rfl⟩
 ·intro a w' _ _ l89 hL hd hs
  have e90 := hd.val 6 31 _ rfl rfl
  obtain ⟨x0_, x1_, x2_, rfl⟩ := ln3 hL
  replace hG := hG.mono l89
  refine OP.ofW (l := [(31, (.agg (hash_Stream.C t82).toArray))]) (hd.fr.add e90) hs rfl ?_
  refine w_call cf80 trivial rfl rfl (fun w hs => hash_Stream_Sum.calls hs hG t82 _ e96) ?_
  rintro _ M93 l94 rfl
  exact w_nil fun a w' hf hs => ⟨rfl, hf.df, _, _, l94, hs, hf.get _ _ rfl, rfl⟩
 ·intro a w' _ _ _ hL hd hs
  obtain ⟨x0_, x1_, x2_, rfl⟩ := ln3 hL
  refine OP.ofW (l := []) hd.fr hs rfl ?_
  refine w_allocL (A := vI .u8 (Vector.replicate 32 (0 : Int))) tz117 trivial rfl rfl ?_
  intro b99
  exact w_nil fun a w' hf hs => ⟨rfl, hf.df, _, _, (HLe.refl _), (hs.sel [0, 1, 3] (by decide) rfl), trivial, ⟨.blk b99 (.cells (vI .u8 (Vector.replicate 32 (0 : Int))).toArray 117 (0, 0)), rfl, of_some (q := fun y M => ∃ (b99 : Nat), y = .blk b99 (.cells (vI .u8 (Vector.replicate 32 (0 : Int))).toArray 117 (0, 0))) ⟨b99, rfl⟩, (hf.get _ _ rfl).symm⟩⟩
 intro a w' M100 L_ l101 hL hdf hsz hb hv hi hk_ hs
 have e102 := hv 7 32 _ rfl rfl
 obtain ⟨x0_, x1_, x2_, rfl⟩ := ln3 hL
 obtain ⟨_, hy, rfl⟩ := hi 0 _ rfl
 obtain rfl := Option.some.inj hy
 obtain ⟨_, hy, rfl⟩ := hi 1 _ rfl
 obtain rfl := Option.some.inj hy
 obtain ⟨_, hy, b103, rfl⟩ := hi 2 _ rfl
 have e104 := (hk_ 0 8 8 _ rfl rfl hy).symm
 obtain rfl := Option.some.inj hy
 clear hi hy hk_
 refine n_of (c := (Cx.mk Tryd.prog 35 none' M w)) (l := [(32, (.agg (vI .u8 t91).toArray)), (8, (ptr b103 0))]) ?_ (((Fr.start hdf hsz).add e104).add e102) hs
 clear hdf hsz hb hv hs e102 e104
 refine n_id (hK43 _ _ _ ?_)
 refine w_store (i := 2) (vs := vI .u8 t91) (A' := vI .u8 t91) trivial rfl rfl rfl rfl ts117 (vI_len _) (vI_one _) (by rw [vI_len]; decide) (vI_whole _ _) ?_
 refine w_nil (hK42 _ _ _ ?_)
 refine c_sr fun _ hK105 => ?_
 refine wv rfl (fun hf hs => r_view Tryd.underlying117 ts5 (hf.ev rfl) rfl rfl (by decide) (by decide) (by decide)) ?_
 refine wv rfl (fun hf hs => r_vw2s Tryd.underlying66 Tryd.underlying5 Tryd.underlying9 (hf.ev rfl) (hs.blk (i := 2) rfl) (vI_all _) (by decide) (by decide)) ?_
 refine va rfl rfl ?_
 refine w_nil (hK105 _ _ _ ?_)
 obtain rfl := some_r H
 exact c_ret fun a w' hf hs => hret _ (.inl rfl) a w' hf.df ⟨_, _, Res.of1 rfl (RV.t hf rfl), hs.ext, rfl⟩
theorem kdf_Derive.calls {M : Heap} {w : World} (hM : Sub M w) (hG : Gl M) (p0 : (List UInt8)) (p1 : (List UInt8)) (p2 : (List (List UInt8))) (v1 : Value) (h2 : RS FS M v1 p2) (r : (List UInt8)) (H : kdf_Derive p0 p1 p2 = some r) :
  Calls Tryd.prog 49 [(str p0), (str p1), v1].toArray w (Post M w fun M' v => v = (str r)) := by
 refine enter 27 [(0, (str p0)), (1, (str p1)), (2, v1)] Tryd.func49 rfl rfl rfl hM ?_
 intro Q hret
 unfold kdf_Derive at H
 refine c_sr fun _ hK3 => ?_
 refine va rfl rfl ?_
 refine w_nil (hK3 _ _ _ ?_)
 refine c_sr fun _ hK4 => ?_
 refine vm rfl rfl ?_
 obtain ⟨t5, e6, H⟩ := bnd H
 refine w_callR cf38 trivial rfl rfl (fun w hs => wire_Bytes.callsR hs p1 _ e6) ?_
 rintro v9 M7 _ l8 rfl
 replace hG := hG.mono l8
 replace h2 := h2.mono l8
 refine va rfl rfl ?_
 refine w_nil (hK4 _ _ _ ?_)
 refine c_cut (fun a' w' => ∃ (x10 : (List Int)) (v11 : Value) (M12 : Heap), HLe M7 M12 ∧ Fr 27 [(0, (str p0)), (7, v11)] a' ∧ St none' M w M12 (lt [rowI (FI .u8) v11 5 x10]) w' ∧ kdf_Derive.j1 p0 x10 = some r) ?_ ?_
 ·refine c_seq ?_
  intro K24 hK24
  refine c_reg ?_
  refine vm rfl rfl ?_
  refine wv rfl (fun hf hs => r_lenR Tryd.underlying63 h2 (hf.ev rfl)) ?_
  refine vm rfl rfl ?_
  refine w_nil (hK24 _ _ _ ?_)
  refine c_block ?_
  refine c_loop (fun (s25 : ((List Int) × Int)) a' w' => ∃ (v26 : Value) (M27 : Heap), HLe M7 M27 ∧ Fr 27 [(0, (str p0)), (7, v26), (12, v1), (13, (.int .i64 (p2.length : Int))), (14, (.int .i64 s25.2))] a' ∧ St none' M w M27 (lt [rowI (FI .u8) v26 5 s25.1]) w') (t5, (0 : Int)) H ?_ ?_
  ·intro a w' hf hs
   exact ⟨v9, _, HLe.refl _, (hf.pick (pk (pk (pk (pk (pk pk0 rfl) rfl) rfl) rfl) rfl)), hs.selD [some 0] (by decide) rfl⟩
  clear H
  intro s25 y30 H r29 a w' hJ
  obtain ⟨v26, M27, l28, hf, hs⟩ := hJ
  refine c_of (c := (Cx.mk Tryd.prog 27 none' M w)) ?_ hf hs
  unfold kdf_Derive.l2 at H
  clear hf hs
  replace hG := hG.mono l28
  replace h2 := h2.mono l28
  refine c_sr fun _ hK31 => ?_
  refine v_lss rfl rfl rfl ?_
  refine w_nil (hK31 _ _ _ ?_)
  refine c_seq fun K32 hK32 => ?_
  refine c_if rfl (fun b33 => ?_) (fun b33 => ?_)
  ·replace H := if_t b33 H
   refine c_skip (hK32 _ _ _ ?_)
   refine c_seq fun K34 hK34 => ?_
   refine c_block ?_
   refine c_sr fun _ hK35 => ?_
   obtain ⟨g36, H⟩ := grd_s H
   refine wv rfl (fun hf hs => r_iR Tryd.underlying63 ts9 h2 (hf.ev rfl) (hf.ev rfl) g36.1 g36.2) ?_
   refine wv rfl (fun hf hs => r_loadE1 ta9 h2 hs.sub g36.1 g36.2 (hf.ev rfl) rfl) ?_
   refine va rfl rfl ?_
   refine w_nil (hK35 _ _ _ ?_)
   refine c_reg ?_
   refine vm rfl rfl ?_
   refine vm rfl rfl ?_
   obtain ⟨t37, e42, H⟩ := bnd H
   refine w_call cf38 trivial rfl rfl (fun w hs => wire_Bytes.calls hs (rd p2 s25.2) _ e42) ?_
   rintro v47 M39 l40 ⟨v43, hv_, h44⟩
   replace hv_ := hv_.symm
   subst hv_
   replace hG := hG.mono l40
   obtain ⟨g45, H⟩ := grd_s H
   refine w_app (F := (FI .u8)) (m2 := t37) (i := 0) Tryd.underlying66 te5 Tryd.underlying66 (.inl ⟨_, rfl⟩) trivial rfl rfl rfl rfl (Src.rs (FI.one _) h44) g45 ?_
   intro v46
   refine va rfl rfl ?_
   refine w_nil (hK34 _ _ _ ?_)
   refine c_reg ?_
   refine v_add rfl rfl rfl ?_
   refine vm rfl rfl ?_
   exact w_nil fun a w' hf hs => ⟨_, (some_r H).symm, v46, _, l28.trans l40, (hf.pick (pk (pk (pk (pk (pk pk0 rfl) rfl) rfl) rfl) rfl)), hs.selD [some 0] (by decide) rfl⟩
  replace H := if_f b33 H
  replace H := map_inr H r29
  refine c_exit ?_
  intro a w' hf hs
  exact ⟨s25.1, v26, _, l28, (hf.pick (pk (pk pk0 rfl) rfl)), hs.selD [some 0] (by decide) rfl, H⟩
 rintro a w' ⟨x10, v11, M12, l13, hf, hs, H⟩
 refine c_of (c := (Cx.mk Tryd.prog 27 none' M w)) ?_ hf hs
 unfold kdf_Derive.j1 at H
 clear hf hs
 replace hG := hG.mono l13
 refine c_sr fun _ hK14 => ?_
 refine vm rfl rfl ?_
 refine vm rfl rfl ?_
 refine w_give 0 rfl (fun _ h => h) ?_
 intro M15 l16 h17
 replace hG := hG.mono l16
 refine wv rfl (fun hf hs => r_b2s Tryd.underlying66 Tryd.underlying5 Tryd.underlying9 h17 hs.sub (hf.ev rfl)) ?_
 obtain ⟨t18, e23, H⟩ := bnd H
 refine w_call cf36 trivial rfl rfl (fun w hs => hash_Mac.calls hs hG p0 (intsB x10) _ e23) ?_
 rintro _ M20 l21 rfl
 refine va rfl rfl ?_
 refine w_nil (hK14 _ _ _ ?_)
 obtain rfl := some_r H
 exact c_ret fun a w' hf hs => hret _ (.inl rfl) a w' hf.df ⟨_, _, Res.of1 rfl (RV.t hf rfl), hs.ext, rfl⟩
theorem wire_Strings.callsR {M : Heap} {w : World} (hM : Sub M w) (p0 : (List (List UInt8))) (v1 : Value) (h2 : RS FS M v1 p0) (r : (List Int)) (H : wire_Strings p0 = some r) :
  Calls Tryd.prog 96 [v1].toArray w (PostI none' M w fun M' x v => x = rowI (FI .u8) v 5 r) := by
 refine enterR 21 [(0, v1)] Tryd.func96 rfl rfl rfl hM ?_
 intro Q hret
 unfold wire_Strings at H
 refine c_sr fun _ hK3 => ?_
 refine va rfl rfl ?_
 refine w_nil (hK3 _ _ _ ?_)
 refine c_sr fun _ hK4 => ?_
 refine vm rfl rfl ?_
 refine wv rfl (fun hf hs => r_lenR Tryd.underlying63 h2 (hf.ev rfl)) ?_
 obtain ⟨t5, e6, H⟩ := bnd H
 refine w_callR cf84 trivial rfl rfl (fun w hs => wire_Int.callsR hs (p0.length : Int) _ e6) ?_
 rintro v9 M7 _ l8 rfl
 replace h2 := h2.mono l8
 refine va rfl rfl ?_
 refine w_nil (hK4 _ _ _ ?_)
 refine c_cut (fun a' w' => ∃ (x10 : (List Int)) (v11 : Value) (M12 : Heap), HLe M7 M12 ∧ Fr 21 [(3, v11)] a' ∧ St none' M w M12 (lt [rowI (FI .u8) v11 5 x10]) w' ∧ wire_Strings.j1 x10 = some r) ?_ ?_
 ·refine c_seq ?_
  intro K15 hK15
  refine c_reg ?_
  refine vm rfl rfl ?_
  refine wv rfl (fun hf hs => r_lenR Tryd.underlying63 h2 (hf.ev rfl)) ?_
  refine vm rfl rfl ?_
  refine w_nil (hK15 _ _ _ ?_)
  refine c_block ?_
  refine c_loop (fun (s16 : ((List Int) × Int)) a' w' => ∃ (v17 : Value) (M18 : Heap), HLe M7 M18 ∧ Fr 21 [(3, v17), (9, v1), (10, (.int .i64 (p0.length : Int))), (11, (.int .i64 s16.2))] a' ∧ St none' M w M18 (lt [rowI (FI .u8) v17 5 s16.1]) w') (t5, (0 : Int)) H ?_ ?_
  ·intro a w' hf hs
   exact ⟨v9, _, HLe.refl _, (hf.pick (pk (pk (pk (pk pk0 rfl) rfl) rfl) rfl)), hs.selD [some 0] (by decide) rfl⟩
  clear H
  intro s16 y21 H r20 a w' hJ
  obtain ⟨v17, M18, l19, hf, hs⟩ := hJ
  refine c_of (c := (Cx.mk Tryd.prog 21 none' M w)) ?_ hf hs
  unfold wire_Strings.l2 at H
  clear hf hs
  replace h2 := h2.mono l19
  refine c_sr fun _ hK22 => ?_
  refine v_lss rfl rfl rfl ?_
  refine w_nil (hK22 _ _ _ ?_)
  refine c_seq fun K23 hK23 => ?_
  refine c_if rfl (fun b24 => ?_) (fun b24 => ?_)
  ·replace H := if_t b24 H
   refine c_skip (hK23 _ _ _ ?_)
   refine c_seq fun K25 hK25 => ?_
   refine c_block ?_
   refine c_sr fun _ hK26 => ?_
   obtain ⟨g27, H⟩ := grd_s H
   refine wv rfl (fun hf hs => r_iR Tryd.underlying63 ts9 h2 (hf.ev rfl) (hf.ev rfl) g27.1 g27.2) ?_
   refine wv rfl (fun hf hs => r_loadE1 ta9 h2 hs.sub g27.1 g27.2 (hf.ev rfl) rfl) ?_
   refine va rfl rfl ?_
   refine w_nil (hK26 _ _ _ ?_)
   refine c_reg ?_
   refine vm rfl rfl ?_
   refine vm rfl rfl ?_
   obtain ⟨t28, e33, H⟩ := bnd H
   refine w_call cf38 trivial rfl rfl (fun w hs => wire_Bytes.calls hs (rd p0 s16.2) _ e33) ?_
   rintro v38 M30 l31 ⟨v34, hv_, h35⟩
   replace hv_ := hv_.symm
   subst hv_
   obtain ⟨g36, H⟩ := grd_s H
   refine w_app (F := (FI .u8)) (m2 := t28) (i := 0) Tryd.underlying66 te5 Tryd.underlying66 (.inl ⟨_, rfl⟩) trivial rfl rfl rfl rfl (Src.rs (FI.one _) h35) g36 ?_
   intro v37
   refine va rfl rfl ?_
   refine w_nil (hK25 _ _ _ ?_)
   refine c_reg ?_
   refine v_add rfl rfl rfl ?_
   refine vm rfl rfl ?_
   exact w_nil fun a w' hf hs => ⟨_, (some_r H).symm, v37, _, l19.trans l31, (hf.pick (pk (pk (pk (pk pk0 rfl) rfl) rfl) rfl)), hs.selD [some 0] (by decide) rfl⟩
  replace H := if_f b24 H
  replace H := map_inr H r20
  refine c_exit ?_
  intro a w' hf hs
  exact ⟨s16.1, v17, _, l19, (hf.pick (pk pk0 rfl)), hs.selD [some 0] (by decide) rfl, H⟩
 rintro a w' ⟨x10, v11, M12, l13, hf, hs, H⟩
 refine c_of (c := (Cx.mk Tryd.prog 21 none' M w)) ?_ hf hs
 unfold wire_Strings.j1 at H
 clear hf hs
 refine c_sr fun _ hK14 => ?_
 refine vm rfl rfl ?_
 refine va rfl rfl ?_
 refine w_nil (hK14 _ _ _ ?_)
 obtain rfl := some_r H
 exact c_ret fun a w' hf hs => hret _ (.inl rfl) a w' hf.df ⟨_, _, _, Res.of1 rfl (RV.t hf rfl), hs.sel [0] (by decide) rfl, rfl⟩
theorem wire_Strings.calls {M : Heap} {w : World} (hM : Sub M w) (p0 : (List (List UInt8))) (v1 : Value) (h2 : RS FS M v1 p0) (r : (List Int)) (H : wire_Strings p0 = some r) :
  Calls Tryd.prog 96 [v1].toArray w (Post M w fun M' v => ∃ v39, v = v39 ∧ RS (FI .u8) M' v39 r) := by
 exact postR (wire_Strings.callsR hM p0 v1 h2 r H)
theorem backup_content.calls {M : Heap} {w : World} (hM : Sub M w) (p0 : (List Key)) (v1 : Value) (h2 : RS Key.F M v1 p0) (r : (List UInt8)) (H : backup_content p0 = some r) :
  Calls Tryd.prog 50 [v1].toArray w (Post M w fun M' v => v = (str r)) := by
 refine enter 53 [(0, v1)] Tryd.func50 rfl rfl rfl hM ?_
 intro Q hret
 unfold backup_content at H
 refine c_sr fun _ hK3 => ?_
 refine va rfl rfl ?_
 refine w_nil (hK3 _ _ _ ?_)
 refine c_sr fun _ hK4 => ?_
 refine vm rfl rfl ?_
 refine wv rfl (fun hf hs => r_lenR Tryd.underlying34 h2 (hf.ev rfl)) ?_
 obtain ⟨g6, H⟩ := grd_s H
 refine w_mk (F := FS) Tryd.underlying63 fz9 trivial rfl rfl rfl g6.1 g6.2.1 g6.2.2 ?_
 intro v5
 refine va rfl rfl ?_
 refine w_nil (hK4 _ _ _ ?_)
 refine c_cut (fun a' w' => ∃ (x7 : (List (List UInt8))) (v8 : Value) (M9 : Heap), HLe M M9 ∧ Fr 53 [(3, v8)] a' ∧ St none' M w M9 (lt [rowI FS v8 9 x7]) w' ∧ backup_content.j1 x7 = some r) ?_ ?_
 ·refine c_seq ?_
  intro K24 hK24
  refine c_reg ?_
  refine vm rfl rfl ?_
  refine wv rfl (fun hf hs => r_lenR Tryd.underlying34 h2 (hf.ev rfl)) ?_
  refine vm rfl rfl ?_
  refine w_nil (hK24 _ _ _ ?_)
  refine c_block ?_
  refine c_loop (fun (s25 : ((List (List UInt8)) × Int)) a' w' => ∃ (v26 : Value) (M27 : Heap), HLe M M27 ∧ Fr 53 [(0, v1), (3, v26), (12, (.int .i64 (p0.length : Int))), (13, (.int .i64 s25.2))] a' ∧ St none' M w M27 (lt [rowI FS v26 9 s25.1]) w') ((List.replicate ((p0.length : Int)).toNat ([] : List UInt8)), (0 : Int)) H ?_ ?_
  ·intro a w' hf hs
   exact ⟨v5, _, HLe.refl _, (hf.pick (pk (pk (pk (pk pk0 rfl) rfl) rfl) rfl)), hs.selD [some 0] (by decide) rfl⟩
  clear H
  intro s25 y30 H r29 a w' hJ
  obtain ⟨v26, M27, l28, hf, hs⟩ := hJ
  refine c_of (c := (Cx.mk Tryd.prog 53 none' M w)) ?_ hf hs
  unfold backup_content.l3 at H
  clear hf hs
  replace h2 := h2.mono l28
  refine c_sr fun _ hK31 => ?_
  refine v_lss rfl rfl rfl ?_
  refine w_nil (hK31 _ _ _ ?_)
  refine c_seq fun K32 hK32 => ?_
  refine c_if rfl (fun b33 => ?_) (fun b33 => ?_)
  ·replace H := if_t b33 H
   refine c_skip (hK32 _ _ _ ?_)
   refine c_seq fun K34 hK34 => ?_
   refine c_block ?_
   refine c_sr fun _ hK35 => ?_
   refine vm rfl rfl ?_
   refine va rfl rfl ?_
   refine w_nil (hK35 _ _ _ ?_)
   refine c_sr fun _ hK36 => ?_
   refine vm rfl rfl ?_
   refine vm rfl rfl ?_
   obtain ⟨g37, H⟩ := grd_s H
   refine wv rfl (fun hf hs => r_iR Tryd.underlying34 ts55 h2 (hf.ev rfl) (hf.ev rfl) g37.1 g37.2) ?_
   refine wv rfl (fun hf hs => r_loadEA ta55 ts55 h2 hs.sub g37.1 g37.2 (hf.ev rfl) rfl rfl) ?_
   refine w_allocL (A := Key.C (⟨0, 0, [], 0, 0, 0, 0, 0, false⟩ : Key)) tz55 trivial rfl rfl ?_
   intro b38
   refine w_store (i := 1) (vs := Key.C (rd p0 s25.2)) (A' := Key.C (rd p0 s25.2)) trivial rfl rfl rfl rfl ts55 rfl (Key.F_one _) (Nat.le_of_ble_eq_true rfl) rfl ?_
   refine va rfl rfl ?_
   refine w_nil (hK36 _ _ _ ?_)
   refine c_cut (fun a' w' => ∃ (x39 : Int) (M40 : Heap), HLe M27 M40 ∧ Fr 53 [(0, v1), (3, v26), (4, (.int .i64 s25.2)), (5, (ptr b38 0)), (6, (.int .i64 x39)), (12, (.int .i64 (p0.length : Int))), (13, (.int .i64 s25.2))] a' ∧ St none' M w M40 (lt [rowI FS v26 9 s25.1, .blk b38 (.cells (Key.C (rd p0 s25.2)).toArray 55 (0, 0))]) w' ∧ backup_content.j2 p0 s25 x39 = some y30) ?_ ?_
   ·refine c_seq ?_
    intro K72 hK72
    refine c_reg ?_
    refine v_fa fa55_8 rfl rfl ?_
    refine wv rfl (fun hf hs => r_load1 ta4 (hf.ev rfl) (hs.blk (i := 1) rfl) rfl) ?_
    refine w_nil (hK72 _ _ _ ?_)
    refine c_if rfl (fun b73 => ?_) (fun b73 => ?_)
    ·replace H := if_t b73 H
     refine c_reg ?_
     refine va rfl rfl ?_
     exact w_nil fun a w' hf hs => ⟨(1 : Int), _, (HLe.refl _), (hf.pick (pk (pk (pk (pk (pk (pk (pk pk0 rfl) rfl) rfl) rfl) rfl) rfl) rfl)), hs.selD [some 0, some 1] (by decide) rfl, H⟩
    replace H := if_f b73 H
    refine c_skip ?_
    intro a w' hf hs
    exact ⟨(0 : Int), _, (HLe.refl _), (hf.pick (pk (pk (pk (pk (pk (pk (pk pk0 rfl) rfl) rfl) rfl) rfl) rfl) rfl)), hs.selD [some 0, some 1] (by decide) rfl, H⟩
   rintro a w' ⟨x39, M40, l41, hf, hs, H⟩
   refine c_of (c := (Cx.mk Tryd.prog 53 none' M w)) ?_ hf hs
   unfold backup_content.j2 at H
   clear hf hs
   refine c_sr fun _ hK42 => ?_
   refine v_fa fa55_0 rfl rfl ?_
   refine wv rfl (fun hf hs => r_load1 ta3 (hf.ev rfl) (hs.blk (i := 1) rfl) rfl) ?_
   refine v_fa fa55_1 rfl rfl ?_
   refine wv rfl (fun hf hs => r_load1 ta3 (hf.ev rfl) (hs.blk (i := 1) rfl) rfl) ?_
   refine v_fa fa55_3 rfl rfl ?_
   refine wv rfl (fun hf hs => r_load1 ta3 (hf.ev rfl) (hs.blk (i := 1) rfl) rfl) ?_
   refine v_fa fa55_4 rfl rfl ?_
   refine wv rfl (fun hf hs => r_load1 ta3 (hf.ev rfl) (hs.blk (i := 1) rfl) rfl) ?_
   refine v_fa fa55_5 rfl rfl ?_
   refine wv rfl (fun hf hs => r_load1 ta3 (hf.ev rfl) (hs.blk (i := 1) rfl) rfl) ?_
   refine v_fa fa55_6 rfl rfl ?_
   refine wv rfl (fun hf hs => r_load1 ta3 (hf.ev rfl) (hs.blk (i := 1) rfl) rfl) ?_
   refine v_fa fa55_7 rfl rfl ?_
   refine wv rfl (fun hf hs => r_load1 ta3 (hf.ev rfl) (hs.blk (i := 1) rfl) rfl) ?_
   refine vm rfl rfl ?_
   refine w_bsl (F := (FI .i64)) (es := ([(rd p0 s25.2).Id, (rd p0 s25.2).Type_, (rd p0 s25.2).Uses, (rd p0 s25.2).Start, (rd p0 s25.2).End, (rd p0 s25.2).Version, (rd p0 s25.2).Parent, x39] : List Int)) (xs := [.tmp 23, .tmp 25, .tmp 27, .tmp 29, .tmp 31, .tmp 33, .tmp 35, .tmp 36]) (vs := [(.int .i64 ((rd p0 s25.2).Id)), (.int .i64 ((rd p0 s25.2).Type_)), (.int .i64 ((rd p0 s25.2).Uses)), (.int .i64 ((rd p0 s25.2).Start)), (.int .i64 ((rd p0 s25.2).End)), (.int .i64 ((rd p0 s25.2).Version)), (.int .i64 ((rd p0 s25.2).Parent)), (.int .i64 x39)]) Tryd.underlying51 te3 trivial rfl rfl rfl rfl rfl (by decide) ?_
   intro v43 M44 l45 h46 c47
   obtain ⟨t48, e53, H⟩ := bnd H
   refine w_call cf95 trivial rfl rfl (fun w hs => wire_Ints.calls hs ([(rd p0 s25.2).Id, (rd p0 s25.2).Type_, (rd p0 s25.2).Uses, (rd p0 s25.2).Start, (rd p0 s25.2).End, (rd p0 s25.2).Version, (rd p0 s25.2).Parent, x39] : List Int) v43 h46 _ e53) ?_
   rintro v71 M50 l51 ⟨v54, hv_, h55⟩
   replace hv_ := hv_.symm
   subst hv_
   refine va rfl rfl ?_
   refine w_nil (hK42 _ _ _ ?_)
   refine c_reg ?_
   refine vm rfl rfl ?_
   refine vm rfl rfl ?_
   refine vm rfl rfl ?_
   refine wv rfl (fun hf hs => r_b2s Tryd.underlying66 Tryd.underlying5 Tryd.underlying9 h55 hs.sub (hf.ev rfl)) ?_
   refine v_fa fa55_2 rfl rfl ?_
   refine wv rfl (fun hf hs => r_load1 ta9 (hf.ev rfl) (hs.blk (i := 1) rfl) rfl) ?_
   refine w_bsl (F := FS) (es := ([(intsB t48), (rd p0 s25.2).Value] : List (List UInt8))) (xs := [.tmp 42, .tmp 44]) (vs := [(str (intsB t48)), (str ((rd p0 s25.2).Value))]) Tryd.underlying63 te9 trivial rfl rfl rfl rfl rfl (by decide) ?_
   intro v56 M57 l58 h59 c60
   obtain ⟨t61, e66, H⟩ := bnd H
   refine w_call cf96 trivial rfl rfl (fun w hs => wire_Strings.calls hs ([(intsB t48), (rd p0 s25.2).Value] : List (List UInt8)) v56 h59 _ e66) ?_
   rintro v70 M63 l64 ⟨v67, hv_, h68⟩
   replace hv_ := hv_.symm
   subst hv_
   refine wv rfl (fun hf hs => r_b2s Tryd.underlying66 Tryd.underlying5 Tryd.underlying9 h68 hs.sub (hf.ev rfl)) ?_
   obtain ⟨g69, H⟩ := grd_s H
   refine wv rfl (fun hf hs => r_iW 0 hs rfl Tryd.underlying63 ts9 (hf.ev rfl) (hf.ev rfl) g69.1 g69.2) ?_
   refine w_storeW (e := (intsB t61)) 0 FS.one trivial rfl rfl rfl rfl ts9 g69.1 g69.2 ?_
   refine w_nil (hK34 _ _ _ ?_)
   refine c_reg ?_
   refine v_add rfl rfl rfl ?_
   refine vm rfl rfl ?_
   exact w_nil fun a w' hf hs => ⟨_, (some_r H).symm, v26, _, l28.trans (l41.trans (l45.trans (l51.trans (l58.trans l64)))), (hf.pick (pk (pk (pk (pk pk0 rfl) rfl) rfl) rfl)), hs.selD [some 0] (by decide) rfl⟩
  replace H := if_f b33 H
  replace H := map_inr H r29
  refine c_exit ?_
  intro a w' hf hs
  exact ⟨s25.1, v26, _, l28, (hf.pick (pk pk0 rfl)), hs.selD [some 0] (by decide) rfl, H⟩
 rintro a w' ⟨x7, v8, M9, l10, hf, hs, H⟩
 refine c_of (c := (Cx.mk Tryd.prog 53 none' M w)) ?_ hf hs
 unfold backup_content.j1 at H
 clear hf hs
 refine c_sr fun _ hK11 => ?_
 refine vm rfl rfl ?_
 obtain ⟨t15, e20, H⟩ := bnd H
 refine w_give 0 rfl (fun _ h => h) ?_
 intro M12 l13 h14
 refine w_call cf96 trivial rfl rfl (fun w hs => wire_Strings.calls hs x7 v8 h14 _ e20) ?_
 rintro v23 M17 l18 ⟨v21, hv_, h22⟩
 replace hv_ := hv_.symm
 subst hv_
 refine wv rfl (fun hf hs => r_b2s Tryd.underlying66 Tryd.underlying5 Tryd.underlying9 h22 hs.sub (hf.ev rfl)) ?_
 refine va rfl rfl ?_
 refine w_nil (hK11 _ _ _ ?_)
 obtain rfl := some_r H
 exact c_ret fun a w' hf hs => hret _ (.inl rfl) a w' hf.df ⟨_, _, Res.of1 rfl (RV.t hf rfl), hs.ext, rfl⟩
theorem seal_Keys.calls {M : Heap} {w : World} (hM : Sub M w) (hG : Gl M) (p0 : (List UInt8)) (r : ((List UInt8) × (List UInt8) × Int)) (H : seal_Keys p0 = some r) :
  Calls Tryd.prog 13 [(str p0)].toArray w (Post M w fun M' v => v = .tuple #[(str r.1), (str r.2.1), (.int .i64 r.2.2)]) := by
 refine enter 12 [(0, (str p0))] Tryd.func13 rfl rfl rfl hM ?_
 intro Q hret
 unfold seal_Keys at H
 refine c_sr fun _ hK1 => ?_
 refine va rfl rfl ?_
 refine va rfl rfl ?_
 refine va rfl rfl ?_
 refine w_nil (hK1 _ _ _ ?_)
 refine c_seq fun K2 hK2 => ?_
 refine c_sr fun _ hK3 => ?_
 refine vm rfl rfl ?_
 refine wv rfl (fun hf hs => r_slen Tryd.underlying9 (hf.ev rfl)) ?_
 refine wv rfl (fun hf hs => r_neq (hf.ev rfl) (hf.ev rfl)) ?_
 refine w_nil (hK3 _ _ _ ?_)
 refine c_if rfl (fun b4 => ?_) (fun b4 => ?_)
 ·replace H := if_t b4 H
  refine c_sr fun _ hK5 => ?_
  refine va rfl rfl ?_
  refine va rfl rfl ?_
  refine va rfl rfl ?_
  refine w_nil (hK5 _ _ _ ?_)
  obtain rfl := some_r H
  exact c_ret fun a w' hf hs => hret _ (.inl rfl) a w' hf.df ⟨_, _, Res.of3 rfl (RV.t hf rfl) (RV.t hf rfl) (RV.t hf rfl), hs.ext, rfl⟩
 replace H := if_f b4 H
 refine c_skip (hK2 _ _ _ ?_)
 refine c_sr fun _ hK6 => ?_
 refine vm rfl rfl ?_
 obtain ⟨t7, e12, H⟩ := bnd H
 refine w_call cf36 trivial rfl rfl (fun w hs => hash_Mac.calls hs hG p0 ([101, 110, 99] : List UInt8) _ e12) ?_
 rintro _ M9 l10 rfl
 replace hG := hG.mono l10
 refine vm rfl rfl ?_
 obtain ⟨t13, e18, H⟩ := bnd H
 refine w_call cf36 trivial rfl rfl (fun w hs => hash_Mac.calls hs hG p0 ([109, 97, 99] : List UInt8) _ e18) ?_
 rintro _ M15 l16 rfl
 refine va rfl rfl ?_
 refine va rfl rfl ?_
 refine va rfl rfl ?_
 refine w_nil (hK6 _ _ _ ?_)
 obtain rfl := some_r H
 exact c_ret fun a w' hf hs => hret _ (.inl rfl) a w' hf.df ⟨_, _, Res.of3 rfl (RV.t hf rfl) (RV.t hf rfl) (RV.t hf rfl), hs.ext, rfl⟩
theorem extraJoin : Builder.Extra Tryd.prog Tryd.laysJoin_ren := {
 sizeBuilder := by kernel_rfl
 liesBuilder := by kernel_rfl
 t5 := Tryd.underlying5
 a5 := Tryd.isAgg5
 z5 := Tryd.sizeOf5
 v5 := Tryd.zeroValue5
 infoByte := by kernel_rfl
 cellsByte := by kernel_rfl
 sizeByte := by kernel_rfl
 neB5 := by decide }
theorem fJoin : Tryd.laysJoin_ren.f 156 = 85 := by kernel_rfl
theorem strings_Join.calls {M : Heap} {w : World} (hM : Sub M w) (p0 : List (List UInt8)) (v1 : Value) (h2 : RS FS M v1 p0) (p1 : List UInt8) (r : List UInt8) (H : strings_Join p0 p1 = some r) :
  Calls Tryd.prog 85 [v1, (str p1)].toArray w (Post M w fun M' v => v = (str r)) := by
 unfold strings_Join at H
 obtain ⟨g, H⟩ := grd_s H
 obtain rfl := some_r H
 rcases rs_strs h2 hM with ⟨rfl, rfl⟩ | ⟨bk, o, c, rfl, hc, hbk, hcells⟩
 ·have h := Go.Proofs.Any.strings_Join_none Tryd.laysJoin extraJoin none 0 ⟨p1.toArray⟩ w
  rw [fJoin] at h
  refine Calls.mono h ?_
  rintro e w' ⟨rfl, rfl⟩
  exact ⟨_, M, rfl, ext_below hM (Go.RowKit.Below.refl _ _), rfl⟩
 ·have h := Go.Proofs.Any.strings_Join Tryd.laysJoin extraJoin bk o c (p0.map fun s => ⟨s.toArray⟩) ⟨p1.toArray⟩ w (by
   intro j x hx
   rw [List.getElem?_map] at hx
   obtain ⟨y, hy, rfl⟩ := Option.map_eq_some_iff.1 hx
   exact hcells j y hy) hbk (by simpa using g.1) (by simpa using hc) (by rw [lib_join p0 p1]; exact g.2)
  rw [fJoin, lib_join p0 p1, List.length_map] at h
  refine Calls.mono h ?_
  rintro e w' ⟨rfl, hb⟩
  exact ⟨_, M, rfl, ext_below hM hb, rfl⟩
theorem seal_code.calls {M : Heap} {w : World} (hM : Sub M w) (hG : Gl M) (p0 : (List UInt8)) (p1 : Int) (p2 : (List (List UInt8))) (v1 : Value) (h2 : RS FS M v1 p2) (r : (List UInt8)) (H : seal_code p0 p1 p2 = some r) :
  Calls Tryd.prog 39 [(str p0), (.int .i64 p1), v1].toArray w (Post M w fun M' v => v = (str r)) := by
 refine enter 13 [(0, (str p0)), (1, (.int .i64 p1)), (2, v1)] Tryd.func39 rfl rfl rfl hM ?_
 intro Q hret
 unfold seal_code at H
 refine c_sr fun _ hK3 => ?_
 refine va rfl rfl ?_
 refine w_nil (hK3 _ _ _ ?_)
 refine c_sr fun _ hK4 => ?_
 refine vm rfl rfl ?_
 refine vm rfl rfl ?_
 obtain ⟨t5, e10, H⟩ := bnd H
 refine w_call cf85 trivial rfl rfl (fun w hs => strings_Join.calls hs p2 v1 h2 ([] : List UInt8) _ e10) ?_
 rintro _ M7 l8 rfl
 replace hG := hG.mono l8
 obtain ⟨t11, e16, H⟩ := bnd H
 refine w_call cf36 trivial rfl rfl (fun w hs => hash_Mac.calls hs hG p0 t5 _ e16) ?_
 rintro _ M13 l14 rfl
 refine vm rfl rfl ?_
 obtain ⟨g17, H⟩ := grd_s H
 refine wv rfl (fun hf hs => r_sslice Tryd.underlying9 (hf.ev rfl) rfl ⟨_, (hf.ev rfl)⟩ g17.1 g17.2.1 g17.2.2) ?_
 refine va rfl rfl ?_
 refine w_nil (hK4 _ _ _ ?_)
 obtain rfl := some_r H
 exact c_ret fun a w' hf hs => hret _ (.inl rfl) a w' hf.df ⟨_, _, Res.of1 rfl (RV.t hf rfl), hs.ext, rfl⟩
theorem cipher_get.calls {M : Heap} {w : World} (hM : Sub M w) (p0 : (List UInt8)) (r : Int) (H : cipher_get p0 = some r) :
  Calls Tryd.prog 118 [(str p0)].toArray w (Post M w fun M' v => v = (.int .u32 r)) := by
 refine enter 21 [(0, (str p0))] Tryd.func118 rfl rfl rfl hM ?_
 intro Q hret
 unfold cipher_get at H
 refine c_sr fun _ hK1 => ?_
 refine va rfl rfl ?_
 refine w_nil (hK1 _ _ _ ?_)
 refine c_seq fun K2 hK2 => ?_
 obtain ⟨g8, H⟩ := grd_s H
 obtain ⟨g17, H⟩ := grd_s H
 obtain ⟨g33, H⟩ := grd_s H
 obtain ⟨g49, H⟩ := grd_s H
 refine c_drawP [([], [0]), ([(0, 3)], []), ([(1, 4)], []), ([], [0]), ([(3, 6)], []), ([(4, 7)], []), ([(5, 8)], []), ([(2, 5), (6, 9)], []), ([], [0]), ([(8, 11)], []), ([(9, 12)], []), ([(10, 13)], []), ([(7, 10), (11, 14)], []), ([], [0]), ([(13, 16)], []), ([(14, 17)], []), ([(15, 18)], []), ([(12, 15), (16, 19)], []), ([(17, 20)], [])] [vq (str p0), vq (.int .u8 (sbyte p0 (0 : Int))), vq (.int .u32 (IntKind.u32.wrap (sbyte p0 (0 : Int)))), vq (str p0), vq (.int .u8 (sbyte p0 (1 : Int))), vq (.int .u32 (IntKind.u32.wrap (sbyte p0 (1 : Int)))), vq (.int .u32 (shlI .u32 (IntKind.u32.wrap (sbyte p0 (1 : Int))) (8 : Int))), vq (.int .u32 (bits .or .u32 (IntKind.u32.wrap (sbyte p0 (0 : Int))) (shlI .u32 (IntKind.u32.wrap (sbyte p0 (1 : Int))) (8 : Int)))), vq (str p0), vq (.int .u8 (sbyte p0 (2 : Int))), vq (.int .u32 (IntKind.u32.wrap (sbyte p0 (2 : Int)))), vq (.int .u32 (shlI .u32 (IntKind.u32.wrap (sbyte p0 (2 : Int))) (16 : Int))), vq (.int .u32 (bits .or .u32 (bits .or .u32 (IntKind.u32.wrap (sbyte p0 (0 : Int))) (shlI .u32 (IntKind.u32.wrap (sbyte p0 (1 : Int))) (8 : Int))) (shlI .u32 (IntKind.u32.wrap (sbyte p0 (2 : Int))) (16 : Int)))), vq (str p0), vq (.int .u8 (sbyte p0 (3 : Int))), vq (.int .u32 (IntKind.u32.wrap (sbyte p0 (3 : Int)))), vq (.int .u32 (shlI .u32 (IntKind.u32.wrap (sbyte p0 (3 : Int))) (24 : Int))), vq (.int .u32 (bits .or .u32 (bits .or .u32 (bits .or .u32 (IntKind.u32.wrap (sbyte p0 (0 : Int))) (shlI .u32 (IntKind.u32.wrap (sbyte p0 (1 : Int))) (8 : Int))) (shlI .u32 (IntKind.u32.wrap (sbyte p0 (2 : Int))) (16 : Int))) (shlI .u32 (IntKind.u32.wrap (sbyte p0 (3 : Int))) (24 : Int)))), vq (.int .u32 (bits .or .u32 (bits .or .u32 (bits .or .u32 (IntKind.u32.wrap (sbyte p0 (0 : Int))) (shlI .u32 (IntKind.u32.wrap (sbyte p0 (1 : Int))) (8 : Int))) (shlI .u32 (IntKind.u32.wrap (sbyte p0 (2 : Int))) (16 : Int))) (shlI .u32 (IntKind.u32.wrap (sbyte p0 (3 : Int))) (24 : Int))))] (by kernel_rfl) (by kernel_rfl) ?_ (aT ?_ (aT ?_ (aT ?_ (aT ?_ (aT ?_ (aT ?_ (aT ?_ (aT ?_ (aT ?_ (aT ?_ (aT ?_ (aT ?_ (aT ?_ (aT ?_ (aT ?_ (aT ?_ (aT ?_ (aT ?_ (aT ?_ AllT.nil))))))))))))))))))) ?_
 ·exact (mC (mC (mC (mC (mC (mC (mC (mC (mC (mC (mC (mC (mC (mC (mC (mC (mC (mC (mC MonoA.nil)))))))))))))))))))
 ·intro a w' _ _ hd hs
  exact pv (hd.fr.add (hd.base 0 _ rfl rfl)) hs rfl (fun hf hs => r_move (hf.ev rfl)) rfl
 ·intro a w' _ _ hd hs
  exact pv (hd.fr.add (hd.val 0 3 _ rfl rfl)) hs rfl (fun hf hs => r_sidx Tryd.underlying9 (hf.ev rfl) (hf.ev rfl) g8.1 g8.2) rfl
 ·intro a w' _ _ hd hs
  exact pv (hd.fr.add (hd.val 1 4 _ rfl rfl)) hs rfl (fun hf hs => r_conv Tryd.underlying5 Tryd.underlying70 (hf.ev rfl)) rfl
 ·intro a w' _ _ hd hs
  exact pv (hd.fr.add (hd.base 0 _ rfl rfl)) hs rfl (fun hf hs => r_move (hf.ev rfl)) rfl
 ·intro a w' _ _ hd hs
  exact pv (hd.fr.add (hd.val 3 6 _ rfl rfl)) hs rfl (fun hf hs => r_sidx Tryd.underlying9 (hf.ev rfl) (hf.ev rfl) g17.1 g17.2) rfl
 ·intro a w' _ _ hd hs
  exact pv (hd.fr.add (hd.val 4 7 _ rfl rfl)) hs rfl (fun hf hs => r_conv Tryd.underlying5 Tryd.underlying70 (hf.ev rfl)) rfl
 ·intro a w' _ _ hd hs
  exact pv (hd.fr.add (hd.val 5 8 _ rfl rfl)) hs rfl (fun hf hs => r_shl (hf.ev rfl) (hf.ev rfl) (by decide)) rfl
 ·intro a w' _ _ hd hs
  exact pv ((hd.fr.add (hd.val 6 9 _ rfl rfl)).add (hd.val 2 5 _ rfl rfl)) hs rfl (fun hf hs => r_or (hf.ev rfl) (hf.ev rfl)) rfl
 ·intro a w' _ _ hd hs
  exact pv (hd.fr.add (hd.base 0 _ rfl rfl)) hs rfl (fun hf hs => r_move (hf.ev rfl)) rfl
 ·intro a w' _ _ hd hs
  exact pv (hd.fr.add (hd.val 8 11 _ rfl rfl)) hs rfl (fun hf hs => r_sidx Tryd.underlying9 (hf.ev rfl) (hf.ev rfl) g33.1 g33.2) rfl
 ·intro a w' _ _ hd hs
  exact pv (hd.fr.add (hd.val 9 12 _ rfl rfl)) hs rfl (fun hf hs => r_conv Tryd.underlying5 Tryd.underlying70 (hf.ev rfl)) rfl
 ·intro a w' _ _ hd hs
  exact pv (hd.fr.add (hd.val 10 13 _ rfl rfl)) hs rfl (fun hf hs => r_shl (hf.ev rfl) (hf.ev rfl) (by decide)) rfl
 ·intro a w' _ _ hd hs
  exact pv ((hd.fr.add (hd.val 11 14 _ rfl rfl)).add (hd.val 7 10 _ rfl rfl)) hs rfl (fun hf hs => r_or (hf.ev rfl) (hf.ev rfl)) rfl
 ·intro a w' _ _ hd hs
  exact pv (hd.fr.add (hd.base 0 _ rfl rfl)) hs rfl (fun hf hs => r_move (hf.ev rfl)) rfl
 ·intro a w' _ _ hd hs
  exact pv (hd.fr.add (hd.val 13 16 _ rfl rfl)) hs rfl (fun hf hs => r_sidx Tryd.underlying9 (hf.ev rfl) (hf.ev rfl) g49.1 g49.2) rfl
 ·intro a w' _ _ hd hs
  exact pv (hd.fr.add (hd.val 14 17 _ rfl rfl)) hs rfl (fun hf hs => r_conv Tryd.underlying5 Tryd.underlying70 (hf.ev rfl)) rfl
 ·intro a w' _ _ hd hs
  exact pv (hd.fr.add (hd.val 15 18 _ rfl rfl)) hs rfl (fun hf hs => r_shl (hf.ev rfl) (hf.ev rfl) (by decide)) rfl
 ·intro a w' _ _ hd hs
  exact pv ((hd.fr.add (hd.val 16 19 _ rfl rfl)).add (hd.val 12 15 _ rfl rfl)) hs rfl (fun hf hs => r_or (hf.ev rfl) (hf.ev rfl)) rfl
 ·intro a w' _ _ hd hs
  exact pv (hd.fr.add (hd.val 17 20 _ rfl rfl)) hs rfl (fun hf hs => r_assign (hf.ev rfl)) rfl
 intro a w' M63 l64 hdf hsz hb hv hs
 have e65 := hv 18 2 _ rfl rfl
 refine n_of (c := (Cx.mk Tryd.prog 21 none' M w)) (l := [(2, (.int .u32 (bits .or .u32 (bits .or .u32 (bits .or .u32 (IntKind.u32.wrap (sbyte p0 (0 : Int))) (shlI .u32 (IntKind.u32.wrap (sbyte p0 (1 : Int))) (8 : Int))) (shlI .u32 (IntKind.u32.wrap (sbyte p0 (2 : Int))) (16 : Int))) (shlI .u32 (IntKind.u32.wrap (sbyte p0 (3 : Int))) (24 : Int)))))]) ?_ ((Fr.start hdf hsz).add e65) hs
 clear hdf hsz hb hv hs e65
 refine n_id (hK2 _ _ _ ?_)
 obtain rfl := some_r H
 exact c_ret fun a w' hf hs => hret _ (.inl rfl) a w' hf.df ⟨_, _, Res.of1 rfl (RV.t hf rfl), hs.ext, rfl⟩
theorem cipher_State.calls {M : Heap} {w : World} (hM : Sub M w) (p0 : (List UInt8)) (p1 : Int) (p2 : (List UInt8)) (r : ((Vector Int 16) × Int)) (H : cipher_State p0 p1 p2 = some r) :
  Calls Tryd.prog 86 [(str p0), (.int .u32 p1), (str p2)].toArray w (Post M w fun M' v => v = .tuple #[(.agg (vI .u32 r.1).toArray), (.int .i64 r.2)]) := by
 refine enter 46 [(0, (str p0)), (1, (.int .u32 p1)), (2, (str p2))] Tryd.func86 rfl rfl rfl hM ?_
 intro Q hret
 unfold cipher_State at H
 refine c_sr fun _ hK1 => ?_
 refine w_allocL (A := vI .u32 (Vector.replicate 16 (0 : Int))) tz131 trivial rfl rfl ?_
 intro b2
 refine va rfl rfl ?_
 refine w_nil (hK1 _ _ _ ?_)
 refine c_seq fun K3 hK3 => ?_
 obtain ⟨t4, H1, H⟩ := bnd H
 refine c_cut (fun a' w' => ∃ (M5 : Heap), HLe M M5 ∧ Fr 46 [(0, (str p0)), (1, (.int .u32 p1)), (2, (str p2)), (6, (ptr b2 0)), (17, (.bool t4))] a' ∧ St none' M w M5 (lt [.blk b2 (.cells (vI .u32 (Vector.replicate 16 (0 : Int))).toArray 131 (0, 0))]) w') ?_ ?_
 ·replace H := H1
  clear H1
  refine c_reg ?_
  refine vm rfl rfl ?_
  refine wv rfl (fun hf hs => r_slen Tryd.underlying9 (hf.ev rfl)) ?_
  refine wv rfl (fun hf hs => r_neq (hf.ev rfl) (hf.ev rfl)) ?_
  refine vm rfl rfl ?_
  by_cases b7 : ((p0.length : Int) != (32 : Int)) = true
  ·replace H := if_t b7 H
   refine wq b7 rfl rfl rfl ?_
   refine wq b7 rfl rfl rfl ?_
   refine wq b7 rfl rfl rfl ?_
   refine wv rfl (fun hf hs => r_pickT (hf.ev rfl) b7 (hf.ev rfl)) ?_
   obtain rfl := some_r H
   exact w_nil fun a w' hf hs => ⟨_, (HLe.refl _), (hf.pick (pk (pk (pk (pk (pk pk0 rfl) rfl) rfl) rfl) rfl)), hs.sel [0] (by decide) rfl⟩
  replace b7 := Bool.eq_false_iff.2 b7
  replace H := if_f b7 H
  refine wg b7 rfl rfl rfl (fun hf hs => r_move (hf.ev rfl)) ?_
  refine wg b7 rfl rfl rfl (fun hf hs => r_slen Tryd.underlying9 (hf.ev rfl)) ?_
  refine wg b7 rfl rfl rfl (fun hf hs => r_neq (hf.ev rfl) (hf.ev rfl)) ?_
  refine wv rfl (fun hf hs => r_pickF (hf.ev rfl) b7 (hf.ev rfl)) ?_
  obtain rfl := some_r H
  exact w_nil fun a w' hf hs => ⟨_, (HLe.refl _), (hf.pick (pk (pk (pk (pk (pk pk0 rfl) rfl) rfl) rfl) rfl)), hs.sel [0] (by decide) rfl⟩
 clear H1
 rintro a w' ⟨M5, l6, hf, hs⟩
 refine c_of (c := (Cx.mk Tryd.prog 46 none' M w)) ?_ hf hs
 clear hf hs
 refine c_if rfl (fun b8 => ?_) (fun b8 => ?_)
 ·replace H := if_t b8 H
  refine c_sr fun _ hK9 => ?_
  refine wv rfl (fun hf hs => r_loadA ta131 ts131 (hf.ev rfl) (hs.blk (i := 0) rfl) (vI_all _) (vI_len _)) ?_
  refine w_store (i := 0) (vs := vI .u32 (Vector.replicate 16 (0 : Int))) (A' := vI .u32 (Vector.replicate 16 (0 : Int))) trivial rfl rfl rfl rfl ts131 (vI_len _) (vI_one _) (by rw [vI_len]; decide) (vI_whole _ _) ?_
  refine va rfl rfl ?_
  refine w_nil (hK9 _ _ _ ?_)
  obtain rfl := some_r H
  exact c_ret fun a w' hf hs => hret _ (.inl rfl) a w' hf.df ⟨_, _, Res.of2 rfl ⟨_, hf.get _ _ rfl, run_loadA (hs.blk (i := 0) rfl) ta131 ts131 (vI_all _) (vI_len _)⟩ (RV.t hf rfl), hs.ext, rfl⟩
 replace H := if_f b8 H
 refine c_skip (hK3 _ _ _ ?_)
 refine c_sr fun _ hK10 => ?_
 refine vm rfl rfl ?_
 refine wv rfl (fun hf hs => r_build (is := [0, 1, 2, 3, 12]) (xs := [.const (.int .u32 1634760805), .const (.int .u32 857760878), .const (.int .u32 2036477234), .const (.int .u32 1797285236), .tmp 19]) (vs := [(.int .u32 1634760805), (.int .u32 857760878), (.int .u32 2036477234), (.int .u32 1797285236), (.int .u32 p1)]) (A := vI .u32 (#v[(1634760805 : Int), (857760878 : Int), (2036477234 : Int), (1797285236 : Int), 0, 0, 0, 0, 0, 0, 0, 0, p1, 0, 0, 0] : Vector Int 16)) rfl (hf.evs rfl) (by kernel_rfl)) ?_
 refine w_store (i := 0) (vs := vI .u32 (#v[(1634760805 : Int), (857760878 : Int), (2036477234 : Int), (1797285236 : Int), 0, 0, 0, 0, 0, 0, 0, 0, p1, 0, 0, 0] : Vector Int 16)) (A' := vI .u32 (#v[(1634760805 : Int), (857760878 : Int), (2036477234 : Int), (1797285236 : Int), 0, 0, 0, 0, 0, 0, 0, 0, p1, 0, 0, 0] : Vector Int 16)) trivial rfl rfl rfl rfl ts131 (vI_len _) (vI_one _) (by rw [vI_len]; decide) (vI_whole _ _) ?_
 refine w_nil (hK10 _ _ _ ?_)
 refine c_cut (fun a' w' => ∃ (x11 : (Vector Int 16)) (M12 : Heap), HLe M5 M12 ∧ Fr 46 [(2, (str p2)), (6, (ptr b2 0))] a' ∧ St none' M w M12 (lt [.blk b2 (.cells (vI .u32 x11).toArray 131 (0, 0))]) w' ∧ cipher_State.j3 p2 x11 = some r) ?_ ?_
 ·refine c_seq ?_
  intro K37 hK37
  refine c_reg ?_
  refine vm rfl rfl ?_
  refine w_nil (hK37 _ _ _ ?_)
  refine c_block ?_
  refine c_loop (fun (s38 : ((Vector Int 16) × Int)) a' w' => ∃ (M39 : Heap), HLe M5 M39 ∧ Fr 46 [(0, (str p0)), (2, (str p2)), (6, (ptr b2 0)), (21, (.int .i64 s38.2))] a' ∧ St none' M w M39 (lt [.blk b2 (.cells (vI .u32 s38.1).toArray 131 (0, 0))]) w') ((#v[(1634760805 : Int), (857760878 : Int), (2036477234 : Int), (1797285236 : Int), 0, 0, 0, 0, 0, 0, 0, 0, p1, 0, 0, 0] : Vector Int 16), (0 : Int)) H ?_ ?_
  ·intro a w' hf hs
   exact ⟨_, HLe.refl _, (hf.pick (pk (pk (pk (pk pk0 rfl) rfl) rfl) rfl)), hs.selD [some 0] (by decide) rfl⟩
  clear H
  intro s38 y42 H r41 a w' hJ
  obtain ⟨M39, l40, hf, hs⟩ := hJ
  refine c_of (c := (Cx.mk Tryd.prog 46 none' M w)) ?_ hf hs
  unfold cipher_State.l4 at H
  clear hf hs
  refine c_sr fun _ hK43 => ?_
  refine v_lss rfl rfl rfl ?_
  refine w_nil (hK43 _ _ _ ?_)
  refine c_seq fun K44 hK44 => ?_
  refine c_if rfl (fun b45 => ?_) (fun b45 => ?_)
  ·replace H := if_t b45 H
   refine c_skip (hK44 _ _ _ ?_)
   refine c_seq fun K46 hK46 => ?_
   refine c_block ?_
   refine c_sr fun _ hK47 => ?_
   refine vm rfl rfl ?_
   refine va rfl rfl ?_
   refine w_nil (hK47 _ _ _ ?_)
   refine c_reg ?_
   refine vm rfl rfl ?_
   refine v_add rfl rfl rfl ?_
   refine vm rfl rfl ?_
   refine vm rfl rfl ?_
   refine wv rfl (fun hf hs => r_mul (hf.ev rfl) (hf.ev rfl)) ?_
   obtain ⟨g48, H⟩ := grd_s H
   refine wv rfl (fun hf hs => r_sslice Tryd.underlying9 (hf.ev rfl) ⟨_, (hf.ev rfl)⟩ rfl g48.1 g48.2.1 g48.2.2) ?_
   obtain ⟨t49, e54, H⟩ := bnd H
   refine w_call cf118 trivial rfl rfl (fun w hs => cipher_get.calls hs ((p0.take ((p0.length : Int)).toNat).drop ((IntKind.i64.wrap ((4 : Int) * s38.2))).toNat) _ e54) ?_
   rintro _ M51 l52 rfl
   obtain ⟨g55, H⟩ := grd_s H
   refine wv rfl (fun hf hs => r_iaI Tryd.underlying131 ts70 (hf.ev rfl) (hf.ev rfl) g55.1 g55.2) ?_
   refine w_store (i := 0) (vs := [(.int .u32 t49)]) (A' := vI .u32 (vs s38.1 (IntKind.i64.wrap ((4 : Int) + s38.2)) t49)) trivial rfl rfl rfl rfl ts70 rfl (one1 rfl) (idx_le g55.1 g55.2 (vI_len _) (by decide)) (vI_set0 g55.1 g55.2) ?_
   refine w_nil (hK46 _ _ _ ?_)
   refine c_reg ?_
   refine v_add rfl rfl rfl ?_
   refine vm rfl rfl ?_
   exact w_nil fun a w' hf hs => ⟨_, (some_r H).symm, _, l40.trans l52, (hf.pick (pk (pk (pk (pk pk0 rfl) rfl) rfl) rfl)), hs.selD [some 0] (by decide) rfl⟩
  replace H := if_f b45 H
  replace H := map_inr H r41
  refine c_exit ?_
  intro a w' hf hs
  exact ⟨s38.1, _, l40, (hf.pick (pk (pk pk0 rfl) rfl)), hs.selD [some 0] (by decide) rfl, H⟩
 rintro a w' ⟨x11, M12, l13, hf, hs, H⟩
 refine c_of (c := (Cx.mk Tryd.prog 46 none' M w)) ?_ hf hs
 unfold cipher_State.j3 at H
 clear hf hs
 refine c_cut (fun a' w' => ∃ (x14 : (Vector Int 16)) (M15 : Heap), HLe M12 M15 ∧ Fr 46 [(6, (ptr b2 0))] a' ∧ St none' M w M15 (lt [.blk b2 (.cells (vI .u32 x14).toArray 131 (0, 0))]) w' ∧ cipher_State.j1 x14 = some r) ?_ ?_
 ·refine c_seq ?_
  intro K18 hK18
  refine c_reg ?_
  refine vm rfl rfl ?_
  refine w_nil (hK18 _ _ _ ?_)
  refine c_block ?_
  refine c_loop (fun (s19 : ((Vector Int 16) × Int)) a' w' => ∃ (M20 : Heap), HLe M12 M20 ∧ Fr 46 [(2, (str p2)), (6, (ptr b2 0)), (33, (.int .i64 s19.2))] a' ∧ St none' M w M20 (lt [.blk b2 (.cells (vI .u32 s19.1).toArray 131 (0, 0))]) w') (x11, (0 : Int)) H ?_ ?_
  ·intro a w' hf hs
   exact ⟨_, HLe.refl _, (hf.pick (pk (pk (pk pk0 rfl) rfl) rfl)), hs.selD [some 0] (by decide) rfl⟩
  clear H
  intro s19 y23 H r22 a w' hJ
  obtain ⟨M20, l21, hf, hs⟩ := hJ
  refine c_of (c := (Cx.mk Tryd.prog 46 none' M w)) ?_ hf hs
  unfold cipher_State.l2 at H
  clear hf hs
  refine c_sr fun _ hK24 => ?_
  refine v_lss rfl rfl rfl ?_
  refine w_nil (hK24 _ _ _ ?_)
  refine c_seq fun K25 hK25 => ?_
  refine c_if rfl (fun b26 => ?_) (fun b26 => ?_)
  ·replace H := if_t b26 H
   refine c_skip (hK25 _ _ _ ?_)
   refine c_seq fun K27 hK27 => ?_
   refine c_block ?_
   refine c_sr fun _ hK28 => ?_
   refine vm rfl rfl ?_
   refine va rfl rfl ?_
   refine w_nil (hK28 _ _ _ ?_)
   refine c_reg ?_
   refine vm rfl rfl ?_
   refine v_add rfl rfl rfl ?_
   refine vm rfl rfl ?_
   refine vm rfl rfl ?_
   refine wv rfl (fun hf hs => r_mul (hf.ev rfl) (hf.ev rfl)) ?_
   obtain ⟨g29, H⟩ := grd_s H
   refine wv rfl (fun hf hs => r_sslice Tryd.underlying9 (hf.ev rfl) ⟨_, (hf.ev rfl)⟩ rfl g29.1 g29.2.1 g29.2.2) ?_
   obtain ⟨t30, e35, H⟩ := bnd H
   refine w_call cf118 trivial rfl rfl (fun w hs => cipher_get.calls hs ((p2.take ((p2.length : Int)).toNat).drop ((IntKind.i64.wrap ((4 : Int) * s19.2))).toNat) _ e35) ?_
   rintro _ M32 l33 rfl
   obtain ⟨g36, H⟩ := grd_s H
   refine wv rfl (fun hf hs => r_iaI Tryd.underlying131 ts70 (hf.ev rfl) (hf.ev rfl) g36.1 g36.2) ?_
   refine w_store (i := 0) (vs := [(.int .u32 t30)]) (A' := vI .u32 (vs s19.1 (IntKind.i64.wrap ((13 : Int) + s19.2)) t30)) trivial rfl rfl rfl rfl ts70 rfl (one1 rfl) (idx_le g36.1 g36.2 (vI_len _) (by decide)) (vI_set0 g36.1 g36.2) ?_
   refine w_nil (hK27 _ _ _ ?_)
   refine c_reg ?_
   refine v_add rfl rfl rfl ?_
   refine vm rfl rfl ?_
   exact w_nil fun a w' hf hs => ⟨_, (some_r H).symm, _, l21.trans l33, (hf.pick (pk (pk (pk pk0 rfl) rfl) rfl)), hs.selD [some 0] (by decide) rfl⟩
  replace H := if_f b26 H
  replace H := map_inr H r22
  refine c_exit ?_
  intro a w' hf hs
  exact ⟨s19.1, _, l21, (hf.pick (pk pk0 rfl)), hs.selD [some 0] (by decide) rfl, H⟩
 rintro a w' ⟨x14, M15, l16, hf, hs, H⟩
 refine c_of (c := (Cx.mk Tryd.prog 46 none' M w)) ?_ hf hs
 unfold cipher_State.j1 at H
 clear hf hs
 refine c_sr fun _ hK17 => ?_
 refine wv rfl (fun hf hs => r_loadA ta131 ts131 (hf.ev rfl) (hs.blk (i := 0) rfl) (vI_all _) (vI_len _)) ?_
 refine w_store (i := 0) (vs := vI .u32 x14) (A' := vI .u32 x14) trivial rfl rfl rfl rfl ts131 (vI_len _) (vI_one _) (by rw [vI_len]; decide) (vI_whole _ _) ?_
 refine va rfl rfl ?_
 refine w_nil (hK17 _ _ _ ?_)
 obtain rfl := some_r H
 exact c_ret fun a w' hf hs => hret _ (.inl rfl) a w' hf.df ⟨_, _, Res.of2 rfl ⟨_, hf.get _ _ rfl, run_loadA (hs.blk (i := 0) rfl) ta131 ts131 (vI_all _) (vI_len _)⟩ (RV.t hf rfl), hs.ext, rfl⟩
theorem cipher_quarter.calls {X : Nat → Prop} {M : Heap} {w : World} {b : Nat} {p : (Vector Int 16)} {i0 : Int} {i1 : Int} {i2 : Int} {i3 : Int} (hs : St X M w M (lt [.blk b (.cells (vI .u32 p).toArray 131 (0, 0))]) w) (h00 : 0 ≤ i0) (h01 : i0 < (16 : Int)) (h10 : 0 ≤ i1) (h11 : i1 < (16 : Int)) (h20 : 0 ≤ i2) (h21 : i2 < (16 : Int)) (h30 : 0 ≤ i3) (h31 : i3 < (16 : Int)) (r : (Vector Int 16)) (H : cipher_quarter p i0 i1 i2 i3 = some r) :
  Calls Tryd.prog 134 [(ptr b (0 + (i0).toNat)), (ptr b (0 + (i1).toNat)), (ptr b (0 + (i2).toNat)), (ptr b (0 + (i3).toNat))].toArray w (PostI X M w fun M' x v => v = .tuple #[] ∧ x = .blk b (.cells (vI .u32 r).toArray 131 (0, 0))) := by
 refine enterI 80 [(0, (ptr b (0 + (i0).toNat))), (1, (ptr b (0 + (i1).toNat))), (2, (ptr b (0 + (i2).toNat))), (3, (ptr b (0 + (i3).toNat)))] Tryd.func134 rfl rfl rfl hs ?_
 clear hs
 intro Q hret
 unfold cipher_quarter at H
 refine c_seq fun K1 hK1 => ?_
 refine c_split2 6 (by kernel_rfl) (by kernel_rfl) (by kernel_rfl) (by kernel_rfl) rfl ?_
 intro K2 hK2
 refine d_drawP [([], [0]), ([(0, 8)], []), ([(1, 9)], []), ([], [1]), ([(3, 11)], []), ([(4, 12)], [])] [vq (ptr b (0 + (i0).toNat)), vq (ptr b (0 + (i0).toNat)), vq (.int .u32 (rd p.toList i0)), vq (ptr b (0 + (i1).toNat)), vq (ptr b (0 + (i1).toNat)), vq (.int .u32 (rd p.toList i1))] (by kernel_rfl) (by kernel_rfl) ?_ (aT ?_ (aT ?_ (aT ?_ (aT ?_ (aT ?_ (aT ?_ AllT.nil)))))) ?_
 ·exact (mC (mC (mC (mC (mC (mC MonoA.nil))))))
 ·intro a w' _ _ hd hs
  exact pv (hd.fr.add (hd.base 0 _ rfl rfl)) hs rfl (fun hf hs => r_move (hf.ev rfl)) rfl
 ·intro a w' _ _ hd hs
  exact pv (hd.fr.add (hd.val 0 8 _ rfl rfl)) hs rfl (fun hf hs => r_nilCheck (hf.ev rfl)) rfl
 ·intro a w' _ _ hd hs
  exact pv (hd.fr.add (hd.val 1 9 _ rfl rfl)) hs rfl (fun hf hs => r_load1 ta70 (hf.ev rfl) (hs.blk (i := 0) rfl) (vI_get0 h00 h01)) rfl
 ·intro a w' _ _ hd hs
  exact pv (hd.fr.add (hd.base 1 _ rfl rfl)) hs rfl (fun hf hs => r_move (hf.ev rfl)) rfl
 ·intro a w' _ _ hd hs
  exact pv (hd.fr.add (hd.val 3 11 _ rfl rfl)) hs rfl (fun hf hs => r_nilCheck (hf.ev rfl)) rfl
 ·intro a w' _ _ hd hs
  exact pv (hd.fr.add (hd.val 4 12 _ rfl rfl)) hs rfl (fun hf hs => r_load1 ta70 (hf.ev rfl) (hs.blk (i := 0) rfl) (vI_get0 h10 h11)) rfl
 intro a w' M19 l20 hdf hsz hb hv hs
 have e21 := hv 0 8 _ rfl rfl
 have e22 := hv 2 10 _ rfl rfl
 have e23 := hv 5 13 _ rfl rfl
 refine n_of (c := (Cx.mk Tryd.prog 80 X M w)) (l := [(0, (ptr b (0 + (i0).toNat))), (1, (ptr b (0 + (i1).toNat))), (2, (ptr b (0 + (i2).toNat))), (3, (ptr b (0 + (i3).toNat))), (8, (ptr b (0 + (i0).toNat))), (10, (.int .u32 (rd p.toList i0))), (13, (.int .u32 (rd p.toList i1)))]) ?_ ((((((((Fr.start hdf hsz).add e23).add e22).add e21).add (hb 3 _ rfl rfl)).add (hb 2 _ rfl rfl)).add (hb 1 _ rfl rfl)).add (hb 0 _ rfl rfl)) hs
 clear hdf hsz hb hv hs e21 e22 e23
 refine n_id (hK2 _ _ _ ?_)
 refine v_add rfl rfl rfl ?_
 refine wv rfl (fun hf hs => r_nilCheck (hf.ev rfl)) ?_
 refine w_store (i := 0) (vs := [(.int .u32 (IntKind.u32.wrap ((rd p.toList i0) + (rd p.toList i1))))]) (A' := vI .u32 (vs p i0 (IntKind.u32.wrap ((rd p.toList i0) + (rd p.toList i1))))) trivial rfl rfl rfl rfl ts70 rfl (one1 rfl) (idx_le h00 h01 (vI_len _) (by decide)) (vI_set0 h00 h01) ?_
 refine w_nil (hK1 _ _ _ ?_)
 refine c_seq fun K24 hK24 => ?_
 refine c_split2 9 (by kernel_rfl) (by kernel_rfl) (by kernel_rfl) (by kernel_rfl) rfl ?_
 intro K25 hK25
 obtain ⟨t51, e56, H⟩ := bnd H
 refine d_drawP [([], [3]), ([], [3]), ([(1, 17)], []), ([(2, 18)], []), ([], [0]), ([(4, 20)], []), ([(5, 21)], []), ([(3, 19), (6, 22)], []), ([(7, 23)], [])] [vq (ptr b (0 + (i3).toNat)), vq (ptr b (0 + (i3).toNat)), vq (ptr b (0 + (i3).toNat)), vq (.int .u32 (rd (vs p i0 (IntKind.u32.wrap ((rd p.toList i0) + (rd p.toList i1)))).toList i3)), vq (ptr b (0 + (i0).toNat)), vq (ptr b (0 + (i0).toNat)), vq (.int .u32 (rd (vs p i0 (IntKind.u32.wrap ((rd p.toList i0) + (rd p.toList i1)))).toList i0)), vq (.int .u32 (bits .xor .u32 (rd (vs p i0 (IntKind.u32.wrap ((rd p.toList i0) + (rd p.toList i1)))).toList i3) (rd (vs p i0 (IntKind.u32.wrap ((rd p.toList i0) + (rd p.toList i1)))).toList i0))), vq (.int .u32 t51)] (by kernel_rfl) (by kernel_rfl) ?_ (aT ?_ (aT ?_ (aT ?_ (aT ?_ (aT ?_ (aT ?_ (aT ?_ (aT ?_ (aT ?_ AllT.nil))))))))) ?_
 ·exact (mC (mC (mC (mC (mC (mC (mC (mC (mC MonoA.nil)))))))))
 ·intro a w' _ _ hd hs
  exact pv (hd.fr.add (hd.base 3 _ rfl rfl)) hs rfl (fun hf hs => r_move (hf.ev rfl)) rfl
 ·intro a w' _ _ hd hs
  exact pv (hd.fr.add (hd.base 3 _ rfl rfl)) hs rfl (fun hf hs => r_move (hf.ev rfl)) rfl
 ·intro a w' _ _ hd hs
  exact pv (hd.fr.add (hd.val 1 17 _ rfl rfl)) hs rfl (fun hf hs => r_nilCheck (hf.ev rfl)) rfl
 ·intro a w' _ _ hd hs
  exact pv (hd.fr.add (hd.val 2 18 _ rfl rfl)) hs rfl (fun hf hs => r_load1 ta70 (hf.ev rfl) (hs.blk (i := 0) rfl) (vI_get0 h30 h31)) rfl
 ·intro a w' _ _ hd hs
  exact pv (hd.fr.add (hd.base 0 _ rfl rfl)) hs rfl (fun hf hs => r_move (hf.ev rfl)) rfl
 ·intro a w' _ _ hd hs
  exact pv (hd.fr.add (hd.val 4 20 _ rfl rfl)) hs rfl (fun hf hs => r_nilCheck (hf.ev rfl)) rfl
 ·intro a w' _ _ hd hs
  exact pv (hd.fr.add (hd.val 5 21 _ rfl rfl)) hs rfl (fun hf hs => r_load1 ta70 (hf.ev rfl) (hs.blk (i := 0) rfl) (vI_get0 h00 h01)) rfl
 ·intro a w' _ _ hd hs
  exact pv ((hd.fr.add (hd.val 6 22 _ rfl rfl)).add (hd.val 3 19 _ rfl rfl)) hs rfl (fun hf hs => r_xor (hf.ev rfl) (hf.ev rfl)) rfl
 ·intro a w' _ _ hd hs
  have e50 := hd.val 7 23 _ rfl rfl
  refine OP.ofW (l := [(23, (.int .u32 (bits .xor .u32 (rd (vs p i0 (IntKind.u32.wrap ((rd p.toList i0) + (rd p.toList i1)))).toList i3) (rd (vs p i0 (IntKind.u32.wrap ((rd p.toList i0) + (rd p.toList i1)))).toList i0))))]) (hd.fr.add e50) hs rfl ?_
  refine w_call cf139 trivial rfl rfl (fun w hs => bits_RotateLeft32.calls hs (bits .xor .u32 (rd (vs p i0 (IntKind.u32.wrap ((rd p.toList i0) + (rd p.toList i1)))).toList i3) (rd (vs p i0 (IntKind.u32.wrap ((rd p.toList i0) + (rd p.toList i1)))).toList i0)) (16 : Int) _ e56) ?_
  rintro _ M53 l54 rfl
  exact w_nil fun a w' hf hs => ⟨rfl, hf.df, _, l54, hs, hf.get _ _ rfl⟩
 intro a w' M57 l58 hdf hsz hb hv hs
 have e59 := hv 0 16 _ rfl rfl
 have e60 := hv 8 24 _ rfl rfl
 refine n_of (c := (Cx.mk Tryd.prog 80 X M w)) (l := [(0, (ptr b (0 + (i0).toNat))), (1, (ptr b (0 + (i1).toNat))), (2, (ptr b (0 + (i2).toNat))), (3, (ptr b (0 + (i3).toNat))), (16, (ptr b (0 + (i3).toNat))), (24, (.int .u32 t51))]) ?_ (((((((Fr.start hdf hsz).add e60).add e59).add (hb 3 _ rfl rfl)).add (hb 2 _ rfl rfl)).add (hb 1 _ rfl rfl)).add (hb 0 _ rfl rfl)) hs
 clear hdf hsz hb hv hs e59 e60
 refine n_id (hK25 _ _ _ ?_)
 refine wv rfl (fun hf hs => r_nilCheck (hf.ev rfl)) ?_
 refine w_store (i := 0) (vs := [(.int .u32 t51)]) (A' := vI .u32 (vs (vs p i0 (IntKind.u32.wrap ((rd p.toList i0) + (rd p.toList i1)))) i3 t51)) trivial rfl rfl rfl rfl ts70 rfl (one1 rfl) (idx_le h30 h31 (vI_len _) (by decide)) (vI_set0 h30 h31) ?_
 refine w_nil (hK24 _ _ _ ?_)
 refine c_seq fun K61 hK61 => ?_
 refine c_split2 6 (by kernel_rfl) (by kernel_rfl) (by kernel_rfl) (by kernel_rfl) rfl ?_
 intro K62 hK62
 refine d_drawP [([], [2]), ([(0, 26)], []), ([(1, 27)], []), ([], [3]), ([(3, 29)], []), ([(4, 30)], [])] [vq (ptr b (0 + (i2).toNat)), vq (ptr b (0 + (i2).toNat)), vq (.int .u32 (rd (vs (vs p i0 (IntKind.u32.wrap ((rd p.toList i0) + (rd p.toList i1)))) i3 t51).toList i2)), vq (ptr b (0 + (i3).toNat)), vq (ptr b (0 + (i3).toNat)), vq (.int .u32 (rd (vs (vs p i0 (IntKind.u32.wrap ((rd p.toList i0) + (rd p.toList i1)))) i3 t51).toList i3))] (by kernel_rfl) (by kernel_rfl) ?_ (aT ?_ (aT ?_ (aT ?_ (aT ?_ (aT ?_ (aT ?_ AllT.nil)))))) ?_
 ·exact (mC (mC (mC (mC (mC (mC MonoA.nil))))))
 ·intro a w' _ _ hd hs
  exact pv (hd.fr.add (hd.base 2 _ rfl rfl)) hs rfl (fun hf hs => r_move (hf.ev rfl)) rfl
 ·intro a w' _ _ hd hs
  exact pv (hd.fr.add (hd.val 0 26 _ rfl rfl)) hs rfl (fun hf hs => r_nilCheck (hf.ev rfl)) rfl
 ·intro a w' _ _ hd hs
  exact pv (hd.fr.add (hd.val 1 27 _ rfl rfl)) hs rfl (fun hf hs => r_load1 ta70 (hf.ev rfl) (hs.blk (i := 0) rfl) (vI_get0 h20 h21)) rfl
 ·intro a w' _ _ hd hs
  exact pv (hd.fr.add (hd.base 3 _ rfl rfl)) hs rfl (fun hf hs => r_move (hf.ev rfl)) rfl
 ·intro a w' _ _ hd hs
  exact pv (hd.fr.add (hd.val 3 29 _ rfl rfl)) hs rfl (fun hf hs => r_nilCheck (hf.ev rfl)) rfl
 ·intro a w' _ _ hd hs
  exact pv (hd.fr.add (hd.val 4 30 _ rfl rfl)) hs rfl (fun hf hs => r_load1 ta70 (hf.ev rfl) (hs.blk (i := 0) rfl) (vI_get0 h30 h31)) rfl
 intro a w' M79 l80 hdf hsz hb hv hs
 have e81 := hv 0 26 _ rfl rfl
 have e82 := hv 2 28 _ rfl rfl
 have e83 := hv 5 31 _ rfl rfl
 refine n_of (c := (Cx.mk Tryd.prog 80 X M w)) (l := [(0, (ptr b (0 + (i0).toNat))), (1, (ptr b (0 + (i1).toNat))), (2, (ptr b (0 + (i2).toNat))), (3, (ptr b (0 + (i3).toNat))), (26, (ptr b (0 + (i2).toNat))), (28, (.int .u32 (rd (vs (vs p i0 (IntKind.u32.wrap ((rd p.toList i0) + (rd p.toList i1)))) i3 t51).toList i2))), (31, (.int .u32 (rd (vs (vs p i0 (IntKind.u32.wrap ((rd p.toList i0) + (rd p.toList i1)))) i3 t51).toList i3)))]) ?_ ((((((((Fr.start hdf hsz).add e83).add e82).add e81).add (hb 3 _ rfl rfl)).add (hb 2 _ rfl rfl)).add (hb 1 _ rfl rfl)).add (hb 0 _ rfl rfl)) hs
 clear hdf hsz hb hv hs e81 e82 e83
 refine n_id (hK62 _ _ _ ?_)
 refine v_add rfl rfl rfl ?_
 refine wv rfl (fun hf hs => r_nilCheck (hf.ev rfl)) ?_
 obtain ⟨z84, e85, H⟩ := bnd H
 have e86 := some_r e85
 refine w_store (i := 0) (vs := [(.int .u32 (IntKind.u32.wrap ((rd (vs (vs p i0 (IntKind.u32.wrap ((rd p.toList i0) + (rd p.toList i1)))) i3 t51).toList i2) + (rd (vs (vs p i0 (IntKind.u32.wrap ((rd p.toList i0) + (rd p.toList i1)))) i3 t51).toList i3))))]) (A' := vI .u32 z84) trivial rfl rfl rfl rfl ts70 rfl (one1 rfl) (idx_le h20 h21 (vI_len _) (by decide)) (by rw [← e86]; exact (vI_set0 h20 h21)) ?_
 clear e85 e86
 refine w_nil (hK61 _ _ _ ?_)
 refine c_seq fun K87 hK87 => ?_
 refine c_split2 9 (by kernel_rfl) (by kernel_rfl) (by kernel_rfl) (by kernel_rfl) rfl ?_
 intro K88 hK88
 obtain ⟨t114, e119, H⟩ := bnd H
 refine d_drawP [([], [1]), ([], [1]), ([(1, 35)], []), ([(2, 36)], []), ([], [2]), ([(4, 38)], []), ([(5, 39)], []), ([(3, 37), (6, 40)], []), ([(7, 41)], [])] [vq (ptr b (0 + (i1).toNat)), vq (ptr b (0 + (i1).toNat)), vq (ptr b (0 + (i1).toNat)), vq (.int .u32 (rd z84.toList i1)), vq (ptr b (0 + (i2).toNat)), vq (ptr b (0 + (i2).toNat)), vq (.int .u32 (rd z84.toList i2)), vq (.int .u32 (bits .xor .u32 (rd z84.toList i1) (rd z84.toList i2))), vq (.int .u32 t114)] (by kernel_rfl) (by kernel_rfl) ?_ (aT ?_ (aT ?_ (aT ?_ (aT ?_ (aT ?_ (aT ?_ (aT ?_ (aT ?_ (aT ?_ AllT.nil))))))))) ?_
 ·exact (mC (mC (mC (mC (mC (mC (mC (mC (mC MonoA.nil)))))))))
 ·intro a w' _ _ hd hs
  exact pv (hd.fr.add (hd.base 1 _ rfl rfl)) hs rfl (fun hf hs => r_move (hf.ev rfl)) rfl
 ·intro a w' _ _ hd hs
  exact pv (hd.fr.add (hd.base 1 _ rfl rfl)) hs rfl (fun hf hs => r_move (hf.ev rfl)) rfl
 ·intro a w' _ _ hd hs
  exact pv (hd.fr.add (hd.val 1 35 _ rfl rfl)) hs rfl (fun hf hs => r_nilCheck (hf.ev rfl)) rfl
 ·intro a w' _ _ hd hs
  exact pv (hd.fr.add (hd.val 2 36 _ rfl rfl)) hs rfl (fun hf hs => r_load1 ta70 (hf.ev rfl) (hs.blk (i := 0) rfl) (vI_get0 h10 h11)) rfl
 ·intro a w' _ _ hd hs
  exact pv (hd.fr.add (hd.base 2 _ rfl rfl)) hs rfl (fun hf hs => r_move (hf.ev rfl)) rfl
 ·intro a w' _ _ hd hs
  exact pv (hd.fr.add (hd.val 4 38 _ rfl rfl)) hs rfl (fun hf hs => r_nilCheck (hf.ev rfl)) rfl
 ·intro a w' _ _ hd hs
  exact pv (hd.fr.add (hd.val 5 39 _ rfl rfl)) hs rfl (fun hf hs => r_load1 ta70 (hf.ev rfl) (hs.blk (i := 0) rfl) (vI_get0 h20 h21)) rfl
 ·intro a w' _ _ hd hs
  exact pv ((hd.fr.add (hd.val 6 40 _ rfl rfl)).add (hd.val 3 37 _ rfl rfl)) hs rfl (fun hf hs => r_xor (hf.ev rfl) (hf.ev rfl)) rfl
 ·intro a w' _ _ hd hs
  have e113 := hd.val 7 41 _ rfl rfl
  refine OP.ofW (l := [(41, (.int .u32 (bits .xor .u32 (rd z84.toList i1) (rd z84.toList i2))))]) (hd.fr.add e113) hs rfl ?_
  refine w_call cf139 trivial rfl rfl (fun w hs => bits_RotateLeft32.calls hs (bits .xor .u32 (rd z84.toList i1) (rd z84.toList i2)) (12 : Int) _ e119) ?_
  rintro _ M116 l117 rfl
  exact w_nil fun a w' hf hs => ⟨rfl, hf.df, _, l117, hs, hf.get _ _ rfl⟩
 intro a w' M120 l121 hdf hsz hb hv hs
 have e122 := hv 0 34 _ rfl rfl
 have e123 := hv 8 42 _ rfl rfl
 refine n_of (c := (Cx.mk Tryd.prog 80 X M w)) (l := [(0, (ptr b (0 + (i0).toNat))), (1, (ptr b (0 + (i1).toNat))), (2, (ptr b (0 + (i2).toNat))), (3, (ptr b (0 + (i3).toNat))), (34, (ptr b (0 + (i1).toNat))), (42, (.int .u32 t114))]) ?_ (((((((Fr.start hdf hsz).add e123).add e122).add (hb 3 _ rfl rfl)).add (hb 2 _ rfl rfl)).add (hb 1 _ rfl rfl)).add (hb 0 _ rfl rfl)) hs
 clear hdf hsz hb hv hs e122 e123
 refine n_id (hK88 _ _ _ ?_)
 refine wv rfl (fun hf hs => r_nilCheck (hf.ev rfl)) ?_
 refine w_store (i := 0) (vs := [(.int .u32 t114)]) (A' := vI .u32 (vs z84 i1 t114)) trivial rfl rfl rfl rfl ts70 rfl (one1 rfl) (idx_le h10 h11 (vI_len _) (by decide)) (vI_set0 h10 h11) ?_
 refine w_nil (hK87 _ _ _ ?_)
 refine c_seq fun K124 hK124 => ?_
 refine c_split2 6 (by kernel_rfl) (by kernel_rfl) (by kernel_rfl) (by kernel_rfl) rfl ?_
 intro K125 hK125
 refine d_drawP [([], [0]), ([(0, 44)], []), ([(1, 45)], []), ([], [1]), ([(3, 47)], []), ([(4, 48)], [])] [vq (ptr b (0 + (i0).toNat)), vq (ptr b (0 + (i0).toNat)), vq (.int .u32 (rd (vs z84 i1 t114).toList i0)), vq (ptr b (0 + (i1).toNat)), vq (ptr b (0 + (i1).toNat)), vq (.int .u32 (rd (vs z84 i1 t114).toList i1))] (by kernel_rfl) (by kernel_rfl) ?_ (aT ?_ (aT ?_ (aT ?_ (aT ?_ (aT ?_ (aT ?_ AllT.nil)))))) ?_
 ·exact (mC (mC (mC (mC (mC (mC MonoA.nil))))))
 ·intro a w' _ _ hd hs
  exact pv (hd.fr.add (hd.base 0 _ rfl rfl)) hs rfl (fun hf hs => r_move (hf.ev rfl)) rfl
 ·intro a w' _ _ hd hs
  exact pv (hd.fr.add (hd.val 0 44 _ rfl rfl)) hs rfl (fun hf hs => r_nilCheck (hf.ev rfl)) rfl
 ·intro a w' _ _ hd hs
  exact pv (hd.fr.add (hd.val 1 45 _ rfl rfl)) hs rfl (fun hf hs => r_load1 ta70 (hf.ev rfl) (hs.blk (i := 0) rfl) (vI_get0 h00 h01)) rfl
 ·intro a w' _ _ hd hs
  exact pv (hd.fr.add (hd.base 1 _ rfl rfl)) hs rfl (fun hf hs => r_move (hf.ev rfl)) rfl
 ·intro a w' _ _ hd hs
  exact pv (hd.fr.add (hd.val 3 47 _ rfl rfl)) hs rfl (fun hf hs => r_nilCheck (hf.ev rfl)) rfl
 ·intro a w' _ _ hd hs
  exact pv (hd.fr.add (hd.val 4 48 _ rfl rfl)) hs rfl (fun hf hs => r_load1 ta70 (hf.ev rfl) (hs.blk (i := 0) rfl) (vI_get0 h10 h11)) rfl
 intro a w' M142 l143 hdf hsz hb hv hs
 have e144 := hv 0 44 _ rfl rfl
 have e145 := hv 2 46 _ rfl rfl
 have e146 := hv 5 49 _ rfl rfl
 refine n_of (c := (Cx.mk Tryd.prog 80 X M w)) (l := [(0, (ptr b (0 + (i0).toNat))), (1, (ptr b (0 + (i1).toNat))), (2, (ptr b (0 + (i2).toNat))), (3, (ptr b (0 + (i3).toNat))), (44, (ptr b (0 + (i0).toNat))), (46, (.int .u32 (rd (vs z84 i1 t114).toList i0))), (49, (.int .u32 (rd (vs z84 i1 t114).toList i1)))]) ?_ ((((((((Fr.start hdf hsz).add e146).add e145).add e144).add (hb 3 _ rfl rfl)).add (hb 2 _ rfl rfl)).add (hb 1 _ rfl rfl)).add (hb 0 _ rfl rfl)) hs
 clear hdf hsz hb hv hs e144 e145 e146
 refine n_id (hK125 _ _ _ ?_)
 refine v_add rfl rfl rfl ?_
 refine wv rfl (fun hf hs => r_nilCheck (hf.ev rfl)) ?_
 refine w_store (i := 0) (vs := [(.int .u32 (IntKind.u32.wrap ((rd (vs z84 i1 t114).toList i0) + (rd (vs z84 i1 t114).toList i1))))]) (A' := vI .u32 (vs (vs z84 i1 t114) i0 (IntKind.u32.wrap ((rd (vs z84 i1 t114).toList i0) + (rd (vs z84 i1 t114).toList i1))))) trivial rfl rfl rfl rfl ts70 rfl (one1 rfl) (idx_le h00 h01 (vI_len _) (by decide)) (vI_set0 h00 h01) ?_
 refine w_nil (hK124 _ _ _ ?_)
 refine c_seq fun K147 hK147 => ?_
 refine c_split2 9 (by kernel_rfl) (by kernel_rfl) (by kernel_rfl) (by kernel_rfl) rfl ?_
 intro K148 hK148
 obtain ⟨t174, e179, H⟩ := bnd H
 refine d_drawP [([], [3]), ([], [3]), ([(1, 53)], []), ([(2, 54)], []), ([], [0]), ([(4, 56)], []), ([(5, 57)], []), ([(3, 55), (6, 58)], []), ([(7, 59)], [])] [vq (ptr b (0 + (i3).toNat)), vq (ptr b (0 + (i3).toNat)), vq (ptr b (0 + (i3).toNat)), vq (.int .u32 (rd (vs (vs z84 i1 t114) i0 (IntKind.u32.wrap ((rd (vs z84 i1 t114).toList i0) + (rd (vs z84 i1 t114).toList i1)))).toList i3)), vq (ptr b (0 + (i0).toNat)), vq (ptr b (0 + (i0).toNat)), vq (.int .u32 (rd (vs (vs z84 i1 t114) i0 (IntKind.u32.wrap ((rd (vs z84 i1 t114).toList i0) + (rd (vs z84 i1 t114).toList i1)))).toList i0)), vq (.int .u32 (bits .xor .u32 (rd (vs (vs z84 i1 t114) i0 (IntKind.u32.wrap ((rd (vs z84 i1 t114).toList i0) + (rd (vs z84 i1 t114).toList i1)))).toList i3) (rd (vs (vs z84 i1 t114) i0 (IntKind.u32.wrap ((rd (vs z84 i1 t114).toList i0) + (rd (vs z84 i1 t114).toList i1)))).toList i0))), vq (.int .u32 t174)] (by kernel_rfl) (by kernel_rfl) ?_ (aT ?_ (aT ?_ (aT ?_ (aT ?_ (aT ?_ (aT ?_ (aT ?_ (aT ?_ (aT ?_ AllT.nil))))))))) ?_
 ·exact (mC (mC (mC (mC (mC (mC (mC (mC (mC MonoA.nil)))))))))
 ·intro a w' _ _ hd hs
  exact pv (hd.fr.add (hd.base 3 _ rfl rfl)) hs rfl (fun hf hs => r_move (hf.ev rfl)) rfl
 ·intro a w' _ _ hd hs
  exact pv (hd.fr.add (hd.base 3 _ rfl rfl)) hs rfl (fun hf hs => r_move (hf.ev rfl)) rfl
 ·intro a w' _ _ hd hs
  exact pv (hd.fr.add (hd.val 1 53 _ rfl rfl)) hs rfl (fun hf hs => r_nilCheck (hf.ev rfl)) rfl
 ·intro a w' _ _ hd hs
  exact pv (hd.fr.add (hd.val 2 54 _ rfl rfl)) hs rfl (fun hf hs => r_load1 ta70 (hf.ev rfl) (hs.blk (i := 0) rfl) (vI_get0 h30 h31)) rfl
 ·intro a w' _ _ hd hs
  exact pv (hd.fr.add (hd.base 0 _ rfl rfl)) hs rfl (fun hf hs => r_move (hf.ev rfl)) rfl
 ·intro a w' _ _ hd hs
  exact pv (hd.fr.add (hd.val 4 56 _ rfl rfl)) hs rfl (fun hf hs => r_nilCheck (hf.ev rfl)) rfl
 ·intro a w' _ _ hd hs
  exact pv (hd.fr.add (hd.val 5 57 _ rfl rfl)) hs rfl (fun hf hs => r_load1 ta70 (hf.ev rfl) (hs.blk (i := 0) rfl) (vI_get0 h00 h01)) rfl
 ·intro a w' _ _ hd hs
  exact pv ((hd.fr.add (hd.val 6 58 _ rfl rfl)).add (hd.val 3 55 _ rfl rfl)) hs rfl (fun hf hs => r_xor (hf.ev rfl) (hf.ev rfl)) rfl
 ·intro a w' _ _ hd hs
  have e173 := hd.val 7 59 _ rfl rfl
  refine OP.ofW (l := [(59, (.int .u32 (bits .xor .u32 (rd (vs (vs z84 i1 t114) i0 (IntKind.u32.wrap ((rd (vs z84 i1 t114).toList i0) + (rd (vs z84 i1 t114).toList i1)))).toList i3) (rd (vs (vs z84 i1 t114) i0 (IntKind.u32.wrap ((rd (vs z84 i1 t114).toList i0) + (rd (vs z84 i1 t114).toList i1)))).toList i0))))]) (hd.fr.add e173) hs rfl ?_
  refine w_call cf139 trivial rfl rfl (fun w hs => bits_RotateLeft32.calls hs (bits .xor .u32 (rd (vs (vs z84 i1 t114) i0 (IntKind.u32.wrap ((rd (vs z84 i1 t114).toList i0) + (rd (vs z84 i1 t114).toList i1)))).toList i3) (rd (vs (vs z84 i1 t114) i0 (IntKind.u32.wrap ((rd (vs z84 i1 t114).toList i0) + (rd (vs z84 i1 t114).toList i1)))).toList i0)) (8 : Int) _ e179) ?_
  rintro _ M176 l177 rfl
  exact w_nil fun a w' hf hs => ⟨rfl, hf.df, _, l177, hs, hf.get _ _ rfl⟩
 intro a w' M180 l181 hdf hsz hb hv hs
 have e182 := hv 0 52 _ rfl rfl
 have e183 := hv 8 60 _ rfl rfl
 refine n_of (c := (Cx.mk Tryd.prog 80 X M w)) (l := [(1, (ptr b (0 + (i1).toNat))), (2, (ptr b (0 + (i2).toNat))), (3, (ptr b (0 + (i3).toNat))), (52, (ptr b (0 + (i3).toNat))), (60, (.int .u32 t174))]) ?_ ((((((Fr.start hdf hsz).add e183).add e182).add (hb 3 _ rfl rfl)).add (hb 2 _ rfl rfl)).add (hb 1 _ rfl rfl)) hs
 clear hdf hsz hb hv hs e182 e183
 refine n_id (hK148 _ _ _ ?_)
 refine wv rfl (fun hf hs => r_nilCheck (hf.ev rfl)) ?_
 refine w_store (i := 0) (vs := [(.int .u32 t174)]) (A' := vI .u32 (vs (vs (vs z84 i1 t114) i0 (IntKind.u32.wrap ((rd (vs z84 i1 t114).toList i0) + (rd (vs z84 i1 t114).toList i1)))) i3 t174)) trivial rfl rfl rfl rfl ts70 rfl (one1 rfl) (idx_le h30 h31 (vI_len _) (by decide)) (vI_set0 h30 h31) ?_
 refine w_nil (hK147 _ _ _ ?_)
 refine c_seq fun K184 hK184 => ?_
 refine c_split2 6 (by kernel_rfl) (by kernel_rfl) (by kernel_rfl) (by kernel_rfl) rfl ?_
 intro K185 hK185
 refine d_drawP [([], [2]), ([(0, 62)], []), ([(1, 63)], []), ([], [3]), ([(3, 65)], []), ([(4, 66)], [])] [vq (ptr b (0 + (i2).toNat)), vq (ptr b (0 + (i2).toNat)), vq (.int .u32 (rd (vs (vs (vs z84 i1 t114) i0 (IntKind.u32.wrap ((rd (vs z84 i1 t114).toList i0) + (rd (vs z84 i1 t114).toList i1)))) i3 t174).toList i2)), vq (ptr b (0 + (i3).toNat)), vq (ptr b (0 + (i3).toNat)), vq (.int .u32 (rd (vs (vs (vs z84 i1 t114) i0 (IntKind.u32.wrap ((rd (vs z84 i1 t114).toList i0) + (rd (vs z84 i1 t114).toList i1)))) i3 t174).toList i3))] (by kernel_rfl) (by kernel_rfl) ?_ (aT ?_ (aT ?_ (aT ?_ (aT ?_ (aT ?_ (aT ?_ AllT.nil)))))) ?_
 ·exact (mC (mC (mC (mC (mC (mC MonoA.nil))))))
 ·intro a w' _ _ hd hs
  exact pv (hd.fr.add (hd.base 2 _ rfl rfl)) hs rfl (fun hf hs => r_move (hf.ev rfl)) rfl
 ·intro a w' _ _ hd hs
  exact pv (hd.fr.add (hd.val 0 62 _ rfl rfl)) hs rfl (fun hf hs => r_nilCheck (hf.ev rfl)) rfl
 ·intro a w' _ _ hd hs
  exact pv (hd.fr.add (hd.val 1 63 _ rfl rfl)) hs rfl (fun hf hs => r_load1 ta70 (hf.ev rfl) (hs.blk (i := 0) rfl) (vI_get0 h20 h21)) rfl
 ·intro a w' _ _ hd hs
  exact pv (hd.fr.add (hd.base 3 _ rfl rfl)) hs rfl (fun hf hs => r_move (hf.ev rfl)) rfl
 ·intro a w' _ _ hd hs
  exact pv (hd.fr.add (hd.val 3 65 _ rfl rfl)) hs rfl (fun hf hs => r_nilCheck (hf.ev rfl)) rfl
 ·intro a w' _ _ hd hs
  exact pv (hd.fr.add (hd.val 4 66 _ rfl rfl)) hs rfl (fun hf hs => r_load1 ta70 (hf.ev rfl) (hs.blk (i := 0) rfl) (vI_get0 h30 h31)) rfl
 intro a w' M202 l203 hdf hsz hb hv hs
 have e204 := hv 0 62 _ rfl rfl
 have e205 := hv 2 64 _ rfl rfl
 have e206 := hv 5 67 _ rfl rfl
 refine n_of (c := (Cx.mk Tryd.prog 80 X M w)) (l := [(1, (ptr b (0 + (i1).toNat))), (2, (ptr b (0 + (i2).toNat))), (62, (ptr b (0 + (i2).toNat))), (64, (.int .u32 (rd (vs (vs (vs z84 i1 t114) i0 (IntKind.u32.wrap ((rd (vs z84 i1 t114).toList i0) + (rd (vs z84 i1 t114).toList i1)))) i3 t174).toList i2))), (67, (.int .u32 (rd (vs (vs (vs z84 i1 t114) i0 (IntKind.u32.wrap ((rd (vs z84 i1 t114).toList i0) + (rd (vs z84 i1 t114).toList i1)))) i3 t174).toList i3)))]) ?_ ((((((Fr.start hdf hsz).add e206).add e205).add e204).add (hb 2 _ rfl rfl)).add (hb 1 _ rfl rfl)) hs
 clear hdf hsz hb hv hs e204 e205 e206
 refine n_id (hK185 _ _ _ ?_)
 refine v_add rfl rfl rfl ?_
 refine wv rfl (fun hf hs => r_nilCheck (hf.ev rfl)) ?_
 obtain ⟨z207, e208, H⟩ := bnd H
 have e209 := some_r e208
 refine w_store (i := 0) (vs := [(.int .u32 (IntKind.u32.wrap ((rd (vs (vs (vs z84 i1 t114) i0 (IntKind.u32.wrap ((rd (vs z84 i1 t114).toList i0) + (rd (vs z84 i1 t114).toList i1)))) i3 t174).toList i2) + (rd (vs (vs (vs z84 i1 t114) i0 (IntKind.u32.wrap ((rd (vs z84 i1 t114).toList i0) + (rd (vs z84 i1 t114).toList i1)))) i3 t174).toList i3))))]) (A' := vI .u32 z207) trivial rfl rfl rfl rfl ts70 rfl (one1 rfl) (idx_le h20 h21 (vI_len _) (by decide)) (by rw [← e209]; exact (vI_set0 h20 h21)) ?_
 clear e208 e209
 refine w_nil (hK184 _ _ _ ?_)
 refine c_split2 9 (by kernel_rfl) (by kernel_rfl) (by kernel_rfl) (by kernel_rfl) rfl ?_
 intro K210 hK210
 obtain ⟨t236, e241, H⟩ := bnd H
 refine d_drawP [([], [1]), ([], [1]), ([(1, 71)], []), ([(2, 72)], []), ([], [2]), ([(4, 74)], []), ([(5, 75)], []), ([(3, 73), (6, 76)], []), ([(7, 77)], [])] [vq (ptr b (0 + (i1).toNat)), vq (ptr b (0 + (i1).toNat)), vq (ptr b (0 + (i1).toNat)), vq (.int .u32 (rd z207.toList i1)), vq (ptr b (0 + (i2).toNat)), vq (ptr b (0 + (i2).toNat)), vq (.int .u32 (rd z207.toList i2)), vq (.int .u32 (bits .xor .u32 (rd z207.toList i1) (rd z207.toList i2))), vq (.int .u32 t236)] (by kernel_rfl) (by kernel_rfl) ?_ (aT ?_ (aT ?_ (aT ?_ (aT ?_ (aT ?_ (aT ?_ (aT ?_ (aT ?_ (aT ?_ AllT.nil))))))))) ?_
 ·exact (mC (mC (mC (mC (mC (mC (mC (mC (mC MonoA.nil)))))))))
 ·intro a w' _ _ hd hs
  exact pv (hd.fr.add (hd.base 1 _ rfl rfl)) hs rfl (fun hf hs => r_move (hf.ev rfl)) rfl
 ·intro a w' _ _ hd hs
  exact pv (hd.fr.add (hd.base 1 _ rfl rfl)) hs rfl (fun hf hs => r_move (hf.ev rfl)) rfl
 ·intro a w' _ _ hd hs
  exact pv (hd.fr.add (hd.val 1 71 _ rfl rfl)) hs rfl (fun hf hs => r_nilCheck (hf.ev rfl)) rfl
 ·intro a w' _ _ hd hs
  exact pv (hd.fr.add (hd.val 2 72 _ rfl rfl)) hs rfl (fun hf hs => r_load1 ta70 (hf.ev rfl) (hs.blk (i := 0) rfl) (vI_get0 h10 h11)) rfl
 ·intro a w' _ _ hd hs
  exact pv (hd.fr.add (hd.base 2 _ rfl rfl)) hs rfl (fun hf hs => r_move (hf.ev rfl)) rfl
 ·intro a w' _ _ hd hs
  exact pv (hd.fr.add (hd.val 4 74 _ rfl rfl)) hs rfl (fun hf hs => r_nilCheck (hf.ev rfl)) rfl
 ·intro a w' _ _ hd hs
  exact pv (hd.fr.add (hd.val 5 75 _ rfl rfl)) hs rfl (fun hf hs => r_load1 ta70 (hf.ev rfl) (hs.blk (i := 0) rfl) (vI_get0 h20 h21)) rfl
 ·intro a w' _ _ hd hs
  exact pv ((hd.fr.add (hd.val 6 76 _ rfl rfl)).add (hd.val 3 73 _ rfl rfl)) hs rfl (fun hf hs => r_xor (hf.ev rfl) (hf.ev rfl)) rfl
 ·intro a w' _ _ hd hs
  have e235 := hd.val 7 77 _ rfl rfl
  refine OP.ofW (l := [(77, (.int .u32 (bits .xor .u32 (rd z207.toList i1) (rd z207.toList i2))))]) (hd.fr.add e235) hs rfl ?_
  refine w_call cf139 trivial rfl rfl (fun w hs => bits_RotateLeft32.calls hs (bits .xor .u32 (rd z207.toList i1) (rd z207.toList i2)) (7 : Int) _ e241) ?_
  rintro _ M238 l239 rfl
  exact w_nil fun a w' hf hs => ⟨rfl, hf.df, _, l239, hs, hf.get _ _ rfl⟩
 intro a w' M242 l243 hdf hsz hb hv hs
 have e244 := hv 0 70 _ rfl rfl
 have e245 := hv 8 78 _ rfl rfl
 refine n_of (c := (Cx.mk Tryd.prog 80 X M w)) (l := [(70, (ptr b (0 + (i1).toNat))), (78, (.int .u32 t236))]) ?_ (((Fr.start hdf hsz).add e245).add e244) hs
 clear hdf hsz hb hv hs e244 e245
 refine n_id (hK210 _ _ _ ?_)
 refine wv rfl (fun hf hs => r_nilCheck (hf.ev rfl)) ?_
 refine w_store (i := 0) (vs := [(.int .u32 t236)]) (A' := vI .u32 (vs z207 i1 t236)) trivial rfl rfl rfl rfl ts70 rfl (one1 rfl) (idx_le h10 h11 (vI_len _) (by decide)) (vI_set0 h10 h11) ?_
 obtain rfl := some_r H
 exact w_nil fun a w' hf hs => hret _ (.inr rfl) a w' hf.df ⟨_, _, _, Res.of0 rfl, hs.sel [0] (by decide) rfl, rfl, rfl⟩
end Go.Cu
