/- Rules for walks over facts, for any program; no condition. -/
import Derived.Test.YtakfalfggmgcfaaDoorCu24
set_option linter.unusedVariables false
set_option linter.unusedSimpArgs false
/-! Slices of strings, as the library's functions read them. -/
namespace Go.Cu
open Go
theorem rs_strs {M : Heap} {w : World} {v : Value} {l : List (List UInt8)} (h : RS FS M v l) (hM : Sub M w) : (v = .slice none 0 0 ∧ l = []) ∨
    ∃ bk o c, v = .slice (some ⟨bk, o, none⟩) l.length c ∧ l.length ≤ c ∧ bk < w.heap.size ∧ ∀ (j : Nat) x, l[j]? = some x → w.cell? ⟨bk, o + j, none⟩ = some (str x) := by
  rcases h with h | ⟨b, cap, pre, post, T, fr, rfl, h2, h3, h4⟩
  · exact .inl h
  · refine .inr ⟨b, pre.length, cap, rfl, h3, ?_, ?_⟩
    · have := hM _ _ h2
      exact (Array.getElem?_eq_some_iff.1 this).1
    · intro j x hx
      have hB : Blk w b (pre ++ (flat FS l ++ post)) T fr := hM _ _ h2
      rw [hB.cell]
      rw [List.getElem?_append_right (by omega), Nat.add_sub_cancel_left]
      have hat := flat_at FS l j x hx
      have e1 : FS.sz = 1 := rfl
      have e2 : FS.f x = [str x] := rfl
      rw [e1, e2, Nat.mul_one] at hat
      have hj : j < l.length := (List.getElem?_eq_some_iff.1 hx).1
      have hfl : (flat FS l).length = l.length := by rw [flat_length, e1, Nat.mul_one]
      rw [List.getElem?_append_left (by omega)]
      have := congrArg (fun z => z[0]?) hat
      simpa using this
theorem lib_join (p0 : List (List UInt8)) (p1 : List UInt8) : (p0.map (fun s => (⟨s.toArray⟩ : ByteArray))).map (·.data.toList) = p0 := by
  simp [Function.comp_def]
theorem vI_one {k : IntKind} {n : Nat} (v : Vector Int n) : ∀ u ∈ vI k v, u.oneCell' = true := FV.one k n v
theorem bytesI_len (s : List UInt8) : (bytesI s).length = s.length := by simp [bytesI]
theorem srcStrB {P : Program} {M : Heap} (s : List UInt8) : Src P M 1 (Cu.str s) (bytesI s).length (flat (FI .u8) (bytesI s)) := by rw [bytesI_len]; exact Src.str s
end Go.Cu
