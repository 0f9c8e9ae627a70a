/- Rules for walks over facts, for any program; no condition. -/
import Derived.Test.YtakfalfggmgcfaaDoorCu2
set_option linter.unusedSimpArgs false
set_option linter.unusedVariables false
/-! Pure operations: what they come to. -/
namespace Go.Cu

section pure
variable {P : Program} {w : World} {ρ : Operand → Value} {dst : Option Tmp} {ty : TypeId} {pos : String} {af : Array Edge} {gd : Option (Nat × Bool)}

theorem r_move {x : Operand} {v : Value} (h : ρ x = v) : (execOp ρ ⟨dst, .move x, ty, pos, af, gd⟩).run P w = .ok (.value v) w := by simp [execOp, h]
theorem r_assign {x : Operand} {v : Value} (h : ρ x = v) : (execOp ρ ⟨dst, .assign x, ty, pos, af, gd⟩).run P w = .ok (.value v) w := by simp [execOp, h]
theorem r_pick {x a b : Operand} {t : Bool} {v : Value} (h : ρ x = .bool t) (ha : t = true → ρ a = v) (hb : t = false → ρ b = v) :
    (execOp ρ ⟨dst, .pick x a b, ty, pos, af, gd⟩).run P w = .ok (.value v) w := by
  cases t <;> simp [execOp, h, asBool, ha, hb]
theorem r_pickT {x a b : Operand} {t : Bool} {v : Value} (h : ρ x = .bool t) (ht : t = true) (ha : ρ a = v) : (execOp ρ ⟨dst, .pick x a b, ty, pos, af, gd⟩).run P w = .ok (.value v) w :=
  r_pick h (fun _ => ha) (fun e => by rw [ht] at e; cases e)
theorem r_pickF {x a b : Operand} {t : Bool} {v : Value} (h : ρ x = .bool t) (ht : t = false) (hb : ρ b = v) : (execOp ρ ⟨dst, .pick x a b, ty, pos, af, gd⟩).run P w = .ok (.value v) w :=
  r_pick h (fun e => by rw [ht] at e; cases e) (fun _ => hb)
theorem r_extract {x : Operand} {i : Nat} {vs : Array Value} {v : Value} (h : ρ x = .tuple vs) (hv : vs[i]? = some v) :
    (execOp ρ ⟨dst, .extract x i, ty, pos, af, gd⟩).run P w = .ok (.value v) w := by simp [execOp, h, Instr.extract, hv]
theorem r_makeFunc {fn : Fn} {c : List Operand} {us : List Value} (hc : c.map ρ = us) :
    (execOp ρ ⟨dst, .makeFunc fn #[] c.toArray, ty, pos, af, gd⟩).run P w = .ok (.value (.func fn #[] us.toArray)) w := by simp [execOp, Instr.makeFunc, hc]
theorem r_nilCheck {x : Operand} {a : Addr} (h : ρ x = .pointer (some a)) : (execOp ρ ⟨dst, .nilCheck x, ty, pos, af, gd⟩).run P w = .ok (.value (.pointer (some a))) w := by
  simp [execOp, h]

/-! whole numbers -/
theorem r_lss {x y : Operand} {t t' : TypeId} {k : IntKind} {i j : Int} (hx : ρ x = .int k i) (hy : ρ y = .int k j) :
    (execOp ρ ⟨dst, .binOp .lss t x y t', ty, pos, af, gd⟩).run P w = .ok (.value (.bool (decide (i < j)))) w := by simp [execOp, hx, hy, eqGuard, binOp, Op.intCmp]
theorem r_leq {x y : Operand} {t t' : TypeId} {k : IntKind} {i j : Int} (hx : ρ x = .int k i) (hy : ρ y = .int k j) :
    (execOp ρ ⟨dst, .binOp .leq t x y t', ty, pos, af, gd⟩).run P w = .ok (.value (.bool (decide (i ≤ j)))) w := by simp [execOp, hx, hy, eqGuard, binOp, Op.intCmp]
theorem r_gtr {x y : Operand} {t t' : TypeId} {k : IntKind} {i j : Int} (hx : ρ x = .int k i) (hy : ρ y = .int k j) :
    (execOp ρ ⟨dst, .binOp .gtr t x y t', ty, pos, af, gd⟩).run P w = .ok (.value (.bool (decide (j < i)))) w := by simp [execOp, hx, hy, eqGuard, binOp, Op.intCmp]
theorem r_geq {x y : Operand} {t t' : TypeId} {k : IntKind} {i j : Int} (hx : ρ x = .int k i) (hy : ρ y = .int k j) :
    (execOp ρ ⟨dst, .binOp .geq t x y t', ty, pos, af, gd⟩).run P w = .ok (.value (.bool (decide (j ≤ i)))) w := by simp [execOp, hx, hy, eqGuard, binOp, Op.intCmp]
theorem r_eql {x y : Operand} {t t' : TypeId} {k : IntKind} {i j : Int} (hx : ρ x = .int k i) (hy : ρ y = .int k j) :
    (execOp ρ ⟨dst, .binOp .eql t x y t', ty, pos, af, gd⟩).run P w = .ok (.value (.bool (i == j))) w := by simp [execOp, hx, hy, eqGuard, binOp, Op.intCmp]
theorem r_neq {x y : Operand} {t t' : TypeId} {k : IntKind} {i j : Int} (hx : ρ x = .int k i) (hy : ρ y = .int k j) :
    (execOp ρ ⟨dst, .binOp .neq t x y t', ty, pos, af, gd⟩).run P w = .ok (.value (.bool (i != j))) w := by simp [execOp, hx, hy, eqGuard, binOp, Op.intCmp]
theorem r_add {x y : Operand} {t t' : TypeId} {k : IntKind} {i j : Int} (hx : ρ x = .int k i) (hy : ρ y = .int k j) :
    (execOp ρ ⟨dst, .binOp .add t x y t', ty, pos, af, gd⟩).run P w = .ok (.value (.int k (k.wrap (i + j)))) w := by simp [execOp, hx, hy, eqGuard, binOp, Op.intArith]
theorem r_sub {x y : Operand} {t t' : TypeId} {k : IntKind} {i j : Int} (hx : ρ x = .int k i) (hy : ρ y = .int k j) :
    (execOp ρ ⟨dst, .binOp .sub t x y t', ty, pos, af, gd⟩).run P w = .ok (.value (.int k (k.wrap (i - j)))) w := by simp [execOp, hx, hy, eqGuard, binOp, Op.intArith]
theorem r_mul {x y : Operand} {t t' : TypeId} {k : IntKind} {i j : Int} (hx : ρ x = .int k i) (hy : ρ y = .int k j) :
    (execOp ρ ⟨dst, .binOp .mul t x y t', ty, pos, af, gd⟩).run P w = .ok (.value (.int k (k.wrap (i * j)))) w := by simp [execOp, hx, hy, eqGuard, binOp, Op.intArith]
theorem r_quo {x y : Operand} {t t' : TypeId} {k : IntKind} {i j : Int} (hx : ρ x = .int k i) (hy : ρ y = .int k j) (hj : j ≠ 0) :
    (execOp ρ ⟨dst, .binOp .quo t x y t', ty, pos, af, gd⟩).run P w = .ok (.value (.int k (k.wrap (i.tdiv j)))) w := by simp [execOp, hx, hy, eqGuard, binOp, Op.intDiv, hj]
theorem r_rem {x y : Operand} {t t' : TypeId} {k : IntKind} {i j : Int} (hx : ρ x = .int k i) (hy : ρ y = .int k j) (hj : j ≠ 0) :
    (execOp ρ ⟨dst, .binOp .rem t x y t', ty, pos, af, gd⟩).run P w = .ok (.value (.int k (i.tmod j))) w := by simp [execOp, hx, hy, eqGuard, binOp, Op.intDiv, hj]
theorem r_and {x y : Operand} {t t' : TypeId} {k : IntKind} {i j : Int} (hx : ρ x = .int k i) (hy : ρ y = .int k j) :
    (execOp ρ ⟨dst, .binOp .and t x y t', ty, pos, af, gd⟩).run P w = .ok (.value (.int k (bits .and k i j))) w := by simp [execOp, hx, hy, eqGuard, binOp, intBits_and]
theorem r_or {x y : Operand} {t t' : TypeId} {k : IntKind} {i j : Int} (hx : ρ x = .int k i) (hy : ρ y = .int k j) :
    (execOp ρ ⟨dst, .binOp .or t x y t', ty, pos, af, gd⟩).run P w = .ok (.value (.int k (bits .or k i j))) w := by simp [execOp, hx, hy, eqGuard, binOp, intBits_or]
theorem r_xor {x y : Operand} {t t' : TypeId} {k : IntKind} {i j : Int} (hx : ρ x = .int k i) (hy : ρ y = .int k j) :
    (execOp ρ ⟨dst, .binOp .xor t x y t', ty, pos, af, gd⟩).run P w = .ok (.value (.int k (bits .xor k i j))) w := by simp [execOp, hx, hy, eqGuard, binOp, intBits_xor]
/-- 'x << y', 'x >> y' at a count that is not negative. -/
def shlI (k : IntKind) (i j : Int) : Int := k.wrap (i * 2 ^ (min j.toNat k.bits))
def shrI (k : IntKind) (i j : Int) : Int := i.fdiv (2 ^ (min j.toNat k.bits))
theorem r_shl {x y : Operand} {t t' : TypeId} {k k' : IntKind} {i j : Int} (hx : ρ x = .int k i) (hy : ρ y = .int k' j) (hj : ¬ j < 0) :
    (execOp ρ ⟨dst, .binOp .shl t x y t', ty, pos, af, gd⟩).run P w = .ok (.value (.int k (shlI k i j))) w := by simp [execOp, hx, hy, eqGuard, binOp, Op.shift, hj, shlI]
theorem r_shr {x y : Operand} {t t' : TypeId} {k k' : IntKind} {i j : Int} (hx : ρ x = .int k i) (hy : ρ y = .int k' j) (hj : ¬ j < 0) :
    (execOp ρ ⟨dst, .binOp .shr t x y t', ty, pos, af, gd⟩).run P w = .ok (.value (.int k (shrI k i j))) w := by simp [execOp, hx, hy, eqGuard, binOp, Op.shift, hj, shrI]
theorem r_not {x : Operand} {t : TypeId} {b : Bool} (hx : ρ x = .bool b) : (execOp ρ ⟨dst, .unOp .not t x, ty, pos, af, gd⟩).run P w = .ok (.value (.bool !b)) w := by
  simp [execOp, hx, Op.unary]
theorem r_neg {x : Operand} {t : TypeId} {k : IntKind} {i : Int} (hx : ρ x = .int k i) : (execOp ρ ⟨dst, .unOp .neg t x, ty, pos, af, gd⟩).run P w = .ok (.value (.int k (k.wrap (0 - i)))) w := by
  simp [execOp, hx, Op.unary, Op.intArith]
theorem r_com {x : Operand} {t : TypeId} {k : IntKind} {i : Int} (hx : ρ x = .int k i) :
    (execOp ρ ⟨dst, .unOp .xor t x, ty, pos, af, gd⟩).run P w = .ok (.value (.int k (bits .xor k (if k.signed then -1 else k.max) i))) w := by
  simp [execOp, hx, Op.unary, intBits_xor]
theorem r_conv {x : Operand} {s t : TypeId} {k k' : IntKind} {i : Int} {d : TypeDesc} (hs : P.underlying s = some d) (ht : P.underlying t = some (.int k)) (hx : ρ x = .int k' i) :
    (execOp ρ ⟨dst, .convert s t x, ty, pos, af, gd⟩).run P w = .ok (.value (.int k (k.wrap i))) w := by
  simp [execOp, hx, convert, run_underlying hs, run_underlying ht, Conv.intToInt]
/-! strings: lists of bytes -/
def str (s : List UInt8) : Value := .string ⟨s.toArray⟩
theorem size_str (s : List UInt8) : (ByteArray.mk s.toArray).size = s.length := by simp [ByteArray.size]
theorem r_seql {x y : Operand} {t t' : TypeId} {i j : List UInt8} (hx : ρ x = str i) (hy : ρ y = str j) :
    (execOp ρ ⟨dst, .binOp .eql t x y t', ty, pos, af, gd⟩).run P w = .ok (.value (.bool (i == j))) w := by
  simp [execOp, hx, hy, eqGuard, binOp, Op.stringOp, str]
theorem r_sneq {x y : Operand} {t t' : TypeId} {i j : List UInt8} (hx : ρ x = str i) (hy : ρ y = str j) :
    (execOp ρ ⟨dst, .binOp .neq t x y t', ty, pos, af, gd⟩).run P w = .ok (.value (.bool (!(i == j)))) w := by
  simp [execOp, hx, hy, eqGuard, binOp, Op.stringOp, str]
theorem r_sadd {x y : Operand} {t t' : TypeId} {i j : List UInt8} (hx : ρ x = str i) (hy : ρ y = str j) (hl : i.length + j.length ≤ 9223372036854775807) :
    (execOp ρ ⟨dst, .binOp .add t x y t', ty, pos, af, gd⟩).run P w = .ok (.value (str (i ++ j))) w := by
  have h2 : (ByteArray.mk i.toArray) ++ (ByteArray.mk j.toArray) = ByteArray.mk (i ++ j).toArray := by
    apply ByteArray.ext; simp
  have h3 : ¬ (((i.length + j.length : Nat) : Int) > IntKind.i64.max) := by
    have : IntKind.i64.max = 9223372036854775807 := by decide
    rw [this]; omega
  simp only [execOp, hx, hy, eqGuard, binOp, Op.stringOp, str, size_str]
  rw [if_neg h3]
  simp [h2]
theorem r_slen {x : Operand} {t : TypeId} {s : List UInt8} (ht : P.underlying t = some .string) (hx : ρ x = str s) :
    (execOp ρ ⟨dst, .call ⟨.builtin .len, #[x], #[t]⟩, ty, pos, af, gd⟩).run P w = .ok (.value (.int .i64 s.length)) w := by
  simp [execOp, hx, resolve, invoke, builtin, Builtin.len_, run_underlying ht, str, size_str, goInt]
theorem r_llen {x : Operand} {t e : TypeId} {a : Option Addr} {n c : Nat} (ht : P.underlying t = some (.slice e)) (hx : ρ x = .slice a n c) :
    (execOp ρ ⟨dst, .call ⟨.builtin .len, #[x], #[t]⟩, ty, pos, af, gd⟩).run P w = .ok (.value (.int .i64 n)) w := by
  simp [execOp, hx, resolve, invoke, builtin, Builtin.len_, run_underlying ht, goInt]
theorem r_min {x y : Operand} {t t' : TypeId} {k : IntKind} {i j : Int} (hx : ρ x = .int k i) (hy : ρ y = .int k j) :
    (execOp ρ ⟨dst, .call ⟨.builtin .min, #[x, y], #[t, t']⟩, ty, pos, af, gd⟩).run P w = .ok (.value (.int k (if j < i then j else i))) w := by
  simp [execOp, hx, hy, resolve, invoke, builtin, Builtin.min_, Builtin.min2]
/-- s[i] of a string, an array by value. -/
def sbyte (s : List UInt8) (i : Int) : Int := (s.getD i.toNat 0).toNat
theorem r_sidx {x y : Operand} {t : TypeId} {k : IntKind} {s : List UInt8} {i : Int} (ht : P.underlying t = some .string) (hx : ρ x = str s) (hy : ρ y = .int k i) (h0 : 0 ≤ i) (h1 : i < s.length) :
    (execOp ρ ⟨dst, .index t x y, ty, pos, af, gd⟩).run P w = .ok (.value (.int .u8 (sbyte s i))) w := by
  have hlt : i.toNat < s.length := by omega
  have he : (ByteArray.mk s.toArray)[i.toNat]? = some (s.getD i.toNat 0) := by
    rw [getElem?_pos _ _ (by simpa [ByteArray.size] using hlt)]
    congr 1
    show s.toArray[i.toNat] = _
    simp [List.getD, hlt]
  simp [execOp, hx, hy, Instr.index, asIntOf, run_underlying ht, str, h0, he, sbyte]
theorem r_sslice {x : Operand} {lo hi : Option Operand} {t : TypeId} {s : List UInt8} {l h : Int} (ht : P.underlying t = some .string) (hx : ρ x = str s)
    (hl : match lo with | none => l = 0 | some o => ∃ k, ρ o = .int k l) (hh : match hi with | none => h = s.length | some o => ∃ k, ρ o = .int k h)
    (h0 : 0 ≤ l) (h1 : l ≤ h) (h2 : h ≤ s.length) :
    (execOp ρ ⟨dst, .slice t x lo hi none, ty, pos, af, gd⟩).run P w = .ok (.value (str ((s.take h.toNat).drop l.toNat))) w := by
  have e : ByteArray.extract ⟨s.toArray⟩ l.toNat h.toNat = ⟨((s.take h.toNat).drop l.toNat).toArray⟩ := by
    apply ByteArray.ext
    simp [List.extract_toArray, List.extract_eq_take_drop, List.drop_take]
  obtain ⟨hn, rfl⟩ := Int.eq_ofNat_of_zero_le (show 0 ≤ h by omega)
  obtain ⟨ln, rfl⟩ := Int.eq_ofNat_of_zero_le h0
  have h3 : ((hn : Int) ≤ ((s.length : Nat) : Int)) := h2
  have m : ∀ {o : Option Operand} {z d : Int}, (match o with | none => z = d | some o => ∃ k, ρ o = .int k z) → (o = none ∧ z = d) ∨ ∃ p k, o = some p ∧ ρ p = .int k z := by
    intro o z d h
    cases o with
    | none => exact .inl ⟨rfl, h⟩
    | some p => obtain ⟨k, hk⟩ := h; exact .inr ⟨p, k, rfl, hk⟩
  rcases m hl with ⟨rfl, el⟩ | ⟨p, kp, rfl, hp⟩ <;> rcases m hh with ⟨rfl, eh⟩ | ⟨q, kq, rfl, hq⟩ <;>
    simp_all [execOp, Instr.sliceAt, Instr.slice, run_underlying ht, str, Instr.sliceBounds, Instr.sliceBound, asIntOf, size_str]
end pure
end Go.Cu
