/- Plain laws on the pure functions; no program is named. -/
import Derived.Test.YtakfalfggmgcfaaL0
set_option linter.unusedVariables false
set_option linter.unusedSimpArgs false
/-! Plain laws: the small functions. -/
namespace Go.Cu
def inB (n lo hi : Int) : Bool := decide (lo ≤ n) && decide (n ≤ hi)
def vK (k : Key) : Bool :=
  inB k.Type_ 0 31 && ((k.Value.length : Int) == 32) && (bits .andNot .i64 k.Uses 956 == 0) && inB k.Start 0 k.End && inB k.End 0 1099511627776 && inB k.Version 1 2147483647 && inB k.Parent 0 2147483647
theorem keys_within_eq (a b c : Int) : keys_within a b c = some (inB a b c) := by
  unfold keys_within inB
  by_cases h : b ≤ a <;> simp [h]
theorem ref27_within_eq (a b c : Int) : ref27_within a b c = some (inB a b c) := by
  unfold ref27_within inB
  by_cases h : b ≤ a <;> simp [h]
theorem keys_Valid_eq (k : Key) : keys_Valid k = some (vK k) := by
  unfold keys_Valid vK
  simp only [keys_within_eq, Option.bind_some]
  cases inB k.Type_ 0 31 <;> cases ((k.Value.length : Int) == 32) <;> cases (bits .andNot .i64 k.Uses 956 == 0) <;> cases inB k.Start 0 k.End <;> cases inB k.End 0 1099511627776 <;> cases inB k.Version 1 2147483647 <;> simp
/-- An int of Go's. -/
def wfI (n : Int) : Prop := -9223372036854775808 ≤ n ∧ n ≤ 9223372036854775807
theorem wrap_big {n : Int} (h0 : 9223372036854775808 ≤ n) (h1 : n < 18446744073709551616) : IntKind.i64.wrap n = n - 18446744073709551616 := by
  simp [IntKind.wrap, IntKind.signed, IntKind.bits]
  omega
theorem wrap_toNat (r : BitVec 64) : IntKind.i64.wrap (r.toNat : Int) = r.toInt := by
  have h := r.isLt
  by_cases h2 : 2 * r.toNat < 2 ^ 64
  · rw [wrap_id (by omega) (by omega), BitVec.toInt, if_pos h2]
  · rw [wrap_big (by omega) (by omega), BitVec.toInt, if_neg h2]
    omega
theorem toInt_ofInt {u : Int} (hu : wfI u) : (BitVec.ofInt 64 u).toInt = u := by
  obtain ⟨h0, h1⟩ := hu
  rw [BitVec.toInt_ofInt, Int.bmod_eq_of_le] <;> omega
theorem bits_same {u : Int} (hu : wfI u) : (bits .and .i64 u 956 == u) = (bits .andNot .i64 u 956 == 0) := by
  have e1 : bits .and .i64 u 956 = (BitVec.ofInt 64 u &&& BitVec.ofInt 64 956).toInt := wrap_toNat _
  have e2 : bits .andNot .i64 u 956 = (BitVec.ofInt 64 u &&& ~~~ BitVec.ofInt 64 956).toInt := wrap_toNat _
  have e3 : u = (BitVec.ofInt 64 u).toInt := (toInt_ofInt hu).symm
  rw [Bool.eq_iff_iff, beq_iff_eq, beq_iff_eq, e1, e2]
  generalize hx : BitVec.ofInt 64 u = x at e3
  rw [e3, show (0 : Int) = (0 : BitVec 64).toInt from rfl, BitVec.toInt_inj, BitVec.toInt_inj]
  generalize BitVec.ofInt 64 956 = m
  constructor
  · intro h
    apply BitVec.eq_of_getLsbD_eq
    intro i hi
    have := congrArg (fun y => y.getLsbD i) h
    simp only [BitVec.getLsbD_and] at this
    simp only [BitVec.getLsbD_and, BitVec.getLsbD_not, hi, decide_true, Bool.true_and]
    cases hx : x.getLsbD i <;> cases hm : m.getLsbD i <;> simp_all
  · intro h
    apply BitVec.eq_of_getLsbD_eq
    intro i hi
    have := congrArg (fun y => y.getLsbD i) h
    simp only [BitVec.getLsbD_and, BitVec.getLsbD_not, hi, decide_true, Bool.true_and] at this
    simp only [BitVec.getLsbD_and]
    cases hx : x.getLsbD i <;> cases hm : m.getLsbD i <;> simp_all
theorem ref27_Valid_eq {k : Key} (hu : wfI k.Uses) : ref27_Valid k = some (vK k) := by
  unfold ref27_Valid vK
  simp only [ref27_within_eq, Option.bind_some, bits_same hu]
  have e : (inB k.Start 0 1099511627776 && inB k.End k.Start 1099511627776) = (inB k.Start 0 k.End && inB k.End 0 1099511627776) := by
    unfold inB
    rw [Bool.eq_iff_iff]
    simp
    omega
  have e' : ∀ b : Bool, (inB k.Start 0 1099511627776 && (inB k.End k.Start 1099511627776 && b)) = (inB k.Start 0 k.End && (inB k.End 0 1099511627776 && b)) := by
    intro b; rw [← Bool.and_assoc, e, Bool.and_assoc]
  have e2 : ∀ b : Bool, (if inB k.Start 0 1099511627776 = true then (if inB k.End k.Start 1099511627776 = true then some b else some false) else some false) = some (inB k.Start 0 k.End && (inB k.End 0 1099511627776 && b)) := by
    intro b
    rw [← e']
    cases inB k.Start 0 1099511627776 <;> cases inB k.End k.Start 1099511627776 <;> rfl
  have e3 : (if inB k.Version 1 2147483647 = true then some (inB k.Parent 0 2147483647) else some false) = some (inB k.Version 1 2147483647 && inB k.Parent 0 2147483647) := by
    cases inB k.Version 1 2147483647 <;> rfl
  rw [e3, e2]
  cases inB k.Type_ 0 31 <;> cases ((k.Value.length : Int) == 32) <;> cases (bits .andNot .i64 k.Uses 956 == 0) <;> cases inB k.Start 0 k.End <;> cases inB k.End 0 1099511627776 <;> simp
end Go.Cu
