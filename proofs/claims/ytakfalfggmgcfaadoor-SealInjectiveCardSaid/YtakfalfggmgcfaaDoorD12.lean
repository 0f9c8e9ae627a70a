/- Plain laws on the pure functions; no program is named. -/
import Derived.Test.YtakfalfggmgcfaaDoorD11
set_option linter.unusedVariables false
set_option linter.unusedSimpArgs false
/-! Plain laws: bytes on the wire. -/
namespace Go.Cu
theorem xor8_0 {b : Nat} (hb : b < 256) : bits .xor .u8 (b : Int) 0 = (b : Int) := by
  unfold bits
  have e1 : (BitVec.ofInt IntKind.u8.bits (b : Int)).toNat = b := by
    show ((b : Int) % (2 ^ 8 : Nat)).toNat = b
    omega
  have e2 : (BitVec.ofInt IntKind.u8.bits (0 : Int)).toNat = 0 := rfl
  simp only [BitVec.toNat_xor, e1, e2, Nat.xor_zero]
  exact wrap8_id (by omega) (by omega)
theorem shr64 {x j : Nat} (hj : j ≤ 64) : shrI .u64 (x : Int) (j : Int) = ((x / 2 ^ j : Nat) : Int) := by
  unfold shrI
  have : min (j : Int).toNat IntKind.u64.bits = j := by
    show min (j : Int).toNat 64 = j
    omega
  rw [this]
  have e : (2 : Int) ^ j = ((2 ^ j : Nat) : Int) := by push_cast; rfl
  rw [e]
  exact Int.fdiv_eq_ediv_of_nonneg _ (Int.natCast_nonneg _)
def encS (n : Nat) : List Int := if n = 0 then [128] else if n < 256 then [129, (n : Int)] else [130, ((n / 256 : Nat) : Int), ((n % 256 : Nat) : Int)]
theorem encS_len (n : Nat) : (encS n).length ≤ 3 := by
  unfold encS
  split
  · simp
  · split <;> simp
theorem encS_isB (n : Nat) (h : n < 65536) : IsB (encS n) := by
  intro x hx
  unfold encS at hx
  split at hx
  · simp at hx; subst hx; decide
  · split at hx
    · simp at hx; rcases hx with rfl | rfl <;> omega
    · simp at hx; rcases hx with rfl | rfl | rfl <;> omega
theorem wire_l2 {x : Nat} {o : List Int} {i : Nat} (hi : i ≤ 1) (hl : o.length ≤ 4) :
    wire_Int.l2 (x : Int) 0 (o, (i : Int)) = some (.inl (o ++ [((x / 2 ^ (8 * i) % 256 : Nat) : Int)], (i : Int) - 1)) := by
  unfold wire_Int.l2
  simp only [wrap_id (n := 8 * (i : Int)) (by omega) (by omega), wrap_id (n := (i : Int) - 1) (by omega) (by omega)]
  have e : IntKind.u8.wrap (shrI .u64 (x : Int) (8 * (i : Int))) = ((x / 2 ^ (8 * i) % 256 : Nat) : Int) := by
    rw [show 8 * (i : Int) = ((8 * i : Nat) : Int) by omega, shr64 (by omega)]
    show (((x / 2 ^ (8 * i) : Nat) : Int) % (2 ^ 8 : Int)) = _
    omega
  rw [ite_t (by omega), grd_b (by omega), grd_b (by simp; omega), e, xor8_0 (by omega)]
theorem wire_l2_end {x : Int} {o : List Int} : wire_Int.l2 x 0 (o, -1) = some (.inr o) := by
  unfold wire_Int.l2
  simp only []
  rw [ite_f (by decide)]; rfl
theorem wire_l4 {x : Nat} {k : Nat} (hk : k ≤ 7) : wire_Int.l4 (x : Int) 0 ((k : Int) + 1) = if 0 < x / 2 ^ (8 * k) then (wire_Int.j3 (x : Int) 0 ((k : Int) + 1)).map Sum.inr else some (.inl (k : Int)) := by
  unfold wire_Int.l4
  simp only [show (k : Int) + 1 - 1 = (k : Int) by omega, wrap_id (n := (k : Int)) (by omega) (by omega), wrap_id (n := 8 * (k : Int)) (by omega) (by omega)]
  rw [ite_t (by omega), grd_b (by omega), show 8 * (k : Int) = ((8 * k : Nat) : Int) by omega, shr64 (by omega)]
  by_cases h : 0 < x / 2 ^ (8 * k)
  · rw [if_pos h, ite_t (by omega)]
  · rw [if_neg h, ite_f (by omega)]
theorem wire_Int_ok (n : Nat) (h : n < 65536) : wire_Int (n : Int) = some (encS n) := by
  unfold wire_Int
  rw [ite_f (by omega), wrap64_id (by omega) (by omega)]
  unfold wire_Int.j5
  have st : ∀ k : Nat, k ≤ 7 → n / 2 ^ (8 * k) = 0 → loopF (wire_Int.l4 (n : Int) 0) ((k : Int) + 1) = loopF (wire_Int.l4 (n : Int) 0) (k : Int) := by
    intro k hk hz
    apply loopF_next
    rw [wire_l4 hk, if_neg (by omega)]
  have hz : ∀ k, 2 ≤ k → n / 2 ^ (8 * k) = 0 := by
    intro k hk
    apply Nat.div_eq_of_lt
    calc n < 2 ^ 16 := h
      _ ≤ 2 ^ (8 * k) := Nat.pow_le_pow_right (by decide) (by omega)
  refine (st 7 (by omega) (hz 7 (by omega))).trans ((st 6 (by omega) (hz 6 (by omega))).trans ((st 5 (by omega) (hz 5 (by omega))).trans ((st 4 (by omega) (hz 4 (by omega))).trans ((st 3 (by omega) (hz 3 (by omega))).trans ((st 2 (by omega) (hz 2 (by omega))).trans ?_)))))
  by_cases h2 : 256 ≤ n
  · have e := wire_l4 (x := n) (k := 1) (by omega)
    rw [if_pos (by omega)] at e
    refine (loop_map e).trans ?_
    unfold wire_Int.j3
    have e0 : ([(bits .xor .u8 (IntKind.u8.wrap (IntKind.i64.wrap (128 + (((1 : Nat) : Int) + 1)))) 0)] : List Int) = [130] := by decide +kernel
    have e1 : IntKind.i64.wrap (((1 : Nat) : Int) + 1 - 1) = ((1 : Nat) : Int) := by decide +kernel
    rw [e0, e1]
    refine (loopF_next (wire_l2 (by omega) (by simp))).trans ?_
    rw [show ((1 : Nat) : Int) - 1 = ((0 : Nat) : Int) by rfl]
    refine (loopF_next (wire_l2 (by omega) (by simp))).trans ?_
    rw [show ((0 : Nat) : Int) - 1 = -1 by rfl]
    rw [loopF_done wire_l2_end]
    unfold encS
    rw [if_neg (by omega), if_neg (by omega)]
    have a1 : n / 2 ^ (8 * 1) % 256 = n / 256 := by omega
    have a2 : n / 2 ^ (8 * 0) % 256 = n % 256 := by omega
    rw [a1, a2]; rfl
  · refine (st 1 (by omega) (by omega)).trans ?_
    by_cases h1 : 0 < n
    · have e := wire_l4 (x := n) (k := 0) (by omega)
      rw [if_pos (by omega)] at e
      refine (loop_map e).trans ?_
      unfold wire_Int.j3
      have e0 : ([(bits .xor .u8 (IntKind.u8.wrap (IntKind.i64.wrap (128 + (((0 : Nat) : Int) + 1)))) 0)] : List Int) = [129] := by decide +kernel
      have e1 : IntKind.i64.wrap (((0 : Nat) : Int) + 1 - 1) = ((0 : Nat) : Int) := by decide +kernel
      rw [e0, e1]
      refine (loopF_next (wire_l2 (by omega) (by simp))).trans ?_
      rw [show ((0 : Nat) : Int) - 1 = -1 by rfl]
      rw [loopF_done wire_l2_end]
      unfold encS
      rw [if_neg (by omega), if_pos (by omega)]
      have a2 : n / 2 ^ (8 * 0) % 256 = n := by omega
      rw [a2]; rfl
    · obtain rfl : n = 0 := by omega
      refine (st 0 (by omega) (by omega)).trans ?_
      have e : wire_Int.l4 ((0 : Nat) : Int) 0 ((0 : Nat) : Int) = (wire_Int.j3 ((0 : Nat) : Int) 0 ((0 : Nat) : Int)).map Sum.inr := by
        unfold wire_Int.l4
        rw [ite_f (by decide)]
      refine (loop_map e).trans ?_
      unfold wire_Int.j3
      have e0 : ([(bits .xor .u8 (IntKind.u8.wrap (IntKind.i64.wrap (128 + ((0 : Nat) : Int)))) 0)] : List Int) = [128] := by decide +kernel
      have e1 : IntKind.i64.wrap (((0 : Nat) : Int) - 1) = -1 := by decide +kernel
      rw [e0, e1, loopF_done wire_l2_end]; rfl
theorem ref_l6 {p : Int} {o : List Int} {x : Nat} (h : 0 < x) (hx : x < 65536) (hl : o.length ≤ 4) : ref01_Int.l6 p (o, (x : Int)) = some (.inl (o ++ [((x % 256 : Nat) : Int)], ((x / 256 : Nat) : Int))) := by
  unfold ref01_Int.l6
  simp only []
  rw [ite_t (by omega), grd_b (by simp; omega), show Int.tmod (x : Int) 256 = ((x % 256 : Nat) : Int) from rfl, show Int.tdiv (x : Int) 256 = ((x / 256 : Nat) : Int) from rfl, wrap8_id (by omega) (by omega), wrap_id (by omega) (by omega)]
theorem ref_l6_end {p : Int} {o : List Int} : ref01_Int.l6 p (o, 0) = (ref01_Int.j5 p o).map Sum.inr := by
  unfold ref01_Int.l6
  simp only []
  rw [ite_f (by decide)]
theorem ref_l3 {p : Nat} {D o : List Int} {i : Nat} (hi : i < D.length) (hi4 : i ≤ 4) (hl : o.length ≤ 4) : ref01_Int.l3 D (p : Int) (o, (i : Int)) = some (.inl (o ++ [rd D (i : Int)], (i : Int) - 1)) := by
  unfold ref01_Int.l3 ref01_Int.j2
  simp only []
  simp only [wrap_id (n := (i : Int) - 1) (by omega) (by omega)]
  rw [ite_t (by omega), grd_b (by omega), ite_f (by omega), grd_b (by simp; omega)]
theorem ref_l3_end {p : Int} {D o : List Int} : ref01_Int.l3 D p (o, -1) = some (.inr o) := by
  unfold ref01_Int.l3
  simp only []
  rw [ite_f (by decide)]; rfl
theorem ref_j5 {p : Nat} {D : List Int} {c : Int} (m : Nat) (hD : D.length = m) (hm : m ≤ 2) (hc : IntKind.u8.wrap (IntKind.i64.wrap (128 + (m : Int))) = c) : ref01_Int.j5 (p : Int) D = ref01_Int.j4 D (p : Int) [c] := by
  unfold ref01_Int.j5
  rw [ite_t (by omega), grd_b (by simp), hD, hc]; rfl
theorem ref_Int_ok (n : Nat) (h : n < 65536) : ref01_Int (n : Int) = some (encS n) := by
  unfold ref01_Int
  rw [ite_f (by omega)]
  unfold ref01_Int.j7
  by_cases h2 : 256 ≤ n
  · refine (loopF_next (ref_l6 (by omega) h (by simp))).trans ((loopF_next (ref_l6 (by omega) (by omega) (by simp))).trans ?_)
    rw [show n / 256 / 256 = 0 by omega]
    refine (loop_map ref_l6_end).trans ?_
    refine (ref_j5 (c := 130) 2 (by simp) (by decide) (by decide +kernel)).trans ?_
    unfold ref01_Int.j4
    have e1 : IntKind.i64.wrap ((((([] : List Int) ++ [((n % 256 : Nat) : Int)]) ++ [((n / 256 % 256 : Nat) : Int)]).length : Int) - 1) = ((1 : Nat) : Int) := by
      simp only [List.nil_append, List.cons_append, List.length_cons, List.length_nil]; decide +kernel
    rw [e1]
    refine (loopF_next (ref_l3 (by simp) (by omega) (by simp))).trans ?_
    rw [show ((1 : Nat) : Int) - 1 = ((0 : Nat) : Int) by rfl]
    refine (loopF_next (ref_l3 (by simp) (by omega) (by simp))).trans ?_
    rw [show ((0 : Nat) : Int) - 1 = -1 by rfl, loopF_done ref_l3_end]
    unfold encS
    rw [if_neg (by omega), if_neg (by omega)]
    have a1 : n / 256 % 256 = n / 256 := by omega
    rw [a1]; rfl
  · by_cases h1 : 0 < n
    · refine (loopF_next (ref_l6 (by omega) h (by simp))).trans ?_
      rw [show n / 256 = 0 by omega]
      refine (loop_map ref_l6_end).trans ?_
      refine (ref_j5 (c := 129) 1 (by simp) (by decide) (by decide +kernel)).trans ?_
      unfold ref01_Int.j4
      have e1 : IntKind.i64.wrap (((([] : List Int) ++ [((n % 256 : Nat) : Int)]).length : Int) - 1) = ((0 : Nat) : Int) := by
        simp only [List.nil_append, List.length_cons, List.length_nil]; decide +kernel
      rw [e1]
      refine (loopF_next (ref_l3 (by simp) (by omega) (by simp))).trans ?_
      rw [show ((0 : Nat) : Int) - 1 = -1 by rfl, loopF_done ref_l3_end]
      unfold encS
      rw [if_neg (by omega), if_pos (by omega)]
      have a1 : n % 256 = n := by omega
      rw [a1]; rfl
    · obtain rfl : n = 0 := by omega
      refine (loop_map ref_l6_end).trans ?_
      refine (ref_j5 (p := 0) (c := 128) 0 (by simp) (by decide) (by decide +kernel)).trans ?_
      unfold ref01_Int.j4
      have e1 : IntKind.i64.wrap (((([] : List Int)).length : Int) - 1) = -1 := by decide +kernel
      rw [e1, loopF_done ref_l3_end]; rfl
def bytesS (s : List UInt8) : List UInt8 := intsB (encS s.length ++ bytesI s)
theorem wire_Bytes_ok (s : List UInt8) (h : s.length < 65536) : ∃ l, wire_Bytes s = some l ∧ intsB l = bytesS s := by
  refine ⟨encS s.length ++ bytesI s, ?_, rfl⟩
  unfold wire_Bytes
  have := encS_len s.length
  rw [wire_Int_ok _ h, bind_s, grd_b (by rw [bytesI_len]; omega)]
theorem ref_Bytes_ok (s : List UInt8) (h : s.length < 65536) : ∃ l, ref01_Bytes s = some l ∧ intsB l = bytesS s := by
  refine ⟨encS s.length ++ bytesI s, ?_, rfl⟩
  unfold ref01_Bytes
  have := encS_len s.length
  rw [ref_Int_ok _ h, bind_s, grd_b (by rw [bytesI_len]; omega)]
theorem bytesS_len (s : List UInt8) : (bytesS s).length ≤ s.length + 3 := by
  unfold bytesS
  have := encS_len s.length
  rw [intsB_len, List.length_append, bytesI_len]; omega
end Go.Cu
