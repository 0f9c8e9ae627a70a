/- Plain laws on the pure functions; no program is named. -/
import Derived.Test.YtakfalfggmgcfaaDoorD8
set_option linter.unusedVariables false
set_option linter.unusedSimpArgs false
/-! Plain laws: one block of the cipher, made and specified. -/
namespace Go.Cu
def wrd (s : List UInt8) (i : Nat) : Int := sbyte s ((4 * i : Nat) : Int) + 256 * sbyte s ((4 * i + 1 : Nat) : Int) + 65536 * sbyte s ((4 * i + 2 : Nat) : Int) + 16777216 * sbyte s ((4 * i + 3 : Nat) : Int)
theorem sbyte_nat (s : List UInt8) (i : Int) : ∃ b : Nat, b < 256 ∧ sbyte s i = (b : Int) := by
  unfold sbyte
  exact ⟨_, UInt8.toNat_lt _, rfl⟩
theorem get_ok (s : List UInt8) (h : 4 ≤ s.length) : cipher_get s = some (wrd s 0) := by
  unfold cipher_get wrd
  rw [grd_b (by omega), grd_b (by omega), grd_b (by omega), grd_b (by omega)]
  obtain ⟨b0, l0, e0⟩ := sbyte_nat s 0
  obtain ⟨b1, l1, e1⟩ := sbyte_nat s 1
  obtain ⟨b2, l2, e2⟩ := sbyte_nat s 2
  obtain ⟨b3, l3, e3⟩ := sbyte_nat s 3
  show some _ = some (sbyte s 0 + 256 * sbyte s 1 + 65536 * sbyte s 2 + 16777216 * sbyte s 3)
  rw [e0, e1, e2, e3]
  rw [wrap32_id (n := (b0 : Int)) (by omega) (by omega), wrap32_id (n := (b1 : Int)) (by omega) (by omega), wrap32_id (n := (b2 : Int)) (by omega) (by omega), wrap32_id (n := (b3 : Int)) (by omega) (by omega)]
  rw [show (24 : Int) = ((24 : Nat) : Int) from rfl, show (16 : Int) = ((16 : Nat) : Int) from rfl, show (8 : Int) = ((8 : Nat) : Int) from rfl, shl32 (by decide) (by omega), shl32 (by decide) (by omega), shl32 (by decide) (by omega)]
  rw [bits_or_nat (by omega) (by omega), Nat.or_comm, or_add 8 (by omega), bits_or_nat (by omega) (by omega), Nat.or_comm, or_add 16 (by omega), bits_or_nat (by omega) (by omega), Nat.or_comm, or_add 24 (by omega)]
  congr 1; omega
theorem word_ok (s : List UInt8) (h : 4 ≤ s.length) : ref03_word s = some (wrd s 0) := by
  unfold ref03_word wrd
  rw [grd_b (by omega), grd_b (by omega), grd_b (by omega), grd_b (by omega)]
  obtain ⟨b0, l0, e0⟩ := sbyte_nat s 0
  obtain ⟨b1, l1, e1⟩ := sbyte_nat s 1
  obtain ⟨b2, l2, e2⟩ := sbyte_nat s 2
  obtain ⟨b3, l3, e3⟩ := sbyte_nat s 3
  show some _ = some (sbyte s 0 + 256 * sbyte s 1 + 65536 * sbyte s 2 + 16777216 * sbyte s 3)
  rw [e0, e1, e2, e3]
  rw [wrap32_id (n := (b0 : Int)) (by omega) (by omega), wrap32_id (n := (b1 : Int)) (by omega) (by omega), wrap32_id (n := (b2 : Int)) (by omega) (by omega), wrap32_id (n := (b3 : Int)) (by omega) (by omega)]
  rw [show (24 : Int) = ((24 : Nat) : Int) from rfl, show (16 : Int) = ((16 : Nat) : Int) from rfl, show (8 : Int) = ((8 : Nat) : Int) from rfl, shl32 (by decide) (by omega), shl32 (by decide) (by omega), shl32 (by decide) (by omega)]
  rw [wrap32_id (n := (b0 : Int) + ((b1 * 2 ^ 8 : Nat) : Int)) (by omega) (by omega), wrap32_id (n := (b0 : Int) + ((b1 * 2 ^ 8 : Nat) : Int) + ((b2 * 2 ^ 16 : Nat) : Int)) (by omega) (by omega), wrap32_id (by omega) (by omega)]
  congr 1; omega
theorem wrd_drop (s : List UInt8) (i : Nat) : wrd (s.drop (4 * i)) 0 = wrd s i := by
  have z : ∀ j : Nat, sbyte (s.drop (4 * i)) (j : Int) = sbyte s ((4 * i + j : Nat) : Int) := by
    intro j
    simp only [sbyte, Int.toNat_natCast, List.getD, List.getElem?_drop]
  unfold wrd
  rw [z, z, z, z]; rfl
def keyI (key : List UInt8) (i : Nat) (s : Vector Int 16) : Vector Int 16 := vs s (4 + (i : Int)) (wrd key i)
def nonI (n : List UInt8) (i : Nat) (s : Vector Int 16) : Vector Int 16 := vs s (13 + (i : Int)) (wrd n i)
def stS (key : List UInt8) (c : Int) (n : List UInt8) : Vector Int 16 :=
  upF (nonI n) 0 3 (upF (keyI key) 0 8 #v[1634760805, 857760878, 2036477234, 1797285236, 0, 0, 0, 0, 0, 0, 0, 0, c, 0, 0, 0])
theorem State_ok (key : List UInt8) (c : Int) (n : List UInt8) (hk : key.length = 32) (hn : n.length = 12) : cipher_State key c n = some (stS key c n, 0) := by
  have h3 : ∀ s, cipher_State.j3 n s = some (upF (nonI n) 0 3 s, 0) := by
    intro s
    unfold cipher_State.j3
    refine (loop_up (step := cipher_State.l2 n) (fun o i => (o, i)) (nonI n) (fun o => (o, 0)) 3 (fun _ _ => True) ?_ ?_ 3 0 s rfl trivial).1
    · intro i s hi _
      refine ⟨?_, trivial⟩
      have e1 : ((n.take (n.length : Int).toNat).drop (4 * (i : Int)).toNat) = n.drop (4 * i) := by
        rw [show (4 * (i : Int)).toNat = 4 * i by omega]; simp
      unfold cipher_State.l2
      simp only [wrap_id (n := 4 * (i : Int)) (by omega) (by omega), wrap_id (n := 13 + (i : Int)) (by omega) (by omega), wrap_id (n := (i : Int) + 1) (by omega) (by omega), e1]
      rw [ite_t (by omega), grd_b (by omega), get_ok _ (by simp; omega), bind_s, grd_b (by omega), wrd_drop]
      rfl
    · intro s _
      unfold cipher_State.l2
      simp only []
      rw [ite_f (by omega)]; rfl
  unfold cipher_State
  rw [if_neg (by simp; omega), bind_s, if_neg (by simp; omega)]
  refine (loop_up (step := cipher_State.l4 key n) (fun o i => (o, i)) (keyI key) (fun o => (upF (nonI n) 0 3 o, 0)) 8 (fun _ _ => True) ?_ ?_ 8 0 _ rfl trivial).1
  · intro i s hi _
    refine ⟨?_, trivial⟩
    have e1 : ((key.take (key.length : Int).toNat).drop (4 * (i : Int)).toNat) = key.drop (4 * i) := by
      rw [show (4 * (i : Int)).toNat = 4 * i by omega]; simp
    unfold cipher_State.l4
    simp only [wrap_id (n := 4 * (i : Int)) (by omega) (by omega), wrap_id (n := 4 + (i : Int)) (by omega) (by omega), wrap_id (n := (i : Int) + 1) (by omega) (by omega), e1]
    rw [ite_t (by omega), grd_b (by omega), get_ok _ (by simp; omega), bind_s, grd_b (by omega), wrd_drop]
    rfl
  · intro s _
    unfold cipher_State.l4
    simp only []
    rw [ite_f (by omega), h3]; rfl
theorem vs_comm {α : Type} {n : Nat} (v : Vector α n) (i j : Int) (x y : α) (h : i.toNat ≠ j.toNat) : vs (vs v i x) j y = vs (vs v j y) i x := by
  apply Vector.toList_inj.1
  rw [vs_toList, vs_toList, vs_toList, vs_toList, List.set_comm _ _ h]
theorem key_comm (key : List UInt8) (c : Int) : ∀ (m k : Nat) (s : Vector Int 16), k + m ≤ 8 → vs (upF (keyI key) k m s) 12 c = upF (keyI key) k m (vs s 12 c)
  | 0, _, _, _ => rfl
  | m + 1, k, s, h => by
    rw [upF, upF, key_comm key c m (k + 1) _ (by omega)]
    unfold keyI
    rw [vs_comm _ _ _ _ _ (by omega)]
theorem ref_State_ok (key : List UInt8) (c : Int) (n : List UInt8) (hk : key.length = 32) (hn : n.length = 12) : ref03_State key c n = some (stS key c n, 0) := by
  have h3 : ∀ s, ref03_State.j3 n s c = some (upF (nonI n) 0 3 (vs s 12 c), 0) := by
    intro s
    unfold ref03_State.j3
    refine (loop_up (step := ref03_State.l2 n) (fun o i => (o, i)) (nonI n) (fun o => (o, 0)) 3 (fun _ _ => True) ?_ ?_ 3 0 _ rfl trivial).1
    · intro i s hi _
      refine ⟨?_, trivial⟩
      have e1 : ((n.take (n.length : Int).toNat).drop (4 * (i : Int)).toNat) = n.drop (4 * i) := by
        rw [show (4 * (i : Int)).toNat = 4 * i by omega]; simp
      unfold ref03_State.l2
      simp only [wrap_id (n := 4 * (i : Int)) (by omega) (by omega), wrap_id (n := 13 + (i : Int)) (by omega) (by omega), wrap_id (n := (i : Int) + 1) (by omega) (by omega), e1]
      rw [ite_t (by omega), grd_b (by omega), word_ok _ (by simp; omega), bind_s, grd_b (by omega), wrd_drop]
      rfl
    · intro s _
      unfold ref03_State.l2
      simp only []
      rw [ite_f (by omega)]; rfl
  unfold ref03_State
  rw [if_neg (by simp; omega), bind_s, if_neg (by simp; omega), bind_s]
  refine (loop_up (step := ref03_State.l4 key n c) (fun o i => (o, i)) (keyI key) (fun o => (upF (nonI n) 0 3 (vs o 12 c), 0)) 8 (fun _ _ => True) ?_ ?_ 8 0 _ rfl trivial).1.trans ?_
  · intro i s hi _
    refine ⟨?_, trivial⟩
    have e1 : ((key.take (key.length : Int).toNat).drop (4 * (i : Int)).toNat) = key.drop (4 * i) := by
      rw [show (4 * (i : Int)).toNat = 4 * i by omega]; simp
    unfold ref03_State.l4
    simp only [wrap_id (n := 4 * (i : Int)) (by omega) (by omega), wrap_id (n := 4 + (i : Int)) (by omega) (by omega), wrap_id (n := (i : Int) + 1) (by omega) (by omega), e1]
    rw [ite_t (by omega), grd_b (by omega), word_ok _ (by simp; omega), bind_s, grd_b (by omega), wrd_drop]
    rfl
  · intro s _
    unfold ref03_State.l4
    simp only []
    rw [ite_f (by omega), h3]; rfl
  · rw [key_comm _ _ _ _ _ (Nat.le_refl _)]; rfl
def qS (p : Vector Int 16) (a b c d : Int) : Vector Int 16 :=
  let p1 := vs p a (IntKind.u32.wrap (rd p.toList a + rd p.toList b))
  let t := rr (bits .xor .u32 (rd p1.toList d) (rd p1.toList a)) 16
  let z := vs (vs p1 d t) c (IntKind.u32.wrap (rd (vs p1 d t).toList c + rd (vs p1 d t).toList d))
  let t2 := rr (bits .xor .u32 (rd z.toList b) (rd z.toList c)) 20
  let p2 := vs (vs z b t2) a (IntKind.u32.wrap (rd (vs z b t2).toList a + rd (vs z b t2).toList b))
  let t3 := rr (bits .xor .u32 (rd p2.toList d) (rd p2.toList a)) 24
  let z2 := vs (vs p2 d t3) c (IntKind.u32.wrap (rd (vs p2 d t3).toList c + rd (vs p2 d t3).toList d))
  vs z2 b (rr (bits .xor .u32 (rd z2.toList b) (rd z2.toList c)) 25)
theorem quarter_ok (p : Vector Int 16) (a b c d : Int) : cipher_quarter p a b c d = some (qS p a b c d) := by
  unfold cipher_quarter
  rw [rotL16, bind_s, bind_s, rotL12, bind_s, rotL8, bind_s, bind_s, rotL7, bind_s]; rfl
theorem rotl_ok {x j k : Int} (h0 : 0 ≤ j) (h1 : j ≤ 32) (h : k = 32 - j) : ref03_rotl x j = some (rr x k) := by
  subst h
  unfold ref03_rotl
  rw [grd_b (by omega), wrap_id (by omega) (by omega), grd_b (by omega)]
  unfold rr
  rw [show 32 - (32 - j) = j by omega]
theorem ref_quarter_ok (p : Vector Int 16) (a b c d : Int) (ha : 0 ≤ a ∧ a < 16) (hb : 0 ≤ b ∧ b < 16) (hc : 0 ≤ c ∧ c < 16) (hd : 0 ≤ d ∧ d < 16) : ref03_quarter p a b c d = some (qS p a b c d) := by
  unfold ref03_quarter
  rw [grd_b ha, grd_b hb, grd_b ha, grd_b hd, grd_b ha, rotl_ok (k := 16) (by decide) (by decide) (by decide), bind_s, grd_b hd, grd_b hc, grd_b hd, grd_b hc, bind_s, grd_b hb, grd_b hc, rotl_ok (k := 20) (by decide) (by decide) (by decide), bind_s,
    grd_b hb, grd_b ha, grd_b hb, grd_b ha, grd_b hd, grd_b ha, rotl_ok (k := 24) (by decide) (by decide) (by decide), bind_s, grd_b hd, grd_b hc, grd_b hd, grd_b hc, bind_s, grd_b hb, grd_b hc, rotl_ok (k := 25) (by decide) (by decide) (by decide), bind_s, grd_b hb]
  rfl
end Go.Cu
