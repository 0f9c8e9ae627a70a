/- Plain laws on the pure functions; no program is named. -/
import Derived.Test.YtakfalfggmgcfaaDoorD10
set_option linter.unusedVariables false
set_option linter.unusedSimpArgs false
/-! Plain laws: the cipher. -/
namespace Go.Cu
attribute [local irreducible] blkS bits
def xorB (key n t : List UInt8) (i : Nat) : Int := bits .xor .u8 (rd (bytesI t) (i : Int)) (sbyte (blkS key ((1 + i / 64 : Nat) : Int) n) ((i % 64 : Nat) : Int))
def xorS (key n t : List UInt8) : List UInt8 := intsB ((List.range' 0 t.length).map (xorB key n t))
theorem xorS_len (key n t : List UInt8) : (xorS key n t).length = t.length := by unfold xorS; rw [intsB_len]; simp
def xorF (key n : List UInt8) (i : Nat) (s : List Int × Int × List UInt8) : List Int × Int × List UInt8 :=
  if i % 64 = 0 then (wr s.1 i (bits .xor .u8 (rd s.1 i) (sbyte (blkS key s.2.1 n) ((i % 64 : Nat) : Int))), IntKind.u32.wrap (s.2.1 + 1), blkS key s.2.1 n)
  else (wr s.1 i (bits .xor .u8 (rd s.1 i) (sbyte s.2.2 ((i % 64 : Nat) : Int))), s.2.1, s.2.2)
theorem Xor_ok (key n t : List UInt8) (hk : key.length = 32) (hn : n.length = 12) (ht : t.length < 1073741824) : cipher_Xor key 1 n t = some (xorS key n t, 0) := by
  unfold cipher_Xor
  rw [State_ok _ _ _ hk hn, bind_s, if_neg (by simp)]
  have hbl : (bytesI t).length = t.length := bytesI_len t
  obtain ⟨h1, h2, _⟩ := loop_up (step := cipher_Xor.l3 t key n) (fun (s : List Int × Int × List UInt8) i => (s.1, s.2.1, s.2.2, i)) (xorF key n) (fun s => (intsB s.1, (0 : Int))) t.length
    (fun i s => s.1 = (List.range' 0 i).map (xorB key n t) ++ (bytesI t).drop i ∧ s.2.1 = ((1 + (i + 63) / 64 : Nat) : Int) ∧ (i % 64 ≠ 0 → s.2.2 = blkS key ((1 + i / 64 : Nat) : Int) n)) (by
      rintro i ⟨o, c, b⟩ hi ⟨ho, hc, hb⟩
      simp only at ho hc hb
      have hol : o.length = t.length := by rw [ho]; simp [hbl]; omega
      have hm64 : i % 64 < 64 := Nat.mod_lt _ (by decide)
      have hd : (bytesI t).drop i = (bytesI t)[i] :: (bytesI t).drop (i + 1) := List.drop_eq_getElem_cons (by omega)
      obtain ⟨A, hA⟩ : ∃ A, A = (List.range' 0 i).map (xorB key n t) := ⟨_, rfl⟩
      have hal : A.length = i := by rw [hA]; simp
      rw [← hA] at ho
      have hr : rd o (i : Int) = rd (bytesI t) (i : Int) := by
        rw [ho]
        simp only [rd, List.getD, Int.toNat_natCast]
        rw [List.getElem?_append_right (by omega), hal, Nat.sub_self, List.getElem?_drop, Nat.add_zero]
      have hset : ∀ x, x = xorB key n t i → wr o (i : Int) x = (List.range' 0 (i + 1)).map (xorB key n t) ++ (bytesI t).drop (i + 1) := by
        rintro x rfl
        unfold wr
        rw [ho, Int.toNat_natCast, List.set_append_right _ _ (by omega), hal, Nat.sub_self, hd, List.set_cons_zero, List.range'_concat, List.map_append, ← hA, List.append_assoc]; simp
      by_cases h : i % 64 = 0
      · have hc1 : c = ((1 + i / 64 : Nat) : Int) := by rw [hc]; congr 1; omega
        refine ⟨?_, ?_⟩
        · unfold cipher_Xor.l3 cipher_Xor.j2 xorF
          simp only [tmod64, wrap_id (n := (i : Int) + 1) (by omega) (by omega), if_pos h]
          rw [ite_t (by omega), if_pos (by simp [h]), Block_ok _ _ _ hk hn, bind_s, grd_b (by omega), grd_b (by rw [blkS_len]; omega), grd_b (by omega)]
        · unfold xorF
          rw [if_pos h]
          refine ⟨hset _ ?_, ?_, ?_⟩
          · show bits .xor .u8 (rd o (i : Int)) (sbyte (blkS key c n) ((i % 64 : Nat) : Int)) = _
            rw [hr, hc1]; unfold xorB; rfl
          · show IntKind.u32.wrap (c + 1) = _
            rw [hc, wrap32_id (by omega) (by omega)]; omega
          · intro _
            show blkS key c n = _
            have e : 1 + i / 64 = 1 + (i + 1) / 64 := by omega
            rw [hc1, e]
      · have hb := hb h
        refine ⟨?_, ?_⟩
        · unfold cipher_Xor.l3 cipher_Xor.j2 xorF
          simp only [tmod64, wrap_id (n := (i : Int) + 1) (by omega) (by omega), if_neg h]
          rw [ite_t (by omega), if_neg (by simp; omega), grd_b (by omega), grd_b (by rw [hb, blkS_len]; omega), grd_b (by omega)]
        · unfold xorF
          rw [if_neg h]
          refine ⟨hset _ ?_, ?_, ?_⟩
          · show bits .xor .u8 (rd o (i : Int)) (sbyte b ((i % 64 : Nat) : Int)) = _
            rw [hr, hb]; unfold xorB; rfl
          · show c = _
            rw [hc]; congr 1; omega
          · intro _
            show b = _
            have e : 1 + i / 64 = 1 + (i + 1) / 64 := by omega
            rw [hb, e]) (by
      rintro ⟨o, c, b⟩ _
      unfold cipher_Xor.l3
      simp only []
      rw [ite_f (by omega)]; rfl) t.length 0 (bytesI t, 1, []) (Nat.zero_add _) (by simp)
  refine h1.trans ?_
  rw [h2, List.drop_of_length_le (by omega), List.append_nil]; rfl
theorem ref_xor_loop (key n t : List UInt8) (hk : key.length = 32) (hn : n.length = 12) (ht : t.length < 1073741824) : ∀ (m q : Nat), t.length ≤ 64 * (q + m) → q ≤ 16777217 →
    loopF (ref03_Xor.l4 key n) ((List.range' 0 (min (64 * q) t.length)).map (xorB key n t), ((1 + q : Nat) : Int), t.drop (64 * q)) = some (xorS key n t, 0)
  | 0, q, h, hq => by
    rw [loopF_done]
    unfold ref03_Xor.l4
    simp only []
    rw [ite_f (by simp; omega), Nat.min_eq_right (by omega)]; rfl
  | m + 1, q, h, hq => by
    by_cases hd : t.length ≤ 64 * q
    · rw [loopF_done]
      unfold ref03_Xor.l4
      simp only []
      rw [ite_f (by simp; omega), Nat.min_eq_right (by omega)]; rfl
    · have hq64 : 64 * q < t.length := by omega
      obtain ⟨R, hR⟩ : ∃ R, R = t.drop (64 * q) := ⟨_, rfl⟩
      have hRl : R.length = t.length - 64 * q := by rw [hR]; simp
      obtain ⟨nn, hnn⟩ : ∃ nn, nn = min 64 R.length := ⟨_, rfl⟩
      have hmin : (if (R.length : Int) < 64 then (R.length : Int) else 64) = (nn : Int) := by
        split <;> omega
      rw [loopF_next (s' := ((List.range' 0 (min (64 * (q + 1)) t.length)).map (xorB key n t), ((1 + (q + 1) : Nat) : Int), t.drop (64 * (q + 1))))]
      · exact ref_xor_loop key n t hk hn ht m (q + 1) (by omega) (by omega)
      · unfold ref03_Xor.l4
        rw [← hR, Nat.min_eq_left (Nat.le_of_lt hq64)]
        simp only []
        rw [ite_t (by omega), ref_Block_ok _ _ _ hk hn, bind_s]
        obtain ⟨o, ho⟩ : ∃ o, o = (List.range' 0 (64 * q)).map (xorB key n t) := ⟨_, rfl⟩
        have hol : o.length = 64 * q := by rw [ho]; simp
        have hg : ∀ j, j < nn → bits .xor .u8 (sbyte R (j : Int)) (sbyte (blkS key ((1 + q : Nat) : Int) n) (j : Int)) = xorB key n t (64 * q + j) := by
          intro j hj
          unfold xorB
          have e1 : (64 * q + j) / 64 = q := by omega
          have e2 : (64 * q + j) % 64 = j := by omega
          have e3 : sbyte R (j : Int) = rd (bytesI t) ((64 * q + j : Nat) : Int) := by
            rw [hR]
            simp only [sbyte, rd, List.getD, Int.toNat_natCast, List.getElem?_drop, bytesI, List.getElem?_map]
            rw [List.getElem?_eq_getElem (by omega)]; rfl
          rw [e1, e2, e3]
        rw [← ho]
        obtain ⟨f1, f2⟩ := loop_up (step := ref03_Xor.l3 (o, ((1 + q : Nat) : Int), R) (blkS key ((1 + q : Nat) : Int) n, 0)) (fun s i => (s, i)) (fun j s => s ++ [xorB key n t (64 * q + j)]) (fun s => .inl (s, ((1 + (q + 1) : Nat) : Int), t.drop (64 * (q + 1)))) nn
          (fun i s => s = o ++ (List.range' (64 * q) i).map (xorB key n t)) (by
            intro i s hi hs
            have hsl : s.length = 64 * q + i := by rw [hs]; simp [hol]
            refine ⟨?_, ?_⟩
            · unfold ref03_Xor.l3
              simp only [hmin, wrap_id (n := (i : Int) + 1) (by omega) (by omega)]
              rw [ite_t (by omega), grd_b (by omega), grd_b (by rw [blkS_len]; omega), grd_b (by simp; omega), hg i hi]
            · rw [hs, List.append_assoc, List.range'_concat, List.map_append]; simp) (by
            intro s _
            unfold ref03_Xor.l3 ref03_Xor.j2
            simp only [hmin]
            rw [ite_f (by omega), grd_b (by omega)]
            have e1 : ((R.take (R.length : Int).toNat).drop (nn : Int).toNat) = t.drop (64 * (q + 1)) := by
              rw [Int.toNat_natCast, Int.toNat_natCast, List.take_length, hR, List.drop_drop]
              by_cases h64 : nn = 64
              · rw [h64]; rfl
              · rw [List.drop_of_length_le (by omega), List.drop_of_length_le (by omega)]
            rw [e1, wrap32_id (by omega) (by omega), show (((1 + q : Nat) : Int) + 1) = ((1 + (q + 1) : Nat) : Int) by omega]; rfl) nn 0 o (Nat.zero_add _) (by simp)
        refine f1.trans ?_
        rw [f2, ho, ← List.map_append]
        have : List.range' 0 (64 * q) ++ List.range' (64 * q) nn = List.range' 0 (min (64 * (q + 1)) t.length) := by
          have := List.range'_append (s := 0) (m := 64 * q) (n := nn) (step := 1)
          simp only [Nat.one_mul, Nat.zero_add] at this
          rw [this]; congr 1; omega
        rw [this]
theorem ref_Xor_ok (key n t : List UInt8) (hk : key.length = 32) (hn : n.length = 12) (ht : t.length < 1073741824) : ref03_Xor key 1 n t = some (xorS key n t, 0) := by
  unfold ref03_Xor
  rw [ref_State_ok _ _ _ hk hn, bind_s, if_neg (by simp)]
  have := ref_xor_loop key n t hk hn ht 16777217 0 (by omega) (by decide)
  simpa using this
end Go.Cu
