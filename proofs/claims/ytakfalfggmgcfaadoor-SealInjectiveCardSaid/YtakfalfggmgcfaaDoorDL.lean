/- Plain laws on the pure functions; no program is named. -/
import Derived.Test.YtakfalfggmgcfaaDoorD14
set_option linter.unusedVariables false
set_option linter.unusedSimpArgs false
/-! Plain laws: the laws of sealing. -/
namespace Go.Cu
attribute [local irreducible] macS blkS bits bytesS
theorem xor8_nat {x y : Nat} (hx : x < 256) (hy : y < 256) : bits .xor .u8 (x : Int) (y : Int) = ((x ^^^ y : Nat) : Int) := by
  have h : (x ^^^ y) < 256 := Nat.xor_lt_two_pow (n := 8) hx hy
  unfold bits
  have e1 : (BitVec.ofInt IntKind.u8.bits (x : Int)).toNat = x := by
    show ((x : Int) % (2 ^ 8 : Nat)).toNat = x
    omega
  have e2 : (BitVec.ofInt IntKind.u8.bits (y : Int)).toNat = y := by
    show ((y : Int) % (2 ^ 8 : Nat)).toNat = y
    omega
  simp only [BitVec.toNat_xor, e1, e2]
  exact wrap8_id (by omega) (by omega)
theorem xor8_xor8 {x : Nat} {k : Int} (hx : x < 256) (hk : ∃ y : Nat, y < 256 ∧ k = (y : Int)) : bits .xor .u8 (bits .xor .u8 (x : Int) k) k = (x : Int) := by
  obtain ⟨y, hy, rfl⟩ := hk
  have h : (x ^^^ y) < 256 := Nat.xor_lt_two_pow (n := 8) hx hy
  rw [xor8_nat hx hy, xor8_nat h hy, Nat.xor_assoc, Nat.xor_self, Nat.xor_zero]
theorem xorS_bytes (key n t : List UInt8) : bytesI (xorS key n t) = (List.range' 0 t.length).map (xorB key n t) := by
  unfold xorS
  apply bytesI_intsB
  intro x hx
  obtain ⟨i, _, rfl⟩ := List.mem_map.1 hx
  exact bits8_rng _ _ _
theorem xorS_xorS (key n t : List UInt8) : xorS key n (xorS key n t) = t := by
  have : (List.range' 0 (xorS key n t).length).map (xorB key n (xorS key n t)) = bytesI t := by
    rw [xorS_len, ← rng_take (bytesI t) t.length (bytesI_len t)]
    apply List.map_congr_left
    intro i hi
    have hi : i < t.length := by simp at hi; omega
    have e : rd (bytesI (xorS key n t)) (i : Int) = xorB key n t i := by
      rw [xorS_bytes]
      simp [rd, List.getD, hi]
    have hb : ∃ b : Nat, b < 256 ∧ rd (bytesI t) (i : Int) = (b : Int) := by
      have hl : i < (bytesI t).length := by rw [bytesI_len]; exact hi
      have e : rd (bytesI t) (i : Int) = (bytesI t)[i] := by simp [rd, List.getD, hl]
      have := bytesI_isB t _ (List.getElem_mem hl)
      exact ⟨((bytesI t)[i]).toNat, by omega, by rw [e]; omega⟩
    obtain ⟨b, hb, eb⟩ := hb
    show bits .xor .u8 (rd (bytesI (xorS key n t)) (i : Int)) _ = _
    rw [e]
    unfold xorB
    rw [eb, xor8_xor8 hb (sbyte_nat _ _)]
  show intsB ((List.range' 0 (xorS key n t).length).map (xorB key n (xorS key n t))) = t
  rw [this, intsB_bytesI]
attribute [local irreducible] xorS
theorem sealS_len (key ad text : List UInt8) : (sealS key ad text).length = text.length + 28 := by
  unfold sealS
  rw [List.length_append, List.length_append, nonceS_len, xorS_len, tagS_len]; omega
theorem seal_parts (n c t : List UInt8) (hn : n.length = 12) (ht : t.length = 16) : (n ++ c ++ t).take 12 = n ∧ ((n ++ c ++ t).take ((n ++ c ++ t).length - 16)).drop 12 = c ∧ (n ++ c ++ t).drop ((n ++ c ++ t).length - 16) = t := by
  have hl : (n ++ c ++ t).length - 16 = (n ++ c).length := by simp; omega
  refine ⟨?_, ?_, ?_⟩
  · rw [List.append_assoc, List.take_append_of_le_length (by omega), List.take_of_length_le (by omega)]
  · rw [hl, List.take_left, List.drop_append_of_le_length (by omega), List.drop_of_length_le (by omega), List.nil_append]
  · rw [hl, List.drop_left]
theorem open_seal (key ad text : List UInt8) : openS key ad (sealS key ad text) = (text, 0) := by
  unfold openS sealS
  obtain ⟨h1, h2, h3⟩ := seal_parts (nonceS key ad text) (xorS (encK key) (nonceS key ad text) text) (tagS key (nonceS key ad text) ad (xorS (encK key) (nonceS key ad text) text)) (nonceS_len _ _ _) (tagS_len _ _ _ _)
  simp only [h1, h2, h3, xorS_xorS, if_true]
theorem open_inv (key ad blob t : List UInt8) (hl : 28 ≤ blob.length) (h : openS key ad blob = (t, 0)) : blob = sealS key ad t := by
  unfold openS at h
  simp only at h
  split at h
  · rename_i h1
    split at h
    · rename_i h2
      have ht : xorS (encK key) (blob.take 12) ((blob.take (blob.length - 16)).drop 12) = t := (Prod.mk.inj h).1
      rw [ht] at h2
      unfold sealS
      rw [h2, ← ht, xorS_xorS, h1]
      have : (blob.take (blob.length - 16)) = blob.take 12 ++ (blob.take (blob.length - 16)).drop 12 := by
        have := (List.take_append_drop 12 (blob.take (blob.length - 16))).symm
        rw [List.take_take, Nat.min_eq_left (by omega)] at this
        exact this
      rw [← this, List.take_append_drop]
    · have := (Prod.mk.inj h).2; omega
  · have := (Prod.mk.inj h).2; omega
theorem seal_inj (key a t b u : List UInt8) (h : sealS key a t = sealS key b u) : t = u := by
  unfold sealS at h
  obtain ⟨h1, h2, h3⟩ := seal_parts (nonceS key a t) (xorS (encK key) (nonceS key a t) t) (tagS key (nonceS key a t) a (xorS (encK key) (nonceS key a t) t)) (nonceS_len _ _ _) (tagS_len _ _ _ _)
  obtain ⟨k1, k2, k3⟩ := seal_parts (nonceS key b u) (xorS (encK key) (nonceS key b u) u) (tagS key (nonceS key b u) b (xorS (encK key) (nonceS key b u) u)) (nonceS_len _ _ _) (tagS_len _ _ _ _)
  rw [h] at h1 h2
  have hn := h1.symm.trans k1
  have hx := h2.symm.trans k2
  rw [hn] at hx
  have := congrArg (xorS (encK key) (nonceS key b u)) hx
  rw [xorS_xorS, xorS_xorS] at this
  exact this
def sumL (l : List (List UInt8)) : Int := upF (fun i s => s + ((rd l (i : Int)).length : Int)) 0 l.length 0
theorem few_ok (l : List (List UInt8)) (hl : l.length ≤ 10) (h : ∀ x ∈ l, x.length ≤ 140737488351232) : law04_few l = some (decide (sumL l ≤ 3000)) := by
  unfold law04_few
  refine (loop_up (step := law04_few.l2 l) (fun s i => (s, i)) (fun i s => s + ((rd l (i : Int)).length : Int)) (fun s => decide (s ≤ 3000)) l.length (fun i s => 0 ≤ s ∧ s ≤ (i : Int) * 140737488351232) ?_ ?_ l.length 0 0 (Nat.zero_add _) (by simp)).1
  · intro i s hi hs
    have hr : (rd l (i : Int)).length ≤ 140737488351232 := by
      have e : rd l (i : Int) = l[i] := by simp [rd, List.getD, hi]
      rw [e]; exact h _ (List.getElem_mem hi)
    have hi10 : i < 10 := by omega
    refine ⟨?_, by constructor <;> omega⟩
    unfold law04_few.l2
    simp only [wrap_id (n := s + ((rd l (i : Int)).length : Int)) (by omega) (by omega), wrap_id (n := (i : Int) + 1) (by omega) (by omega)]
    rw [ite_t (by omega), grd_b (by omega)]
  · intro s _
    unfold law04_few.l2
    rw [ite_f (by omega)]; rfl
theorem sum3 (a b c : List UInt8) : sumL [a, b, c] = (a.length : Int) + b.length + c.length := by
  show (0 : Int) + (a.length : Int) + (b.length : Int) + (c.length : Int) = _
  omega
theorem sum4 (a b c d : List UInt8) : sumL [a, b, c, d] = (a.length : Int) + b.length + c.length + d.length := by
  show (0 : Int) + (a.length : Int) + (b.length : Int) + (c.length : Int) + (d.length : Int) = _
  omega
theorem sum5 (a b c d e : List UInt8) : sumL [a, b, c, d, e] = (a.length : Int) + b.length + c.length + d.length + e.length := by
  show (0 : Int) + (a.length : Int) + (b.length : Int) + (c.length : Int) + (d.length : Int) + (e.length : Int) = _
  omega
theorem K0_len : K0.length = 32 := rfl
theorem sanity04 : law04_sanity = some true := by
  have hr : strings_Repeat [107] 32 = some K0 := by
    unfold strings_Repeat
    rw [grd_b ⟨by decide, by decide, by decide⟩]; rfl
  have hx : strings_Repeat [120] 27 = some (repL [120] 27) := by
    unfold strings_Repeat
    rw [grd_b ⟨by decide, by decide, by decide⟩]; rfl
  have hn := nonce_val
  have hc : xorS (encK K0) nonceV [116, 101, 120, 116] = cV := by rw [enc_val]; exact c_val
  have hb : (openS K0 [98] (sealS K0 [97] [116, 101, 120, 116])).2 = 8 := by
    obtain ⟨T, hT⟩ : ∃ T, T = tagS K0 nonceV [97] cV := ⟨_, rfl⟩
    have e : sealS K0 [97] [116, 101, 120, 116] = nonceV ++ cV ++ T := by
      unfold sealS; rw [hn, hc, hT]
    obtain ⟨h1, h2, h3⟩ := seal_parts nonceV cV T rfl (by rw [hT]; exact tagS_len _ _ _ _)
    rw [e]
    unfold openS
    simp only [h1, h2, h3]
    rw [hT, tagb_val, taga_val, if_neg (by decide)]
  have hlen : (sealS K0 [97] [116, 101, 120, 116]).length = 32 := by rw [sealS_len]; rfl
  unfold law04_sanity
  rw [hr, bind_s, Seal_ok _ _ _ (by decide) (by decide) (by decide), if_pos K0_len, bind_s, Open_ok _ _ _ (by decide) (by decide) (by rw [hlen]; decide), bind_s, Open_ok _ _ _ (by decide) (by decide) (by rw [hlen]; decide), bind_s, hx, bind_s, Open_ok _ _ _ (by decide) (by decide) (by decide), bind_s, grd_b (by rw [K0_len]; decide)]
  have hk1 : ((K0.take (K0.length : Int).toNat).drop (1 : Int).toNat).length = 31 := rfl
  rw [Seal_ok _ _ _ (by rw [hk1]; decide) (by decide) (by decide), if_neg (by rw [hk1]; decide), bind_s, Keys_ok _ (by decide), if_pos K0_len, bind_s, ref_Seal_ok _ _ _ (by decide) (by decide) (by decide), if_pos K0_len, bind_s]
  have o1 : openR K0 [97] (sealS K0 [97] [116, 101, 120, 116]) = ([116, 101, 120, 116], 0) := by
    unfold openR
    rw [if_pos K0_len, if_neg (by rw [hlen]; decide), open_seal]
  have o2 : (openR K0 [98] (sealS K0 [97] [116, 101, 120, 116])).2 = 8 := by
    unfold openR
    rw [if_pos K0_len, if_neg (by rw [hlen]; decide), hb]
  have o3 : (openR K0 [97] (repL [120] 27)).2 = 5 := by
    unfold openR
    rw [if_pos K0_len, if_pos (by decide)]
  have hne : (encK K0 == macK K0) = false := by rw [enc_val, mac_val]; decide
  simp only [o1, o2, o3, hlen, encK_len, macK_len, hne, beq_self_eq_true, if_true, bind_s, Bool.not_false]
  rfl
theorem few_cases {α : Type} {l : List (List UInt8)} (hl : l.length ≤ 10) (h : ∀ x ∈ l, x.length ≤ 140737488351232) {f : Bool → Option Bool} (h1 : sumL l ≤ 3000 → f true = some true) (h2 : f false = some true) : (law04_few l).bind f = some true := by
  rw [few_ok l hl h, bind_s]
  by_cases hs : sumL l ≤ 3000
  · rw [decide_eq_true hs]; exact h1 hs
  · rw [decide_eq_false hs]; exact h2
theorem law_SealMatchesSpec' (a b c : List UInt8) (h0 : a.length ≤ 140737488351232) (h1 : b.length ≤ 140737488351232) (h2 : c.length ≤ 140737488351232) : law04_SealMatchesSpec a b c = some true := by
  unfold law04_SealMatchesSpec
  refine few_cases (α := Nat) (by simp) (by simp [h0, h1, h2]) ?_ ?_
  · intro hs
    rw [sum3] at hs
    rw [if_neg (by decide), Keys_ok _ (by omega), bind_s, ref_Keys_ok _ (by omega), bind_s, Seal_ok _ _ _ (by omega) (by omega) (by omega), bind_s, ref_Seal_ok _ _ _ (by omega) (by omega) (by omega), bind_s, sanity04, bind_s]
    simp
  · rw [if_pos (by decide), sanity04]; rfl
theorem law_SealOpensAsSpecified' (a b c : List UInt8) (h0 : a.length ≤ 140737488351232) (h1 : b.length ≤ 140737488351232) (h2 : c.length ≤ 140737488351232) : law04_SealOpensAsSpecified a b c = some true := by
  unfold law04_SealOpensAsSpecified
  refine few_cases (α := Nat) (by simp) (by simp [h0, h1, h2]) ?_ ?_
  · intro hs
    rw [sum3] at hs
    rw [if_neg (by decide), Open_ok _ _ _ (by omega) (by omega) (by omega), bind_s, ref_Open_ok _ _ _ (by omega) (by omega) (by omega), bind_s, sanity04, bind_s]
    simp
  · rw [if_pos (by decide), sanity04]; rfl
theorem law_SealRoundTrip' (a b c : List UInt8) (h0 : a.length ≤ 140737488351232) (h1 : b.length ≤ 140737488351232) (h2 : c.length ≤ 140737488351232) : law04_SealRoundTrip a b c = some true := by
  unfold law04_SealRoundTrip
  refine few_cases (α := Nat) (by simp) (by simp [h0, h1, h2]) ?_ ?_
  · intro hs
    rw [sum3] at hs
    rw [if_neg (by decide), Seal_ok _ _ _ (by omega) (by omega) (by omega), bind_s]
    by_cases hk : a.length = 32
    · have hl := sealS_len a b c
      rw [if_pos hk, if_neg (by simp), Open_ok _ _ _ (by omega) (by omega) (by show (sealS a b c).length < 65536; omega), bind_s, sanity04, bind_s]
      have : openR a b (sealS a b c) = (c, 0) := by
        unfold openR
        rw [if_pos hk, if_neg (by omega), open_seal]
      have hw : IntKind.i64.wrap ((c.length : Int) + 28) = ((sealS a b c).length : Int) := by
        rw [wrap_id (by omega) (by omega), hl]; omega
      simp [this, hw]
    · have hk' : ((a.length : Int) != 32) = true := by simp; omega
      rw [if_neg hk, if_pos (by simp), sanity04, bind_s]
      simp only [if_true, beq_self_eq_true, hk', bind_s]
  · rw [if_pos (by decide), sanity04]; rfl
theorem law_SealChanged' (a b c d : List UInt8) (h0 : a.length ≤ 140737488351232) (h1 : b.length ≤ 140737488351232) (h2 : c.length ≤ 140737488351232) (h3 : d.length ≤ 140737488351232) : law04_SealChanged a b c d = some true := by
  unfold law04_SealChanged
  refine few_cases (α := Nat) (by simp) (by simp [h0, h1, h2, h3]) ?_ ?_
  · intro hs
    rw [sum4] at hs
    rw [if_neg (by decide), Seal_ok _ _ _ (by omega) (by omega) (by omega), bind_s]
    by_cases hk : a.length = 32
    · rw [if_pos hk, if_neg (by simp), bind_s]
      by_cases he : sealS a b c = d
      · rw [if_pos (by simp [he]), sanity04]; rfl
      · rw [if_neg (by simp [he]), Open_ok _ _ _ (by omega) (by omega) (by omega), bind_s, sanity04, bind_s, if_pos rfl]
        by_cases hz : (openR a b d).2 = 0
        · have : (openR a b d).1 ≠ c := by
            intro hc
            have ho : openR a b d = (c, 0) := Prod.ext hc hz
            unfold openR at ho
            rw [if_pos hk] at ho
            by_cases hs : d.length < 28
            · rw [if_pos hs] at ho
              have := (Prod.mk.inj ho).2
              omega
            · rw [if_neg hs] at ho
              exact he (open_inv a b d c (by omega) ho).symm
          rw [if_neg (by simp [hz]), bind_s]
          simp [this]
        · rw [if_pos (by simp [hz]), bind_s]
    · rw [if_neg hk, if_pos (by simp), bind_s, if_pos rfl, sanity04]; rfl
  · rw [if_pos (by decide), sanity04]; rfl
theorem law_SealInjective' (a b c d e : List UInt8) (h0 : a.length ≤ 140737488351232) (h1 : b.length ≤ 140737488351232) (h2 : c.length ≤ 140737488351232) (h3 : d.length ≤ 140737488351232) (h4 : e.length ≤ 140737488351232) : law04_SealInjective a b c d e = some true := by
  unfold law04_SealInjective
  refine few_cases (α := Nat) (by simp) (by simp [h0, h1, h2, h3, h4]) ?_ ?_
  · intro hs
    rw [sum5] at hs
    rw [if_neg (by decide), Seal_ok _ _ _ (by omega) (by omega) (by omega), bind_s, Seal_ok _ _ _ (by omega) (by omega) (by omega), bind_s, sanity04, bind_s, if_pos rfl]
    by_cases hk : a.length = 32
    · rw [if_pos hk, if_pos hk]
      by_cases he : sealS a b c = sealS a d e
      · have := seal_inj a b c d e he
        simp [he, this]
      · simp [he]
    · rw [if_neg hk, if_neg hk]; simp
  · rw [if_pos (by decide), sanity04]; rfl
end Go.Cu
