/- Rules for walks over facts, pure functions and plain laws; no condition. -/
import Derived.Test.YtakfalfggmgcfaaDoorD14
import Derived.Test.YtakfalfggmgcfaaDoorK2
set_option linter.unusedVariables false
set_option linter.unusedSimpArgs false
/-! Plain laws: the laws of sealing. -/
namespace Go.Cu
attribute [local irreducible] macS blkS bits bytesS
theorem xor8_nat {x y : Nat} (hx : x < 256) (hy : y < 256) : bits .xor .u8 (x : Int) (y : Int) = ((x ^^^ y : Nat) : Int) := by
 have h : (x ^^^ y) < 256 := Nat.xor_lt_two_pow (n := 8) hx hy
 unfold bits
 have e1 : (BitVec.ofInt IntKind.u8.bits (x : Int)).toNat = x := by
  show ((x : Int) % (2 ^ 8 : Nat)).toNat = x
  omega
 have e2 : (BitVec.ofInt IntKind.u8.bits (y : Int)).toNat = y := by
  show ((y : Int) % (2 ^ 8 : Nat)).toNat = y
  omega
 simp only [BitVec.toNat_xor, e1, e2]
 exact wrap8_id (by omega) (by omega)
theorem xor8_xor8 {x : Nat} {k : Int} (hx : x < 256) (hk : ∃ y : Nat, y < 256 ∧ k = (y : Int)) : bits .xor .u8 (bits .xor .u8 (x : Int) k) k = (x : Int) := by
 obtain ⟨y, hy, rfl⟩ := hk
 have h : (x ^^^ y) < 256 := Nat.xor_lt_two_pow (n := 8) hx hy
 rw [xor8_nat hx hy, xor8_nat h hy, Nat.xor_assoc, Nat.xor_self, Nat.xor_zero]
theorem xorS_bytes (key n t : List UInt8) : bytesI (xorS key n t) = (List.range' 0 t.length).map (xorB key n t) := by
 unfold xorS
 apply bytesI_intsB
 intro x hx
 obtain ⟨i, _, rfl⟩ := List.mem_map.1 hx
 exact bits8_rng _ _ _
theorem xorS_xorS (key n t : List UInt8) : xorS key n (xorS key n t) = t := by
 have : (List.range' 0 (xorS key n t).length).map (xorB key n (xorS key n t)) = bytesI t := by
  rw [xorS_len, ← rng_take (bytesI t) t.length (bytesI_len t)]
  apply List.map_congr_left
  intro i hi
  have hi : i < t.length := by simp at hi; omega
  have e : rd (bytesI (xorS key n t)) (i : Int) = xorB key n t i := by
   rw [xorS_bytes]
   simp [rd, List.getD, hi]
  have hb : ∃ b : Nat, b < 256 ∧ rd (bytesI t) (i : Int) = (b : Int) := by
   have hl : i < (bytesI t).length := by rw [bytesI_len]; exact hi
   have e : rd (bytesI t) (i : Int) = (bytesI t)[i] := by simp [rd, List.getD, hl]
   have := bytesI_isB t _ (List.getElem_mem hl)
   exact ⟨((bytesI t)[i]).toNat, by omega, by rw [e]; omega⟩
  obtain ⟨b, hb, eb⟩ := hb
  show bits .xor .u8 (rd (bytesI (xorS key n t)) (i : Int)) _ = _
  rw [e]
  unfold xorB
  rw [eb, xor8_xor8 hb (sbyte_nat _ _)]
 show intsB ((List.range' 0 (xorS key n t).length).map (xorB key n (xorS key n t))) = t
 rw [this, intsB_bytesI]
attribute [local irreducible] xorS
theorem sealS_len (key ad text : List UInt8) : (sealS key ad text).length = text.length + 28 := by
 unfold sealS
 rw [List.length_append, List.length_append, nonceS_len, xorS_len, tagS_len]; omega
theorem seal_parts (n c t : List UInt8) (hn : n.length = 12) (ht : t.length = 16) : (n ++ c ++ t).take 12 = n ∧ ((n ++ c ++ t).take ((n ++ c ++ t).length - 16)).drop 12 = c ∧ (n ++ c ++ t).drop ((n ++ c ++ t).length - 16) = t := by
 have hl : (n ++ c ++ t).length - 16 = (n ++ c).length := by simp; omega
 refine ⟨?_, ?_, ?_⟩
 ·rw [List.append_assoc, List.take_append_of_le_length (by omega), List.take_of_length_le (by omega)]
 ·rw [hl, List.take_left, List.drop_append_of_le_length (by omega), List.drop_of_length_le (by omega), List.nil_append]
 ·rw [hl, List.drop_left]
theorem open_seal (key ad text : List UInt8) : openS key ad (sealS key ad text) = (text, 0) := by
 unfold openS sealS
 obtain ⟨h1, h2, h3⟩ := seal_parts (nonceS key ad text) (xorS (encK key) (nonceS key ad text) text) (tagS key (nonceS key ad text) ad (xorS (encK key) (nonceS key ad text) text)) (nonceS_len _ _ _) (tagS_len _ _ _ _)
 simp only [h1, h2, h3, xorS_xorS, if_true]
theorem open_inv (key ad blob t : List UInt8) (hl : 28 ≤ blob.length) (h : openS key ad blob = (t, 0)) : blob = sealS key ad t := by
 unfold openS at h
 simp only at h
 split at h
 ·rename_i h1
  split at h
  ·rename_i h2
   have ht : xorS (encK key) (blob.take 12) ((blob.take (blob.length - 16)).drop 12) = t := (Prod.mk.inj h).1
   rw [ht] at h2
   unfold sealS
   rw [h2, ← ht, xorS_xorS, h1]
   have : (blob.take (blob.length - 16)) = blob.take 12 ++ (blob.take (blob.length - 16)).drop 12 := by
    have := (List.take_append_drop 12 (blob.take (blob.length - 16))).symm
    rw [List.take_take, Nat.min_eq_left (by omega)] at this
    exact this
   rw [← this, List.take_append_drop]
  ·have := (Prod.mk.inj h).2; omega
 ·have := (Prod.mk.inj h).2; omega
end Go.Cu

/-! Plain laws: the header and the content of a backup. -/
namespace Go.Cu
attribute [local irreducible] macS blkS bits xorS bytesS sealS
def zB : Backup := ⟨Vector.replicate 16 0, 0, 0, 0, 0, Vector.replicate 16 0, [], []⟩
def mkB (D : Vector Int 16) (n : List Int) (P : Vector Int 16) (M : List UInt8) : Backup := ⟨D, rd n 0, rd n 1, rd n 2, rd n 3, P, M, []⟩
def hdr3 (D : Vector Int 16) (n : List Int) (P : Vector Int 16) (l : List Int) : Backup × Int :=
 if (gB l).2.2 ≠ 0 then (zB, (gB l).2.2)
 else if (l.drop (gB l).2.1.toNat).length ≠ 0 then (zB, 6)
 else if vBk (mkB D n P (gB l).1) = true then (mkB D n P (gB l).1, 0) else (zB, 6)
def hdr2 (D : Vector Int 16) (n : List Int) (l : List Int) : Backup × Int :=
 if (gD l).2.2 ≠ 0 then (zB, (gD l).2.2) else hdr3 D n (gD l).1 (l.drop (gD l).2.1.toNat)
def hdr1 (D : Vector Int 16) (l : List Int) : Backup × Int :=
 if (gL gI l).2.2 ≠ 0 then (zB, (gL gI l).2.2)
 else if (gL gI l).1.length ≠ 4 then (zB, 6)
 else hdr2 D (gL gI l).1 (l.drop (gL gI l).2.1.toNat)
/-- What a header says, or an error. -/
def hdrS (h : List Int) : Backup × Int :=
 if (gD h).2.2 ≠ 0 then (zB, (gD h).2.2) else hdr1 (gD h).1 (h.drop (gD h).2.1.toNat)
def peekS (l : List Int) : Backup × Int := if (gB l).2.2 ≠ 0 then (zB, (gB l).2.2) else hdrS (bytesI (gB l).1)
theorem read_digest_err {x : backup_reader} (h : x.e ≠ 0) : backup_read_Digest x = some (Vector.replicate 16 0, x) := by
 unfold backup_read_Digest
 rw [if_pos (by simpa using h)]
theorem read_string_err {x : backup_reader} (h : x.e ≠ 0) : backup_read_string x = some ([], x) := by
 unfold backup_read_string
 rw [if_pos (by simpa using h)]
theorem read_ints_err {x : backup_reader} (h : x.e ≠ 0) : backup_read_LLint x = some ([], x) := by
 unfold backup_read_LLint
 rw [if_pos (by simpa using h)]
theorem whole_string_err {x : backup_reader} (h : x.e ≠ 0) : backup_whole_string x = some ([], x) := by
 unfold backup_whole_string
 rw [read_string_err h, bind_s, check_eq, ckR_err (by exact h)]; rfl
theorem mk_wf (D : Vector Int 16) (a b c d : Int) (P : Vector Int 16) {M : List UInt8} (h : M.length ≤ 1099511627) : wfB ⟨D, a, b, c, d, P, M, []⟩ := ⟨by simp, by show M.length ≤ _; omega, fun k hk => by cases hk⟩
theorem valid_mk (D : Vector Int 16) (n : List Int) (P : Vector Int 16) {M : List UInt8} (h : M.length ≤ 1099511627) : backup_Valid (⟨D, rd n 0, rd n 1, rd n 2, rd n 3, P, M, []⟩ : Backup) = some (vBk (mkB D n P M)) := backup_Valid_eq (b := mkB D n P M) (mk_wf _ _ _ _ _ _ h)
/-- Behind an error nothing more is read. -/
theorem peek_bad {y : backup_reader} (h : y.e ≠ 0) (D : Vector Int 16) (t6 : List UInt8 × backup_reader) : ∃ b,
  ((backup_read_Digest y).bind fun t177 =>
  (backup_whole_string t177.2).bind fun t185 =>
  (backup_Valid (⟨D, 0, 0, 0, 0, t177.1, t185.1, []⟩ : Backup)).bind fun t193 =>
  (backup_reader_check t185.2 t193 (6 : Int)).bind fun t199 =>
  (some (⟨D, 0, 0, 0, 0, t177.1, t185.1, []⟩ : Backup)).bind fun z208 =>
  some (z208, (⟨({ t6.2 with e := t199.2.e } : backup_reader), t6.1⟩ : backup_blobReader))) = some (b, ⟨{ t6.2 with e := y.e }, t6.1⟩) := by
 rw [read_digest_err h, bind_s, whole_string_err h, bind_s, backup_Valid_eq (mk_wf _ _ _ _ _ _ (by simp)), bind_s, check_eq, ckR_err (by exact h), bind_s, bind_s]
 exact ⟨_, rfl⟩
theorem isB_of {α : Type} {g : List Int → α × Int × Int} {e : α → List Int} {V : α → Prop} (D : Dec g e V) {l : List Int} (hb : IsB l) (hl : l.length ≤ 1099511627) (h : (g l).2.2 = 0) : V (g l).1 := (D.inv l hb hl h).1
theorem peek_eq {l : List Int} (hb : IsB l) (hl : l.length ≤ 1099511627) : ∃ b x, backup_blobReader_peek ⟨⟨l, 0⟩, []⟩ = some (b, x) ∧ x.reader.e = (peekS l).2 ∧ ((peekS l).2 = 0 → b = (peekS l).1 ∧ x.header = (gB l).1 ∧ x.reader.rest_ = l.drop (gB l).2.1.toNat) := by
 unfold backup_blobReader_peek peekS
 dsimp only
 rw [read_string_eq (x := ⟨l, 0⟩) hb hl, bind_s]
 by_cases h1 : (gB l).2.2 = 0
 ·have h1' : ¬ (gB l).2.2 ≠ 0 := by simp [h1]
  rw [if_neg h1', rdR_ok (x := ⟨l, 0⟩) rfl h1]
  dsimp only
  obtain ⟨H, hH⟩ : ∃ H, H = (gB l).1 := ⟨_, rfl⟩
  have hHl : H.length ≤ 1099511627 := by rw [hH]; exact isB_of dec_bytes hb hl h1
  rw [← hH]
  have hI : IsB (bytesI H) := bytesI_isB H
  have hIl : (bytesI H).length ≤ 1099511627 := by rw [bytesI_len']; exact hHl
  generalize bytesI H = p at hI hIl
  rw [read_digest_eq (x := ⟨p, 0⟩) hI hIl, bind_s]
  unfold hdrS
  by_cases h2 : (gD p).2.2 = 0
  ·have h2' : ¬ (gD p).2.2 ≠ 0 := by simp [h2]
   rw [if_neg h2', rdR_ok (x := ⟨p, 0⟩) rfl h2]
   dsimp only
   have hp1 : IsB (p.drop (gD p).2.1.toNat) := hI.drop _
   have hp1l : (p.drop (gD p).2.1.toNat).length ≤ 1099511627 := by rw [List.length_drop]; omega
   generalize (gD p).1 = D
   generalize p.drop (gD p).2.1.toNat = p1 at hp1 hp1l
   rw [read_ints_eq (x := ⟨p1, 0⟩) hp1 hp1l, bind_s]
   unfold hdr1
   by_cases h3 : (gL gI p1).2.2 = 0
   ·have h3' : ¬ (gL gI p1).2.2 ≠ 0 := by simp [h3]
    rw [if_neg h3', rdR_ok (x := ⟨p1, 0⟩) rfl h3, check_eq, bind_s]
    dsimp only
    by_cases h4 : (gL gI p1).1.length = 4
    ·have e4 : (((gL gI p1).1.length : Int) == (4 : Int)) = true := by rw [h4]; rfl
     rw [if_neg (nnN h4), e4, ckR_ok (by exact rfl), it_tt, grd_b ⟨by decide, by omega⟩, grd_b ⟨by decide, by omega⟩, grd_b ⟨by decide, by omega⟩, grd_b ⟨by decide, by omega⟩]
     have hp2 : IsB (p1.drop (gL gI p1).2.1.toNat) := hp1.drop _
     have hp2l : (p1.drop (gL gI p1).2.1.toNat).length ≤ 1099511627 := by rw [List.length_drop]; omega
     generalize (gL gI p1).1 = n
     generalize p1.drop (gL gI p1).2.1.toNat = p2 at hp2 hp2l
     rw [read_digest_eq (x := ⟨p2, 0⟩) hp2 hp2l, bind_s]
     unfold hdr2
     by_cases h5 : (gD p2).2.2 = 0
     ·have h5' : ¬ (gD p2).2.2 ≠ 0 := by simp [h5]
      rw [if_neg h5', rdR_ok (x := ⟨p2, 0⟩) rfl h5]
      dsimp only
      have hp3 : IsB (p2.drop (gD p2).2.1.toNat) := hp2.drop _
      have hp3l : (p2.drop (gD p2).2.1.toNat).length ≤ 1099511627 := by rw [List.length_drop]; omega
      generalize (gD p2).1 = P
      generalize p2.drop (gD p2).2.1.toNat = p3 at hp3 hp3l
      rw [whole_string_eq (x := ⟨p3, 0⟩) hp3 hp3l, bind_s]
      unfold hdr3
      by_cases h6 : (gB p3).2.2 = 0
      ·have h6' : ¬ (gB p3).2.2 ≠ 0 := by simp [h6]
       have hM := isB_of dec_bytes hp3 hp3l h6
       rw [if_neg h6']
       by_cases h7 : (p3.drop (gB p3).2.1.toNat).length = 0
       ·have h7' : ¬ (p3.drop (gB p3).2.1.toNat).length ≠ 0 := by simpa using h7
        rw [if_neg h7', whR_ok (x := ⟨p3, 0⟩) rfl h6 h7]
        dsimp only
        rw [valid_mk D n P hM, bind_s, check_eq, bind_s, bind_s]
        cases hv : vBk (mkB D n P (gB p3).1) with
        | true =>
         rw [ckR_ok (by exact rfl), it_tt]
         exact ⟨_, _, rfl, rfl, fun _ => ⟨rfl, rfl, rfl⟩⟩
        | false =>
         rw [ckR_no (by exact rfl) (by decide), it_ff]
         exact ⟨_, _, rfl, rfl, fun h => by cases h⟩
       ·have h7' : (p3.drop (gB p3).2.1.toNat).length ≠ 0 := h7
        rw [if_pos h7', whR_more (x := ⟨p3, 0⟩) rfl h6 h7]
        dsimp only
        rw [valid_mk D n P hM, bind_s, check_eq, ckR_err (by show (6 : Int) ≠ 0; decide), bind_s, bind_s]
        exact ⟨_, _, rfl, rfl, fun h => by cases h⟩
      ·have h6' : (gB p3).2.2 ≠ 0 := h6
       rw [if_pos h6', whR_no (x := ⟨p3, 0⟩) rfl h6]
       dsimp only
       rw [valid_mk D n P (by simp), bind_s, check_eq, ckR_err (by exact h6), bind_s, bind_s]
       exact ⟨_, _, rfl, rfl, fun h => absurd h h6⟩
     ·have h5' : (gD p2).2.2 ≠ 0 := h5
      rw [if_pos h5', rdR_no (x := ⟨p2, 0⟩) rfl h5]
      dsimp only
      rw [whole_string_err h5, bind_s, valid_mk D n _ (by simp), bind_s, check_eq, ckR_err (by exact h5), bind_s, bind_s]
      exact ⟨_, _, rfl, rfl, fun h => absurd h h5⟩
    ·have e4 : (((gL gI p1).1.length : Int) == (4 : Int)) = false := by simpa using (by omega : ¬ ((gL gI p1).1.length : Int) = 4)
     rw [if_pos (show _ ≠ _ from h4), e4, ckR_no (by exact rfl) (by decide), it_ff]
     dsimp only
     obtain ⟨b, hb⟩ := peek_bad (y := ⟨p1.drop (gL gI p1).2.1.toNat, 6⟩) (by show (6 : Int) ≠ 0; decide) D (H, ⟨l.drop (gB l).2.1.toNat, 0⟩)
     exact ⟨_, _, hb, rfl, fun h => by cases h⟩
   ·have h3' : (gL gI p1).2.2 ≠ 0 := h3
    rw [if_pos h3', rdR_no (x := ⟨p1, 0⟩) rfl h3, check_eq, bind_s]
    dsimp only
    rw [ckR_err (by exact h3), it_ff]
    dsimp only
    obtain ⟨b, hb⟩ := peek_bad (y := ⟨p1, (gL gI p1).2.2⟩) h3 D (H, ⟨l.drop (gB l).2.1.toNat, 0⟩)
    exact ⟨_, _, hb, rfl, fun h => absurd h h3⟩
  ·have h2' : (gD p).2.2 ≠ 0 := h2
   rw [if_pos h2', rdR_no (x := ⟨p, 0⟩) rfl h2]
   dsimp only
   rw [read_ints_err h2, bind_s, check_eq, ckR_err (by exact h2), bind_s, it_ff]
   dsimp only
   obtain ⟨b, hb⟩ := peek_bad (y := ⟨p, (gD p).2.2⟩) h2 (Vector.replicate 16 0) (H, ⟨l.drop (gB l).2.1.toNat, 0⟩)
   exact ⟨_, _, hb, rfl, fun h => absurd h h2⟩
 ·have h1' : (gB l).2.2 ≠ 0 := h1
  rw [if_pos h1', rdR_no (x := ⟨l, 0⟩) rfl h1]
  dsimp only
  rw [read_digest_err h1, bind_s, read_ints_err h1, bind_s, check_eq, ckR_err (by exact h1), bind_s, it_ff]
  dsimp only
  obtain ⟨b, hb⟩ := peek_bad (y := ⟨bytesI [], (gB l).2.2⟩) h1 (Vector.replicate 16 0) ([], ⟨l, (gB l).2.2⟩)
  exact ⟨_, _, hb, rfl, fun h => absurd h h1⟩
/-! Header and content, both ways. -/
def headI (b : Backup) : List Int := b.Domain.toList ++ (encL encI [b.Epoch, b.Number, b.Firmware, b.Time] ++ (b.Policy.toList ++ encB b.Module))
def headS (b : Backup) : List UInt8 := intsB (headI b)
structure wfH (b : Backup) : Prop where
 dom : IsB b.Domain.toList
 pol : IsB b.Policy.toList
 num : wfI b.Epoch ∧ wfI b.Number ∧ wfI b.Firmware ∧ wfI b.Time
 mod : b.Module.length ≤ 1099511627
theorem num4 {b : Backup} (h : wfH b) : (∀ x ∈ [b.Epoch, b.Number, b.Firmware, b.Time], wfI x) ∧ [b.Epoch, b.Number, b.Firmware, b.Time].length ≤ 1099511627 := by
 obtain ⟨h1, h2, h3, h4⟩ := h.num
 refine ⟨?_, by simp⟩
 intro x hx
 simp only [List.mem_cons, List.not_mem_nil, or_false] at hx
 rcases hx with rfl | rfl | rfl | rfl <;> assumption
theorem headI_isB {b : Backup} (h : wfH b) : IsB (headI b) := h.dom.app ((dec_ints.isB _ (num4 h)).app (h.pol.app (dec_bytes.isB _ h.mod)))
theorem drop_left' {α : Type} (a b : List α) : (a ++ b).drop ((a.length : Int)).toNat = b := by rw [Int.toNat_natCast, List.drop_left]
def noK (b : Backup) : Backup := { b with Keys := [] }
theorem vBk_noK {b : Backup} (h : vBk b = true) : vBk (noK b) = true := by
 unfold vBk vHd at h ⊢
 simp only [Bool.and_eq_true] at h ⊢
 obtain ⟨⟨h1, h2, h3, h4, h5, _⟩, _⟩ := h
 exact ⟨⟨h1, h2, h3, h4, h5, by simp [noK]⟩, rfl⟩
theorem hdrS_enc {b : Backup} (h : wfH b) (hv : vBk (noK b) = true) : hdrS (headI b) = (noK b, 0) := by
 have e1 := dec_digest.enc b.Domain (encL encI [b.Epoch, b.Number, b.Firmware, b.Time] ++ (b.Policy.toList ++ encB b.Module)) h.dom
 have e2 := dec_ints.enc [b.Epoch, b.Number, b.Firmware, b.Time] (b.Policy.toList ++ encB b.Module) (num4 h)
 have e3 := dec_digest.enc b.Policy (encB b.Module) h.pol
 have e4 := dec_bytes.enc b.Module [] h.mod
 rw [List.append_nil] at e4
 unfold hdrS headI
 rw [e1]
 dsimp only
 rw [if_neg (by simp), drop_left']
 unfold hdr1
 rw [e2]
 dsimp only
 rw [if_neg (by simp), if_neg (by simp), drop_left']
 unfold hdr2
 rw [e3]
 dsimp only
 rw [if_neg (by simp), drop_left']
 unfold hdr3
 rw [e4]
 dsimp only
 rw [if_neg (by simp), if_neg (by rw [Int.toNat_natCast, List.drop_length]; simp)]
 exact if_pos hv
theorem list4 {l : List Int} (h : l.length = 4) : l = [rd l 0, rd l 1, rd l 2, rd l 3] := by
 match l, h with
 | [a, b, c, d], _ => rfl
theorem list8 {l : List Int} (h : l.length = 8) : l = [rd l 0, rd l 1, rd l 2, rd l 3, rd l 4, rd l 5, rd l 6, rd l 7] := by
 match l, h with
 | [a, b, c, d, e, f, g, h], _ => rfl
theorem list2 {α : Type} [Inhabited α] {l : List α} (h : l.length = 2) : l = [rd l 0, rd l 1] := by
 match l, h with
 | [a, b], _ => rfl
theorem drop_nil_eq {α : Type} {l : List α} {n : Nat} (h : (l.drop n).length = 0) : l.drop n = [] := List.length_eq_zero_iff.1 h
theorem hdrS_inv {p : List Int} (hb : IsB p) (hl : p.length ≤ 1099511627) (h : (hdrS p).2 = 0) : p = headI (hdrS p).1 ∧ vBk (hdrS p).1 = true ∧ (hdrS p).1.Keys = [] ∧ wfH (hdrS p).1 := by
 unfold hdrS at h ⊢
 split at h
 ·rename_i h1; exact absurd h h1
 ·rename_i h1
  rw [if_neg h1]
  obtain ⟨a1, a2, a3⟩ := dec_digest.inv p hb hl (by simpa using h1)
  rw [a2, Int.toNat_natCast] at h ⊢
  have b1 : IsB (p.drop (gD p).1.toList.length) := hb.drop _
  have l1 : (p.drop (gD p).1.toList.length).length ≤ 1099511627 := by rw [List.length_drop]; omega
  generalize (gD p).1 = D at a1 a3 h b1 l1 ⊢
  generalize p.drop D.toList.length = p1 at a1 a3 h b1 l1 ⊢
  unfold hdr1 at h ⊢
  split at h
  ·rename_i h2; exact absurd h h2
  ·rename_i h2
   rw [if_neg h2]
   split at h
   ·cases h
   ·rename_i h3
    rw [if_neg h3]
    obtain ⟨c1, c2, c3⟩ := dec_ints.inv p1 b1 l1 (by simpa using h2)
    rw [c2, Int.toNat_natCast] at h ⊢
    have b2 : IsB (p1.drop (encL encI (gL gI p1).1).length) := b1.drop _
    have l2 : (p1.drop (encL encI (gL gI p1).1).length).length ≤ 1099511627 := by rw [List.length_drop]; omega
    generalize (gL gI p1).1 = n at c1 c3 h b2 l2 h3 ⊢
    generalize p1.drop (encL encI n).length = p2 at c1 c3 h b2 l2 h3 ⊢
    unfold hdr2 at h ⊢
    split at h
    ·rename_i h4; exact absurd h h4
    ·rename_i h4
     rw [if_neg h4]
     obtain ⟨d1, d2, d3⟩ := dec_digest.inv p2 b2 l2 (by simpa using h4)
     rw [d2, Int.toNat_natCast] at h ⊢
     have b3 : IsB (p2.drop (gD p2).1.toList.length) := b2.drop _
     have l3 : (p2.drop (gD p2).1.toList.length).length ≤ 1099511627 := by rw [List.length_drop]; omega
     generalize (gD p2).1 = P at d1 d3 h b3 l3 ⊢
     generalize p2.drop P.toList.length = p3 at d1 d3 h b3 l3 ⊢
     unfold hdr3 at h ⊢
     split at h
     ·rename_i h5; exact absurd h h5
     ·rename_i h5
      rw [if_neg h5]
      split at h
      ·cases h
      ·rename_i h6
       rw [if_neg h6]
       split at h
       ·rename_i h7
        rw [if_pos h7]
        obtain ⟨f1, f2, f3⟩ := dec_bytes.inv p3 b3 l3 (by simpa using h5)
        rw [f2, Int.toNat_natCast] at h6
        have h6 : p3.drop (encB (gB p3).1).length = [] := drop_nil_eq (by simpa using h6)
        rw [h6, List.append_nil] at f3
        have h3 : n.length = 4 := by simpa using h3
        have e4 := list4 h3
        refine ⟨?_, h7, rfl, ⟨a1, d1, ?_, f1⟩⟩
        ·show p = D.toList ++ (encL encI [rd n 0, rd n 1, rd n 2, rd n 3] ++ (P.toList ++ encB (gB p3).1))
         rw [← e4, ← f3, ← d3, ← c3]
         exact a3
        ·have hm : ∀ i : Nat, i < 4 → wfI (rd n (i : Int)) := fun i hi => c1.1 _ (rd_mem (by omega))
         exact ⟨hm 0 (by decide), hm 1 (by decide), hm 2 (by decide), hm 3 (by decide)⟩
       ·cases h
/-! Keys. -/
def kyI (k : Key) : List Int := encL encB [intsB (encL encI [k.Id, k.Type_, k.Uses, k.Start, k.End, k.Version, k.Parent, if k.Raw then 1 else 0]), k.Value]
structure wfKy (k : Key) : Prop where
 num : wfI k.Id ∧ wfI k.Type_ ∧ wfI k.Uses ∧ wfI k.Start ∧ wfI k.End ∧ wfI k.Version ∧ wfI k.Parent
 val : k.Value.length ≤ 65536
theorem wf01 (r : Bool) : wfI (if r = true then 1 else 0) := by cases r <;> exact ⟨by decide, by decide⟩
theorem num8 {k : Key} (h : wfKy k) : (∀ x ∈ [k.Id, k.Type_, k.Uses, k.Start, k.End, k.Version, k.Parent, if k.Raw then 1 else 0], wfI x) ∧ [k.Id, k.Type_, k.Uses, k.Start, k.End, k.Version, k.Parent, if k.Raw then 1 else 0].length ≤ 1099511627 := by
 obtain ⟨h1, h2, h3, h4, h5, h6, h7⟩ := h.num
 refine ⟨?_, by simp⟩
 intro x hx
 simp only [List.mem_cons, List.not_mem_nil, or_false] at hx
 rcases hx with rfl | rfl | rfl | rfl | rfl | rfl | rfl | rfl
 ·exact h1
 ·exact h2
 ·exact h3
 ·exact h4
 ·exact h5
 ·exact h6
 ·exact h7
 ·exact wf01 _
theorem ints_len (xs : List Int) : (encL encI xs).length ≤ 9 + xs.length * 9 := by
 have h1 := encI_len (xs.length : Int)
 have h2 := flatMap_len encI 9 xs fun x _ => encI_len x
 unfold encL
 rw [List.length_append]; omega
theorem strs2_len (a b : List UInt8) : (encL encB [a, b]).length ≤ 27 + a.length + b.length := by
 have h1 := encI_len (([a, b] : List (List UInt8)).length : Int)
 have h2 := encI_len (a.length : Int)
 have h3 := encI_len (b.length : Int)
 unfold encL encB
 rw [List.length_append, List.flatMap_cons, List.flatMap_cons, List.flatMap_nil, List.append_nil, List.length_append, List.length_append, List.length_append, bytesI_len', bytesI_len']; omega
def nmI (k : Key) : List Int := encL encI [k.Id, k.Type_, k.Uses, k.Start, k.End, k.Version, k.Parent, if k.Raw then 1 else 0]
theorem nmI_len (k : Key) : (nmI k).length ≤ 81 := ints_len [k.Id, k.Type_, k.Uses, k.Start, k.End, k.Version, k.Parent, if k.Raw then 1 else 0]
theorem kyI_len (k : Key) : (kyI k).length ≤ 108 + k.Value.length := by
 have h1 := strs2_len (intsB (nmI k)) k.Value
 have h2 := nmI_len k
 rw [intsB_len] at h1
 show (encL encB [intsB (nmI k), k.Value]).length ≤ _
 omega
theorem two_ok {k : Key} (h : wfKy k) : (∀ x ∈ [intsB (nmI k), k.Value], x.length ≤ 1099511627) ∧ [intsB (nmI k), k.Value].length ≤ 1099511627 := by
 refine ⟨?_, by simp⟩
 intro x hx
 simp only [List.mem_cons, List.not_mem_nil, or_false] at hx
 rcases hx with rfl | rfl
 ·rw [intsB_len]; have := nmI_len k; omega
 ·have := h.val; omega
theorem kyI_isB {k : Key} (h : wfKy k) : IsB (kyI k) := dec_strings.isB _ (two_ok h)
theorem pkS_enc {k : Key} (h : wfKy k) : pkS (kyI k) = (k, 0) := by
 have e1 := dec_strings.enc [intsB (nmI k), k.Value] [] (two_ok h)
 have e2 := dec_ints.enc [k.Id, k.Type_, k.Uses, k.Start, k.End, k.Version, k.Parent, if k.Raw then 1 else 0] [] (num8 h)
 rw [List.append_nil] at e1 e2
 have hk : kyI k = encL encB [intsB (nmI k), k.Value] := rfl
 have hn : bytesI (intsB (nmI k)) = encL encI [k.Id, k.Type_, k.Uses, k.Start, k.End, k.Version, k.Parent, if k.Raw then 1 else 0] := bytesI_intsB (dec_ints.isB _ (num8 h))
 unfold pkS
 rw [hk, e1]
 dsimp only
 rw [if_neg (by simp), if_neg (by rw [Int.toNat_natCast, List.drop_length]; simp), if_neg (by simp)]
 have r0 : rd [intsB (nmI k), k.Value] 0 = intsB (nmI k) := rfl
 have r1 : rd [intsB (nmI k), k.Value] 1 = k.Value := rfl
 rw [r0, r1, hn]
 unfold pkN
 rw [e2]
 dsimp only
 rw [if_neg (by simp), if_neg (by rw [Int.toNat_natCast, List.drop_length]; simp), if_neg (by simp)]
 have r7 : rd [k.Id, k.Type_, k.Uses, k.Start, k.End, k.Version, k.Parent, if k.Raw then 1 else 0] 7 = if k.Raw then 1 else 0 := rfl
 rw [r7, if_pos (by cases k.Raw <;> decide)]
 unfold mkK
 rw [r7]
 cases k with
 | mk a b c d e f g h r => cases r <;> rfl
theorem pkS_inv {l : List Int} (hb : IsB l) (hl : l.length ≤ 65536) (h : (pkS l).2 = 0) : l = kyI (pkS l).1 ∧ wfKy (pkS l).1 := by
 unfold pkS at h ⊢
 split at h
 ·rename_i h1; exact absurd h h1
 ·rename_i h1
  rw [if_neg h1]
  split at h
  ·cases h
  ·rename_i h2
   rw [if_neg h2]
   split at h
   ·cases h
   ·rename_i h3
    rw [if_neg h3]
    obtain ⟨a1, a2, a3⟩ := dec_strings.inv l hb (by omega) (by simpa using h1)
    have h3 : (gL gB l).1.length = 2 := by simpa using h3
    have e2 := list2 h3
    rw [a2, Int.toNat_natCast] at h2
    have h2 : l.drop (encL encB (gL gB l).1).length = [] := drop_nil_eq (by simpa using h2)
    rw [h2, List.append_nil] at a3
    generalize (gL gB l).1 = xs at a1 a3 h e2 h3 ⊢
    have hs := a1.1 _ (rd_mem (k := 0) (by omega : 0 < xs.length))
    have hv := a1.1 _ (rd_mem (k := 1) (by omega : 1 < xs.length))
    have hlen : l.length = (encL encB xs).length := congrArg List.length a3
    have e2' : xs = [rd xs ((0 : Nat) : Int), rd xs ((1 : Nat) : Int)] := e2
    revert h hs hv e2'
    show (pkN (bytesI (rd xs ((0 : Nat) : Int))) (rd xs ((1 : Nat) : Int))).2 = 0 → _ → _ → _ → l = kyI (pkN (bytesI (rd xs ((0 : Nat) : Int))) (rd xs ((1 : Nat) : Int))).1 ∧ wfKy (pkN (bytesI (rd xs ((0 : Nat) : Int))) (rd xs ((1 : Nat) : Int))).1
    generalize rd xs ((0 : Nat) : Int) = s
    generalize rd xs ((1 : Nat) : Int) = v
    intro h hs hv e2'
    have hvl : v.length ≤ 65536 := by
     rw [e2'] at hlen
     have : v.length ≤ (encL encB [s, v]).length := by
      unfold encL encB
      rw [List.length_append, List.flatMap_cons, List.flatMap_cons, List.flatMap_nil, List.append_nil, List.length_append, List.length_append, List.length_append, bytesI_len', bytesI_len']; omega
     omega
    have sb : IsB (bytesI s) := bytesI_isB s
    have sl : (bytesI s).length ≤ 1099511627 := by rw [bytesI_len']; exact hs
    unfold pkN at h ⊢
    split at h
    ·rename_i h4; exact absurd h h4
    ·rename_i h4
     rw [if_neg h4]
     split at h
     ·cases h
     ·rename_i h5
      rw [if_neg h5]
      split at h
      ·cases h
      ·rename_i h6
       rw [if_neg h6]
       split at h
       ·rename_i h7
        rw [if_pos h7]
        obtain ⟨c1, c2, c3⟩ := dec_ints.inv _ sb sl (by simpa using h4)
        rw [c2, Int.toNat_natCast] at h5
        have h5 : (bytesI s).drop (encL encI (gL gI (bytesI s)).1).length = [] := drop_nil_eq (by simpa using h5)
        rw [h5, List.append_nil] at c3
        have h6 : (gL gI (bytesI s)).1.length = 8 := by simpa using h6
        generalize (gL gI (bytesI s)).1 = n at c1 c3 h6 h7 ⊢
        have e8 := list8 h6
        have hm : ∀ i : Nat, i < 8 → wfI (rd n (i : Int)) := fun i hi => c1.1 _ (rd_mem (by omega))
        have hr : (if (mkK n v).Raw then (1 : Int) else 0) = rd n 7 := by
         show (if (rd n 7 == 1) = true then (1 : Int) else 0) = rd n 7
         unfold inB at h7
         simp only [Bool.and_eq_true, decide_eq_true_eq] at h7
         by_cases hx : rd n 7 = 1
         ·simp [hx]
         ·simp [hx]; omega
        refine ⟨?_, ⟨⟨hm 0 (by decide), hm 1 (by decide), hm 2 (by decide), hm 3 (by decide), hm 4 (by decide), hm 5 (by decide), hm 6 (by decide)⟩, hvl⟩⟩
        have hn : nmI (mkK n v) = bytesI s := by
         unfold nmI
         rw [hr]
         show encL encI [rd n 0, rd n 1, rd n 2, rd n 3, rd n 4, rd n 5, rd n 6, rd n 7] = bytesI s
         rw [← e8]; exact c3.symm
        show l = encL encB [intsB (nmI (mkK n v)), v]
        rw [hn, intsB_bytesI, ← e2']
        exact a3
       ·cases h
/-! The content. -/
def contI (ks : List Key) : List Int := encL encB (ks.map fun k => intsB (kyI k))
def pksS : List (List UInt8) → List Key × Int
 | [] => ([], 0)
 | s :: r =>
  if (pkS (bytesI s)).2 ≠ 0 then ([], (pkS (bytesI s)).2)
  else if (pksS r).2 ≠ 0 then ([], (pksS r).2)
  else ((pkS (bytesI s)).1 :: (pksS r).1, 0)
theorem pksS_enc : ∀ ks : List Key, (∀ k ∈ ks, wfKy k) → pksS (ks.map fun k => intsB (kyI k)) = (ks, 0)
 | [], _ => rfl
 | k :: ks, h => by
  have hk := h k (by simp)
  rw [List.map_cons, pksS, bytesI_intsB (kyI_isB hk), pkS_enc hk, pksS_enc ks fun x hx => h x (by simp [hx])]
  simp
end Go.Cu

/-! Plain laws: making and opening a backup. -/
namespace Go.Cu
attribute [local irreducible] macS blkS bits xorS bytesS sealS openS
def labB : List UInt8 := [98, 97, 99, 107, 117, 112]
/-- The key of the backups. -/
def derS (key : List UInt8) : List UInt8 := macS key (intsB (encB labB))
theorem derS_len (key : List UInt8) : (derS key).length = 32 := macS_len _ _
theorem encB_len (s : List UInt8) : (encB s).length ≤ 9 + s.length := by
 have := encI_len (s.length : Int)
 unfold encB
 rw [List.length_append, bytesI_len']; omega
theorem derive_eq {key : List UInt8} (h : key.length < 65536) : kdf_Derive key labB [] = some (derS key) := by
 have hl := encB_len labB
 have hl2 : labB.length = 6 := rfl
 unfold kdf_Derive
 rw [wire_Bytes_eq (by decide), bind_s]
 refine loop_map (o := some (derS key)) ?_
 unfold kdf_Derive.l2
 dsimp only
 rw [ite_f (by decide)]
 unfold kdf_Derive.j1
 rw [Mac_ok _ _ (by omega) (by rw [intsB_len]; omega)]
 rfl
theorem concat_l2 {p : List (List Int)} (hp : p.length ≤ 100) (hl : ∀ x ∈ p, x.length ≤ 100000) : loopF (slices_Concat_byte.l2 p) (([] : List Int), (0 : Int)) = some p.flatten := by
 have := loop_list (l := p) (step := slices_Concat_byte.l2 p) (fun s => s.2) (fun s r => s.1 ++ r.flatten) (fun s => (s.1.length : Int) ≤ 100000 * s.2) ?_ ?_ (([] : List Int), (0 : Int)) 0 (by dsimp only [List.length_nil]; omega) rfl (Nat.zero_le _)
 ·simpa using this
 ·rintro ⟨o, s⟩ x r k ho hs hd hx hlt
  dsimp only at ho hs ⊢
  subst hs
  have h1 := hl x (mem_drop hd)
  refine .inl ⟨(o ++ x, (k : Int) + 1), ?_, rfl, by rw [List.length_append]; omega, by simp⟩
  unfold slices_Concat_byte.l2
  dsimp only
  rw [ite_t (by omega), grd_b ⟨by omega, by omega⟩, hx, grd_b (by omega), wrap_id (by omega) (by omega)]
 ·rintro ⟨o, s⟩ ho hs
  dsimp only at ho hs ⊢
  subst hs
  unfold slices_Concat_byte.l2
  dsimp only
  rw [ite_f (by omega)]
  simp [slices_Concat_byte.j1]
theorem concat_eq {p : List (List Int)} (hp : p.length ≤ 100) (hl : ∀ x ∈ p, x.length ≤ 100000) : slices_Concat_byte p = some p.flatten := by
 unfold slices_Concat_byte
 have := loop_list (l := p) (step := slices_Concat_byte.l4 p) (fun s => s.2) (fun s r => p.flatten) (fun s => 0 ≤ s.1 ∧ s.1 ≤ 100000 * s.2) ?_ ?_ ((0 : Int), (0 : Int)) 0 (by dsimp only; omega) rfl (Nat.zero_le _)
 ·exact this
 ·rintro ⟨n, s⟩ x r k ho hs hd hx hlt
  dsimp only at ho hs ⊢
  subst hs
  have h1 := hl x (mem_drop hd)
  refine .inl ⟨(n + (x.length : Int), (k : Int) + 1), ?_, rfl, by dsimp only; omega, rfl⟩
  unfold slices_Concat_byte.l4
  dsimp only
  rw [ite_t (by omega), grd_b ⟨by omega, by omega⟩, hx, wrap_id (n := n + (x.length : Int)) (by omega) (by omega), ite_f (by omega), wrap_id (by omega) (by omega)]
 ·rintro ⟨n, s⟩ ho hs
  dsimp only at ho hs ⊢
  subst hs
  unfold slices_Concat_byte.l4
  dsimp only
  rw [ite_f (by omega)]
  unfold slices_Concat_byte.j3 slices_Grow_byte
  rw [grd_b ⟨by omega, by omega⟩, bind_s, concat_l2 hp hl]; rfl
theorem headI_len {b : Backup} : (headI b).length ≤ 86 + b.Module.length := by
 have h1 := ints_len [b.Epoch, b.Number, b.Firmware, b.Time]
 have h2 := encB_len b.Module
 have h3 : b.Domain.toList.length = 16 := by simp
 have h4 : b.Policy.toList.length = 16 := by simp
 have h5 : [b.Epoch, b.Number, b.Firmware, b.Time].length = 4 := rfl
 unfold headI
 rw [List.length_append, List.length_append, List.length_append]; omega
theorem header_eq {b : Backup} (h : wfH b) (hm : b.Module.length ≤ 1000) : backup_Header b = some (headS b) := by
 have h1 := ints_len [b.Epoch, b.Number, b.Firmware, b.Time]
 have h2 := encB_len b.Module
 have h3 : b.Domain.toList.length = 16 := by simp
 have h4 : b.Policy.toList.length = 16 := by simp
 have h5 : [b.Epoch, b.Number, b.Firmware, b.Time].length = 4 := rfl
 unfold backup_Header
 have e1 : ((b.Domain.toList.take ((16 : Int)).toNat).drop ((0 : Int)).toNat) = b.Domain.toList := by
  show (b.Domain.toList.take 16) = _
  rw [List.take_of_length_le (by omega)]
 have e2 : ((b.Policy.toList.take ((16 : Int)).toNat).drop ((0 : Int)).toNat) = b.Policy.toList := by
  show (b.Policy.toList.take 16) = _
  rw [List.take_of_length_le (by omega)]
 rw [wire_Ints_eq (num4 h).1 (by simp), bind_s, wire_Bytes_eq h.mod, bind_s, e1, e2, concat_eq (by simp) ?_, bind_s]
 ·unfold headS headI
  simp
 ·intro x hx
  simp only [List.mem_cons, List.not_mem_nil, or_false] at hx
  rcases hx with rfl | rfl | rfl | rfl <;> omega
theorem content_eq {ks : List Key} (h : ∀ k ∈ ks, wfKy k) (hv : ∀ k ∈ ks, k.Value.length ≤ 1000) (hl : ks.length ≤ 60000) : backup_content ks = some (intsB (contI ks)) := by
 unfold backup_content
 rw [grd_b ⟨by omega, by omega, by omega⟩]
 have hlen : ∀ k ∈ ks, (intsB (kyI k)).length ≤ 65536 := by
  intro k hk
  have h1 := kyI_len k
  have h2 := hv k hk
  rw [intsB_len]; omega
 have := loop_list (l := ks) (step := backup_content.l3 ks) (fun s => s.2) (fun s r => intsB (encL encB (s.1.take s.2.toNat ++ r.map fun k => intsB (kyI k)))) (fun s => s.1.length = ks.length ∧ s.1.take s.2.toNat = (ks.map fun k => intsB (kyI k)).take s.2.toNat) ?_ ?_ (List.replicate ((ks.length : Int)).toNat ([] : List UInt8), (0 : Int)) 0 ⟨by simp, rfl⟩ rfl (Nat.zero_le _)
 ·simpa [contI] using this
 ·rintro ⟨o, s⟩ x r k ⟨ho, hp⟩ hs hd hx hlt
  dsimp only at ho hp hs ⊢
  subst hs
  rw [Int.toNat_natCast] at hp ⊢
  have hxm := mem_drop hd
  have hw := h x hxm
  have hkl := hlen x hxm
  have key : ∀ raw : Int, raw = (if x.Raw then 1 else 0) → backup_content.j2 ks (o, (k : Int)) raw = some (.inl (o.set k (intsB (kyI x)), (k : Int) + 1)) := by
   rintro raw rfl
   have hn := nmI_len x
   have hv2 := hv x hxm
   unfold backup_content.j2
   dsimp only
   rw [hx, wire_Ints_eq (num8 hw).1 (by simp), bind_s, wire_Strings_eq ?_ (by simp), bind_s, grd_b ⟨by omega, by omega⟩, wrap_id (by omega) (by omega)]
   ·rfl
   ·intro y hy
    simp only [List.mem_cons, List.not_mem_nil, or_false] at hy
    rcases hy with rfl | rfl
    ·show (intsB (nmI x)).length ≤ _
     rw [intsB_len]; omega
    ·omega
  have hstep : backup_content.l3 ks (o, (k : Int)) = some (.inl (o.set k (intsB (kyI x)), (k : Int) + 1)) := by
   unfold backup_content.l3
   dsimp only
   rw [ite_t (by omega), grd_b ⟨by omega, by omega⟩, hx]
   cases hr : x.Raw with
   | true => rw [if_pos rfl]; exact key 1 (by rw [hr]; rfl)
   | false => rw [if_neg (by simp)]; exact key 0 (by rw [hr]; rfl)
  have hko : k < o.length := by omega
  have e1 : (o.set k (intsB (kyI x))).take (k + 1) = o.take k ++ [intsB (kyI x)] := by
   rw [List.take_add_one, List.take_set_of_le (Nat.le_refl _)]
   simp [hko]
  refine .inl ⟨_, hstep, rfl, ⟨by rw [List.length_set]; exact ho, ?_⟩, ?_⟩
  ·dsimp only
   rw [show ((k : Int) + 1).toNat = k + 1 by omega, e1, hp, List.take_add_one]
   have : (ks.map fun k => intsB (kyI k))[k]? = some (intsB (kyI x)) := by
    rw [List.getElem?_map]
    have : ks[k]? = some x := by
     have := congrArg (fun m => m[0]?) hd
     simpa using this
    rw [this]; rfl
   rw [this]; rfl
  ·dsimp only
   rw [show ((k : Int) + 1).toNat = k + 1 by omega, e1]
   simp
 ·rintro ⟨o, s⟩ ⟨ho, hp⟩ hs
  dsimp only at ho hp hs ⊢
  subst hs
  rw [Int.toNat_natCast] at hp ⊢
  unfold backup_content.l3
  dsimp only
  rw [ite_f (by omega)]
  have eo : o = ks.map fun k => intsB (kyI k) := by
   rw [List.take_of_length_le (by omega), List.take_of_length_le (by rw [List.length_map]; exact Nat.le_refl _)] at hp
   exact hp
  unfold backup_content.j1
  rw [wire_Strings_eq (by rw [eo]; intro y hy; obtain ⟨k, hk, rfl⟩ := List.mem_map.1 hy; exact hlen k hk) (by omega), bind_s, List.take_of_length_le (by omega)]
  simp
/-- The blob of a backup. -/
def makeB (key : List UInt8) (b : Backup) : List UInt8 × Int :=
 if key.length ≠ 32 ∨ vBk b = false then ([], 1) else (intsB (encB (headS b)) ++ sealS (derS key) (headS b) (intsB (contI b.Keys)), 0)
structure okB (b : Backup) : Prop where
 hd : wfH b
 ks : ∀ k ∈ b.Keys, wfKy k
 len : b.Keys.length ≤ 60000
theorem okB.wf {b : Backup} (h : okB b) : wfB b := ⟨by have := h.len; omega, by have := h.hd.mod; omega, fun k hk => (h.ks k hk).num.2.2.1⟩
theorem vIds_val : ∀ (l : List Key) (last : Int), vIds last l = true → ∀ k ∈ l, vK k = true
 | [], _, _ => fun k hk => by cases hk
 | x :: r, last, h => by
  simp only [vIds, Bool.and_eq_true] at h
  obtain ⟨h1, h2, h3, h4⟩ := h
  intro k hk
  rcases List.mem_cons.1 hk with rfl | hk
  ·exact h1
  ·exact vIds_val r _ h4 k hk
theorem vK_val {k : Key} (h : vK k = true) : k.Value.length = 32 := by
 unfold vK at h
 simp only [Bool.and_eq_true, beq_iff_eq] at h
 obtain ⟨⟨⟨⟨⟨⟨_, h2⟩, _⟩, _⟩, _⟩, _⟩, _⟩ := h
 omega
theorem vBk_mod {b : Backup} (h : vBk b = true) : b.Module.length ≤ 12 := by
 unfold vBk vHd inB at h
 simp only [Bool.and_eq_true, decide_eq_true_eq] at h
 obtain ⟨⟨_, _, _, _, ⟨_, h5⟩, _⟩, _⟩ := h
 omega
theorem vBk_ids {b : Backup} (h : vBk b = true) : vIds 0 b.Keys = true := by
 unfold vBk at h
 simp only [Bool.and_eq_true] at h
 exact h.2
theorem contI_len {ks : List Key} (hv : ∀ k ∈ ks, k.Value.length = 32) : (contI ks).length ≤ 9 + ks.length * 149 := by
 have h1 := encI_len ((ks.map fun k => intsB (kyI k)).length : Int)
 have h2 := flatMap_len encB 149 (ks.map fun k => intsB (kyI k)) (by
  intro x hx
  obtain ⟨k, hk, rfl⟩ := List.mem_map.1 hx
  have h3 := encB_len (intsB (kyI k))
  have h4 := kyI_len k
  have h5 := hv k hk
  rw [intsB_len] at h3
  omega)
 rw [List.length_map] at h2
 unfold contI encL
 rw [List.length_append]; omega
theorem make_eq {key : List UInt8} {b : Backup} (hb : okB b) (hk : key.length < 65536) (hs : (contI b.Keys).length < 65536) : backup_Make key b = some (makeB key b) := by
 unfold backup_Make makeB
 by_cases h1 : key.length = 32
 ·rw [if_neg (by simp; omega), backup_Valid_eq hb.wf, bind_s]
  cases hv : vBk b with
  | false => rw [if_pos (.inr rfl)]; rfl
  | true =>
   have hm := vBk_mod hv
   have hid := vIds_val _ _ (vBk_ids hv)
   have hhl : (headS b).length ≤ 98 := by
    have := headI_len (b := b)
    unfold headS
    rw [intsB_len]; omega
   rw [if_neg (by simp [h1]), bind_s]
   have hel := encB_len (headS b)
   have hcl : (intsB (contI b.Keys)).length < 65536 := by rw [intsB_len]; exact hs
   have hsl := sealS_len (derS key) (headS b) (intsB (contI b.Keys))
   rw [if_neg (by simp), header_eq hb.hd (by omega), bind_s]
   have e := derive_eq (key := key) hk
   unfold labB at e
   rw [e, bind_s, content_eq hb.ks (fun k hk => by have := vK_val (hid k hk); omega) hb.len, bind_s, Seal_ok _ _ _ (by rw [derS_len]; decide) (by omega) hcl, if_pos (derS_len _), bind_s, if_neg (by simp), wire_Bytes_eq (by omega), bind_s, grd_b (by dsimp only; rw [intsB_len]; omega)]
 ·rw [if_pos (by simp; omega), if_pos (.inl h1)]; rfl
/-- The backup of a blob, or an error. -/
def openB (key blob : List UInt8) : Backup × Int :=
 if key.length ≠ 32 then (zB, 1)
 else if (peekS (bytesI blob)).2 ≠ 0 then (zB, (peekS (bytesI blob)).2)
 else if (openR (derS key) (gB (bytesI blob)).1 (intsB ((bytesI blob).drop (gB (bytesI blob)).2.1.toNat))).2 ≠ 0 then (zB, (openR (derS key) (gB (bytesI blob)).1 (intsB ((bytesI blob).drop (gB (bytesI blob)).2.1.toNat))).2)
 else if (gL gB (bytesI (openR (derS key) (gB (bytesI blob)).1 (intsB ((bytesI blob).drop (gB (bytesI blob)).2.1.toNat))).1)).2.2 ≠ 0 then (zB, (gL gB (bytesI (openR (derS key) (gB (bytesI blob)).1 (intsB ((bytesI blob).drop (gB (bytesI blob)).2.1.toNat))).1)).2.2)
 else if ((bytesI (openR (derS key) (gB (bytesI blob)).1 (intsB ((bytesI blob).drop (gB (bytesI blob)).2.1.toNat))).1).drop (gL gB (bytesI (openR (derS key) (gB (bytesI blob)).1 (intsB ((bytesI blob).drop (gB (bytesI blob)).2.1.toNat))).1)).2.1.toNat).length ≠ 0 then (zB, 6)
 else if (pksS (gL gB (bytesI (openR (derS key) (gB (bytesI blob)).1 (intsB ((bytesI blob).drop (gB (bytesI blob)).2.1.toNat))).1)).1).2 ≠ 0 then (zB, (pksS (gL gB (bytesI (openR (derS key) (gB (bytesI blob)).1 (intsB ((bytesI blob).drop (gB (bytesI blob)).2.1.toNat))).1)).1).2)
 else if vBk { (peekS (bytesI blob)).1 with Keys := (pksS (gL gB (bytesI (openR (derS key) (gB (bytesI blob)).1 (intsB ((bytesI blob).drop (gB (bytesI blob)).2.1.toNat))).1)).1).1 } = true then ({ (peekS (bytesI blob)).1 with Keys := (pksS (gL gB (bytesI (openR (derS key) (gB (bytesI blob)).1 (intsB ((bytesI blob).drop (gB (bytesI blob)).2.1.toNat))).1)).1).1 }, 0)
 else (zB, 6)
theorem open_j1 {b : Backup} (hb : wfB b) (c : backup_reader) : backup_Open.j1 b c = some (if c.e ≠ 0 then (zB, c.e) else if vBk b = true then (b, 0) else (zB, 6)) := by
 unfold backup_Open.j1
 rw [backup_Valid_eq hb, bind_s, check_eq, bind_s]
 by_cases h : c.e = 0
 ·have h' : ¬ c.e ≠ 0 := by simp [h]
  rw [if_neg h']
  cases hv : vBk b with
  | true => rw [ckR_ok (by exact h), if_neg (by simp), if_pos rfl]
  | false => rw [ckR_no (by exact h) (by decide), if_pos (by simp), if_neg (by simp)]; rfl
 ·have h' : c.e ≠ 0 := h
  rw [if_pos h', ckR_err (by exact h), if_pos (by simp)]; rfl
theorem pkS_use {l : List Int} (hb : IsB l) (hl : l.length ≤ 65536) : wfI (pkS l).1.Uses := by
 by_cases h : (pkS l).2 = 0
 ·exact (pkS_inv hb hl h).2.num.2.2.1
 ·have : (pkS l).1 = zK := by
   unfold pkS at h ⊢
   split
   ·rfl
   ·rename_i h1
    rw [if_neg h1] at h
    split
    ·rfl
    ·rename_i h2
     rw [if_neg h2] at h
     split
     ·rfl
     ·rename_i h3
      rw [if_neg h3] at h
      unfold pkN at h ⊢
      split
      ·rfl
      ·rename_i h4
       rw [if_neg h4] at h
       split
       ·rfl
       ·rename_i h5
        rw [if_neg h5] at h
        split
        ·rfl
        ·rename_i h6
         rw [if_neg h6] at h
         split
         ·rename_i h7
          rw [if_pos h7] at h
          exact absurd rfl h
         ·rfl
  rw [this]; exact ⟨by decide, by decide⟩
theorem open_step {t : List (List UInt8) × backup_reader} {b : Backup} {c : backup_reader} {s : List UInt8} {r : List (List UInt8)} {i : Nat} (hl : t.1.length ≤ 65536) (hd : t.1.drop i = s :: r) (hk : b.Keys.length ≤ i) {k : Key} {c' : backup_reader} (hkey : backup_reader_key c s = some (k, c')) :
  backup_Open.l2 t (b, c, (i : Int)) = some (.inl ({ b with Keys := b.Keys ++ [k] }, c', (i : Int) + 1)) := by
 have hlt := drop_lt hd
 unfold backup_Open.l2
 dsimp only
 rw [ite_t (by omega), grd_b ⟨by omega, by omega⟩, rd_cons hd, hkey, bind_s, grd_b (by simp; omega), wrap_id (by omega) (by omega)]
theorem open_end {t : List (List UInt8) × backup_reader} {b : Backup} {c : backup_reader} (hb : wfB b) : backup_Open.l2 t (b, c, (t.1.length : Int)) = some (.inr (if c.e ≠ 0 then (zB, c.e) else if vBk b = true then (b, 0) else (zB, 6))) := by
 unfold backup_Open.l2
 dsimp only
 rw [ite_f (by omega), open_j1 hb]; rfl
theorem wfB_snoc {b : Backup} (h : wfB b) (hl : b.Keys.length ≤ 65536) {k : Key} (hk : wfI k.Uses) : wfB { b with Keys := b.Keys ++ [k] } := by
 refine ⟨by simp; omega, h.mod, ?_⟩
 intro x hx
 rcases List.mem_append.1 hx with hx | hx
 ·exact h.use x hx
 ·rcases List.mem_cons.1 hx with rfl | hx
  ·exact hk
  ·cases hx
theorem open_bad {t : List (List UInt8) × backup_reader} (hl : t.1.length ≤ 65536) (hs : ∀ s ∈ t.1, s.length ≤ 65536) : ∀ (m i : Nat) (b : Backup) (c : backup_reader), i + m = t.1.length → c.e ≠ 0 → wfB b → b.Keys.length ≤ i → loopF (backup_Open.l2 t) (b, c, (i : Int)) = some (zB, c.e)
 | 0, i, b, c, h1, h2, h3, h4 => by
  obtain rfl : i = t.1.length := by omega
  rw [loopF_done (open_end h3), if_pos h2]
 | m + 1, i, b, c, h1, h2, h3, h4 => by
  have hlt : i < t.1.length := by omega
  have hd : t.1.drop i = t.1[i] :: t.1.drop (i + 1) := List.drop_eq_getElem_cons hlt
  have hsl := hs _ (mem_drop hd)
  rw [loopF_next (open_step hl hd h4 (key_err h2 (by omega)))]
  exact open_bad hl hs m (i + 1) _ c (by omega) h2 (wfB_snoc h3 (by omega) ⟨by decide, by decide⟩) (by simp; omega)
theorem open_loop {t : List (List UInt8) × backup_reader} (hl : t.1.length ≤ 65536) (hs : ∀ s ∈ t.1, s.length ≤ 65536) : ∀ (m i : Nat) (b : Backup) (c : backup_reader), i + m = t.1.length → c.e = 0 → wfB b → b.Keys.length ≤ i →
  loopF (backup_Open.l2 t) (b, c, (i : Int)) = some (if (pksS (t.1.drop i)).2 ≠ 0 then (zB, (pksS (t.1.drop i)).2) else if vBk { b with Keys := b.Keys ++ (pksS (t.1.drop i)).1 } = true then ({ b with Keys := b.Keys ++ (pksS (t.1.drop i)).1 }, 0) else (zB, 6))
 | 0, i, b, c, h1, h2, h3, h4 => by
  obtain rfl : i = t.1.length := by omega
  rw [loopF_done (open_end h3), List.drop_length]
  have e : ({ b with Keys := b.Keys ++ (pksS []).1 } : Backup) = b := by
   show ({ b with Keys := b.Keys ++ [] } : Backup) = b
   rw [List.append_nil]
  rw [e, h2]
  simp [pksS]
 | m + 1, i, b, c, h1, h2, h3, h4 => by
  have hlt : i < t.1.length := by omega
  have hd : t.1.drop i = t.1[i] :: t.1.drop (i + 1) := List.drop_eq_getElem_cons hlt
  have hsl := hs _ (mem_drop hd)
  have hu := pkS_use (bytesI_isB t.1[i]) (by rw [bytesI_len']; exact hsl)
  rw [loopF_next (open_step hl hd h4 (key_eq h2 (by omega))), hd, pksS]
  by_cases h5 : (pkS (bytesI t.1[i])).2 = 0
  ·have h5' : ¬ (pkS (bytesI t.1[i])).2 ≠ 0 := by simp [h5]
   rw [if_neg h5']
   have ih := open_loop hl hs m (i + 1) { b with Keys := b.Keys ++ [(pkS (bytesI t.1[i])).1] } { c with e := (pkS (bytesI t.1[i])).2 } (by omega) h5 (wfB_snoc h3 (by omega) hu) (by simp; omega)
   have ih2 : loopF (backup_Open.l2 t) ({ b with Keys := b.Keys ++ [(pkS (bytesI t.1[i])).1] }, { c with e := (pkS (bytesI t.1[i])).2 }, (i : Int) + 1) = _ := ih
   rw [ih2]
   by_cases h6 : (pksS (t.1.drop (i + 1))).2 = 0
   ·have h6' : ¬ (pksS (t.1.drop (i + 1))).2 ≠ 0 := by simp [h6]
    simp only [if_neg h6']
    simp
   ·have h6' : (pksS (t.1.drop (i + 1))).2 ≠ 0 := h6
    simp only [if_pos h6']
  ·have h5' : (pkS (bytesI t.1[i])).2 ≠ 0 := h5
   rw [if_pos h5']
   have := open_bad hl hs m (i + 1) { b with Keys := b.Keys ++ [(pkS (bytesI t.1[i])).1] } { c with e := (pkS (bytesI t.1[i])).2 } (by omega) h5 (wfB_snoc h3 (by omega) hu) (by simp; omega)
   rw [if_pos h5']
   exact this
theorem flat_mem_len {e : List UInt8 → List Int} {xs : List (List UInt8)} {B : Nat} (he : ∀ x, x.length ≤ (e x).length) (h : (xs.flatMap e).length ≤ B) : ∀ x ∈ xs, x.length ≤ B := by
 intro x hx
 have h1 := he x
 have : (e x).length ≤ (xs.flatMap e).length := by
  induction xs with
  | nil => cases hx
  | cons y ys ih =>
   rw [List.flatMap_cons, List.length_append] at h ⊢
   rcases List.mem_cons.1 hx with rfl | hx
   ·omega
   ·have := ih (by omega) hx; omega
 omega
theorem strs_bound {l : List Int} (hb : IsB l) {B : Nat} (hl : l.length ≤ B) (hB : B ≤ 1099511627) (h : (gL gB l).2.2 = 0) : (gL gB l).1.length ≤ B ∧ ∀ s ∈ (gL gB l).1, s.length ≤ B := by
 obtain ⟨h1, h2, h3⟩ := dec_strings.inv l hb (by omega) h
 have h4 := congrArg List.length h3
 rw [List.length_append] at h4
 have h5 : (encL encB (gL gB l).1).length ≤ B := by omega
 unfold encL at h5
 rw [List.length_append] at h5
 constructor
 ·have : ∀ ys : List (List UInt8), ys.length ≤ (ys.flatMap encB).length := by
   intro ys
   induction ys with
   | nil => exact Nat.le_refl _
   | cons y ys ih =>
    have := encI_pos (y.length : Int)
    rw [List.flatMap_cons, List.length_append, List.length_cons]
    unfold encB at *
    rw [List.length_append]; omega
  have := this (gL gB l).1
  omega
 ·exact flat_mem_len (e := encB) (fun x => by unfold encB; rw [List.length_append, bytesI_len']; omega) (by omega)
theorem openR_len {key ad blob : List UInt8} (h : (openR key ad blob).2 = 0) : (openR key ad blob).1.length ≤ blob.length := by
 unfold openR at h ⊢
 split
 ·rename_i h1
  rw [if_pos h1] at h
  split
  ·rename_i h2; exact Nat.zero_le _
  ·rename_i h2
   rw [if_neg h2] at h
   have := open_inv key ad blob (openS key ad blob).1 (by omega) (Prod.ext rfl h)
   have := congrArg List.length this
   rw [sealS_len] at this
   omega
 ·exact Nat.zero_le _
theorem gB_bound {l : List Int} (hb : IsB l) (hl : l.length ≤ 1099511627) (h : (gB l).2.2 = 0) : (gB l).1.length ≤ l.length := by
 obtain ⟨h1, h2, h3⟩ := dec_bytes.inv l hb hl h
 have h4 := congrArg List.length h3
 rw [List.length_append] at h4
 have : (gB l).1.length ≤ (encB (gB l).1).length := by unfold encB; rw [List.length_append, bytesI_len']; omega
 omega
theorem peekS_gB {l : List Int} (h : (peekS l).2 = 0) : (gB l).2.2 = 0 ∧ (hdrS (bytesI (gB l).1)).2 = 0 ∧ peekS l = hdrS (bytesI (gB l).1) := by
 unfold peekS at h ⊢
 split at h
 ·rename_i h1; exact absurd h h1
 ·rename_i h1
  rw [if_neg h1]
  exact ⟨by simpa using h1, h, rfl⟩
theorem open_eq {key blob : List UInt8} (hk : key.length < 65536) (hl : blob.length < 65536) : backup_Open key blob = some (openB key blob) := by
 have hI : IsB (bytesI blob) := bytesI_isB blob
 have hIl : (bytesI blob).length < 65536 := by rw [bytesI_len']; exact hl
 unfold backup_Open openB
 generalize bytesI blob = l at hI hIl
 by_cases h0 : key.length = 32
 ·have h0' : ¬ key.length ≠ 32 := by simp [h0]
  rw [if_neg (by simp; omega), if_neg h0']
  obtain ⟨b, x, hp, he, hx⟩ := peek_eq hI (by omega)
  rw [hp, bind_s]
  by_cases h1 : (peekS l).2 = 0
  ·have h1' : ¬ (peekS l).2 ≠ 0 := by simp [h1]
   obtain ⟨rfl, hh, hr⟩ := hx h1
   obtain ⟨g1, g2, g3⟩ := peekS_gB h1
   have gl := gB_bound hI (by omega) g1
   have hw : wfB (peekS l).1 := by
    rw [g3]
    obtain ⟨w1, w2, w3, w4⟩ := hdrS_inv (bytesI_isB _) (by rw [bytesI_len']; omega) g2
    refine ⟨by rw [w3]; simp, by have := w4.mod; omega, by rw [w3]; intro k hk; cases hk⟩
   have hnk : (peekS l).1.Keys = [] := by
    rw [g3]
    exact (hdrS_inv (bytesI_isB _) (by rw [bytesI_len']; omega) g2).2.2.1
   have e := derive_eq (key := key) hk
   unfold labB at e
   have hrl : (intsB (l.drop (gB l).2.1.toNat)).length < 65536 := by rw [intsB_len, List.length_drop]; omega
   rw [if_neg (by rw [he, h1]; simp), if_neg h1', e, bind_s, hh, hr, Open_ok _ _ _ (by rw [derS_len]; decide) (by omega) hrl, bind_s]
   obtain ⟨o, ho⟩ : ∃ o, o = openR (derS key) (gB l).1 (intsB (l.drop (gB l).2.1.toNat)) := ⟨_, rfl⟩
   rw [← ho]
   by_cases h2 : o.2 = 0
   ·have h2' : ¬ o.2 ≠ 0 := by simp [h2]
    have hol : o.1.length < 65536 := by
     have := openR_len (key := derS key) (ad := (gB l).1) (blob := intsB (l.drop (gB l).2.1.toNat)) (by rw [← ho]; exact h2)
     rw [← ho] at this
     omega
    have hob : IsB (bytesI o.1) := bytesI_isB _
    have hobl : (bytesI o.1).length ≤ 65536 := by rw [bytesI_len']; omega
    rw [if_neg (by simp [h2]), if_neg h2', whole_strings_eq (x := ⟨bytesI o.1, 0⟩) hob (by dsimp only; omega), bind_s]
    by_cases h3 : (gL gB (bytesI o.1)).2.2 = 0
    ·have h3' : ¬ (gL gB (bytesI o.1)).2.2 ≠ 0 := by simp [h3]
     obtain ⟨s1, s2⟩ := strs_bound hob hobl (by decide) h3
     rw [if_neg h3']
     by_cases h4 : ((bytesI o.1).drop (gL gB (bytesI o.1)).2.1.toNat).length = 0
     ·have h4' : ¬ ((bytesI o.1).drop (gL gB (bytesI o.1)).2.1.toNat).length ≠ 0 := by simpa using h4
      rw [if_neg h4', whR_ok (x := ⟨bytesI o.1, 0⟩) rfl h3 h4]
      have := open_loop (t := ((gL gB (bytesI o.1)).1, { (⟨bytesI o.1, 0⟩ : backup_reader) with rest_ := (bytesI o.1).drop (gL gB (bytesI o.1)).2.1.toNat })) s1 s2 (gL gB (bytesI o.1)).1.length 0 (peekS l).1 { (⟨bytesI o.1, 0⟩ : backup_reader) with rest_ := (bytesI o.1).drop (gL gB (bytesI o.1)).2.1.toNat } (by simp) rfl hw (by rw [hnk]; simp)
      rw [List.drop_zero, hnk, List.nil_append] at this
      exact this
     ·have h4' : ((bytesI o.1).drop (gL gB (bytesI o.1)).2.1.toNat).length ≠ 0 := h4
      rw [if_pos h4', whR_more (x := ⟨bytesI o.1, 0⟩) rfl h3 h4]
      exact open_bad (t := ((gL gB (bytesI o.1)).1, { ({ (⟨bytesI o.1, 0⟩ : backup_reader) with rest_ := (bytesI o.1).drop (gL gB (bytesI o.1)).2.1.toNat } : backup_reader) with e := 6 })) s1 s2 (gL gB (bytesI o.1)).1.length 0 (peekS l).1 _ (by simp) (by show (6 : Int) ≠ 0; decide) hw (by rw [hnk]; simp)
    ·have h3' : (gL gB (bytesI o.1)).2.2 ≠ 0 := h3
     rw [if_pos h3', whR_no (x := ⟨bytesI o.1, 0⟩) rfl h3]
     exact open_bad (t := (([] : List (List UInt8)), { (⟨bytesI o.1, 0⟩ : backup_reader) with e := (gL gB (bytesI o.1)).2.2 })) (by simp) (fun s hs => by cases hs) 0 0 (peekS l).1 _ (by simp) h3 hw (by rw [hnk]; simp)
   ·have h2' : o.2 ≠ 0 := h2
    rw [if_pos (by simpa using h2), if_pos h2']; rfl
  ·have h1' : (peekS l).2 ≠ 0 := h1
   rw [if_pos (by rw [he]; simpa using h1), if_pos h1', he]; rfl
 ·have h0' : key.length ≠ 32 := h0
  rw [if_pos (by simp; omega), if_pos h0']; rfl
/-! There and back. -/
theorem open_make {key : List UInt8} {b : Backup} (hb : okB b) (hs : (contI b.Keys).length < 65536) (h : (makeB key b).2 = 0) : openB key (makeB key b).1 = (b, 0) := by
 unfold makeB at h ⊢
 split at h
 ·cases h
 ·rename_i h1
  rw [if_neg h1]
  obtain ⟨hk, hv⟩ : key.length = 32 ∧ vBk b = true := by
   refine ⟨?_, ?_⟩
   ·by_cases hk : key.length = 32
    ·exact hk
    ·exact absurd (.inl hk) h1
   ·cases hv : vBk b with
    | true => rfl
    | false => exact absurd (.inr hv) h1
  dsimp only
  have hm := vBk_mod hv
  have hhl : (headS b).length ≤ 98 := by
   have := headI_len (b := b)
   unfold headS
   rw [intsB_len]; omega
  obtain ⟨S, hS⟩ : ∃ S, S = sealS (derS key) (headS b) (intsB (contI b.Keys)) := ⟨_, rfl⟩
  have hSl : ¬ S.length < 28 := by rw [hS, sealS_len]; omega
  rw [← hS]
  have e0 : bytesI (intsB (encB (headS b)) ++ S) = encB (headS b) ++ bytesI S := by
   rw [bytesI_app, bytesI_intsB (dec_bytes.isB _ (by omega))]
  have e1 := dec_bytes.enc (headS b) (bytesI S) (by omega)
  have e2 : bytesI (headS b) = headI b := bytesI_intsB (headI_isB hb.hd)
  have e3 := hdrS_enc hb.hd (vBk_noK hv)
  have e4 : peekS (encB (headS b) ++ bytesI S) = (noK b, 0) := by
   unfold peekS
   rw [e1]
   dsimp only
   rw [if_neg (by simp), e2, e3]
  have hcs : (∀ x ∈ b.Keys.map (fun k => intsB (kyI k)), x.length ≤ 1099511627) ∧ (b.Keys.map (fun k => intsB (kyI k))).length ≤ 1099511627 := by
   refine ⟨?_, by rw [List.length_map]; have := hb.len; omega⟩
   intro x hx
   obtain ⟨k, hk, rfl⟩ := List.mem_map.1 hx
   have h1 := kyI_len k
   have h2 := (hb.ks k hk).val
   rw [intsB_len]; omega
  have e5 : bytesI (intsB (contI b.Keys)) = contI b.Keys := bytesI_intsB (dec_strings.isB _ hcs)
  have e6 := dec_strings.enc (b.Keys.map fun k => intsB (kyI k)) [] hcs
  rw [List.append_nil] at e6
  have e7 : openR (derS key) (headS b) S = (intsB (contI b.Keys), 0) := by
   unfold openR
   rw [if_pos (derS_len _), if_neg hSl, hS, open_seal]
  have e8 : gL gB (contI b.Keys) = (b.Keys.map (fun k => intsB (kyI k)), ((contI b.Keys).length : Int), 0) := e6
  unfold openB
  have e9 : ((encB (headS b) ++ bytesI S).drop (((encB (headS b)).length : Int)).toNat) = bytesI S := drop_left' _ _
  have e10 : ((contI b.Keys).drop (((contI b.Keys).length : Int)).toNat).length = 0 := by rw [Int.toNat_natCast, List.drop_length]; rfl
  simp only [e0, e1, e4, e9, intsB_bytesI, e7, e5, e8, e10, pksS_enc _ hb.ks]
  have hnb : ({ noK b with Keys := b.Keys } : Backup) = b := rfl
  simp [hk, hnb, hv]
end Go.Cu

/-! Plain laws: live keys, complete backups, equal backups, small ones. -/
namespace Go.Cu
attribute [local irreducible] macS blkS bits xorS bytesS sealS openS
def liveB (now : Int) (k : Key) : Bool := decide (k.Start ≤ now) && decide (now < k.End)
theorem keys_Live_eq (k : Key) (now : Int) : keys_Live k now = some (liveB now k) := by
 unfold keys_Live liveB
 by_cases h : k.Start ≤ now <;> simp [h]
theorem ref27_Live_eq (k : Key) (now : Int) : ref27_Live k now = some (liveB now k) := by
 unfold ref27_Live liveB
 by_cases h : k.Start ≤ now <;> simp [h]
theorem select_eq {t : Table} (now : Int) (hl : t.Keys.length ≤ 1099511627) : backup_Select t now = some (t.Keys.filter (liveB now)) := by
 unfold backup_Select
 have := loop_list (l := t.Keys) (step := backup_Select.l3 t now) (fun s => s.2) (fun s r => s.1 ++ r.filter (liveB now)) (fun s => (s.1.length : Int) ≤ s.2) ?_ ?_ (([] : List Key), (0 : Int)) 0 (by simp) rfl (Nat.zero_le _)
 ·simpa using this
 ·rintro ⟨o, s⟩ x r k ho hs hd hx hlt
  dsimp only at ho hs ⊢
  subst hs
  unfold backup_Select.l3 backup_Select.j2
  dsimp only
  rw [ite_t (by omega), grd_b ⟨by omega, by omega⟩, hx, keys_Live_eq, bind_s, wrap_id (n := (k : Int) + 1) (by omega) (by omega)]
  cases hv : liveB now x with
  | true =>
   rw [if_pos rfl, grd_b (by simp; omega)]
   exact .inl ⟨_, rfl, rfl, by simp; omega, by simp [hv]⟩
  | false =>
   rw [if_neg (by simp)]
   exact .inl ⟨_, rfl, rfl, by dsimp only; omega, by simp [hv]⟩
 ·rintro ⟨o, s⟩ ho hs
  dsimp only at ho hs ⊢
  subst hs
  unfold backup_Select.l3
  dsimp only
  rw [ite_f (by omega)]
  simp [backup_Select.j1]
theorem keys_same {a b : Backup} (h2 : a.Keys.length = b.Keys.length) (hl : a.Keys.length ≤ 1099511627776) {step : Int → Option (Int ⊕ Bool)}
  (hs : ∀ s : Int, step s = if decide (s < (a.Keys.length : Int)) = true then (grd (0 ≤ s ∧ s < (a.Keys.length : Int))).bind fun _ => (grd (0 ≤ s ∧ s < (b.Keys.length : Int))).bind fun _ => if (!(decide ((rd a.Keys s) = (rd b.Keys s)))) = true then some (.inr (false)) else some (.inl (IntKind.i64.wrap (s + (1 : Int)))) else some (.inr true)) :
  loopF step 0 = some (decide (a.Keys = b.Keys)) := by
 have := loop_list (l := a.Keys) (step := step) (fun s => s) (fun s r => decide (r = b.Keys.drop s.toNat)) (fun _ => True) ?_ ?_ 0 0 trivial rfl (Nat.zero_le _)
 ·simpa using this
 ·intro s x r k _ hk hd hx hlt
  have hk : s = (k : Int) := hk
  subst hk
  rw [hs, ite_t (by omega), grd_b ⟨by omega, by omega⟩, grd_b ⟨by omega, by omega⟩, hx]
  have hlt' : k < b.Keys.length := by omega
  have hd' : b.Keys.drop k = b.Keys[k] :: b.Keys.drop (k + 1) := List.drop_eq_getElem_cons hlt'
  rw [rd_cons hd', Int.toNat_natCast, hd']
  generalize b.Keys[k] = y
  generalize hr' : List.drop (k + 1) b.Keys = r'
  by_cases h : x = y
  ·rw [if_neg (by simp [h]), wrap_id (by omega) (by omega)]
   exact .inl ⟨_, rfl, rfl, trivial, by rw [show ((k : Int) + 1).toNat = k + 1 by omega, hr', h]; simp⟩
  ·rw [if_pos (by simpa using h)]
   exact .inr (by simp [h])
 ·intro s _ hs'
  have hs' : s = (a.Keys.length : Int) := hs'
  subst hs'
  rw [hs, ite_f (by omega)]
  simp [h2]
theorem ref36_Same_eq {a b : Backup} (hl : a.Keys.length ≤ 1099511627776) : ref36_Same a b = some (decide (a = b)) := by
 unfold ref36_Same
 have nd_ : ∀ {p : Prop} [Decidable p], ¬ p → (some (decide p) : Option Bool) = some false := fun h => by rw [decide_eq_false h]
 by_cases h1 : a.Domain = b.Domain
 ·rw [if_neg (by simp [h1])]
  by_cases h2 : a.Epoch = b.Epoch
  ·rw [if_neg (by simp [h2])]
   by_cases h3 : a.Number = b.Number
   ·rw [if_neg (by simp [h3])]
    by_cases h4 : a.Firmware = b.Firmware
    ·rw [if_neg (by simp [h4])]
     by_cases h5 : a.Time = b.Time
     ·rw [if_neg (by simp [h5])]
      by_cases h6 : a.Policy = b.Policy
      ·rw [if_neg (by simp [h6])]
       by_cases h7 : a.Module = b.Module
       ·rw [if_neg (by simp [h7]), bind_s]
        by_cases h8 : a.Keys.length = b.Keys.length
        ·rw [if_neg (by simp [h8]), keys_same (step := ref36_Same.l2 a b) h8 hl (fun s => rfl)]
         congr 1
         rw [Bool.eq_iff_iff]
         simp only [decide_eq_true_eq]
         constructor
         ·intro h9
          cases a; cases b
          simp only at h1 h2 h3 h4 h5 h6 h7 h9
          subst h1 h2 h3 h4 h5 h6 h7 h9
          rfl
         ·intro h; rw [h]
        ·rw [if_pos (by simp; omega)]
         exact (nd_ fun h => h8 (by rw [h])).symm
       ·rw [if_pos (by simpa using h7), bind_s, if_pos rfl]
        exact (nd_ fun h => h7 (by rw [h])).symm
      ·rw [if_pos (by simpa using h6), bind_s, if_pos rfl]
       exact (nd_ fun h => h6 (by rw [h])).symm
     ·rw [if_pos (by simpa using h5), bind_s, if_pos rfl]
      exact (nd_ fun h => h5 (by rw [h])).symm
    ·rw [if_pos (by simpa using h4), bind_s, if_pos rfl]
     exact (nd_ fun h => h4 (by rw [h])).symm
   ·rw [if_pos (by simpa using h3), bind_s, if_pos rfl]
    exact (nd_ fun h => h3 (by rw [h])).symm
  ·rw [if_pos (by simpa using h2), bind_s, if_pos rfl]
   exact (nd_ fun h => h2 (by rw [h])).symm
 ·rw [if_pos (by simpa using h1), bind_s, if_pos rfl]
  exact (nd_ fun h => h1 (by rw [h])).symm
/-! Small backups. -/
structure inBk (b : Backup) : Prop where
 dom : IsB b.Domain.toList
 pol : IsB b.Policy.toList
 nm4 : wfI b.Epoch ∧ wfI b.Number ∧ wfI b.Firmware ∧ wfI b.Time
 num : ∀ k ∈ b.Keys, wfI k.Id ∧ wfI k.Type_ ∧ wfI k.Uses ∧ wfI k.Start ∧ wfI k.End ∧ wfI k.Version ∧ wfI k.Parent
 len : b.Keys.length ≤ 9223372036854775807
theorem makeB_len {key : List UInt8} {b : Backup} (h : (makeB key b).2 = 0) (hv : ∀ k ∈ b.Keys, k.Value.length ≤ 100) (hl : b.Keys.length ≤ 40) : (makeB key b).1.length < 65536 := by
 unfold makeB at h ⊢
 split at h
 ·cases h
 ·rename_i h1
  rw [if_neg h1]
  dsimp only
  have hvb : vBk b = true := by
   cases hvb : vBk b with
   | true => rfl
   | false => exact absurd (.inr hvb) h1
  have hm := vBk_mod hvb
  have hhl : (headS b).length ≤ 98 := by
   have := headI_len (b := b)
   unfold headS
   rw [intsB_len]; omega
  have hel := encB_len (headS b)
  have h2 := contI_len (ks := b.Keys) (fun k hk => vK_val (vIds_val _ _ (vBk_ids hvb) k hk))
  rw [List.length_append, sealS_len, intsB_len, intsB_len]; omega
end Go.Cu

/-! Plain laws: a backup goes there and back. -/
namespace Go.Cu
attribute [local irreducible] macS blkS bits xorS bytesS sealS openS makeB openB
theorem vTk_val {n : Int} : ∀ (l : List Key) (last : Int), vTk n last l = true → ∀ k ∈ l, vK k = true
 | [], _, _ => fun k hk => by cases hk
 | x :: r, last, h => by
  simp only [vTk, Bool.and_eq_true] at h
  intro k hk
  rcases List.mem_cons.1 hk with rfl | hk
  ·exact h.1
  ·exact vTk_val r _ h.2.2.2.2 k hk
structure inTk (t : Table) : Prop where
 nxt : wfI t.Next
 num : ∀ k ∈ t.Keys, wfI k.Id ∧ wfI k.Type_ ∧ wfI k.Uses ∧ wfI k.Start ∧ wfI k.End ∧ wfI k.Version ∧ wfI k.Parent
theorem inTk.wf {t : Table} (h : inTk t) (hl : t.Keys.length ≤ 4096) : wfT t := ⟨by omega, h.nxt, fun k hk => (h.num k hk).2.2.1⟩
end Go.Cu

/-! Plain laws: a backup is made, opened and restored. -/
namespace Go.Cu
attribute [local irreducible] macS blkS bits xorS bytesS sealS openS makeB openB
theorem few37 (t : Table) (b : Backup) (hk : b.Keys.length ≤ 40) (hm : b.Module.length ≤ 100) : law37_few t b = some (decide (t.Keys.length ≤ 40)) := by
 rw [law37_few_eq]
 simp [hk, hm]
theorem vIds_mono : ∀ (l : List Key) (a b : Int), a ≤ b → vIds b l = true → vIds a l = true
 | [], a, b, h, hv => rfl
 | k :: r, a, b, h, hv => by
  simp only [vIds, Bool.and_eq_true, decide_eq_true_eq] at hv ⊢
  exact ⟨hv.1, by omega, hv.2.2.1, hv.2.2.2⟩
theorem vIds_filter {n : Int} (p : Key → Bool) (hn : n ≤ 2147483648) : ∀ (l : List Key) (last : Int), vTk n last l = true → vIds last (l.filter p) = true
 | [], last, h => rfl
 | k :: r, last, h => by
  simp only [vTk, Bool.and_eq_true, decide_eq_true_eq] at h
  obtain ⟨h1, h2, h3, h4, h5⟩ := h
  have ih := vIds_filter p hn r k.Id h5
  cases hp : p k with
  | true =>
   rw [List.filter_cons_of_pos hp]
   simp only [vIds, Bool.and_eq_true, decide_eq_true_eq]
   exact ⟨h1, h2, by omega, ih⟩
  | false =>
   rw [List.filter_cons_of_neg (by simp [hp])]
   exact vIds_mono _ _ _ (by omega) ih
theorem vTk_lt {n : Int} : ∀ (l : List Key) (last : Int), vTk n last l = true → ∀ k ∈ l, last < k.Id ∧ k.Id < n
 | [], _, _ => fun k hk => by cases hk
 | x :: r, last, h => by
  simp only [vTk, Bool.and_eq_true, decide_eq_true_eq] at h
  obtain ⟨h1, h2, h3, h4, h5⟩ := h
  intro k hk
  rcases List.mem_cons.1 hk with rfl | hk
  ·exact ⟨h2, h3⟩
  ·have := vTk_lt r _ h5 k hk
   exact ⟨by omega, this.2⟩
theorem vTk_find {n : Int} : ∀ (l : List Key) (last : Int), vTk n last l = true → ∀ y ∈ l, l.find? (fun k => k.Id == y.Id) = some y
 | [], _, _ => fun y hy => by cases hy
 | x :: r, last, h => by
  intro y hy
  simp only [vTk, Bool.and_eq_true, decide_eq_true_eq] at h
  obtain ⟨h1, h2, h3, h4, h5⟩ := h
  rcases List.mem_cons.1 hy with rfl | hy
  ·simp
  ·have h6 := vTk_lt r _ h5 y hy
   have : (x.Id == y.Id) = false := by simp; omega
   rw [List.find?_cons, this]
   exact vTk_find r _ h5 y hy
theorem twinM_get (k : Key) : ∀ l, (twinM k l).2 = true → ∃ y ∈ l, y.Id = (twinM k l).1 ∧ likeB k y = true
 | [], h => by cases h
 | x :: r, h => by
  simp only [twinM] at h ⊢
  split
  ·rename_i hx; exact ⟨x, by simp, rfl, hx⟩
  ·rename_i hx
   rw [if_neg hx] at h
   obtain ⟨y, hy, e⟩ := twinM_get k r h
   exact ⟨y, by simp [hy], e⟩
theorem vK_parent {k : Key} {p : Int} (h : vK k = true) (h0 : 0 ≤ p) (h1 : p ≤ 2147483647) : vK { k with Parent := p } = true := by
 unfold vK inB at h ⊢
 simp only [Bool.and_eq_true, decide_eq_true_eq] at h ⊢
 obtain ⟨h6, _⟩ := h
 exact ⟨h6, h0, h1⟩
/-- With room enough a plan never fails. -/
theorem planM_fine (now : Int) (l : List Key) : ∀ (t : Table) (f : Int → Int) (ids : List Int), (∀ k ∈ l, vK k = true) → (t.Keys.length : Int) + l.length ≤ 4096 → t.Next + l.length ≤ 2147483647 → 0 < t.Next → (∀ y ∈ t.Keys, 0 ≤ y.Id ∧ y.Id < t.Next) → (∀ x, 0 ≤ f x ∧ f x < t.Next) → (planM now t f ids l).2.2 = 0 := by
 induction l with
 | nil => intros; rfl
 | cons k r ih =>
  intro t f ids hv h1 h2 h3 h4 h5
  have hv' : ∀ k ∈ r, vK k = true := fun y hy => hv y (by simp [hy])
  simp only [List.length_cons] at h1 h2
  rw [planM]
  split
  ·exact ih t f ids hv' (by omega) (by omega) h3 h4 h5
  ·split
   ·rename_i h6
    refine ih t _ ids hv' (by omega) (by omega) h3 h4 ?_
    intro x
    unfold upd
    split
    ·obtain ⟨y, hy, e⟩ := twinM_mem k _ h6
     rw [← e]; exact h4 y hy
    ·exact h5 x
   ·have hp := h5 k.Parent
    have hvk := vK_parent (p := f k.Parent) (hv k (by simp)) hp.1 (by omega)
    have e : addM t { k with Parent := f k.Parent } = (⟨t.Next + 1, t.Keys ++ [{ ({ k with Parent := f k.Parent } : Key) with Id := t.Next }]⟩, t.Next, 0) := by
     unfold addM
     rw [hvk]
     have e1 : decide (t.Next ≤ f k.Parent) = false := by simp; omega
     have e2 : decide ((4096 : Int) ≤ t.Keys.length) = false := by simp; omega
     have e3 : decide (2147483647 ≤ t.Next) = false := by simp; omega
     rw [e1, e2, e3]
     rfl
    rw [e]
    dsimp only
    rw [if_neg (by simp)]
    refine ih _ _ _ hv' (by simp; omega) (by show t.Next + 1 + _ ≤ _; omega) (by show 0 < t.Next + 1; omega) ?_ ?_
    ·intro y hy
     show 0 ≤ y.Id ∧ y.Id < t.Next + 1
     rcases List.mem_append.1 hy with hy | hy
     ·have := h4 y hy; omega
     ·rcases List.mem_cons.1 hy with rfl | hy
      ·show 0 ≤ t.Next ∧ t.Next < t.Next + 1; omega
      ·cases hy
    ·intro x
     show 0 ≤ upd f k.Id t.Next x ∧ upd f k.Id t.Next x < t.Next + 1
     unfold upd
     split
     ·omega
     ·have := h5 x; omega
theorem at_eq {t : Table} (id : Int) (hl : t.Keys.length ≤ 1099511627776) : ref27_at t id = some (ixM (fun k => k.Id == id) 0 t.Keys) := by
 unfold ref27_at
 have := loop_list (l := t.Keys) (step := ref27_at.l2 t id) (fun s => s) (fun s r => ixM (fun k => k.Id == id) s r) (fun _ => True) ?_ ?_ 0 0 trivial rfl (Nat.zero_le _)
 ·simpa using this
 ·intro s x r k _ hk hd hx hlt
  have hk : s = (k : Int) := hk
  subst hk
  unfold ref27_at.l2
  rw [ite_t (by omega), grd_b ⟨by omega, by omega⟩, hx, ixM]
  cases hq : (x.Id == id) with
  | true => rw [it_tt, it_tt]; exact .inr rfl
  | false =>
   rw [it_ff, it_ff, wrap_id (by omega) (by omega)]
   exact .inl ⟨_, rfl, rfl, trivial, rfl⟩
 ·intro s _ hs
  have hs : s = (t.Keys.length : Int) := hs
  subst hs
  unfold ref27_at.l2
  rw [ite_f (by omega)]; rfl
theorem ixM_find (q : Key → Bool) (y : Key) (L : List Key) : ∀ (l : List Key) (j : Nat), L.drop j = l → l.find? q = some y → 0 ≤ ixM q j l ∧ ixM q j l < (L.length : Int) ∧ rd L (ixM q j l) = y
 | [], j, _, h => by cases h
 | x :: r, j, hd, h => by
  unfold ixM
  rw [List.find?_cons] at h
  cases hq : q x with
  | true =>
   rw [hq] at h
   rw [it_tt]
   have := drop_lt hd
   exact ⟨by omega, by omega, (rd_cons hd).trans (Option.some.inj h)⟩
  | false =>
   rw [hq] at h
   rw [it_ff]
   exact ixM_find q y L r (j + 1) (drop_next hd) h
theorem get_eq {t : Table} {y : Key} (hl : t.Keys.length ≤ 1099511627776) (h : t.Keys.find? (fun k => k.Id == y.Id) = some y) : ref27_Get t y.Id = some (y, 0) := by
 obtain ⟨h1, h2, h3⟩ := ixM_find _ y t.Keys t.Keys 0 rfl h
 have h1 : 0 ≤ ixM (fun k => k.Id == y.Id) 0 t.Keys := h1
 have h2 : ixM (fun k => k.Id == y.Id) 0 t.Keys < (t.Keys.length : Int) := h2
 unfold ref27_Get
 rw [at_eq _ hl, bind_s, ite_f (by omega), grd_b ⟨h1, h2⟩]
 have h3 : rd t.Keys (ixM (fun k => k.Id == y.Id) 0 t.Keys) = y := h3
 rw [h3]
/-- The backup of the live keys. -/
def bkN (now : Int) (ks : List Key) : Backup := ⟨Vector.replicate 16 0, 0, 1, 0, now, Vector.replicate 16 0, [109], ks⟩
theorem rep_isB : IsB (Vector.replicate 16 (0 : Int)).toList := by
 intro x hx
 simp at hx
 omega
theorem RestoreBackup_end (hsan : law37_sanity = some true) {t u v : Table} {now later : Int} {c : Backup × Int} {ids : List Int} {e : Int} (ht : t.Keys.length ≤ 40) (hv : v.Keys.length ≤ 4096) (hvT : vT v = true) (hc : c.1.Keys = t.Keys.filter (liveB now)) (hh : holdsM v now (t.Keys.filter (liveB now)) = true) :
  loopF (law37_RestoreBackup.l3 t now (v, ids, e) c later) 0 = some true := by
 have hvk : vTk v.Next 0 v.Keys = true := by
  unfold vT at hvT
  simp only [Bool.and_eq_true] at hvT
  exact hvT.2.2
 have hfl : (t.Keys.filter (liveB now)).length ≤ t.Keys.length := List.length_filter_le _ _
 have := loop_list (l := t.Keys) (step := law37_RestoreBackup.l3 t now (v, ids, e) c later) (fun s => s) (fun s r => true) (fun _ => True) ?_ ?_ 0 0 trivial rfl (Nat.zero_le _)
 ·exact this
 ·intro s x r k _ hk hd hx hlt
  have hk : s = (k : Int) := hk
  subst hk
  unfold law37_RestoreBackup.l3 law37_RestoreBackup.j2
  dsimp only
  rw [ite_t (by omega), grd_b ⟨by omega, by omega⟩, hx, ref27_Live_eq, bind_s, wrap_id (by omega) (by omega)]
  cases hl : liveB now x with
  | false => rw [it_nf]; exact .inl ⟨_, rfl, rfl, trivial, rfl⟩
  | true =>
   rw [it_nt, restore_Twin_eq (by omega), bind_s]
   have hxm : x ∈ t.Keys.filter (liveB now) := List.mem_filter.2 ⟨mem_drop hd, hl⟩
   have htw : (twinM x v.Keys).2 = true := by
    simp only [holdsM, List.all_eq_true, Bool.or_eq_true, decide_eq_true_eq] at hh
    rcases hh x hxm with h | h
    ·unfold liveB at hl
     simp only [Bool.and_eq_true, decide_eq_true_eq] at hl
     omega
    ·exact h
   obtain ⟨y, hy, e1, e2⟩ := twinM_get x _ htw
   have hg := get_eq (t := v) (y := y) (by omega) (vTk_find _ _ hvk y hy)
   rw [← e1, hg, bind_s, htw, it_nt]
   unfold likeB at e2
   have e2 := of_decide_eq_true e2
   have f : y.Type_ = x.Type_ ∧ y.Value = x.Value ∧ y.Uses = x.Uses ∧ y.Start = x.Start ∧ y.End = x.End ∧ y.Version = x.Version ∧ y.Raw = x.Raw := by
    rw [← e2]; exact ⟨rfl, rfl, rfl, rfl, rfl, rfl, rfl⟩
   obtain ⟨f1, f2, f3, f4, f5, f6, f7⟩ := f
   refine .inl ⟨_, ?_, rfl, trivial, rfl⟩
   simp [f1, f2, f3, f4, f5, f6, f7]
 ·intro s _ hs
  have hs : s = (t.Keys.length : Int) := hs
  subst hs
  unfold law37_RestoreBackup.l3 law37_RestoreBackup.j1
  dsimp only
  have hcl : c.1.Keys.length ≤ 40 := by rw [hc]; omega
  rw [ite_f (by omega), hsan, bind_s, it_tt, restore_Holds_eq (by omega) (by omega), hc, hh, bind_s, it_tt]
  by_cases hlt : later < now
  ·rw [ite_t hlt]; rfl
  ·rw [ite_f hlt, restore_Holds_eq (by omega) (by omega), hc, holdsM_later (by omega) hh]; rfl
theorem law_RestoreBackup (hsan : law37_sanity = some true) (t u : Table) (key : List UInt8) (now later : Int) (ht : inTk t) (hu : inTk u) : law37_RestoreBackup t u key now later = some true := by
 unfold law37_RestoreBackup
 rw [few37 t _ (by decide) (by decide), bind_s]
 by_cases h1 : t.Keys.length ≤ 40
 ·rw [decide_eq_true h1, it_nt, few37 u _ (by decide) (by decide), bind_s]
  by_cases h2 : u.Keys.length ≤ 40
  ·rw [decide_eq_true h2, it_nt, ref27_ValidTable_eq (ht.wf (by omega)), bind_s]
   cases h3 : vT t with
   | false => rw [it_nf, bind_s, it_tt, hsan]; rfl
   | true =>
    rw [it_nt, ref27_ValidTable_eq (hu.wf (by omega)), bind_s]
    cases h4 : vT u with
    | false => rw [it_nf, bind_s, it_tt, hsan]; rfl
    | true =>
     rw [it_nt]
     by_cases h5 : key.length = 32
     ·rw [if_neg (show ¬ ((key.length : Int) != 32) = true by simp; omega)]
      by_cases h6 : now < 0
      ·rw [ite_t h6, bind_s, it_tt, hsan]; rfl
      ·rw [ite_f h6, bind_s]
       by_cases h7 : 1099511627776 < now
       ·rw [ite_t h7, hsan]; rfl
       ·rw [ite_f h7]
        by_cases h8 : 2147483548 < u.Next
        ·rw [ite_t h8, hsan]; rfl
        ·rw [ite_f h8, select_eq now (by omega), bind_s]
         obtain ⟨ks, hks⟩ : ∃ ks, ks = t.Keys.filter (liveB now) := ⟨_, rfl⟩
         have hfl : (t.Keys.filter (liveB now)).length ≤ t.Keys.length := List.length_filter_le _ _
         rw [← hks] at hfl ⊢
         have ht' := h3
         unfold vT inB at ht'
         simp only [Bool.and_eq_true, decide_eq_true_eq] at ht'
         obtain ⟨_, ⟨a1, a2⟩, a3⟩ := ht'
         have hu' := h4
         unfold vT inB at hu'
         simp only [Bool.and_eq_true, decide_eq_true_eq] at hu'
         obtain ⟨_, ⟨b1, b2⟩, b3⟩ := hu'
         have hin : ∀ k ∈ ks, k ∈ t.Keys := fun k hk => by rw [hks] at hk; exact (List.mem_filter.1 hk).1
         have hval : ∀ k ∈ ks, vK k = true := fun k hk => vTk_val _ _ a3 k (hin k hk)
         have o1 : okB (bkN now ks) := ⟨⟨rep_isB, rep_isB, ⟨⟨by show (_ : Int) ≤ 0; omega, by show (0 : Int) ≤ _; omega⟩, ⟨by show (_ : Int) ≤ 1; omega, by show (1 : Int) ≤ _; omega⟩, ⟨by show (_ : Int) ≤ 0; omega, by show (0 : Int) ≤ _; omega⟩, ⟨by show _ ≤ now; omega, by show now ≤ _; omega⟩⟩, by show [(109 : UInt8)].length ≤ _; decide⟩, fun k hk => ⟨ht.num k (hin k hk), by have := vK_val (hval k hk); omega⟩, by show ks.length ≤ _; omega⟩
         have hc := contI_len (ks := ks) (fun k hk => vK_val (hval k hk))
         have o2 : (contI (bkN now ks).Keys).length < 65536 := by show (contI ks).length < _; omega
         have o3 : vBk (bkN now ks) = true := by
          unfold vBk vHd inB
          simp only [Bool.and_eq_true, decide_eq_true_eq]
          refine ⟨⟨⟨by show (0 : Int) ≤ 0; omega, by show (0 : Int) ≤ _; omega⟩, ⟨by show (0 : Int) ≤ 1; omega, by show (1 : Int) ≤ _; omega⟩, ⟨by show (0 : Int) ≤ 0; omega, by show (0 : Int) ≤ _; omega⟩, ⟨by show 0 ≤ now; omega, by show now ≤ _; omega⟩, ⟨by show 1 ≤ (([(109 : UInt8)].length : Nat) : Int); decide, by show (([(109 : UInt8)].length : Nat) : Int) ≤ 12; decide⟩, by show (ks.length : Int) ≤ _; omega⟩, ?_⟩
          show vIds 0 ks = true
          rw [hks]
          exact vIds_filter _ (by omega) _ _ a3
         have o4 : (makeB key (bkN now ks)).2 = 0 := by
          unfold makeB
          rw [if_neg (by simp [h5, o3])]
         have e1 : ∀ f : Backup → Option Bool, (some ({ ({ ({ ({ ({ ({ ({ ({ (default : Backup) with Domain := (Vector.replicate 16 (0 : Int)) } : Backup) with Epoch := (0 : Int) } : Backup) with Firmware := (0 : Int) } : Backup) with Policy := (Vector.replicate 16 (0 : Int)) } : Backup) with Number := (1 : Int) } : Backup) with Time := now } : Backup) with Module := ([109] : List UInt8) } : Backup) with Keys := ks } : Backup)).bind f = f (bkN now ks) := fun f => rfl
         rw [e1, make_eq o1 (by omega) o2, bind_s, open_eq (by omega) (makeB_len o4 (fun k hk => by have := vK_val (hval k hk); omega) (by show ks.length ≤ _; omega)), bind_s, open_make o1 o2 o4, if_neg (bne0 o4)]
         have e2 : ∀ f : Bool → Option Bool, (if (((bkN now ks, (0 : Int)) : Backup × Int).2 != (0 : Int)) = true then some true else (ref36_Same (bkN now ks) ((bkN now ks, (0 : Int)) : Backup × Int).1).bind fun t228 => some (!t228)).bind f = f false := by
          intro f
          show ((ref36_Same (bkN now ks) (bkN now ks)).bind fun t228 => some (!t228)).bind f = f false
          rw [ref36_Same_eq (by show ks.length ≤ _; omega), bind_s, decide_eq_true rfl]; rfl
         rw [e2, it_ff]
         dsimp only
         rw [restore_Plan_eq o1.wf (by show ks.length ≤ _; omega) hu.nxt (by omega), bind_s]
         have p0 : (planR u (bkN now ks) now).2.2 = 0 := by
          unfold planR
          rw [o3, if_neg (by simp; omega)]
          refine planM_fine now ks u _ _ hval (by omega) (by omega) (by omega) (fun y hy => ?_) (fun x => ⟨Int.le_refl _, by show (0 : Int) < _; omega⟩)
          have := vTk_lt _ _ b3 y hy
          omega
         obtain ⟨_, _, _, new, n1, n2, n3⟩ := planR_ok p0
         have hl2 := newOk_len new u n1 (by omega)
         rw [if_neg (bne0 p0), n2]
         have n4 : holdsM ⟨u.Next + new.length, u.Keys ++ new⟩ now (t.Keys.filter (liveB now)) = true := by
          rw [← hks]; exact n3
         exact RestoreBackup_end hsan (u := u) (v := ⟨u.Next + new.length, u.Keys ++ new⟩) h1 (by simp; omega) (vT_new new u h4 n1) hks n4
     ·rw [if_pos (show ((key.length : Int) != 32) = true by simp; omega), bind_s, it_tt, hsan]; rfl
  ·rw [decide_eq_false h2, it_nf, bind_s, it_tt, hsan]; rfl
 ·rw [decide_eq_false h1, it_nf, bind_s, it_tt, hsan]; rfl
end Go.Cu
