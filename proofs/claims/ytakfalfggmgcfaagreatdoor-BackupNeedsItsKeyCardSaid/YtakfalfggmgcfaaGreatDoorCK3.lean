/- Rules for walks over facts, pure functions and plain laws; no condition. -/
import Derived.Test.YtakfalfggmgcfaaGreatDoorCK2
set_option linter.unusedVariables false
set_option linter.unusedSimpArgs false

namespace Go.Cu
attribute [local irreducible] macS blkS bits xorS bytesS sealS openS
def labB : List UInt8 := [98, 97, 99, 107, 117, 112]
def derS (key : List UInt8) : List UInt8 := macS key (intsB (encB labB))
theorem derS_len (key : List UInt8) : (derS key).length = 32 := macS_len _ _
theorem encB_len (s : List UInt8) : (encB s).length ≤ 9 + s.length := by
 have := encI_len (s.length : Int)
 unfold encB
 rw [List.length_append, bytesI_len']; omega
theorem derive_eq {key : List UInt8} (h : key.length < 65536) : kdf_Derive key labB [] = some (derS key) := by
 have hl := encB_len labB
 have hl2 : labB.length = 6 := rfl
 unfold kdf_Derive
 rw [wire_Bytes_eq (by decide), bind_s]
 refine loop_map (o := some (derS key)) ?_
 unfold kdf_Derive.l2
 dsimp only
 rw [ite_f (by decide)]
 unfold kdf_Derive.j1
 rw [Mac_ok _ _ (by omega) (by rw [intsB_len]; omega)]
 rfl
theorem concat_l2 {p : List (List Int)} (hp : p.length ≤ 100) (hl : ∀ x ∈ p, x.length ≤ 100000) : loopF (slices_Concat_byte.l2 p) (([] : List Int), (0 : Int)) = some p.flatten := by
 have := loop_list (l := p) (step := slices_Concat_byte.l2 p) (fun s => s.2) (fun s r => s.1 ++ r.flatten) (fun s => (s.1.length : Int) ≤ 100000 * s.2) ?_ ?_ (([] : List Int), (0 : Int)) 0 (by dsimp only [List.length_nil]; omega) rfl (Nat.zero_le _)
 ·simpa using this
 ·rintro ⟨o, s⟩ x r k ho hs hd hx hlt
  dsimp only at ho hs ⊢
  subst hs
  have h1 := hl x (mem_drop hd)
  refine .inl ⟨(o ++ x, (k : Int) + 1), ?_, rfl, by rw [List.length_append]; omega, by simp⟩
  unfold slices_Concat_byte.l2
  dsimp only
  rw [ite_t (by omega), grd_b ⟨by omega, by omega⟩, hx, grd_b (by omega), wrap_id (by omega) (by omega)]
 ·rintro ⟨o, s⟩ ho hs
  dsimp only at ho hs ⊢
  subst hs
  unfold slices_Concat_byte.l2
  dsimp only
  rw [ite_f (by omega)]
  simp [slices_Concat_byte.j1]
theorem concat_eq {p : List (List Int)} (hp : p.length ≤ 100) (hl : ∀ x ∈ p, x.length ≤ 100000) : slices_Concat_byte p = some p.flatten := by
 unfold slices_Concat_byte
 have := loop_list (l := p) (step := slices_Concat_byte.l4 p) (fun s => s.2) (fun s r => p.flatten) (fun s => 0 ≤ s.1 ∧ s.1 ≤ 100000 * s.2) ?_ ?_ ((0 : Int), (0 : Int)) 0 (by dsimp only; omega) rfl (Nat.zero_le _)
 ·exact this
 ·rintro ⟨n, s⟩ x r k ho hs hd hx hlt
  dsimp only at ho hs ⊢
  subst hs
  have h1 := hl x (mem_drop hd)
  refine .inl ⟨(n + (x.length : Int), (k : Int) + 1), ?_, rfl, by dsimp only; omega, rfl⟩
  unfold slices_Concat_byte.l4
  dsimp only
  rw [ite_t (by omega), grd_b ⟨by omega, by omega⟩, hx, wrap_id (n := n + (x.length : Int)) (by omega) (by omega), ite_f (by omega), wrap_id (by omega) (by omega)]
 ·rintro ⟨n, s⟩ ho hs
  dsimp only at ho hs ⊢
  subst hs
  unfold slices_Concat_byte.l4
  dsimp only
  rw [ite_f (by omega)]
  unfold slices_Concat_byte.j3 slices_Grow_byte
  rw [grd_b ⟨by omega, by omega⟩, bind_s, concat_l2 hp hl]; rfl
theorem headI_len {b : Backup} : (headI b).length ≤ 86 + b.Module.length := by
 have h1 := ints_len [b.Epoch, b.Number, b.Firmware, b.Time]
 have h2 := encB_len b.Module
 have h3 : b.Domain.toList.length = 16 := by simp
 have h4 : b.Policy.toList.length = 16 := by simp
 have h5 : [b.Epoch, b.Number, b.Firmware, b.Time].length = 4 := rfl
 unfold headI
 rw [List.length_append, List.length_append, List.length_append]; omega
theorem header_eq {b : Backup} (h : wfH b) (hm : b.Module.length ≤ 1000) : backup_Header b = some (headS b) := by
 have h1 := ints_len [b.Epoch, b.Number, b.Firmware, b.Time]
 have h2 := encB_len b.Module
 have h3 : b.Domain.toList.length = 16 := by simp
 have h4 : b.Policy.toList.length = 16 := by simp
 have h5 : [b.Epoch, b.Number, b.Firmware, b.Time].length = 4 := rfl
 unfold backup_Header
 have e1 : ((b.Domain.toList.take ((16 : Int)).toNat).drop ((0 : Int)).toNat) = b.Domain.toList := by
  show (b.Domain.toList.take 16) = _
  rw [List.take_of_length_le (by omega)]
 have e2 : ((b.Policy.toList.take ((16 : Int)).toNat).drop ((0 : Int)).toNat) = b.Policy.toList := by
  show (b.Policy.toList.take 16) = _
  rw [List.take_of_length_le (by omega)]
 rw [wire_Ints_eq (num4 h).1 (by simp), bind_s, wire_Bytes_eq h.mod, bind_s, e1, e2, concat_eq (by simp) ?_, bind_s]
 ·unfold headS headI
  simp
 ·intro x hx
  simp only [List.mem_cons, List.not_mem_nil, or_false] at hx
  rcases hx with rfl | rfl | rfl | rfl <;> omega
theorem content_eq {ks : List Key} (h : ∀ k ∈ ks, wfKy k) (hv : ∀ k ∈ ks, k.Value.length ≤ 1000) (hl : ks.length ≤ 60000) : backup_content ks = some (intsB (contI ks)) := by
 unfold backup_content
 rw [grd_b ⟨by omega, by omega, by omega⟩]
 have hlen : ∀ k ∈ ks, (intsB (kyI k)).length ≤ 65536 := by
  intro k hk
  have h1 := kyI_len k
  have h2 := hv k hk
  rw [intsB_len]; omega
 have := loop_list (l := ks) (step := backup_content.l3 ks) (fun s => s.2) (fun s r => intsB (encL encB (s.1.take s.2.toNat ++ r.map fun k => intsB (kyI k)))) (fun s => s.1.length = ks.length ∧ s.1.take s.2.toNat = (ks.map fun k => intsB (kyI k)).take s.2.toNat) ?_ ?_ (List.replicate ((ks.length : Int)).toNat ([] : List UInt8), (0 : Int)) 0 ⟨by simp, rfl⟩ rfl (Nat.zero_le _)
 ·simpa [contI] using this
 ·rintro ⟨o, s⟩ x r k ⟨ho, hp⟩ hs hd hx hlt
  dsimp only at ho hp hs ⊢
  subst hs
  rw [Int.toNat_natCast] at hp ⊢
  have hxm := mem_drop hd
  have hw := h x hxm
  have hkl := hlen x hxm
  have key : ∀ raw : Int, raw = (if x.Raw then 1 else 0) → backup_content.j2 ks (o, (k : Int)) raw = some (.inl (o.set k (intsB (kyI x)), (k : Int) + 1)) := by
   rintro raw rfl
   have hn := nmI_len x
   have hv2 := hv x hxm
   unfold backup_content.j2
   dsimp only
   rw [hx, wire_Ints_eq (num8 hw).1 (by simp), bind_s, wire_Strings_eq ?_ (by simp), bind_s, grd_b ⟨by omega, by omega⟩, wrap_id (by omega) (by omega)]
   ·rfl
   ·intro y hy
    simp only [List.mem_cons, List.not_mem_nil, or_false] at hy
    rcases hy with rfl | rfl
    ·show (intsB (nmI x)).length ≤ _
     rw [intsB_len]; omega
    ·omega
  have hstep : backup_content.l3 ks (o, (k : Int)) = some (.inl (o.set k (intsB (kyI x)), (k : Int) + 1)) := by
   unfold backup_content.l3
   dsimp only
   rw [ite_t (by omega), grd_b ⟨by omega, by omega⟩, hx]
   cases hr : x.Raw with
   | true => rw [if_pos rfl]; exact key 1 (by rw [hr]; rfl)
   | false => rw [if_neg (by simp)]; exact key 0 (by rw [hr]; rfl)
  have hko : k < o.length := by omega
  have e1 : (o.set k (intsB (kyI x))).take (k + 1) = o.take k ++ [intsB (kyI x)] := by
   rw [List.take_add_one, List.take_set_of_le (Nat.le_refl _)]
   simp [hko]
  refine .inl ⟨_, hstep, rfl, ⟨by rw [List.length_set]; exact ho, ?_⟩, ?_⟩
  ·dsimp only
   rw [show ((k : Int) + 1).toNat = k + 1 by omega, e1, hp, List.take_add_one]
   have : (ks.map fun k => intsB (kyI k))[k]? = some (intsB (kyI x)) := by
    rw [List.getElem?_map]
    have : ks[k]? = some x := by
     have := congrArg (fun m => m[0]?) hd
     simpa using this
    rw [this]; rfl
   rw [this]; rfl
  ·dsimp only
   rw [show ((k : Int) + 1).toNat = k + 1 by omega, e1]
   simp
 ·rintro ⟨o, s⟩ ⟨ho, hp⟩ hs
  dsimp only at ho hp hs ⊢
  subst hs
  rw [Int.toNat_natCast] at hp ⊢
  unfold backup_content.l3
  dsimp only
  rw [ite_f (by omega)]
  have eo : o = ks.map fun k => intsB (kyI k) := by
   rw [List.take_of_length_le (by omega), List.take_of_length_le (by rw [List.length_map]; exact Nat.le_refl _)] at hp
   exact hp
  unfold backup_content.j1
  rw [wire_Strings_eq (by rw [eo]; intro y hy; obtain ⟨k, hk, rfl⟩ := List.mem_map.1 hy; exact hlen k hk) (by omega), bind_s, List.take_of_length_le (by omega)]
  simp
def makeB (key : List UInt8) (b : Backup) : List UInt8 × Int :=
 if key.length ≠ 32 ∨ vBk b = false then ([], 1) else (intsB (encB (headS b)) ++ sealS (derS key) (headS b) (intsB (contI b.Keys)), 0)
structure okB (b : Backup) : Prop where
 hd : wfH b
 ks : ∀ k ∈ b.Keys, wfKy k
 len : b.Keys.length ≤ 60000
theorem okB.wf {b : Backup} (h : okB b) : wfB b := ⟨by have := h.len; omega, by have := h.hd.mod; omega, fun k hk => (h.ks k hk).num.2.2.1⟩
theorem vIds_val : ∀ (l : List Key) (last : Int), vIds last l = true → ∀ k ∈ l, vK k = true
 | [], _, _ => fun k hk => by cases hk
 | x :: r, last, h => by
  simp only [vIds, Bool.and_eq_true] at h
  obtain ⟨h1, h2, h3, h4⟩ := h
  intro k hk
  rcases List.mem_cons.1 hk with rfl | hk
  ·exact h1
  ·exact vIds_val r _ h4 k hk
theorem vK_val {k : Key} (h : vK k = true) : k.Value.length = 32 := by
 unfold vK at h
 simp only [Bool.and_eq_true, beq_iff_eq] at h
 obtain ⟨⟨⟨⟨⟨⟨_, h2⟩, _⟩, _⟩, _⟩, _⟩, _⟩ := h
 omega
theorem vBk_mod {b : Backup} (h : vBk b = true) : b.Module.length ≤ 12 := by
 unfold vBk vHd inB at h
 simp only [Bool.and_eq_true, decide_eq_true_eq] at h
 obtain ⟨⟨_, _, _, _, ⟨_, h5⟩, _⟩, _⟩ := h
 omega
theorem vBk_ids {b : Backup} (h : vBk b = true) : vIds 0 b.Keys = true := by
 unfold vBk at h
 simp only [Bool.and_eq_true] at h
 exact h.2
theorem contI_len {ks : List Key} (hv : ∀ k ∈ ks, k.Value.length = 32) : (contI ks).length ≤ 9 + ks.length * 149 := by
 have h1 := encI_len ((ks.map fun k => intsB (kyI k)).length : Int)
 have h2 := flatMap_len encB 149 (ks.map fun k => intsB (kyI k)) (by
  intro x hx
  obtain ⟨k, hk, rfl⟩ := List.mem_map.1 hx
  have h3 := encB_len (intsB (kyI k))
  have h4 := kyI_len k
  have h5 := hv k hk
  rw [intsB_len] at h3
  omega)
 rw [List.length_map] at h2
 unfold contI encL
 rw [List.length_append]; omega
theorem make_eq {key : List UInt8} {b : Backup} (hb : okB b) (hk : key.length < 65536) (hs : (contI b.Keys).length < 65536) : backup_Make key b = some (makeB key b) := by
 unfold backup_Make makeB
 by_cases h1 : key.length = 32
 ·rw [if_neg (by simp; omega), backup_Valid_eq hb.wf, bind_s]
  cases hv : vBk b with
  | false => rw [if_pos (.inr rfl)]; rfl
  | true =>
   have hm := vBk_mod hv
   have hid := vIds_val _ _ (vBk_ids hv)
   have hhl : (headS b).length ≤ 98 := by
    have := headI_len (b := b)
    unfold headS
    rw [intsB_len]; omega
   rw [if_neg (by simp [h1]), bind_s]
   have hel := encB_len (headS b)
   have hcl : (intsB (contI b.Keys)).length < 65536 := by rw [intsB_len]; exact hs
   have hsl := sealS_len (derS key) (headS b) (intsB (contI b.Keys))
   rw [if_neg (by simp), header_eq hb.hd (by omega), bind_s]
   have e := derive_eq (key := key) hk
   unfold labB at e
   rw [e, bind_s, content_eq hb.ks (fun k hk => by have := vK_val (hid k hk); omega) hb.len, bind_s, Seal_ok _ _ _ (by rw [derS_len]; decide) (by omega) hcl, if_pos (derS_len _), bind_s, if_neg (by simp), wire_Bytes_eq (by omega), bind_s, grd_b (by dsimp only; rw [intsB_len]; omega)]
 ·rw [if_pos (by simp; omega), if_pos (.inl h1)]; rfl
def openB (key blob : List UInt8) : Backup × Int :=
 if key.length ≠ 32 then (zB, 1)
 else if (peekS (bytesI blob)).2 ≠ 0 then (zB, (peekS (bytesI blob)).2)
 else if (openR (derS key) (gB (bytesI blob)).1 (intsB ((bytesI blob).drop (gB (bytesI blob)).2.1.toNat))).2 ≠ 0 then (zB, (openR (derS key) (gB (bytesI blob)).1 (intsB ((bytesI blob).drop (gB (bytesI blob)).2.1.toNat))).2)
 else if (gL gB (bytesI (openR (derS key) (gB (bytesI blob)).1 (intsB ((bytesI blob).drop (gB (bytesI blob)).2.1.toNat))).1)).2.2 ≠ 0 then (zB, (gL gB (bytesI (openR (derS key) (gB (bytesI blob)).1 (intsB ((bytesI blob).drop (gB (bytesI blob)).2.1.toNat))).1)).2.2)
 else if ((bytesI (openR (derS key) (gB (bytesI blob)).1 (intsB ((bytesI blob).drop (gB (bytesI blob)).2.1.toNat))).1).drop (gL gB (bytesI (openR (derS key) (gB (bytesI blob)).1 (intsB ((bytesI blob).drop (gB (bytesI blob)).2.1.toNat))).1)).2.1.toNat).length ≠ 0 then (zB, 6)
 else if (pksS (gL gB (bytesI (openR (derS key) (gB (bytesI blob)).1 (intsB ((bytesI blob).drop (gB (bytesI blob)).2.1.toNat))).1)).1).2 ≠ 0 then (zB, (pksS (gL gB (bytesI (openR (derS key) (gB (bytesI blob)).1 (intsB ((bytesI blob).drop (gB (bytesI blob)).2.1.toNat))).1)).1).2)
 else if vBk { (peekS (bytesI blob)).1 with Keys := (pksS (gL gB (bytesI (openR (derS key) (gB (bytesI blob)).1 (intsB ((bytesI blob).drop (gB (bytesI blob)).2.1.toNat))).1)).1).1 } = true then ({ (peekS (bytesI blob)).1 with Keys := (pksS (gL gB (bytesI (openR (derS key) (gB (bytesI blob)).1 (intsB ((bytesI blob).drop (gB (bytesI blob)).2.1.toNat))).1)).1).1 }, 0)
 else (zB, 6)
theorem open_j1 {b : Backup} (hb : wfB b) (c : backup_reader) : backup_Open.j1 b c = some (if c.e ≠ 0 then (zB, c.e) else if vBk b = true then (b, 0) else (zB, 6)) := by
 unfold backup_Open.j1
 rw [backup_Valid_eq hb, bind_s, check_eq, bind_s]
 by_cases h : c.e = 0
 ·have h' : ¬ c.e ≠ 0 := by simp [h]
  rw [if_neg h']
  cases hv : vBk b with
  | true => rw [ckR_ok (by exact h), if_neg (by simp), if_pos rfl]
  | false => rw [ckR_no (by exact h) (by decide), if_pos (by simp), if_neg (by simp)]; rfl
 ·have h' : c.e ≠ 0 := h
  rw [if_pos h', ckR_err (by exact h), if_pos (by simp)]; rfl
theorem pkS_use {l : List Int} (hb : IsB l) (hl : l.length ≤ 65536) : wfI (pkS l).1.Uses := by
 by_cases h : (pkS l).2 = 0
 ·exact (pkS_inv hb hl h).2.num.2.2.1
 ·have : (pkS l).1 = zK := by
   unfold pkS at h ⊢
   split
   ·rfl
   ·rename_i h1
    rw [if_neg h1] at h
    split
    ·rfl
    ·rename_i h2
     rw [if_neg h2] at h
     split
     ·rfl
     ·rename_i h3
      rw [if_neg h3] at h
      unfold pkN at h ⊢
      split
      ·rfl
      ·rename_i h4
       rw [if_neg h4] at h
       split
       ·rfl
       ·rename_i h5
        rw [if_neg h5] at h
        split
        ·rfl
        ·rename_i h6
         rw [if_neg h6] at h
         split
         ·rename_i h7
          rw [if_pos h7] at h
          exact absurd rfl h
         ·rfl
  rw [this]; exact ⟨by decide, by decide⟩
theorem open_step {t : List (List UInt8) × backup_reader} {b : Backup} {c : backup_reader} {s : List UInt8} {r : List (List UInt8)} {i : Nat} (hl : t.1.length ≤ 65536) (hd : t.1.drop i = s :: r) (hk : b.Keys.length ≤ i) {k : Key} {c' : backup_reader} (hkey : backup_reader_key c s = some (k, c')) :
  backup_Open.l2 t (b, c, (i : Int)) = some (.inl ({ b with Keys := b.Keys ++ [k] }, c', (i : Int) + 1)) := by
 have hlt := drop_lt hd
 unfold backup_Open.l2
 dsimp only
 rw [ite_t (by omega), grd_b ⟨by omega, by omega⟩, rd_cons hd, hkey, bind_s, grd_b (by simp; omega), wrap_id (by omega) (by omega)]
theorem open_end {t : List (List UInt8) × backup_reader} {b : Backup} {c : backup_reader} (hb : wfB b) : backup_Open.l2 t (b, c, (t.1.length : Int)) = some (.inr (if c.e ≠ 0 then (zB, c.e) else if vBk b = true then (b, 0) else (zB, 6))) := by
 unfold backup_Open.l2
 dsimp only
 rw [ite_f (by omega), open_j1 hb]; rfl
theorem wfB_snoc {b : Backup} (h : wfB b) (hl : b.Keys.length ≤ 65536) {k : Key} (hk : wfI k.Uses) : wfB { b with Keys := b.Keys ++ [k] } := by
 refine ⟨by simp; omega, h.mod, ?_⟩
 intro x hx
 rcases List.mem_append.1 hx with hx | hx
 ·exact h.use x hx
 ·rcases List.mem_cons.1 hx with rfl | hx
  ·exact hk
  ·cases hx
theorem open_bad {t : List (List UInt8) × backup_reader} (hl : t.1.length ≤ 65536) (hs : ∀ s ∈ t.1, s.length ≤ 65536) : ∀ (m i : Nat) (b : Backup) (c : backup_reader), i + m = t.1.length → c.e ≠ 0 → wfB b → b.Keys.length ≤ i → loopF (backup_Open.l2 t) (b, c, (i : Int)) = some (zB, c.e)
 | 0, i, b, c, h1, h2, h3, h4 => by
  obtain rfl : i = t.1.length := by omega
  rw [loopF_done (open_end h3), if_pos h2]
 | m + 1, i, b, c, h1, h2, h3, h4 => by
  have hlt : i < t.1.length := by omega
  have hd : t.1.drop i = t.1[i] :: t.1.drop (i + 1) := List.drop_eq_getElem_cons hlt
  have hsl := hs _ (mem_drop hd)
  rw [loopF_next (open_step hl hd h4 (key_err h2 (by omega)))]
  exact open_bad hl hs m (i + 1) _ c (by omega) h2 (wfB_snoc h3 (by omega) ⟨by decide, by decide⟩) (by simp; omega)
theorem open_loop {t : List (List UInt8) × backup_reader} (hl : t.1.length ≤ 65536) (hs : ∀ s ∈ t.1, s.length ≤ 65536) : ∀ (m i : Nat) (b : Backup) (c : backup_reader), i + m = t.1.length → c.e = 0 → wfB b → b.Keys.length ≤ i →
  loopF (backup_Open.l2 t) (b, c, (i : Int)) = some (if (pksS (t.1.drop i)).2 ≠ 0 then (zB, (pksS (t.1.drop i)).2) else if vBk { b with Keys := b.Keys ++ (pksS (t.1.drop i)).1 } = true then ({ b with Keys := b.Keys ++ (pksS (t.1.drop i)).1 }, 0) else (zB, 6))
 | 0, i, b, c, h1, h2, h3, h4 => by
  obtain rfl : i = t.1.length := by omega
  rw [loopF_done (open_end h3), List.drop_length]
  have e : ({ b with Keys := b.Keys ++ (pksS []).1 } : Backup) = b := by
   show ({ b with Keys := b.Keys ++ [] } : Backup) = b
   rw [List.append_nil]
  rw [e, h2]
  simp [pksS]
 | m + 1, i, b, c, h1, h2, h3, h4 => by
  have hlt : i < t.1.length := by omega
  have hd : t.1.drop i = t.1[i] :: t.1.drop (i + 1) := List.drop_eq_getElem_cons hlt
  have hsl := hs _ (mem_drop hd)
  have hu := pkS_use (bytesI_isB t.1[i]) (by rw [bytesI_len']; exact hsl)
  rw [loopF_next (open_step hl hd h4 (key_eq h2 (by omega))), hd, pksS]
  by_cases h5 : (pkS (bytesI t.1[i])).2 = 0
  ·have h5' : ¬ (pkS (bytesI t.1[i])).2 ≠ 0 := by simp [h5]
   rw [if_neg h5']
   have ih := open_loop hl hs m (i + 1) { b with Keys := b.Keys ++ [(pkS (bytesI t.1[i])).1] } { c with e := (pkS (bytesI t.1[i])).2 } (by omega) h5 (wfB_snoc h3 (by omega) hu) (by simp; omega)
   have ih2 : loopF (backup_Open.l2 t) ({ b with Keys := b.Keys ++ [(pkS (bytesI t.1[i])).1] }, { c with e := (pkS (bytesI t.1[i])).2 }, (i : Int) + 1) = _ := ih
   rw [ih2]
   by_cases h6 : (pksS (t.1.drop (i + 1))).2 = 0
   ·have h6' : ¬ (pksS (t.1.drop (i + 1))).2 ≠ 0 := by simp [h6]
    simp only [if_neg h6']
    simp
   ·have h6' : (pksS (t.1.drop (i + 1))).2 ≠ 0 := h6
    simp only [if_pos h6']
  ·have h5' : (pkS (bytesI t.1[i])).2 ≠ 0 := h5
   rw [if_pos h5']
   have := open_bad hl hs m (i + 1) { b with Keys := b.Keys ++ [(pkS (bytesI t.1[i])).1] } { c with e := (pkS (bytesI t.1[i])).2 } (by omega) h5 (wfB_snoc h3 (by omega) hu) (by simp; omega)
   rw [if_pos h5']
   exact this
theorem flat_mem_len {e : List UInt8 → List Int} {xs : List (List UInt8)} {B : Nat} (he : ∀ x, x.length ≤ (e x).length) (h : (xs.flatMap e).length ≤ B) : ∀ x ∈ xs, x.length ≤ B := by
 intro x hx
 have h1 := he x
 have : (e x).length ≤ (xs.flatMap e).length := by
  induction xs with
  | nil => cases hx
  | cons y ys ih =>
   rw [List.flatMap_cons, List.length_append] at h ⊢
   rcases List.mem_cons.1 hx with rfl | hx
   ·omega
   ·have := ih (by omega) hx; omega
 omega
theorem strs_bound {l : List Int} (hb : IsB l) {B : Nat} (hl : l.length ≤ B) (hB : B ≤ 1099511627) (h : (gL gB l).2.2 = 0) : (gL gB l).1.length ≤ B ∧ ∀ s ∈ (gL gB l).1, s.length ≤ B := by
 obtain ⟨h1, h2, h3⟩ := dec_strings.inv l hb (by omega) h
 have h4 := congrArg List.length h3
 rw [List.length_append] at h4
 have h5 : (encL encB (gL gB l).1).length ≤ B := by omega
 unfold encL at h5
 rw [List.length_append] at h5
 constructor
 ·have : ∀ ys : List (List UInt8), ys.length ≤ (ys.flatMap encB).length := by
   intro ys
   induction ys with
   | nil => exact Nat.le_refl _
   | cons y ys ih =>
    have := encI_pos (y.length : Int)
    rw [List.flatMap_cons, List.length_append, List.length_cons]
    unfold encB at *
    rw [List.length_append]; omega
  have := this (gL gB l).1
  omega
 ·exact flat_mem_len (e := encB) (fun x => by unfold encB; rw [List.length_append, bytesI_len']; omega) (by omega)
theorem openR_len {key ad blob : List UInt8} (h : (openR key ad blob).2 = 0) : (openR key ad blob).1.length ≤ blob.length := by
 unfold openR at h ⊢
 split
 ·rename_i h1
  rw [if_pos h1] at h
  split
  ·rename_i h2; exact Nat.zero_le _
  ·rename_i h2
   rw [if_neg h2] at h
   have := open_inv key ad blob (openS key ad blob).1 (by omega) (Prod.ext rfl h)
   have := congrArg List.length this
   rw [sealS_len] at this
   omega
 ·exact Nat.zero_le _
theorem gB_bound {l : List Int} (hb : IsB l) (hl : l.length ≤ 1099511627) (h : (gB l).2.2 = 0) : (gB l).1.length ≤ l.length := by
 obtain ⟨h1, h2, h3⟩ := dec_bytes.inv l hb hl h
 have h4 := congrArg List.length h3
 rw [List.length_append] at h4
 have : (gB l).1.length ≤ (encB (gB l).1).length := by unfold encB; rw [List.length_append, bytesI_len']; omega
 omega
theorem peekS_gB {l : List Int} (h : (peekS l).2 = 0) : (gB l).2.2 = 0 ∧ (hdrS (bytesI (gB l).1)).2 = 0 ∧ peekS l = hdrS (bytesI (gB l).1) := by
 unfold peekS at h ⊢
 split at h
 ·rename_i h1; exact absurd h h1
 ·rename_i h1
  rw [if_neg h1]
  exact ⟨by simpa using h1, h, rfl⟩
theorem open_eq {key blob : List UInt8} (hk : key.length < 65536) (hl : blob.length < 65536) : backup_Open key blob = some (openB key blob) := by
 have hI : IsB (bytesI blob) := bytesI_isB blob
 have hIl : (bytesI blob).length < 65536 := by rw [bytesI_len']; exact hl
 unfold backup_Open openB
 generalize bytesI blob = l at hI hIl
 by_cases h0 : key.length = 32
 ·have h0' : ¬ key.length ≠ 32 := by simp [h0]
  rw [if_neg (by simp; omega), if_neg h0']
  obtain ⟨b, x, hp, he, hx⟩ := peek_eq hI (by omega)
  rw [hp, bind_s]
  by_cases h1 : (peekS l).2 = 0
  ·have h1' : ¬ (peekS l).2 ≠ 0 := by simp [h1]
   obtain ⟨rfl, hh, hr⟩ := hx h1
   obtain ⟨g1, g2, g3⟩ := peekS_gB h1
   have gl := gB_bound hI (by omega) g1
   have hw : wfB (peekS l).1 := by
    rw [g3]
    obtain ⟨w1, w2, w3, w4⟩ := hdrS_inv (bytesI_isB _) (by rw [bytesI_len']; omega) g2
    refine ⟨by rw [w3]; simp, by have := w4.mod; omega, by rw [w3]; intro k hk; cases hk⟩
   have hnk : (peekS l).1.Keys = [] := by
    rw [g3]
    exact (hdrS_inv (bytesI_isB _) (by rw [bytesI_len']; omega) g2).2.2.1
   have e := derive_eq (key := key) hk
   unfold labB at e
   have hrl : (intsB (l.drop (gB l).2.1.toNat)).length < 65536 := by rw [intsB_len, List.length_drop]; omega
   rw [if_neg (by rw [he, h1]; simp), if_neg h1', e, bind_s, hh, hr, Open_ok _ _ _ (by rw [derS_len]; decide) (by omega) hrl, bind_s]
   obtain ⟨o, ho⟩ : ∃ o, o = openR (derS key) (gB l).1 (intsB (l.drop (gB l).2.1.toNat)) := ⟨_, rfl⟩
   rw [← ho]
   by_cases h2 : o.2 = 0
   ·have h2' : ¬ o.2 ≠ 0 := by simp [h2]
    have hol : o.1.length < 65536 := by
     have := openR_len (key := derS key) (ad := (gB l).1) (blob := intsB (l.drop (gB l).2.1.toNat)) (by rw [← ho]; exact h2)
     rw [← ho] at this
     omega
    have hob : IsB (bytesI o.1) := bytesI_isB _
    have hobl : (bytesI o.1).length ≤ 65536 := by rw [bytesI_len']; omega
    rw [if_neg (by simp [h2]), if_neg h2', whole_strings_eq (x := ⟨bytesI o.1, 0⟩) hob (by dsimp only; omega), bind_s]
    by_cases h3 : (gL gB (bytesI o.1)).2.2 = 0
    ·have h3' : ¬ (gL gB (bytesI o.1)).2.2 ≠ 0 := by simp [h3]
     obtain ⟨s1, s2⟩ := strs_bound hob hobl (by decide) h3
     rw [if_neg h3']
     by_cases h4 : ((bytesI o.1).drop (gL gB (bytesI o.1)).2.1.toNat).length = 0
     ·have h4' : ¬ ((bytesI o.1).drop (gL gB (bytesI o.1)).2.1.toNat).length ≠ 0 := by simpa using h4
      rw [if_neg h4', whR_ok (x := ⟨bytesI o.1, 0⟩) rfl h3 h4]
      have := open_loop (t := ((gL gB (bytesI o.1)).1, { (⟨bytesI o.1, 0⟩ : backup_reader) with rest_ := (bytesI o.1).drop (gL gB (bytesI o.1)).2.1.toNat })) s1 s2 (gL gB (bytesI o.1)).1.length 0 (peekS l).1 { (⟨bytesI o.1, 0⟩ : backup_reader) with rest_ := (bytesI o.1).drop (gL gB (bytesI o.1)).2.1.toNat } (by simp) rfl hw (by rw [hnk]; simp)
      rw [List.drop_zero, hnk, List.nil_append] at this
      exact this
     ·have h4' : ((bytesI o.1).drop (gL gB (bytesI o.1)).2.1.toNat).length ≠ 0 := h4
      rw [if_pos h4', whR_more (x := ⟨bytesI o.1, 0⟩) rfl h3 h4]
      exact open_bad (t := ((gL gB (bytesI o.1)).1, { ({ (⟨bytesI o.1, 0⟩ : backup_reader) with rest_ := (bytesI o.1).drop (gL gB (bytesI o.1)).2.1.toNat } : backup_reader) with e := 6 })) s1 s2 (gL gB (bytesI o.1)).1.length 0 (peekS l).1 _ (by simp) (by show (6 : Int) ≠ 0; decide) hw (by rw [hnk]; simp)
    ·have h3' : (gL gB (bytesI o.1)).2.2 ≠ 0 := h3
     rw [if_pos h3', whR_no (x := ⟨bytesI o.1, 0⟩) rfl h3]
     exact open_bad (t := (([] : List (List UInt8)), { (⟨bytesI o.1, 0⟩ : backup_reader) with e := (gL gB (bytesI o.1)).2.2 })) (by simp) (fun s hs => by cases hs) 0 0 (peekS l).1 _ (by simp) h3 hw (by rw [hnk]; simp)
   ·have h2' : o.2 ≠ 0 := h2
    rw [if_pos (by simpa using h2), if_pos h2']; rfl
  ·have h1' : (peekS l).2 ≠ 0 := h1
   rw [if_pos (by rw [he]; simpa using h1), if_pos h1', he]; rfl
 ·have h0' : key.length ≠ 32 := h0
  rw [if_pos (by simp; omega), if_pos h0']; rfl
theorem open_make {key : List UInt8} {b : Backup} (hb : okB b) (hs : (contI b.Keys).length < 65536) (h : (makeB key b).2 = 0) : openB key (makeB key b).1 = (b, 0) := by
 unfold makeB at h ⊢
 split at h
 ·cases h
 ·rename_i h1
  rw [if_neg h1]
  obtain ⟨hk, hv⟩ : key.length = 32 ∧ vBk b = true := by
   refine ⟨?_, ?_⟩
   ·by_cases hk : key.length = 32
    ·exact hk
    ·exact absurd (.inl hk) h1
   ·cases hv : vBk b with
    | true => rfl
    | false => exact absurd (.inr hv) h1
  dsimp only
  have hm := vBk_mod hv
  have hhl : (headS b).length ≤ 98 := by
   have := headI_len (b := b)
   unfold headS
   rw [intsB_len]; omega
  obtain ⟨S, hS⟩ : ∃ S, S = sealS (derS key) (headS b) (intsB (contI b.Keys)) := ⟨_, rfl⟩
  have hSl : ¬ S.length < 28 := by rw [hS, sealS_len]; omega
  rw [← hS]
  have e0 : bytesI (intsB (encB (headS b)) ++ S) = encB (headS b) ++ bytesI S := by
   rw [bytesI_app, bytesI_intsB (dec_bytes.isB _ (by omega))]
  have e1 := dec_bytes.enc (headS b) (bytesI S) (by omega)
  have e2 : bytesI (headS b) = headI b := bytesI_intsB (headI_isB hb.hd)
  have e3 := hdrS_enc hb.hd (vBk_noK hv)
  have e4 : peekS (encB (headS b) ++ bytesI S) = (noK b, 0) := by
   unfold peekS
   rw [e1]
   dsimp only
   rw [if_neg (by simp), e2, e3]
  have hcs : (∀ x ∈ b.Keys.map (fun k => intsB (kyI k)), x.length ≤ 1099511627) ∧ (b.Keys.map (fun k => intsB (kyI k))).length ≤ 1099511627 := by
   refine ⟨?_, by rw [List.length_map]; have := hb.len; omega⟩
   intro x hx
   obtain ⟨k, hk, rfl⟩ := List.mem_map.1 hx
   have h1 := kyI_len k
   have h2 := (hb.ks k hk).val
   rw [intsB_len]; omega
  have e5 : bytesI (intsB (contI b.Keys)) = contI b.Keys := bytesI_intsB (dec_strings.isB _ hcs)
  have e6 := dec_strings.enc (b.Keys.map fun k => intsB (kyI k)) [] hcs
  rw [List.append_nil] at e6
  have e7 : openR (derS key) (headS b) S = (intsB (contI b.Keys), 0) := by
   unfold openR
   rw [if_pos (derS_len _), if_neg hSl, hS, open_seal]
  have e8 : gL gB (contI b.Keys) = (b.Keys.map (fun k => intsB (kyI k)), ((contI b.Keys).length : Int), 0) := e6
  unfold openB
  have e9 : ((encB (headS b) ++ bytesI S).drop (((encB (headS b)).length : Int)).toNat) = bytesI S := drop_left' _ _
  have e10 : ((contI b.Keys).drop (((contI b.Keys).length : Int)).toNat).length = 0 := by rw [Int.toNat_natCast, List.drop_length]; rfl
  simp only [e0, e1, e4, e9, intsB_bytesI, e7, e5, e8, e10, pksS_enc _ hb.ks]
  have hnb : ({ noK b with Keys := b.Keys } : Backup) = b := rfl
  simp [hk, hnb, hv]
theorem make_open {key blob : List UInt8} (hl : blob.length < 65536) (h : (openB key blob).2 = 0) : okB (openB key blob).1 ∧ (contI (openB key blob).1.Keys).length < 65536 ∧ makeB key (openB key blob).1 = (blob, 0) := by
 have hI : IsB (bytesI blob) := bytesI_isB blob
 have hIl : (bytesI blob).length < 65536 := by rw [bytesI_len']; exact hl
 have hblob : blob = intsB (bytesI blob) := (intsB_bytesI blob).symm
 unfold openB at h ⊢
 revert h hI hIl hblob
 generalize bytesI blob = l
 intro h hI hIl hblob
 split at h
 ·cases h
 ·rename_i h0
  rw [if_neg h0]
  split at h
  ·rename_i h1; exact absurd h h1
  ·rename_i h1
   rw [if_neg h1]
   split at h
   ·rename_i h2; exact absurd h h2
   ·rename_i h2
    rw [if_neg h2]
    split at h
    ·rename_i h3; exact absurd h h3
    ·rename_i h3
     rw [if_neg h3]
     split at h
     ·cases h
     ·rename_i h4
      rw [if_neg h4]
      split at h
      ·rename_i h5; exact absurd h h5
      ·rename_i h5
       rw [if_neg h5]
       split at h
       ·rename_i h6
        rw [if_pos h6]
        dsimp only
        obtain ⟨g1, g2, g3⟩ := peekS_gB (l := l) (by simpa using h1)
        obtain ⟨a1, a2, a3⟩ := dec_bytes.inv l hI (by omega) g1
        have gl := gB_bound hI (by omega) g1
        rw [a2, Int.toNat_natCast] at h2 h3 h4 h5 h6 ⊢
        obtain ⟨w1, w2, w3, w4⟩ := hdrS_inv (bytesI_isB (gB l).1) (by rw [bytesI_len']; omega) g2
        rw [← g3] at w1 w2 w3 w4
        revert a1 a3 w1 w2 w3 w4 h2 h3 h4 h5 h6
        generalize (peekS l).1 = B
        generalize (gB l).1 = H
        have hrb : IsB (l.drop (encB H).length) := hI.drop _
        have hrl : (l.drop (encB H).length).length < 65536 := by rw [List.length_drop]; omega
        revert hrb hrl
        generalize l.drop (encB H).length = R
        intro hrb hrl
        obtain ⟨o, ho⟩ : ∃ o, o = openR (derS key) H (intsB R) := ⟨_, rfl⟩
        rw [← ho]
        intro h2 h3 h4 h5 h6 a1 a3 w1 w2 w3 w4
        have h2 : o.2 = 0 := by simpa using h2
        have hol : o.1.length < 65536 := by
         have := openR_len (key := derS key) (ad := H) (blob := intsB R) (by rw [← ho]; exact h2)
         rw [← ho, intsB_len] at this
         omega
        have hob : IsB (bytesI o.1) := bytesI_isB _
        have hobl : (bytesI o.1).length ≤ 65536 := by rw [bytesI_len']; omega
        obtain ⟨s1, s2⟩ := strs_bound hob hobl (by decide) (by simpa using h3)
        obtain ⟨c1, c2, c3⟩ := dec_strings.inv _ hob (by omega) (by simpa using h3)
        rw [c2, Int.toNat_natCast] at h4
        have h4 : (bytesI o.1).drop (encL encB (gL gB (bytesI o.1)).1).length = [] := drop_nil_eq (by simpa using h4)
        rw [h4, List.append_nil] at c3
        obtain ⟨k1, k2⟩ := pksS_inv _ s2 (by simpa using h5)
        revert c3 k1 k2 h6 s1
        generalize hX : (gL gB (bytesI o.1)).1 = X
        generalize (pksS X).1 = K
        intro h6 s1 c3 k1 k2
        have hcont : bytesI o.1 = contI K := by
         unfold contI
         rw [← k1]; exact c3
        have hhead : headI { B with Keys := K } = headI B := rfl
        have hHS : headS { B with Keys := K } = H := by
         unfold headS
         rw [hhead, ← w1, intsB_bytesI]
        refine ⟨⟨⟨w4.dom, w4.pol, w4.num, w4.mod⟩, k2, ?_⟩, ?_, ?_⟩
        ·show K.length ≤ 60000
         have hk := vBk_ids h6
         have : vHd { B with Keys := K } = true := by
          unfold vBk at h6
          simp only [Bool.and_eq_true] at h6
          exact h6.1
         unfold vHd at this
         simp only [Bool.and_eq_true, decide_eq_true_eq] at this
         obtain ⟨_, _, _, _, _, h7⟩ := this
         have h7 : (K.length : Int) ≤ 4096 := h7
         omega
        ·show (contI K).length < 65536
         rw [← hcont, bytesI_len']; exact hol
        ·have hk : key.length = 32 := by simpa using h0
         unfold makeB
         rw [if_neg (by simp [hk, h6]), hHS]
         have hRS : 28 ≤ (intsB R).length ∧ openS (derS key) H (intsB R) = (o.1, 0) := by
          unfold openR at ho
          rw [if_pos (derS_len _)] at ho
          split at ho
          ·rw [ho] at h2; cases h2
          ·rename_i h7
           exact ⟨by omega, by rw [← ho]; exact Prod.ext rfl h2⟩
         have hS := open_inv (derS key) H (intsB R) o.1 hRS.1 hRS.2
         show (intsB (encB H) ++ sealS (derS key) H (intsB (contI K)), (0 : Int)) = (blob, 0)
         rw [← hcont, intsB_bytesI, ← hS, hblob, a3]
         congr 1
         simp [intsB]
       ·cases h
end Go.Cu


namespace Go.Cu
attribute [local irreducible] macS blkS bits xorS bytesS sealS openS
def liveB (now : Int) (k : Key) : Bool := decide (k.Start ≤ now) && decide (now < k.End)
theorem keys_Live_eq (k : Key) (now : Int) : keys_Live k now = some (liveB now k) := by
 unfold keys_Live liveB
 by_cases h : k.Start ≤ now <;> simp [h]
theorem select_eq {t : Table} (now : Int) (hl : t.Keys.length ≤ 1099511627) : backup_Select t now = some (t.Keys.filter (liveB now)) := by
 unfold backup_Select
 have := loop_list (l := t.Keys) (step := backup_Select.l3 t now) (fun s => s.2) (fun s r => s.1 ++ r.filter (liveB now)) (fun s => (s.1.length : Int) ≤ s.2) ?_ ?_ (([] : List Key), (0 : Int)) 0 (by simp) rfl (Nat.zero_le _)
 ·simpa using this
 ·rintro ⟨o, s⟩ x r k ho hs hd hx hlt
  dsimp only at ho hs ⊢
  subst hs
  unfold backup_Select.l3 backup_Select.j2
  dsimp only
  rw [ite_t (by omega), grd_b ⟨by omega, by omega⟩, hx, keys_Live_eq, bind_s, wrap_id (n := (k : Int) + 1) (by omega) (by omega)]
  cases hv : liveB now x with
  | true =>
   rw [if_pos rfl, grd_b (by simp; omega)]
   exact .inl ⟨_, rfl, rfl, by simp; omega, by simp [hv]⟩
  | false =>
   rw [if_neg (by simp)]
   exact .inl ⟨_, rfl, rfl, by dsimp only; omega, by simp [hv]⟩
 ·rintro ⟨o, s⟩ ho hs
  dsimp only at ho hs ⊢
  subst hs
  unfold backup_Select.l3
  dsimp only
  rw [ite_f (by omega)]
  simp [backup_Select.j1]
theorem index_eq {l : List Key} (k : Key) (hl : l.length ≤ 1099511627776) : slices_Index_Key l k = some (ixM (fun x => decide (k = x)) 0 l) := by
 unfold slices_Index_Key
 have := loop_list (l := l) (step := slices_Index_Key.l2 l k) (fun s => s) (fun s r => ixM (fun x => decide (k = x)) s r) (fun _ => True) ?_ ?_ 0 0 trivial rfl (Nat.zero_le _)
 ·simpa using this
 ·intro s x r i _ hi hd hx hlt
  have hi : s = (i : Int) := hi
  subst hi
  unfold slices_Index_Key.l2
  rw [ite_t (by omega), grd_b ⟨by omega, by omega⟩, hx, ixM]
  by_cases h : k = x
  ·rw [ite_t h, ite_t h]; exact .inr rfl
  ·rw [ite_f h, ite_f h, wrap_id (by omega) (by omega)]
   exact .inl ⟨_, rfl, rfl, trivial, rfl⟩
 ·intro s _ hs
  have hs : s = (l.length : Int) := hs
  subst hs
  unfold slices_Index_Key.l2
  rw [ite_f (by omega)]; rfl
theorem contains_eq {l : List Key} (k : Key) (hl : l.length ≤ 1099511627776) : slices_Contains_Key l k = some (decide (k ∈ l)) := by
 unfold slices_Contains_Key
 rw [index_eq k hl, bind_s, ixM_any _ l 0 (Int.le_refl _)]
 congr 1
 rw [Bool.eq_iff_iff]
 simp
def complS (now : Int) (t : List Key) (b : List Key) : Bool := (t.filter (liveB now)).all fun k => decide (k ∈ b)
theorem complete_eq {b : Backup} {t : Table} (now : Int) (hb : b.Keys.length ≤ 1099511627776) (hl : t.Keys.length ≤ 1099511627) : backup_Complete b t now = some (complS now t.Keys b.Keys) := by
 have hf : (t.Keys.filter (liveB now)).length ≤ t.Keys.length := List.length_filter_le _ _
 unfold backup_Complete
 rw [select_eq now hl, bind_s, containsKey_eq (q := fun k => !decide (k ∈ b.Keys)) (by omega) ?_, bind_s]
 ·unfold complS
  rw [List.all_eq_not_any_not]
 ·intro x _
  unfold backup_Complete_1
  rw [contains_eq x hb, bind_s]
theorem keys_same {a b : Backup} (h2 : a.Keys.length = b.Keys.length) (hl : a.Keys.length ≤ 1099511627776) {step : Int → Option (Int ⊕ Bool)}
  (hs : ∀ s : Int, step s = if decide (s < (a.Keys.length : Int)) = true then (grd (0 ≤ s ∧ s < (a.Keys.length : Int))).bind fun _ => (grd (0 ≤ s ∧ s < (b.Keys.length : Int))).bind fun _ => if (!(decide ((rd a.Keys s) = (rd b.Keys s)))) = true then some (.inr (false)) else some (.inl (IntKind.i64.wrap (s + (1 : Int)))) else some (.inr true)) :
  loopF step 0 = some (decide (a.Keys = b.Keys)) := by
 have := loop_list (l := a.Keys) (step := step) (fun s => s) (fun s r => decide (r = b.Keys.drop s.toNat)) (fun _ => True) ?_ ?_ 0 0 trivial rfl (Nat.zero_le _)
 ·simpa using this
 ·intro s x r k _ hk hd hx hlt
  have hk : s = (k : Int) := hk
  subst hk
  rw [hs, ite_t (by omega), grd_b ⟨by omega, by omega⟩, grd_b ⟨by omega, by omega⟩, hx]
  have hlt' : k < b.Keys.length := by omega
  have hd' : b.Keys.drop k = b.Keys[k] :: b.Keys.drop (k + 1) := List.drop_eq_getElem_cons hlt'
  rw [rd_cons hd', Int.toNat_natCast, hd']
  generalize b.Keys[k] = y
  generalize hr' : List.drop (k + 1) b.Keys = r'
  by_cases h : x = y
  ·rw [if_neg (by simp [h]), wrap_id (by omega) (by omega)]
   exact .inl ⟨_, rfl, rfl, trivial, by rw [show ((k : Int) + 1).toNat = k + 1 by omega, hr', h]; simp⟩
  ·rw [if_pos (by simpa using h)]
   exact .inr (by simp [h])
 ·intro s _ hs'
  have hs' : s = (a.Keys.length : Int) := hs'
  subst hs'
  rw [hs, ite_f (by omega)]
  simp [h2]
theorem ref36_Same_eq {a b : Backup} (hl : a.Keys.length ≤ 1099511627776) : ref36_Same a b = some (decide (a = b)) := by
 unfold ref36_Same
 have nd_ : ∀ {p : Prop} [Decidable p], ¬ p → (some (decide p) : Option Bool) = some false := fun h => by rw [decide_eq_false h]
 by_cases h1 : a.Domain = b.Domain
 ·rw [if_neg (by simp [h1])]
  by_cases h2 : a.Epoch = b.Epoch
  ·rw [if_neg (by simp [h2])]
   by_cases h3 : a.Number = b.Number
   ·rw [if_neg (by simp [h3])]
    by_cases h4 : a.Firmware = b.Firmware
    ·rw [if_neg (by simp [h4])]
     by_cases h5 : a.Time = b.Time
     ·rw [if_neg (by simp [h5])]
      by_cases h6 : a.Policy = b.Policy
      ·rw [if_neg (by simp [h6])]
       by_cases h7 : a.Module = b.Module
       ·rw [if_neg (by simp [h7]), bind_s]
        by_cases h8 : a.Keys.length = b.Keys.length
        ·rw [if_neg (by simp [h8]), keys_same (step := ref36_Same.l2 a b) h8 hl (fun s => rfl)]
         congr 1
         rw [Bool.eq_iff_iff]
         simp only [decide_eq_true_eq]
         constructor
         ·intro h9
          cases a; cases b
          simp only at h1 h2 h3 h4 h5 h6 h7 h9
          subst h1 h2 h3 h4 h5 h6 h7 h9
          rfl
         ·intro h; rw [h]
        ·rw [if_pos (by simp; omega)]
         exact (nd_ fun h => h8 (by rw [h])).symm
       ·rw [if_pos (by simpa using h7), bind_s, if_pos rfl]
        exact (nd_ fun h => h7 (by rw [h])).symm
      ·rw [if_pos (by simpa using h6), bind_s, if_pos rfl]
       exact (nd_ fun h => h6 (by rw [h])).symm
     ·rw [if_pos (by simpa using h5), bind_s, if_pos rfl]
      exact (nd_ fun h => h5 (by rw [h])).symm
    ·rw [if_pos (by simpa using h4), bind_s, if_pos rfl]
     exact (nd_ fun h => h4 (by rw [h])).symm
   ·rw [if_pos (by simpa using h3), bind_s, if_pos rfl]
    exact (nd_ fun h => h3 (by rw [h])).symm
  ·rw [if_pos (by simpa using h2), bind_s, if_pos rfl]
   exact (nd_ fun h => h2 (by rw [h])).symm
 ·rw [if_pos (by simpa using h1), bind_s, if_pos rfl]
  exact (nd_ fun h => h1 (by rw [h])).symm
structure inBk (b : Backup) : Prop where
 dom : IsB b.Domain.toList
 pol : IsB b.Policy.toList
 nm4 : wfI b.Epoch ∧ wfI b.Number ∧ wfI b.Firmware ∧ wfI b.Time
 num : ∀ k ∈ b.Keys, wfI k.Id ∧ wfI k.Type_ ∧ wfI k.Uses ∧ wfI k.Start ∧ wfI k.End ∧ wfI k.Version ∧ wfI k.Parent
 len : b.Keys.length ≤ 9223372036854775807
def fewS (b : Backup) : Bool := (b.Keys.all fun k => decide (k.Value.length ≤ 100)) && (decide (b.Keys.length ≤ 40) && decide (b.Module.length ≤ 50))
theorem few36_eq {b : Backup} (hl : b.Keys.length ≤ 9223372036854775807) : law36_few b = some (fewS b) := by
 unfold law36_few
 have := loop_list (l := b.Keys) (step := law36_few.l2 b) (fun s => s) (fun s r => (r.all fun k => decide (k.Value.length ≤ 100)) && (decide (b.Keys.length ≤ 40) && decide (b.Module.length ≤ 50))) (fun _ => True) ?_ ?_ 0 0 trivial rfl (Nat.zero_le _)
 ·simpa [fewS] using this
 ·intro s x r k _ hk hd hx hlt
  have hk : s = (k : Int) := hk
  subst hk
  unfold law36_few.l2
  rw [ite_t (by omega), grd_b ⟨by omega, by omega⟩, hx, wrap_id (by omega) (by omega)]
  by_cases h : x.Value.length ≤ 100
  ·rw [ite_f (by omega)]
   exact .inl ⟨_, rfl, rfl, trivial, by simp [h]⟩
  ·rw [ite_t (by omega)]
   exact .inr (by simp [h])
 ·intro s _ hs
  have hs : s = (b.Keys.length : Int) := hs
  subst hs
  unfold law36_few.l2 law36_few.j1
  rw [ite_f (by omega)]
  by_cases h1 : b.Keys.length ≤ 40
  ·rw [ite_t (by omega), bind_s]
   have : (decide ((b.Module.length : Int) ≤ 50)) = decide (b.Module.length ≤ 50) := by rw [Bool.eq_iff_iff]; simp; omega
   simp [h1, this]
  ·rw [ite_f (by omega), bind_s]
   simp [h1]
theorem few_ok36 {b : Backup} (h : inBk b) (hf : fewS b = true) : okB b ∧ (contI b.Keys).length < 65536 := by
 unfold fewS at hf
 simp only [Bool.and_eq_true, decide_eq_true_eq, List.all_eq_true] at hf
 obtain ⟨h1, h2, h3⟩ := hf
 refine ⟨⟨⟨h.dom, h.pol, h.nm4, by omega⟩, fun k hk => ⟨h.num k hk, by have := h1 k hk; omega⟩, by omega⟩, ?_⟩
 have a1 := encI_len ((b.Keys.map fun k => intsB (kyI k)).length : Int)
 have a2 := flatMap_len encB 300 (b.Keys.map fun k => intsB (kyI k)) (by
  intro x hx
  obtain ⟨k, hk, rfl⟩ := List.mem_map.1 hx
  have h3 := encB_len (intsB (kyI k))
  have h4 := kyI_len k
  have h5 := h1 k hk
  rw [intsB_len] at h3
  omega)
 rw [List.length_map] at a2
 unfold contI encL
 rw [List.length_append]; omega
theorem makeB_len {key : List UInt8} {b : Backup} (h : (makeB key b).2 = 0) (hv : ∀ k ∈ b.Keys, k.Value.length ≤ 100) (hl : b.Keys.length ≤ 40) : (makeB key b).1.length < 65536 := by
 unfold makeB at h ⊢
 split at h
 ·cases h
 ·rename_i h1
  rw [if_neg h1]
  dsimp only
  have hvb : vBk b = true := by
   cases hvb : vBk b with
   | true => rfl
   | false => exact absurd (.inr hvb) h1
  have hm := vBk_mod hvb
  have hhl : (headS b).length ≤ 98 := by
   have := headI_len (b := b)
   unfold headS
   rw [intsB_len]; omega
  have hel := encB_len (headS b)
  have h2 := contI_len (ks := b.Keys) (fun k hk => vK_val (vIds_val _ _ (vBk_ids hvb) k hk))
  rw [List.length_append, sealS_len, intsB_len, intsB_len]; omega
end Go.Cu


namespace Go.Cu
def ldg : Nat → Nat → List Int
 | 0, _ => []
 | k + 1, m => ((m % 256 : Nat) : Int) :: ldg k (m / 256)
theorem dg_snoc : ∀ k m, dg (k + 1) m = dg k (m / 256) ++ [((m % 256 : Nat) : Int)]
 | 0, m => by simp [dg]
 | k + 1, m => by
  rw [dg, dg_snoc k m, dg, Nat.pow_succ, Nat.mul_comm, Nat.div_div_eq_div_mul]
  rfl
theorem ldg_rev : ∀ k m, (ldg k m).reverse = dg k m
 | 0, _ => rfl
 | k + 1, m => by rw [ldg, List.reverse_cons, ldg_rev k, dg_snoc]
theorem ldg_len : ∀ k m, (ldg k m).length = k
 | 0, _ => rfl
 | k + 1, m => by rw [ldg, List.length_cons, ldg_len k]
theorem ldg_isB : ∀ k m, IsB (ldg k m)
 | 0, _ => fun x hx => by cases hx
 | k + 1, m => by
  intro x hx
  rcases List.mem_cons.1 hx with rfl | hx
  ·omega
  ·exact ldg_isB k _ x hx
theorem ri_l6 {p : Int} : ∀ (k m : Nat) (o : List Int), m < 256 ^ k → (k = 0 ∨ 256 ^ (k - 1) ≤ m) → k ≤ 8 → o.length + k ≤ 100 → m < 18446744073709551616 → m ≤ 9223372036854775807 → loopF (ref01_Int.l6 p) (o, (m : Int)) = ref01_Int.j5 p (o ++ ldg k m)
 | 0, m, o, h, _, _, _, _, _ => by
  obtain rfl : m = 0 := by simpa using h
  rw [ldg, List.append_nil]
  refine loop_map ?_
  unfold ref01_Int.l6
  dsimp only
  rw [ite_f (by decide)]
 | k + 1, m, o, h, h2, hk, ho, hm, hm2 => by
  have h0 : 256 ^ k ≤ m := by
   rcases h2 with h2 | h2
   ·cases h2
   ·exact h2
  have hp : 0 < 256 ^ k := Nat.pow_pos (by decide)
  have hs : ref01_Int.l6 p (o, (m : Int)) = some (.inl (o ++ [((m % 256 : Nat) : Int)], ((m / 256 : Nat) : Int))) := by
   unfold ref01_Int.l6
   dsimp only
   rw [ite_t (by omega), grd_b (by simp; omega), show Int.tmod (m : Int) 256 = ((m % 256 : Nat) : Int) from rfl, show Int.tdiv (m : Int) 256 = ((m / 256 : Nat) : Int) from rfl, wrap8_id (by omega) (by omega), wrap_id (by omega) (by omega)]
  rw [loopF_next hs, ri_l6 k (m / 256) _ ?_ ?_ (by omega) (by simp; omega) (by omega) (by omega), ldg, List.append_assoc]
  ·rfl
  ·apply Nat.div_lt_of_lt_mul
   rw [Nat.pow_succ, Nat.mul_comm] at h; exact h
  ·rcases Nat.eq_zero_or_pos k with hk0 | hk0
   ·exact .inl hk0
   ·right
    rw [Nat.le_div_iff_mul_le (by decide), ← Nat.pow_succ, show (k - 1).succ = k by omega]
    exact h0
theorem ri_l3 {p : Int} {c : Bool} (hc : c = decide (p < 0)) {D : List Int} (hD : IsB D) (hl : D.length ≤ 10) : ∀ (j : Nat) (o : List Int), j ≤ D.length → o.length + j ≤ 30 → loopF (ref01_Int.l3 D p) (o, (j : Int) - 1) = some (o ++ ((D.take j).reverse.map (fl c)))
 | 0, o, _, _ => by
  rw [show ((0 : Nat) : Int) - 1 = -1 by rfl]
  have : ref01_Int.l3 D p (o, -1) = some (.inr o) := by
   unfold ref01_Int.l3
   dsimp only
   rw [ite_f (by decide)]; rfl
  rw [loopF_done this]; simp
 | j + 1, o, hj, ho => by
  have hlt : j < D.length := by omega
  have hr : rd D (j : Int) = D[j] := by simp [rd, List.getD, hlt]
  have hb := hD D[j] (List.getElem_mem hlt)
  have hs : ref01_Int.l3 D p (o, (j : Int)) = some (.inl (o ++ [fl c D[j]], (j : Int) - 1)) := by
   unfold ref01_Int.l3 ref01_Int.j2
   dsimp only
   rw [ite_t (by omega), grd_b ⟨by omega, by omega⟩, hr]
   by_cases hp : p < 0
   ·rw [ite_t hp, grd_b (by simp; omega), wrap8_id (by omega) (by omega), wrap_id (by omega) (by omega), hc, decide_eq_true hp]; rfl
   ·rw [ite_f hp, grd_b (by simp; omega), wrap_id (by omega) (by omega), hc, decide_eq_false hp]; rfl
  rw [show ((j + 1 : Nat) : Int) - 1 = (j : Int) by omega, loopF_next hs, ri_l3 hc hD hl j _ (by omega) (by simp; omega)]
  rw [List.take_add_one, show D[j]? = some D[j] from List.getElem?_eq_getElem hlt, Option.toList_some, List.reverse_append, List.map_append, List.append_assoc]
  rfl
theorem ref01_Int_eq {n : Int} (h : wfI n) : ref01_Int n = some (encI n) := by
 have hm := mag_lt h
 obtain ⟨h0, h1⟩ := h
 have hk : nd (mag n) ≤ 8 := ndF_le 8 _
 have hlt : mag n < 256 ^ nd (mag n) := ndF_lt 8 _ (by omega)
 have hge : nd (mag n) = 0 ∨ 256 ^ (nd (mag n) - 1) ≤ mag n := by
  rcases Nat.eq_zero_or_pos (nd (mag n)) with h | h
  ·exact .inl h
  ·exact .inr (ndF_ge 8 (mag n) (nd (mag n) - 1) (by show nd (mag n) = _; omega))
 have e : ref01_Int n = ref01_Int.j7 n ((mag n : Nat) : Int) := by
  unfold ref01_Int mag
  by_cases hn : n < 0
  ·rw [ite_t hn, if_pos hn, wrap_id (by omega) (by omega)]; congr 1; omega
  ·rw [ite_f hn, if_neg hn]; congr 1; omega
 rw [e]
 unfold ref01_Int.j7
 rw [ri_l6 (nd (mag n)) (mag n) [] hlt hge hk (by simp; omega) (by omega) (by omega), List.nil_append]
 have hl := ldg_len (nd (mag n)) (mag n)
 have hB := ldg_isB (nd (mag n)) (mag n)
 unfold ref01_Int.j5 ref01_Int.j4
 have e2 : ∀ c : Bool, c = decide (n < 0) → ∀ x : Int, x = fl c (128 + (nd (mag n) : Int)) → loopF (ref01_Int.l3 (ldg (nd (mag n)) (mag n)) n) ([x], IntKind.i64.wrap (((ldg (nd (mag n)) (mag n)).length : Int) - 1)) = some (encI n) := by
  rintro c hc x rfl
  rw [hl, wrap_id (by omega) (by omega), ri_l3 hc hB (by omega) _ _ (by omega) (by simp; omega), List.take_of_length_le (by omega), ldg_rev]
  unfold encI
  rw [hc]; rfl
 by_cases hn : n < 0
 ·rw [ite_f (by omega), grd_b (by simp), hl, wrap_id (n := 127 - (nd (mag n) : Int)) (by omega) (by omega), wrap8_id (by omega) (by omega)]
  have := e2 true (decide_eq_true hn).symm (127 - (nd (mag n) : Int)) (by show _ = 255 - (128 + (nd (mag n) : Int)); omega)
  rw [hl] at this
  exact this
 ·rw [ite_t (by omega), grd_b (by simp), hl, wrap_id (n := 128 + (nd (mag n) : Int)) (by omega) (by omega), wrap8_id (by omega) (by omega)]
  have := e2 false (decide_eq_false hn).symm (128 + (nd (mag n) : Int)) rfl
  rw [hl] at this
  exact this
theorem ref01_Same_eq {a b : List Int} (hl : a.length ≤ 1099511627776) : ref01_Same a b = some (decide (a = b)) := by
 unfold ref01_Same
 by_cases h : a.length = b.length
 ·rw [if_neg (show ¬ ((a.length : Int) != (b.length : Int)) = true by simp [h])]
  have := loop_list (l := a) (step := ref01_Same.l2 a b) (fun s => s) (fun s r => decide (r = b.drop s.toNat)) (fun _ => True) ?_ ?_ 0 0 trivial rfl (Nat.zero_le _)
  ·simpa using this
  ·intro s x r k _ hk hd hx hlt
   have hk : s = (k : Int) := hk
   subst hk
   unfold ref01_Same.l2
   rw [ite_t (by omega), grd_b ⟨by omega, by omega⟩, grd_b ⟨by omega, by omega⟩, hx]
   have hlt' : k < b.length := by omega
   have hd' : b.drop k = b[k] :: b.drop (k + 1) := List.drop_eq_getElem_cons hlt'
   rw [rd_cons hd', Int.toNat_natCast, hd']
   generalize b[k] = y
   generalize hr' : List.drop (k + 1) b = r'
   by_cases h : x = y
   ·rw [if_neg (show ¬ (x != y) = true by simp [h]), wrap_id (by omega) (by omega)]
    exact .inl ⟨_, rfl, rfl, trivial, by rw [show ((k : Int) + 1).toNat = k + 1 by omega, hr', h]; simp⟩
   ·rw [if_pos (show (x != y) = true by simpa using h)]
    exact .inr (by simp [h])
  ·intro s _ hs'
   have hs' : s = (a.length : Int) := hs'
   subst hs'
   unfold ref01_Same.l2
   rw [ite_f (by omega)]
   simp [h, ref01_Same.j1]
 ·rw [if_pos (show ((a.length : Int) != (b.length : Int)) = true by simp; omega), decide_eq_false (fun e => h (by rw [e]))]
theorem gI_form {h : Int} {t : List Int} {c : Bool} (hc : c = decide (h < 128)) {k : Nat} (hk : k = (fl c h - 128).toNat) :
  gI (h :: t) = if 8 < k then (0, 0, 6) else if t.length < k then (0, 0, 5) else if ((t.take k).map (fl c)).head? = some 0 then (0, 0, 6) else if 9223372036854775808 ≤ beF 0 ((t.take k).map (fl c)) then (0, 0, 6) else ((if c then -1 - (beF 0 ((t.take k).map (fl c)) : Int) else (beF 0 ((t.take k).map (fl c)) : Int)), (k : Int) + 1, 0) := by
 rw [gI, ← hc, ← hk]
 by_cases hx : h < 128
 ·rw [hc, decide_eq_true hx]; simp [hx]
 ·rw [hc, decide_eq_false hx]; simp [hx]
def ansI (l : List Int) (c : Bool) (k m : Nat) : Int × Int × Int :=
 if encI (if c then -1 - (m : Int) else (m : Int)) = l.take (k + 1) then ((if c then -1 - (m : Int) else (m : Int)), (k : Int) + 1, 0) else (0, 0, 6)
theorem ref_j2 {h : Int} {t : List Int} {c : Bool} (hc : c = decide (h < 128)) (hh : 0 ≤ h ∧ h < 256) {k m : Nat} (hk : k ≤ 8) (hl : k ≤ t.length) (hl2 : t.length ≤ 1099511627776) (hm : m < 9223372036854775808) : ref01_GetInt.j2 (h :: t) (m : Int) (k : Int) = some (ansI (h :: t) c k m) := by
 have key : ∀ x : Int, wfI x → ref01_GetInt.j1 x (k : Int) (h :: t) = some (if encI x = (h :: t).take (k + 1) then (x, (k : Int) + 1, 0) else (0, 0, 6)) := by
  intro x hx
  have hel := encI_len x
  unfold ref01_GetInt.j1
  rw [ref01_Int_eq hx, bind_s, wrap_id (n := (k : Int) + 1) (by omega) (by omega), grd_b ⟨by decide, by omega, by simp; omega⟩]
  have e : (((h :: t).take ((k : Int) + 1).toNat).drop (0 : Int).toNat) = (h :: t).take (k + 1) := by
   rw [show ((k : Int) + 1).toNat = k + 1 by omega]; rfl
  rw [e, ref01_Same_eq (by omega), bind_s]
  by_cases he : encI x = (h :: t).take (k + 1)
  ·rw [decide_eq_true he, it_nt, if_pos he]
  ·rw [decide_eq_false he, it_nf, if_neg he]
 unfold ref01_GetInt.j2 ansI
 rw [show rd (h :: t) (0 : Int) = h from rfl, wrap_id (n := h) (by omega) (by omega)]
 by_cases hx : h < 128
 ·rw [ite_t hx, wrap_id (by omega) (by omega), key _ ⟨by omega, by omega⟩, hc, decide_eq_true hx]; rfl
 ·rw [ite_f hx, key _ ⟨by omega, by omega⟩, hc, decide_eq_false hx]; rfl
theorem beF_ge : ∀ (r : List Int) (m : Nat), m ≤ beF m r
 | [], m => Nat.le_refl _
 | d :: r, m => by
  have := beF_ge r (m * 256 + d.toNat)
  rw [beF]; omega
theorem ref01_GetInt_eq {l : List Int} (hb : IsB l) (hl : l.length ≤ 1099511627776) : ref01_GetInt l = some (gI l) := by
 unfold ref01_GetInt
 cases l with
 | nil => rfl
 | cons h t =>
  have ht : IsB t := fun x hx => hb x (by simp [hx])
  have hh := hb h (by simp)
  have hlen : ((h :: t).length : Int) = (t.length : Int) + 1 := by simp
  have hl' : t.length ≤ 1099511627776 := by simp at hl; omega
  obtain ⟨c, hc⟩ : ∃ c, c = decide (h < 128) := ⟨_, rfl⟩
  obtain ⟨k, hk⟩ : ∃ k, k = (fl c h - 128).toNat := ⟨_, rfl⟩
  have hf : 128 ≤ fl c h ∧ fl c h < 256 := by
   subst hc
   by_cases hx : h < 128
   ·rw [decide_eq_true hx]; show 128 ≤ 255 - h ∧ 255 - h < 256; omega
   ·rw [decide_eq_false hx]; show 128 ≤ h ∧ h < 256; omega
  have hk' : fl c h = 128 + (k : Int) := by omega
  have hcase : (c = true ∧ h < 128 ∧ 255 - h = 128 + (k : Int)) ∨ (c = false ∧ ¬ h < 128 ∧ h = 128 + (k : Int)) := by
   by_cases hx : h < 128
   ·left
    have : c = true := by rw [hc]; exact decide_eq_true hx
    subst this
    exact ⟨rfl, hx, hk'⟩
   ·right
    have : c = false := by rw [hc]; exact decide_eq_false hx
    subst this
    exact ⟨rfl, hx, hk'⟩
  rw [if_neg (show ¬ (((h :: t).length : Int) == 0) = true by simp; omega), grd_b ⟨by omega, by omega⟩, show rd (h :: t) (0 : Int) = h from rfl, wrap_id (n := h) (by omega) (by omega)]
  have e1 : ∀ {α : Type} (f : Bool → Option α), (if decide (h < 119) = true then some true else some (decide (136 < h))).bind f = f (decide (8 < k)) := by
   intro α f
   by_cases hx : h < 119
   ·rw [ite_t hx, bind_s, decide_eq_true (by omega)]
   ·rw [ite_f hx, bind_s]
    congr 1
    rw [Bool.eq_iff_iff]; simp; omega
  rw [e1]
  have hg := gI_form (t := t) hc hk
  by_cases h8 : 8 < k
  ·rw [ite_t h8, hg, if_pos h8]
  ·rw [ite_f h8]
   have e2 : (if decide (h < 128) = true then ref01_GetInt.j5 (h :: t) (IntKind.i64.wrap (127 - h)) else ref01_GetInt.j5 (h :: t) (IntKind.i64.wrap (h - 128))) = ref01_GetInt.j5 (h :: t) (k : Int) := by
    rcases hcase with ⟨_, hx, he⟩ | ⟨_, hx, he⟩
    ·rw [ite_t hx, wrap_id (by omega) (by omega)]; congr 1; omega
    ·rw [ite_f hx, wrap_id (by omega) (by omega)]; congr 1; omega
   rw [e2]
   unfold ref01_GetInt.j5
   rw [wrap_id (n := (k : Int) + 1) (by omega) (by omega)]
   by_cases h5 : t.length < k
   ·rw [ite_t (by omega), hg, if_neg h8, if_pos h5]
   ·rw [ite_f (by omega)]
    have hL : (t.take k).length = k := by rw [List.length_take]; omega
    have := loop_list (l := t.take k) (step := ref01_GetInt.l4 (k : Int) (h :: t)) (fun s => s.2 - 1) (fun s r => if 9223372036854775808 ≤ beF s.1.toNat (r.map (fl c)) then ((0 : Int), (0 : Int), (6 : Int)) else ansI (h :: t) c k (beF s.1.toNat (r.map (fl c))))
     (fun s => 0 ≤ s.1 ∧ s.1 < 9223372036854775808) ?_ ?_ ((0 : Int), (1 : Int)) 0 ⟨Int.le_refl _, by omega⟩ rfl (Nat.zero_le _)
    ·rw [this, List.drop_zero]
     congr 1
     show (if 9223372036854775808 ≤ beF 0 ((t.take k).map (fl c)) then ((0 : Int), (0 : Int), (6 : Int)) else ansI (h :: t) c k (beF 0 ((t.take k).map (fl c)))) = gI (h :: t)
     have hg2 := hg
     rw [if_neg h8, if_neg h5] at hg2
     by_cases h9 : 9223372036854775808 ≤ beF 0 ((t.take k).map (fl c))
     ·rw [if_pos h9, hg2]
      split
      ·rfl
      ·rfl
     ·rw [if_neg h9]
      rw [if_neg h9] at hg2
      unfold ansI
      obtain ⟨x, hx⟩ : ∃ x : Int, x = (if c = true then -1 - (beF 0 ((t.take k).map (fl c)) : Int) else (beF 0 ((t.take k).map (fl c)) : Int)) := ⟨_, rfl⟩
      rw [← hx] at hg2 ⊢
      have hwx : wfI x := by
       rw [hx]
       split
       ·exact ⟨by omega, by omega⟩
       ·exact ⟨by omega, by omega⟩
      by_cases hE : encI x = (h :: t).take (k + 1)
      ·rw [if_pos hE]
       have e3 : (h :: t) = encI x ++ (h :: t).drop (k + 1) := by rw [hE, List.take_append_drop]
       have e4 : (encI x).length = k + 1 := by rw [hE, List.length_take, List.length_cons]; omega
       rw [e3, gI_enc hwx, e4]; rfl
      ·rw [if_neg hE, hg2]
       split
       ·rfl
       ·rename_i hz
        rw [if_neg hz] at hg2
        exfalso
        obtain ⟨i1, i2, i3⟩ := gI_inv hb (by rw [hg2])
        rw [hg2] at i2 i3
        dsimp only at i2 i3
        apply hE
        have i4 : (encI x).length = k + 1 := by omega
        rw [i3, ← i4, List.take_left]
    ·rintro ⟨m, s⟩ x r i ⟨hm0, hm1⟩ hs hd hx hlt
     dsimp only at hm0 hm1 hs ⊢
     obtain ⟨m, rfl⟩ := Int.eq_ofNat_of_zero_le hm0
     obtain rfl : s = (i : Int) + 1 := by omega
     rw [hL] at hlt
     have hr : rd (h :: t) ((i : Int) + 1) = x := by
      have : (h :: t).drop (i + 1) = t.drop i := rfl
      have h2 : t.drop i = x :: t.drop (i + 1) := by
       have hit : i < t.length := by omega
       have h3 : t.drop i = t[i] :: t.drop (i + 1) := List.drop_eq_getElem_cons hit
       have h4 : (t.take k)[i]? = some x := by
        have := congrArg (fun m => m[0]?) hd
        simpa using this
       rw [List.getElem?_take, if_pos hlt, List.getElem?_eq_getElem hit] at h4
       rw [h3, Option.some.inj h4]
      have h5 := rd_cons (l := h :: t) (k := i + 1) (by rw [this, h2])
      rw [show ((i : Int) + 1) = ((i + 1 : Nat) : Int) by omega]
      exact h5
     have hxb := ht x (List.mem_of_mem_take (mem_drop hd))
     have hj3 : ref01_GetInt.l4 (k : Int) (h :: t) ((m : Int), (i : Int) + 1) = ref01_GetInt.j3 ((m : Int), (i : Int) + 1) (fl c x) := by
      unfold ref01_GetInt.l4
      dsimp only
      rw [ite_t (by omega), grd_b ⟨by omega, by omega⟩, hr, show rd (h :: t) (0 : Int) = h from rfl, wrap_id (n := h) (by omega) (by omega), wrap_id (n := x) (by omega) (by omega)]
      rcases hcase with ⟨rfl, hx, he⟩ | ⟨rfl, hx, he⟩
      ·rw [ite_t hx, wrap_id (by omega) (by omega)]; rfl
      ·rw [ite_f hx]; rfl
     have hfb := fl_rng (c := c) hxb
     rw [hj3]
     unfold ref01_GetInt.j3
     dsimp only
     rw [List.map_cons, beF]
     by_cases hbig : 36028797018963967 < m
     ·rw [ite_t (by omega)]
      have := beF_ge (r.map (fl c)) ((Int.toNat (m : Int)) * 256 + (fl c x).toNat)
      rw [if_pos (by rw [Int.toNat_natCast] at this ⊢; omega)]
      exact .inr rfl
     ·rw [ite_f (by omega), wrap_id (n := 256 * (m : Int)) (by omega) (by omega), wrap_id (n := 256 * (m : Int) + fl c x) (by omega) (by omega), wrap_id (n := (i : Int) + 1 + 1) (by omega) (by omega)]
      refine .inl ⟨_, rfl, by dsimp only; omega, ⟨by dsimp only; omega, by dsimp only; omega⟩, ?_⟩
      dsimp only
      have : (256 * (m : Int) + fl c x).toNat = (Int.toNat (m : Int)) * 256 + (fl c x).toNat := by omega
      rw [this]
    ·rintro ⟨m, s⟩ ⟨hm0, hm1⟩ hs
     dsimp only at hm0 hm1 hs ⊢
     obtain ⟨m, rfl⟩ := Int.eq_ofNat_of_zero_le hm0
     rw [hL] at hs
     obtain rfl : s = (k : Int) + 1 := by omega
     unfold ref01_GetInt.l4
     dsimp only
     rw [ite_f (by omega), ref_j2 hc hh (by omega) (by omega) hl' (by omega)]
     show _ = some (Sum.inr (if 9223372036854775808 ≤ (Int.toNat (m : Int)) then _ else ansI (h :: t) c k (Int.toNat (m : Int))))
     rw [Int.toNat_natCast, if_neg (by omega)]; rfl
theorem ref01_count_eq {l : List Int} (hb : IsB l) (hl : l.length ≤ 1099511627) : ref01_count l 1 = some (if (gC l).2.2 ≠ 0 then (0, 0, (gC l).2.2) else gC l) := by
 obtain ⟨h1, h2, h3⟩ := gI_at l hb
 unfold ref01_count gC
 rw [ref01_GetInt_eq hb (by omega), bind_s]
 by_cases h : (gI l).2.2 = 0
 ·rw [if_neg (bne0 h)]
  simp only [if_neg (nn0 h)]
  by_cases h4 : (gI l).1 < 0
  ·rw [ite_t h4, if_pos h4]; rfl
  ·rw [ite_f h4, if_neg h4, wrap_id (n := (l.length : Int) - (gI l).2.1) (by omega) (by omega)]
   have e : ∀ {α : Type} (f : Bool → Option α), (if decide ((l.length : Int) < (gI l).1) = true then some true else some (decide ((l.length : Int) - (gI l).2.1 < IntKind.i64.wrap ((gI l).1 * 1)))).bind f = f (decide ((l.length : Int) - (gI l).2.1 < (gI l).1)) := by
    intro α f
    by_cases hx : (l.length : Int) < (gI l).1
    ·rw [ite_t hx, bind_s, decide_eq_true (by omega)]
    ·rw [ite_f hx, bind_s, wrap_id (n := (gI l).1 * 1) (by omega) (by omega), Int.mul_one]
   rw [e]
   by_cases h5 : (l.length : Int) - (gI l).2.1 < (gI l).1
   ·rw [ite_t h5, if_pos h5]; rfl
   ·rw [ite_f h5, if_neg h5, if_neg (nn0 h)]
    congr 1
    exact Prod.ext rfl (Prod.ext rfl h.symm)
 ·rw [if_pos (bne1 h), if_pos (nn1 h), if_pos (nn1 h)]
theorem ref01_GetBytes_eq {l : List Int} (hb : IsB l) (hl : l.length ≤ 1099511627) : ref01_GetBytes l = some (gB l) := by
 unfold ref01_GetBytes gB
 rw [ref01_count_eq hb hl, bind_s]
 by_cases h : (gC l).2.2 = 0
 ·obtain ⟨n, h1, h2, h3, h4⟩ := gC_inv hb h
  have h5 := congrArg List.length h3
  rw [List.length_append] at h5
  rw [if_neg (nn0 h), if_neg (bne0 h), if_neg (nn0 h), wrap_id (by omega) (by omega), grd_b ⟨by omega, by omega, by omega⟩]
 ·rw [if_pos (nn1 h), if_pos (bne1 h), if_pos (nn1 h)]
theorem ref01_GetInts_eq {l : List Int} (hb : IsB l) (hl : l.length ≤ 1099511627) : ref01_GetInts l = some (gL gI l) := by
 unfold ref01_GetInts gL
 rw [ref01_count_eq hb hl, bind_s]
 by_cases h : (gC l).2.2 = 0
 ·obtain ⟨n, h1, h2, h3, h4⟩ := gC_inv hb h
  have h5 := congrArg List.length h3
  rw [List.length_append] at h5
  have h0 : ¬ (gC l).2.2 ≠ 0 := by simp [h]
  rw [if_neg h0, if_neg (bne0 h), if_neg h0, h1, h2, Int.toNat_natCast, Int.toNat_natCast]
  have := loop_rep dec_int (step := ref01_GetInts.l2 (gC l) l) (fun out k i => (out, k, i)) hb hl n (by omega) ?_ ?_ n [] (encI (n : Int)).length 0 (by omega) (by omega) rfl
  ·rw [List.nil_append] at this
   exact this
  ·intro out k i hi hk ho
   obtain ⟨u1, u2, u3⟩ := gI_at (l.drop k) (hb.drop k)
   unfold ref01_GetInts.l2
   dsimp only
   rw [ite_t (by omega), grd_b ⟨by omega, by omega, Int.le_refl _⟩, take_int, Int.toNat_natCast, ref01_GetInt_eq (hb.drop k) (by rw [List.length_drop]; omega), bind_s]
   by_cases h6 : (gI (l.drop k)).2.2 = 0
   ·rw [if_neg (bne0 h6), if_neg (nn0 h6), grd_b (by simp; omega), wrap_id (n := (k : Int) + (gI (l.drop k)).2.1) (by omega) (by omega), wrap_id (by omega) (by omega)]
   ·rw [if_pos (bne1 h6), if_pos (nn1 h6)]
  ·intro out k hk
   unfold ref01_GetInts.l2
   dsimp only
   rw [ite_f (by omega)]; rfl
 ·have h0 : (gC l).2.2 ≠ 0 := h
  rw [if_pos h0, if_pos (bne1 h), if_pos h0]
theorem ref01_GetStrings_eq {l : List Int} (hb : IsB l) (hl : l.length ≤ 1099511627) : ref01_GetStrings l = some (gL gB l) := by
 unfold ref01_GetStrings gL
 rw [ref01_count_eq hb hl, bind_s]
 by_cases h : (gC l).2.2 = 0
 ·obtain ⟨n, h1, h2, h3, h4⟩ := gC_inv hb h
  have h5 := congrArg List.length h3
  rw [List.length_append] at h5
  have h0 : ¬ (gC l).2.2 ≠ 0 := by simp [h]
  rw [if_neg h0, if_neg (bne0 h), if_neg h0, h1, h2, Int.toNat_natCast, Int.toNat_natCast]
  have := loop_rep dec_bytes (step := ref01_GetStrings.l2 (gC l) l) (fun out k i => (out, k, i)) hb hl n (by omega) ?_ ?_ n [] (encI (n : Int)).length 0 (by omega) (by omega) rfl
  ·rw [List.nil_append] at this
   exact this
  ·intro out k i hi hk ho
   have hd : (l.drop k).length ≤ 1099511627 := by rw [List.length_drop]; omega
   unfold ref01_GetStrings.l2
   dsimp only
   rw [ite_t (by omega), grd_b ⟨by omega, by omega, Int.le_refl _⟩, take_int, Int.toNat_natCast, ref01_GetBytes_eq (hb.drop k) hd, bind_s]
   by_cases h6 : (gB (l.drop k)).2.2 = 0
   ·obtain ⟨u1, u2⟩ := dec_bytes.used (hb.drop k) hd h6
    rw [List.length_drop] at u2
    rw [if_neg (bne0 h6), if_neg (nn0 h6), grd_b (by simp; omega), wrap_id (n := (k : Int) + (gB (l.drop k)).2.1) (by omega) (by omega), wrap_id (by omega) (by omega)]
   ·rw [if_pos (bne1 h6), if_pos (nn1 h6)]
  ·intro out k hk
   unfold ref01_GetStrings.l2
   dsimp only
   rw [ite_f (by omega)]; rfl
 ·have h0 : (gC l).2.2 ≠ 0 := h
  rw [if_pos h0, if_pos (bne1 h), if_pos h0]
theorem ref01_Bytes_eq {s : List UInt8} (h : s.length ≤ 1099511627) : ref01_Bytes s = some (encB s) := by
 have h1 := encI_len (s.length : Int)
 unfold ref01_Bytes encB
 rw [ref01_Int_eq ⟨by omega, by omega⟩, bind_s, grd_b (by rw [bytesI_len']; omega)]
end Go.Cu


namespace Go.Cu
attribute [local irreducible] macS blkS bits xorS bytesS sealS openS
theorem ref36_within_eq (n m : Int) : ref36_within n m = some (inB n 0 m) := by
 unfold ref36_within inB
 by_cases h : 0 ≤ n <;> simp [h]
theorem ref36_Valid_eq {b : Backup} (h : wfB b) : ref36_Valid b = some (vBk b) := by
 unfold ref36_Valid vBk
 have hl := h.len
 have hloop : loopF (ref36_Valid.l2 b) ((0 : Int), (0 : Int)) = some (vIds 0 b.Keys) := by
  have := loop_list (l := b.Keys) (step := ref36_Valid.l2 b) (fun s => s.2) (fun s r => vIds s.1 r) (fun _ => True) ?_ ?_ (0, 0) 0 trivial rfl (Nat.zero_le _)
  ·simpa using this
  ·rintro ⟨last, s⟩ x r k _ hk hd hx hlt
   have hk : s = (k : Int) := hk
   subst hk
   unfold ref36_Valid.l2
   dsimp only
   have g : ∀ {β : Type} (f : Unit → Option β), (grd (0 ≤ (k : Int) ∧ (k : Int) < (b.Keys.length : Int))).bind f = f () := fun f => grd_t ⟨by omega, by omega⟩ f
   rw [if_pos (by simpa using hlt)]
   simp only [g, hx, ref27_Valid_eq (h.use x (mem_drop hd)), Option.bind_some]
   rw [bad_key]
   simp only [vIds]
   cases hv : (vK x && (decide (last < x.Id) && decide (x.Id ≤ 2147483647))) with
   | true =>
    refine .inl ⟨(x.Id, k + 1), ?_, rfl, trivial, ?_⟩
    ·rw [if_neg (by simp), wrap_id (by omega) (by omega)]
    ·simp only [← Bool.and_assoc] at hv ⊢
     rw [hv]
     simp
   | false =>
    refine .inr ?_
    rw [if_pos (by simp)]
    simp only [← Bool.and_assoc] at hv ⊢
    rw [hv]
    simp
  ·rintro ⟨last, s⟩ _ hs
   have hs : s = (b.Keys.length : Int) := hs
   subst hs
   unfold ref36_Valid.l2
   dsimp only
   rw [if_neg (by simp)]
   simp [vIds, ref36_Valid.j1]
 rw [hloop]
 simp only [ref36_within_eq, Option.bind_some, vHd]
 cases inB b.Epoch 0 2147483647 <;> cases inB b.Number 0 2147483647 <;> cases inB b.Firmware 0 2147483647 <;> cases inB b.Time 0 1099511627776 <;> try rfl
 unfold inB
 by_cases h1 : (b.Module.length : Int) < 1
 ·simp [h1, show ¬ (1 : Int) ≤ b.Module.length by omega]
 ·by_cases h2 : (12 : Int) < b.Module.length
  ·simp [h1, h2, show (1 : Int) ≤ b.Module.length by omega, show ¬ (b.Module.length : Int) ≤ 12 by omega]
  ·by_cases h3 : (4096 : Int) < b.Keys.length
   ·simp [h1, h2, h3, show (1 : Int) ≤ b.Module.length by omega, show (b.Module.length : Int) ≤ 12 by omega, show ¬ (b.Keys.length : Int) ≤ 4096 by omega]
   ·simp [h1, h2, h3, show (1 : Int) ≤ b.Module.length by omega, show (b.Module.length : Int) ≤ 12 by omega, show (b.Keys.length : Int) ≤ 4096 by omega]
theorem bytesI_drop (s : List UInt8) (n : Nat) : bytesI (s.drop n) = (bytesI s).drop n := by simp [bytesI]
theorem rdigest_eq {s : List UInt8} (h : 16 ≤ s.length) : ref36_digest s = some (lv (bytesI s) 0 16) := by
 unfold ref36_digest
 have hl : (bytesI s).length = s.length := bytesI_len' s
 obtain ⟨h1, h2⟩ := loop_up (step := ref36_digest.l2 s) (fun (v : Vector Int 16) i => (v, i)) (fun i v => vs v (i : Int) (sbyte s (i : Int))) (fun v => v) 16 (fun i v => v.toList = (bytesI s).take i ++ List.replicate (16 - i) 0) (by
  intro i v hi hv
  refine ⟨?_, ?_⟩
  ·unfold ref36_digest.l2
   dsimp only
   rw [ite_t (by omega), grd_b ⟨by omega, by omega⟩, grd_b ⟨by omega, by omega⟩, wrap_id (by omega) (by omega)]
  ·have hi' : i < (bytesI s).length := by omega
   have e : sbyte s (i : Int) = (bytesI s)[i] := by
    have : i < s.length := by omega
    simp [sbyte, bytesI, List.getD, this]
   have hti : ((bytesI s).take i).length = i := by rw [List.length_take]; omega
   rw [vs_toList, hv, Int.toNat_natCast, List.set_append, hti, if_neg (Nat.lt_irrefl _), Nat.sub_self, show 16 - i = (15 - i) + 1 by omega, List.replicate_succ, List.set_cons_zero, List.take_add_one, List.getElem?_eq_getElem hi', e, show 16 - (i + 1) = 15 - i by omega, Option.toList_some, List.append_assoc]
   rfl) (by
  intro v hv
  unfold ref36_digest.l2
  dsimp only
  rw [ite_f (by decide)]; rfl) 16 0 (Vector.replicate 16 0) rfl (by simp)
 refine h1.trans (congrArg some ?_)
 apply Vector.toList_inj.1
 rw [h2, lv_toList (by omega)]
 simp
theorem rderive_eq {key : List UInt8} (h : key.length < 65536) : ref05_Derive key labB [] = some (derS key) := by
 have hl := encB_len labB
 have hl2 : labB.length = 6 := rfl
 have e : ref05_Input labB [] = some (intsB (encB labB)) := by
  unfold ref05_Input
  rw [ref01_Bytes_eq (by decide), bind_s, grd_b (by simp; omega), List.nil_append]
  refine loop_map (o := some (intsB (encB labB))) ?_
  unfold ref05_Input.l2
  dsimp only
  rw [ite_f (by decide)]; rfl
 unfold ref05_Derive
 rw [e, bind_s, ref02_Mac_ok _ _ (by omega) (by rw [intsB_len]; omega)]
 rfl
theorem drop_len0 {α : Type} {l : List α} {u : Int} (h0 : 0 ≤ u) (h1 : u ≤ l.length) : (l.drop u.toNat).length = 0 ↔ u = (l.length : Int) := by
 rw [List.length_drop]; omega
theorem rpeek_eq {blob : List UInt8} (hbl : blob.length ≤ 1099511627) : ref36_Peek blob = some (peekS (bytesI blob)) := by
 have hb : IsB (bytesI blob) := bytesI_isB blob
 have hl : (bytesI blob).length ≤ 1099511627 := by rw [bytesI_len']; exact hbl
 unfold ref36_Peek peekS
 generalize bytesI blob = l at hb hl
 rw [ref01_GetBytes_eq hb hl, bind_s]
 by_cases h1 : (gB l).2.2 = 0
 ·rw [if_neg (bne0 h1), if_neg (nn0 h1)]
  obtain ⟨H, hH⟩ : ∃ H, H = (gB l).1 := ⟨_, rfl⟩
  have hHl : H.length ≤ 1099511627 := by rw [hH]; exact isB_of dec_bytes hb hl h1
  rw [← hH]
  have hI : IsB (bytesI H) := bytesI_isB H
  have hIl : (bytesI H).length = H.length := bytesI_len' H
  unfold hdrS
  by_cases h2 : H.length < 16
  ·have e : gD (bytesI H) = (Vector.replicate 16 0, 0, 5) := by unfold gD; rw [if_pos (by omega)]
   rw [ite_t (by omega), e]; rfl
  ·have e : gD (bytesI H) = (lv (bytesI H) 0 16, 16, 0) := by unfold gD; rw [if_neg (by omega)]
   have eh : ((H.take ((H.length : Int)).toNat).drop ((16 : Int)).toNat) = H.drop 16 := by rw [take_int]; rfl
   rw [ite_f (by omega), e]
   dsimp only
   rw [it_00, grd_b ⟨by decide, by omega, Int.le_refl _⟩, eh, bytesI_drop]
   have hp1 : IsB ((bytesI H).drop 16) := hI.drop _
   have hp1l : ((bytesI H).drop 16).length ≤ 1099511627 := by rw [List.length_drop]; omega
   rw [ref01_GetInts_eq hp1 hp1l, bind_s]
   unfold hdr1
   rw [show ((16 : Int)).toNat = 16 from rfl]
   by_cases h3 : (gL gI ((bytesI H).drop 16)).2.2 = 0
   ·obtain ⟨u1, u2⟩ := dec_ints.used hp1 hp1l h3
    rw [if_neg (bne0 h3), if_neg (nn0 h3)]
    by_cases h4 : (gL gI ((bytesI H).drop 16)).1.length = 4
    ·rw [if_neg (show ¬ (((gL gI ((bytesI H).drop 16)).1.length : Int) != 4) = true by simp [h4]), if_neg (nnN h4)]
     obtain ⟨u, hu⟩ := Int.eq_ofNat_of_zero_le u1
     rw [hu] at u2 ⊢
     rw [List.length_drop] at u2
     have er : ((H.take ((H.length : Int)).toNat).drop ((IntKind.i64.wrap ((16 : Int) + (u : Int)))).toNat) = H.drop (16 + u) := by
      rw [take_int, wrap_id (by omega) (by omega), show ((16 : Int) + (u : Int)).toNat = 16 + u by omega]
     rw [grd_b ⟨by rw [wrap_id (by omega) (by omega)]; omega, by rw [wrap_id (by omega) (by omega)]; omega, Int.le_refl _⟩, er, Int.toNat_natCast u, List.drop_drop]
     have ep2 : bytesI (H.drop (16 + u)) = (bytesI H).drop (16 + u) := bytesI_drop _ _
     obtain ⟨R, hR⟩ : ∃ R, R = H.drop (16 + u) := ⟨_, rfl⟩
     rw [← hR] at ep2 ⊢
     rw [← ep2]
     have hRl : R.length ≤ 1099511627 := by rw [hR, List.length_drop]; omega
     have hRI : (bytesI R).length = R.length := bytesI_len' R
     have hRB : IsB (bytesI R) := bytesI_isB R
     unfold hdr2
     by_cases h5 : R.length < 16
     ·have e2 : gD (bytesI R) = (Vector.replicate 16 0, 0, 5) := by unfold gD; rw [if_pos (by omega)]
      rw [ite_t (by omega), e2]; rfl
     ·have e2 : gD (bytesI R) = (lv (bytesI R) 0 16, 16, 0) := by unfold gD; rw [if_neg (by omega)]
      have er2 : ((R.take ((R.length : Int)).toNat).drop 16) = R.drop 16 := by rw [take_int]
      rw [ite_f (by omega), e2]
      dsimp only
      rw [it_00, grd_b ⟨by decide, by omega, Int.le_refl _⟩, er2, bytesI_drop, show ((16 : Int)).toNat = 16 from rfl]
      have hp3 : IsB ((bytesI R).drop 16) := hRB.drop _
      have hp3l : ((bytesI R).drop 16).length ≤ 1099511627 := by rw [List.length_drop]; omega
      rw [ref01_GetBytes_eq hp3 hp3l, bind_s]
      unfold hdr3
      by_cases h6 : (gB ((bytesI R).drop 16)).2.2 = 0
      ·obtain ⟨v1, v2⟩ := dec_bytes.used hp3 hp3l h6
       have hM := isB_of dec_bytes hp3 hp3l h6
       rw [if_neg (bne0 h6), if_neg (nn0 h6), rdigest_eq (by omega), bind_s, grd_b ⟨by decide, by omega⟩, grd_b ⟨by decide, by omega⟩, grd_b ⟨by decide, by omega⟩, grd_b ⟨by decide, by omega⟩, rdigest_eq (by omega), bind_s, bind_s]
       have eV := ref36_Valid_eq (b := mkB (lv (bytesI H) 0 16) (gL gI ((bytesI H).drop 16)).1 (lv (bytesI R) 0 16) (gB ((bytesI R).drop 16)).1) (mk_wf _ _ _ _ _ _ hM)
       unfold mkB at eV ⊢
       rw [eV, bind_s]
       have hlen : ((bytesI R).drop 16).length = R.length - 16 := by rw [List.length_drop, hRI]
       have hd0 := drop_len0 v1 v2
       rw [wrap_id (n := (R.length : Int) - 16) (by omega) (by omega)]
       by_cases h7 : (gB ((bytesI R).drop 16)).2.1 = (R.length : Int) - 16
       ·rw [if_neg (show ¬ ((gB ((bytesI R).drop 16)).2.1 != (R.length : Int) - 16) = true by simp [h7]), bind_s, if_neg (nnN (hd0.2 (by omega)))]
        cases hv : vBk (⟨lv (bytesI H) 0 16, rd (gL gI ((bytesI H).drop 16)).1 0, rd (gL gI ((bytesI H).drop 16)).1 1, rd (gL gI ((bytesI H).drop 16)).1 2, rd (gL gI ((bytesI H).drop 16)).1 3, lv (bytesI R) 0 16, (gB ((bytesI R).drop 16)).1, []⟩ : Backup) with
        | true => rw [it_nt, it_tt]
        | false => rw [it_nf, it_ff]; rfl
       ·rw [if_pos (show ((gB ((bytesI R).drop 16)).2.1 != (R.length : Int) - 16) = true by simpa using h7), bind_s, it_tt, if_pos (show _ ≠ _ from fun hz => h7 (by have := hd0.1 hz; omega))]
        rfl
      ·rw [if_pos (bne1 h6), if_pos (nn1 h6)]; rfl
    ·rw [if_pos (show (((gL gI ((bytesI H).drop 16)).1.length : Int) != 4) = true by simp; omega), if_pos (show _ ≠ _ from h4)]; rfl
   ·rw [if_pos (bne1 h3), if_pos (nn1 h3)]; rfl
 ·rw [if_pos (bne1 h1), if_pos (nn1 h1)]; rfl
theorem rone_eq {s : List UInt8} (hs : s.length ≤ 1099511627) : ref36_one s = some (pkS (bytesI s)) := by
 have hb : IsB (bytesI s) := bytesI_isB s
 have hsl : (bytesI s).length = s.length := bytesI_len' s
 unfold ref36_one pkS
 rw [ref01_GetStrings_eq hb (by omega), bind_s]
 by_cases h1 : (gL gB (bytesI s)).2.2 = 0
 ·obtain ⟨u1, u2⟩ := dec_strings.used hb (by omega) h1
  have hd0 := drop_len0 u1 u2
  rw [if_neg (bne0 h1), if_neg (nn0 h1)]
  by_cases h2 : (gL gB (bytesI s)).2.1 = (s.length : Int)
  ·rw [if_neg (show ¬ ((gL gB (bytesI s)).2.1 != (s.length : Int)) = true by simp [h2]), bind_s, if_neg (nnN (hd0.2 (by omega)))]
   by_cases h3 : (gL gB (bytesI s)).1.length = 2
   ·rw [if_neg (show ¬ (((gL gB (bytesI s)).1.length : Int) != 2) = true by simp [h3]), if_neg (nnN h3), grd_b ⟨by decide, by omega⟩]
    have hm := (dec_strings.inv _ hb (by omega) h1).1.1 _ (rd_mem (k := 0) (by omega : 0 < (gL gB (bytesI s)).1.length))
    have hm : (rd (gL gB (bytesI s)).1 (0 : Int)).length ≤ 1099511627 := hm
    obtain ⟨p, hp⟩ : ∃ p, p = rd (gL gB (bytesI s)).1 (0 : Int) := ⟨_, rfl⟩
    rw [← hp] at hm ⊢
    have hpb : IsB (bytesI p) := bytesI_isB p
    have hpl : (bytesI p).length = p.length := bytesI_len' p
    unfold pkN
    rw [ref01_GetInts_eq hpb (by omega), bind_s]
    by_cases h4 : (gL gI (bytesI p)).2.2 = 0
    ·obtain ⟨v1, v2⟩ := dec_ints.used hpb (by omega) h4
     have hd1 := drop_len0 v1 v2
     rw [if_neg (bne0 h4), if_neg (nn0 h4), grd_b ⟨by decide, by omega⟩]
     by_cases h5 : (gL gI (bytesI p)).2.1 = (p.length : Int)
     ·rw [if_neg (show ¬ ((gL gI (bytesI p)).2.1 != (p.length : Int)) = true by simp [h5]), bind_s, if_neg (nnN (hd1.2 (by omega)))]
      by_cases h6 : (gL gI (bytesI p)).1.length = 8
      ·rw [if_neg (show ¬ (((gL gI (bytesI p)).1.length : Int) != 8) = true by simp [h6]), if_neg (nnN h6), grd_b ⟨by decide, by omega⟩]
       have e : ∀ {α : Type} (f : Bool → Option α), (if (rd (gL gI (bytesI p)).1 (7 : Int) != (0 : Int)) = true then (grd (0 ≤ (7 : Int) ∧ (7 : Int) < ((gL gI (bytesI p)).1.length : Int))).bind fun _ => some (rd (gL gI (bytesI p)).1 (7 : Int) != (1 : Int)) else some false).bind f = f (!inB (rd (gL gI (bytesI p)).1 7) 0 1) := by
        intro α f
        unfold inB
        by_cases hz : rd (gL gI (bytesI p)).1 7 = 0
        ·rw [if_neg (bne0 hz), bind_s, hz]; rfl
        ·rw [if_pos (bne1 hz), grd_b ⟨by decide, by omega⟩, bind_s]
         congr 1
         rw [Bool.eq_iff_iff]; simp; omega
       rw [e]
       cases h7 : inB (rd (gL gI (bytesI p)).1 7) 0 1 with
       | true =>
        rw [it_nt, it_tt, grd_b ⟨by decide, by omega⟩, grd_b ⟨by decide, by omega⟩, grd_b ⟨by decide, by omega⟩, grd_b ⟨by decide, by omega⟩, grd_b ⟨by decide, by omega⟩, grd_b ⟨by decide, by omega⟩, grd_b ⟨by decide, by omega⟩, grd_b ⟨by decide, by omega⟩, grd_b ⟨by decide, by omega⟩]
        rfl
       | false => rw [it_nf, it_ff]; rfl
      ·rw [if_pos (show (((gL gI (bytesI p)).1.length : Int) != 8) = true by simp; omega), if_pos (show _ ≠ _ from h6)]; rfl
     ·rw [if_pos (show ((gL gI (bytesI p)).2.1 != (p.length : Int)) = true by simpa using h5), bind_s, it_tt, if_pos (show _ ≠ _ from fun hz => h5 (by have := hd1.1 hz; omega))]; rfl
    ·rw [if_pos (bne1 h4), if_pos (nn1 h4)]; rfl
   ·rw [if_pos (show (((gL gB (bytesI s)).1.length : Int) != 2) = true by simp; omega), if_pos (show _ ≠ _ from h3)]; rfl
  ·rw [if_pos (show ((gL gB (bytesI s)).2.1 != (s.length : Int)) = true by simpa using h2), bind_s, it_tt, if_pos (show _ ≠ _ from fun hz => h2 (by have := hd0.1 hz; omega))]; rfl
 ·rw [if_pos (bne1 h1), if_pos (nn1 h1)]; rfl
theorem ropen_loop {t : List (List UInt8) × Int × Int} (hl : t.1.length ≤ 65536) (hs : ∀ s ∈ t.1, s.length ≤ 65536) : ∀ (m i : Nat) (b : Backup), i + m = t.1.length → wfB b → b.Keys.length ≤ i →
  loopF (ref36_Open.l2 t) (b, (i : Int)) = some (if (pksS (t.1.drop i)).2 ≠ 0 then (zB, (pksS (t.1.drop i)).2) else if vBk { b with Keys := b.Keys ++ (pksS (t.1.drop i)).1 } = true then ({ b with Keys := b.Keys ++ (pksS (t.1.drop i)).1 }, 0) else (zB, 6))
 | 0, i, b, h1, h3, h4 => by
  obtain rfl : i = t.1.length := by omega
  have hstep : ref36_Open.l2 t (b, (t.1.length : Int)) = some (.inr (if vBk b = true then (b, 0) else (zB, 6))) := by
   unfold ref36_Open.l2 ref36_Open.j1
   dsimp only
   rw [ite_f (by omega), ref36_Valid_eq h3, bind_s]
   cases hv : vBk b with
   | true => rw [it_nt, it_tt]; rfl
   | false => rw [it_nf, it_ff]; rfl
  rw [loopF_done hstep, List.drop_length]
  have e : ({ b with Keys := b.Keys ++ (pksS []).1 } : Backup) = b := by
   show ({ b with Keys := b.Keys ++ [] } : Backup) = b
   rw [List.append_nil]
  rw [e, if_neg (nn0 (show (pksS []).2 = 0 from rfl))]
 | m + 1, i, b, h1, h3, h4 => by
  have hlt : i < t.1.length := by omega
  have hd : t.1.drop i = t.1[i] :: t.1.drop (i + 1) := List.drop_eq_getElem_cons hlt
  have hsl := hs _ (mem_drop hd)
  have hu := pkS_use (bytesI_isB t.1[i]) (by rw [bytesI_len']; exact hsl)
  have hstep : ref36_Open.l2 t (b, (i : Int)) = some (if (pkS (bytesI t.1[i])).2 ≠ 0 then .inr (zB, (pkS (bytesI t.1[i])).2) else .inl ({ b with Keys := b.Keys ++ [(pkS (bytesI t.1[i])).1] }, (i : Int) + 1)) := by
   unfold ref36_Open.l2
   dsimp only
   rw [ite_t (by omega), grd_b ⟨by omega, by omega⟩, rd_cons hd, rone_eq (by omega), bind_s]
   by_cases h5 : (pkS (bytesI t.1[i])).2 = 0
   ·rw [if_neg (bne0 h5), if_neg (nn0 h5), grd_b (by simp; omega), wrap_id (by omega) (by omega)]
   ·rw [if_pos (bne1 h5), if_pos (nn1 h5)]; rfl
  rw [hd, pksS]
  by_cases h5 : (pkS (bytesI t.1[i])).2 = 0
  ·rw [if_neg (nn0 h5)] at hstep
   rw [loopF_next hstep, if_neg (nn0 h5)]
   have ih := ropen_loop hl hs m (i + 1) { b with Keys := b.Keys ++ [(pkS (bytesI t.1[i])).1] } (by omega) (wfB_snoc h3 (by omega) hu) (by simp; omega)
   have ih2 : loopF (ref36_Open.l2 t) ({ b with Keys := b.Keys ++ [(pkS (bytesI t.1[i])).1] }, (i : Int) + 1) = _ := ih
   rw [ih2]
   by_cases h6 : (pksS (t.1.drop (i + 1))).2 = 0
   ·simp only [if_neg (nn0 h6)]
    simp
   ·simp only [if_pos (nn1 h6)]
  ·rw [if_pos (nn1 h5)] at hstep
   rw [loopF_done hstep, if_pos (nn1 h5), if_pos (nn1 h5)]
theorem ropen_eq {key blob : List UInt8} (hk : key.length < 65536) (hl : blob.length < 65536) : ref36_Open key blob = some (openB key blob) := by
 have hI : IsB (bytesI blob) := bytesI_isB blob
 have hIl : (bytesI blob).length = blob.length := bytesI_len' blob
 unfold ref36_Open openB
 by_cases h0 : key.length = 32
 ·rw [if_neg (show ¬ ((key.length : Int) != 32) = true by simp; omega), if_neg (nnN h0), rpeek_eq (by omega), bind_s]
  by_cases h1 : (peekS (bytesI blob)).2 = 0
  ·obtain ⟨g1, g2, g3⟩ := peekS_gB h1
   have gl := gB_bound hI (by omega) g1
   have hw : wfB (peekS (bytesI blob)).1 := by
    rw [g3]
    obtain ⟨w1, w2, w3, w4⟩ := hdrS_inv (bytesI_isB _) (by rw [bytesI_len']; omega) g2
    refine ⟨by rw [w3]; simp, by have := w4.mod; omega, by rw [w3]; intro k hk; cases hk⟩
   have hnk : (peekS (bytesI blob)).1.Keys = [] := by
    rw [g3]
    exact (hdrS_inv (bytesI_isB _) (by rw [bytesI_len']; omega) g2).2.2.1
   obtain ⟨u1, u2⟩ := dec_bytes.used hI (by omega) g1
   have e := rderive_eq (key := key) hk
   unfold labB at e
   have eb : ((blob.take ((blob.length : Int)).toNat).drop ((gB (bytesI blob)).2.1).toNat) = intsB ((bytesI blob).drop ((gB (bytesI blob)).2.1).toNat) := by
    rw [take_int, ← bytesI_drop, intsB_bytesI]
   have hrl : (intsB ((bytesI blob).drop (gB (bytesI blob)).2.1.toNat)).length < 65536 := by rw [intsB_len, List.length_drop]; omega
   rw [if_neg (bne0 h1), if_neg (nn0 h1), ref01_GetBytes_eq hI (by omega), bind_s, e, bind_s, grd_b ⟨u1, by omega, Int.le_refl _⟩, eb, ref_Open_ok _ _ _ (by rw [derS_len]; decide) (by omega) hrl, bind_s]
   obtain ⟨o, ho⟩ : ∃ o, o = openR (derS key) (gB (bytesI blob)).1 (intsB ((bytesI blob).drop (gB (bytesI blob)).2.1.toNat)) := ⟨_, rfl⟩
   rw [← ho]
   by_cases h2 : o.2 = 0
   ·have hol : o.1.length < 65536 := by
     have := openR_len (key := derS key) (ad := (gB (bytesI blob)).1) (blob := intsB ((bytesI blob).drop (gB (bytesI blob)).2.1.toNat)) (by rw [← ho]; exact h2)
     rw [← ho] at this
     omega
    have hob : IsB (bytesI o.1) := bytesI_isB _
    have hobl : (bytesI o.1).length = o.1.length := bytesI_len' _
    rw [if_neg (bne0 h2), if_neg (nn0 h2), ref01_GetStrings_eq hob (by omega), bind_s]
    by_cases h3 : (gL gB (bytesI o.1)).2.2 = 0
    ·obtain ⟨s1, s2⟩ := strs_bound hob (B := 65536) (by omega) (by decide) h3
     obtain ⟨v1, v2⟩ := dec_strings.used hob (by omega) h3
     have hd0 := drop_len0 v1 v2
     rw [if_neg (bne0 h3), if_neg (nn0 h3)]
     by_cases h4 : (gL gB (bytesI o.1)).2.1 = (o.1.length : Int)
     ·rw [if_neg (show ¬ ((gL gB (bytesI o.1)).2.1 != (o.1.length : Int)) = true by simp [h4]), if_neg (nnN (hd0.2 (by omega)))]
      have := ropen_loop (t := gL gB (bytesI o.1)) s1 s2 (gL gB (bytesI o.1)).1.length 0 (peekS (bytesI blob)).1 (by simp) hw (by rw [hnk]; simp)
      rw [List.drop_zero, hnk, List.nil_append] at this
      exact this
     ·rw [if_pos (show ((gL gB (bytesI o.1)).2.1 != (o.1.length : Int)) = true by simpa using h4), if_pos (show _ ≠ _ from fun hz => h4 (by have := hd0.1 hz; omega))]
      rfl
    ·rw [if_pos (bne1 h3), if_pos (nn1 h3)]; rfl
   ·rw [if_pos (bne1 h2), if_pos (nn1 h2)]; rfl
  ·rw [if_pos (bne1 h1), if_pos (nn1 h1)]; rfl
 ·rw [if_pos (show ((key.length : Int) != 32) = true by simp; omega), if_pos (show _ ≠ _ from h0)]; rfl
end Go.Cu
