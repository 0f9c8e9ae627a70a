/- Rules for walks over facts, pure functions and plain laws; no condition. -/
import Derived.Test.YtakfalfggmgcfaaGreatDoorCFE7
import Derived.Test.YtakfalfggmgcfaaGreatDoorCK3
import Derived.Test.YtakfalfggmgcfaaGreatDoorCK2
import Derived.Test.YtakfalfggmgcfaaGreatDoorCFWx2
import Derived.Test.YtakfalfggmgcfaaGreatDoorRows
import Derived.LaidMore
import Derived.Stop.Joined
import Derived.Lib.LaidTab
set_option linter.unusedVariables false
set_option linter.unusedSimpArgs false

namespace Go.Cu
attribute [local irreducible] macS blkS bits xorS bytesS
def valL (c : Int) : List Int := upF (fun i s => wr s (i : Int) c) 0 32 (List.replicate 32 (0 : Int))
theorem value_eq (c : Int) : law36_value c = some (intsB (valL c)) := by
 unfold law36_value
 rw [grd_b ⟨by decide, by decide, by decide⟩]
 have := (loop_up (step := law36_value.l2 c) (fun (s : List Int) i => (s, i)) (fun i s => wr s (i : Int) c) (fun s => intsB s) 32 (fun i s => s.length = 32) ?_ ?_ 32 0 (List.replicate 32 (0 : Int)) rfl rfl).1
 ·exact this
 ·intro i s hi hs
  refine ⟨?_, by unfold wr; rw [List.length_set]; exact hs⟩
  unfold law36_value.l2
  dsimp only
  rw [ite_t (by omega), grd_b ⟨by omega, by omega⟩, wrap_id (by omega) (by omega)]
 ·intro s hs
  unfold law36_value.l2
  dsimp only
  rw [ite_f (by decide)]; rfl
theorem peekTop_eq {blob : List UInt8} (hl : blob.length ≤ 1099511627) : backup_Peek blob = some (if (peekS (bytesI blob)).2 ≠ 0 then (zB, (peekS (bytesI blob)).2) else ((peekS (bytesI blob)).1, 0)) := by
 unfold backup_Peek
 obtain ⟨b, x, hp, he, hx⟩ := peek_eq (bytesI_isB blob) (by rw [bytesI_len']; exact hl)
 rw [hp, bind_s]
 by_cases h1 : (peekS (bytesI blob)).2 = 0
 ·obtain ⟨rfl, _, _⟩ := hx h1
  rw [if_neg (bne0 (he.trans h1)), if_neg (nn0 h1)]
 ·rw [if_pos (bne1 (by rw [he]; exact h1)), if_pos (nn1 h1), he]; rfl
theorem equalKeys_eq {a b : Backup} (hl : a.Keys.length ≤ 1099511627776) : slices_Equal_Key a.Keys b.Keys = some (decide (a.Keys = b.Keys)) := by
 unfold slices_Equal_Key
 by_cases h : a.Keys.length = b.Keys.length
 ·rw [if_neg (show ¬ ((a.Keys.length : Int) != (b.Keys.length : Int)) = true by simp [h])]
  exact keys_same (step := slices_Equal_Key.l2 a.Keys b.Keys) h hl (fun s => rfl)
 ·rw [if_pos (show ((a.Keys.length : Int) != (b.Keys.length : Int)) = true by simp; omega), decide_eq_false (fun e => h (by rw [e]))]
theorem same_eq {a b : Backup} (ha : wfH a) (hb : wfH b) (hma : a.Module.length ≤ 1000) (hmb : b.Module.length ≤ 1000) (hl : a.Keys.length ≤ 1099511627776) : backup_Same a b = some (decide (headS a = headS b) && decide (a.Keys = b.Keys)) := by
 unfold backup_Same
 rw [header_eq ha hma, bind_s, header_eq hb hmb, bind_s]
 by_cases h : headS a = headS b
 ·rw [if_pos (show (headS a == headS b) = true by simp [h]), equalKeys_eq hl]
  simp [h]
 ·rw [if_neg (show ¬ (headS a == headS b) = true by simp [h])]
  simp [h]
theorem exK_wf : wfKy exK := ⟨⟨⟨by decide, by decide⟩, ⟨by decide, by decide⟩, ⟨by decide, by decide⟩, ⟨by decide, by decide⟩, ⟨by decide, by decide⟩, ⟨by decide, by decide⟩, ⟨by decide, by decide⟩⟩, by decide⟩
theorem isB_dec {l : List Int} (h : l.all (fun x => decide (0 ≤ x) && decide (x < 256)) = true) : IsB l := by
 intro x hx
 have := List.all_eq_true.1 h x hx
 simp only [Bool.and_eq_true, decide_eq_true_eq] at this
 exact this
theorem exBk_wf : okB exBk := ⟨⟨isB_dec (by decide), isB_dec (by decide), ⟨⟨by decide, by decide⟩, ⟨by decide, by decide⟩, ⟨by decide, by decide⟩, ⟨by decide, by decide⟩⟩, by decide⟩, (fun k hk => by
 rcases List.mem_cons.1 hk with rfl | hk
 ·exact exK_wf
 ·cases hk), by decide⟩
theorem exBk_v : vBk exBk = true := by decide +kernel
def exT9 : Table := ⟨9, [exK]⟩
theorem ex_other : (openR (derS KX) hdV (sealS (derS KD) hdV ctV)).2 = 8 := by
 rw [dX_val, dD_val]
 have hl : (sealS dDV hdV ctV).length = 86 := by rw [sealS_len]; rfl
 obtain ⟨T, hT⟩ : ∃ T, T = tagS dDV nDV hdV cDV := ⟨_, rfl⟩
 have e : sealS dDV hdV ctV = nDV ++ cDV ++ T := by
  unfold sealS; rw [nD_val, eD_val, cD_val, hT]
 obtain ⟨h1, h2, h3⟩ := seal_parts nDV cDV T rfl (by rw [hT]; exact tagS_len _ _ _ _)
 unfold openR
 rw [if_pos (by rfl), if_neg (by rw [hl]; decide), e]
 unfold openS
 simp only [h1, h2, h3]
 rw [hT, tX_val, tD_val, if_neg (by decide)]
theorem sanity36 : law36_sanity = some true := by
 have hk32 : KD.length = 32 := rfl
 have hx32 : KX.length = 32 := rfl
 have v1 : law36_value 118 = some (repL [118] 32) := (value_eq 118).trans (congrArg some (by decide +kernel))
 have v2 : law36_value 100 = some KD := (value_eq 100).trans (congrArg some (by decide +kernel))
 have v3 : law36_value 120 = some KX := (value_eq 120).trans (congrArg some (by decide +kernel))
 have ctl : (contI exBk.Keys).length < 65536 := by
  have := contI_len (ks := exBk.Keys) (fun k hk => vK_val (vIds_val _ _ (vBk_ids exBk_v) k hk))
  have e : exBk.Keys.length = 1 := rfl
  omega
 have m1 : makeB KD exBk = (intsB (encB hdV) ++ sealS (derS KD) hdV ctV, 0) := by
  unfold makeB
  rw [if_neg (by simp [hk32, exBk_v]), hd_val, show intsB (contI exBk.Keys) = ctV from ct_val]
 obtain ⟨B, hB⟩ : ∃ B, B = intsB (encB hdV) ++ sealS (derS KD) hdV ctV := ⟨_, rfl⟩
 rw [← hB] at m1
 have hBl : B.length < 65536 := by
  have h1 := encB_len hdV
  have h2 : hdV.length = 45 := rfl
  have h3 : ctV.length = 58 := rfl
  rw [hB, List.length_append, sealS_len, intsB_len]; omega
 have a1 : backup_Make KD exBk = some (B, 0) := by rw [make_eq exBk_wf (by decide) ctl, m1]
 have a2 : backup_Open KD B = some (exBk, 0) := by
  have := open_make (key := KD) exBk_wf ctl (by rw [m1])
  rw [m1] at this
  rw [open_eq (by decide) hBl, this]
 have e0 : bytesI B = encB hdV ++ bytesI (sealS (derS KD) hdV ctV) := by
  rw [hB, bytesI_app, bytesI_intsB (dec_bytes.isB _ (by decide))]
 have e1 := dec_bytes.enc hdV (bytesI (sealS (derS KD) hdV ctV)) (by decide)
 have e2 : bytesI hdV = headI exBk := by rw [← hd_val]; exact bytesI_intsB (headI_isB exBk_wf.hd)
 have e4 : peekS (bytesI B) = (noK exBk, 0) := by
  rw [e0]
  unfold peekS
  rw [e1]
  dsimp only
  rw [it_00, e2, hdrS_enc exBk_wf.hd (vBk_noK exBk_v)]
 have a3 : backup_Peek B = some (noK exBk, 0) := by
  rw [peekTop_eq (by omega), e4]; rfl
 have a4 : ∃ z, backup_Open KX B = some (z, 8) := by
  rw [open_eq (by decide) hBl]
  refine ⟨zB, ?_⟩
  unfold openB
  have e9 : ((encB hdV ++ bytesI (sealS (derS KD) hdV ctV)).drop (((encB hdV).length : Int)).toNat) = bytesI (sealS (derS KD) hdV ctV) := drop_left' _ _
  rw [e4]
  rw [if_neg (show ¬ KX.length ≠ 32 by simp [hx32])]
  simp only [e0, e1, e9, intsB_bytesI]
  rw [it_00, ex_other, if_pos (by decide)]
 obtain ⟨z, a4⟩ := a4
 have a5 : backup_Make ([115, 104, 111, 114, 116] : List UInt8) exBk = some ([], 1) := by
  unfold backup_Make
  rw [if_pos (by decide), bind_s, it_tt]
 have a6 : backup_Valid exBk = some true := by rw [backup_Valid_eq exBk_wf.wf, exBk_v]
 have wn : wfH (noK exBk) := ⟨exBk_wf.hd.dom, exBk_wf.hd.pol, exBk_wf.hd.num, exBk_wf.hd.mod⟩
 have a7 : backup_Same exBk exBk = some true := by rw [same_eq exBk_wf.hd exBk_wf.hd (by decide) (by decide) (by decide)]; simp
 have a8 : backup_Same exBk (noK exBk) = some false := by
  rw [same_eq exBk_wf.hd wn (by decide) (by decide) (by decide)]
  have : decide (exBk.Keys = (noK exBk).Keys) = false := by decide
  rw [this, Bool.and_false]
 have c1 : backup_Complete exBk exT9 5 = some true := by rw [complete_eq 5 (by decide) (by decide)]; decide
 have c2 : backup_Complete (noK exBk) exT9 5 = some false := by rw [complete_eq 5 (by decide) (by decide)]; decide
 have c3 : backup_Complete (noK exBk) exT9 9 = some true := by rw [complete_eq 9 (by decide) (by decide)]; decide
 have c4 : backup_Select exT9 5 = some [exK] := by rw [select_eq 5 (by decide)]; decide
 have h1 : backup_Header exBk = some hdV := by rw [header_eq exBk_wf.hd (by decide), hd_val]
 have s1 : ref36_Same exBk exBk = some true := by rw [ref36_Same_eq (by decide), decide_eq_true rfl]
 have s2 : ref36_Same (noK exBk) (noK exBk) = some true := by rw [ref36_Same_eq (by decide), decide_eq_true rfl]
 unfold law36_sanity
 rw [v1, bind_s]
 show (law36_value 100).bind _ = some true
 rw [v2, bind_s]
 show (backup_Make KD exBk).bind _ = some true
 rw [a1, bind_s]
 show (backup_Open KD B).bind _ = some true
 rw [a2, bind_s]
 show (backup_Peek B).bind _ = some true
 rw [a3, bind_s, v3, bind_s]
 show (backup_Open KX B).bind _ = some true
 rw [a4, bind_s]
 show (backup_Make ([115, 104, 111, 114, 116] : List UInt8) exBk).bind _ = some true
 rw [a5, bind_s]
 show ((ref36_Same exBk exBk).bind _).bind _ = some true
 rw [s1, bind_s, it_tt]
 show ((ref36_Same (noK exBk) (noK exBk)).bind _).bind _ = some true
 rw [s2, bind_s, it_tt]
 show ((backup_Valid exBk).bind _).bind _ = some true
 rw [a6, bind_s, it_tt]
 show ((backup_Same exBk exBk).bind _).bind _ = some true
 rw [a7, bind_s, it_tt]
 show ((backup_Same exBk (noK exBk)).bind _).bind _ = some true
 rw [a8, bind_s, it_nf]
 show ((backup_Complete exBk exT9 5).bind _).bind _ = some true
 rw [c1, bind_s, it_tt]
 show ((backup_Complete (noK exBk) exT9 5).bind _).bind _ = some true
 rw [c2, bind_s, it_nf]
 show ((backup_Complete (noK exBk) exT9 9).bind _).bind _ = some true
 rw [c3, bind_s, it_tt]
 show ((backup_Select exT9 5).bind _).bind _ = some true
 rw [c4, bind_s]
 show ((backup_Header exBk).bind _).bind _ = some true
 rw [h1, bind_s]
 rfl
end Go.Cu


namespace Go.Cu
attribute [local irreducible] macS blkS bits xorS bytesS sealS openS makeB openB peekS
theorem beqs {α : Type} [BEq α] [ReflBEq α] (x : α) : (x == x) = true := beq_self_eq_true x
theorem peekS_bad {l : List Int} (h : (peekS l).2 ≠ 0) : (peekS l).1 = zB := by
 unfold peekS at h ⊢
 split
 ·rfl
 ·rename_i h1
  rw [if_neg h1] at h
  unfold hdrS at h ⊢
  split
  ·rfl
  ·rename_i h2
   rw [if_neg h2] at h
   unfold hdr1 at h ⊢
   split
   ·rfl
   ·rename_i h3
    rw [if_neg h3] at h
    split
    ·rfl
    ·rename_i h4
     rw [if_neg h4] at h
     unfold hdr2 at h ⊢
     split
     ·rfl
     ·rename_i h5
      rw [if_neg h5] at h
      unfold hdr3 at h ⊢
      split
      ·rfl
      ·rename_i h6
       rw [if_neg h6] at h
       split
       ·rfl
       ·rename_i h7
        rw [if_neg h7] at h
        split
        ·rename_i h8
         rw [if_pos h8] at h
         exact absurd rfl h
        ·rfl
theorem peekTop_eq' {blob : List UInt8} (hl : blob.length ≤ 1099511627) : backup_Peek blob = some (peekS (bytesI blob)) := by
 rw [peekTop_eq hl]
 by_cases h : (peekS (bytesI blob)).2 = 0
 ·rw [if_neg (nn0 h)]
  exact congrArg some (Prod.ext rfl h.symm)
 ·rw [if_pos (nn1 h)]
  exact congrArg some (Prod.ext (peekS_bad h).symm rfl)
theorem openB_len {key blob : List UInt8} (hl : blob.length < 65536) : (openB key blob).1.Keys.length ≤ 1099511627776 := by
 by_cases h : (openB key blob).2 = 0
 ·have := (make_open hl h).1.len; omega
 ·have : (openB key blob).1 = zB := by
   unfold openB at h ⊢
   split
   ·rfl
   ·rename_i h1
    rw [if_neg h1] at h
    split
    ·rfl
    ·rename_i h2
     rw [if_neg h2] at h
     split
     ·rfl
     ·rename_i h3
      rw [if_neg h3] at h
      split
      ·rfl
      ·rename_i h4
       rw [if_neg h4] at h
       split
       ·rfl
       ·rename_i h5
        rw [if_neg h5] at h
        split
        ·rfl
        ·rename_i h6
         rw [if_neg h6] at h
         split
         ·rename_i h7
          rw [if_pos h7] at h
          exact absurd rfl h
         ·rfl
  rw [this]; exact Nat.zero_le _
theorem peek_make {key : List UInt8} {b : Backup} (hb : okB b) (h : (makeB key b).2 = 0) : peekS (bytesI (makeB key b).1) = (noK b, 0) := by
 unfold makeB at h ⊢
 split at h
 ·cases h
 ·rename_i h1
  rw [if_neg h1]
  have hv : vBk b = true := by
   cases hv : vBk b with
   | true => rfl
   | false => exact absurd (.inr hv) h1
  dsimp only
  have hm := vBk_mod hv
  have hhl : (headS b).length ≤ 98 := by
   have := headI_len (b := b)
   unfold headS
   rw [intsB_len]; omega
  generalize sealS (derS key) (headS b) (intsB (contI b.Keys)) = S
  have e0 : bytesI (intsB (encB (headS b)) ++ S) = encB (headS b) ++ bytesI S := by
   rw [bytesI_app, bytesI_intsB (dec_bytes.isB _ (by omega))]
  have e1 := dec_bytes.enc (headS b) (bytesI S) (by omega)
  have e2 : bytesI (headS b) = headI b := bytesI_intsB (headI_isB hb.hd)
  rw [e0]
  unfold peekS
  rw [e1]
  dsimp only
  rw [it_00, e2, hdrS_enc hb.hd (vBk_noK hv)]
theorem law_BackupNeedsItsKey (hsan : law36_sanity = some true) (key other : List UInt8) (b : Backup) (hb : inBk b) : law36_BackupNeedsItsKey key other b = some true := by
 unfold law36_BackupNeedsItsKey
 rw [few36_eq hb.len, bind_s]
 cases hf : fewS b with
 | false => rw [it_nf, bind_s, it_tt, hsan]; rfl
 | true =>
  rw [it_nt]
  by_cases h1 : 100 < key.length
  ·rw [ite_t (by omega), bind_s, it_tt, hsan]; rfl
  ·rw [ite_f (by omega), bind_s]
   by_cases h2 : 100 < other.length
   ·rw [ite_t (by omega), hsan]; rfl
   ·obtain ⟨o1, o2⟩ := few_ok36 hb hf
    rw [ite_f (by omega), make_eq o1 (by omega) o2, bind_s]
    by_cases h3 : (makeB key b).2 = 0
    ·have hf' := hf
     unfold fewS at hf'
     simp only [Bool.and_eq_true, decide_eq_true_eq, List.all_eq_true] at hf'
     have hl := makeB_len h3 hf'.1 hf'.2.1
     have hp := peek_make o1 h3
     rw [if_neg (bne0 h3), peekTop_eq' (by omega), bind_s, hp, open_eq (by omega) hl, bind_s, ropen_eq (by omega) hl, bind_s, ref36_Same_eq (by show ([] : List Key).length ≤ _; decide), bind_s, hsan, bind_s, it_tt]
     have e : decide (noK b = ({ b with Keys := ([] : (List Key)) } : Backup)) = true := decide_eq_true rfl
     have e2 : ∀ x y : Option Bool, (if ((((noK b, (0 : Int)) : Backup × Int).2 == (0 : Int)) = true) then x else y) = x := fun x y => rfl
     simp only [e, e2, it_tt, if_pos (beqs _), ref36_Same_eq (openB_len hl), bind_s, decide_true]
     rfl
    ·rw [if_pos (bne1 h3), hsan]; rfl
end Go.Cu


namespace Go.Cu
theorem wfI_of {n : Int} (h : wfK .i64 n) : wfI n := by
 unfold wfK Lit.wf at h
 simp [IntKind.min, IntKind.max, IntKind.signed, IntKind.bits] at h
 exact ⟨by omega, by omega⟩
theorem wf8_of {n : Int} (h : wfK .u8 n) : 0 ≤ n ∧ n < 256 := by
 unfold wfK Lit.wf at h
 simp [IntKind.min, IntKind.max, IntKind.signed, IntKind.bits] at h
 exact ⟨by omega, by omega⟩
theorem num_of {k : Key} (h : Key.Wf k) : wfI k.Id ∧ wfI k.Type_ ∧ wfI k.Uses ∧ wfI k.Start ∧ wfI k.End ∧ wfI k.Version ∧ wfI k.Parent := by
 obtain ⟨h1, h2, _, h4, h5, h6, h7, h8⟩ := h
 exact ⟨wfI_of h1, wfI_of h2, wfI_of h4, wfI_of h5, wfI_of h6, wfI_of h7, wfI_of h8⟩
theorem inBk_of {b : Backup} (h : Backup.Wf b) : inBk b := by
 obtain ⟨h1, h2, h3, h4, h5, h6, h7, h8, h9⟩ := h
 exact ⟨fun x hx => wf8_of (h1 x hx), fun x hx => wf8_of (h6 x hx), ⟨wfI_of h2, wfI_of h3, wfI_of h4, wfI_of h5⟩, fun k hk => num_of (h8 k hk), h9⟩
theorem law_BackupNeedsItsKey' (a0 a1 : List UInt8) (a2 : Backup) (w0 : a0.length ≤ 140737488351232) (w1 : a1.length ≤ 140737488351232) (w2 : Backup.Wf a2) : law36_BackupNeedsItsKey a0 a1 a2 = some true :=
 law_BackupNeedsItsKey sanity36 a0 a1 a2 (inBk_of w2)
end Go.Cu


namespace Go.Cu
open Go.Proofs Go.Proofs.YtakfalfggmgcfaaGreatDoor
theorem gRef : Tryz.prog.globalNamed "custody/custodyref02.constants" = some 0 := by kernel_rfl
theorem gHash : Tryz.prog.globalNamed "custody/hash.constants" = some 1 := by kernel_rfl
theorem tRef : (Tryz.prog.globals[0]?).map (·.type) = some 240 := by kernel_rfl
theorem tHash : (Tryz.prog.globals[1]?).map (·.type) = some 240 := by kernel_rfl
theorem datRef {H : Type} : (Rows.laid_custody_custodyref02_constants : DataW H) = Lib.tabData .u32 ref02_constants.toList := rfl
theorem datHash {H : Type} : (Rows.laid_custody_hash_constants : DataW H) = Lib.tabData .u32 hash_constants.toList := rfl
theorem var_heap {P : Program} {w : World} {n : String} {g : Nat} {cs : Array Value} (hg : P.globalNamed n = some g) (h : w.var? P n = some cs) : ∃ T f, w.heap[g]? = some (.cells cs T f) := by
 simp only [World.var?, hg, Option.bind_some] at h
 split at h
 ·rename_i c t f hb
  injection h with h; subst h
  exact ⟨t, f, hb⟩
 ·cases h
theorem c240 : Tryz.prog.cellsOf 240 = 64 := by kernel_rfl
theorem c169 : Tryz.prog.cellsOf 169 = 1 := by kernel_rfl
theorem glRef {W : World} {H : Type} {enc : TypeId × Value → H} {sp : Nat → Bool} {hd : Bool} {f : Nat} {cs : Array Value} {p : List MemPlace} (hv : W.var? Tryz.prog "custody/custodyref02.constants" = some cs)
  (h : DataW.trod enc Tryz.prog W 0 sp hd f 240 cs.toList = some (Rows.laid_custody_custodyref02_constants, p)) : ∃ T f, hp W 0 = some (.cells (vI .u32 ref02_constants).toArray T f) := by
 rw [datRef] at h
 have := Lib.cells_of_tab Tryz.underlying240 Tryz.underlying169 c169 c240 h
 obtain ⟨T, f, hh⟩ := var_heap gRef hv
 refine ⟨T, f, hh.trans ?_⟩
 rw [show cs = (vI .u32 ref02_constants).toArray from Array.ext' (by rw [this]; rfl)]
theorem glHash {W : World} {H : Type} {enc : TypeId × Value → H} {sp : Nat → Bool} {hd : Bool} {f : Nat} {cs : Array Value} {p : List MemPlace} (hv : W.var? Tryz.prog "custody/hash.constants" = some cs)
  (h : DataW.trod enc Tryz.prog W 0 sp hd f 240 cs.toList = some (Rows.laid_custody_hash_constants, p)) : ∃ T f, hp W 1 = some (.cells (vI .u32 hash_constants).toArray T f) := by
 rw [datHash] at h
 have := Lib.cells_of_tab Tryz.underlying240 Tryz.underlying169 c169 c240 h
 obtain ⟨T, f, hh⟩ := var_heap gHash hv
 refine ⟨T, f, hh.trans ?_⟩
 rw [show cs = (vI .u32 hash_constants).toArray from Array.ext' (by rw [this]; rfl)]
theorem gl_of_laid {W : World} (h : laidMetH Tryz.prog [("custody/custodyref02.constants", Rows.laid_custody_custodyref02_constants), ("custody/hash.constants", Rows.laid_custody_hash_constants)] W) : Gl (hp W) := by
 rw [MakeChecks.laidMetH_plain _ _ _ (by kernel_rfl)] at h
 obtain ⟨ps, ⟨g0, t0, cs0, f0, p0, q0, hg0, ht0, hv0, hd0, ⟨g1, t1, cs1, f1, p1, q1, hg1, ht1, hv1, hd1, _, _⟩, _⟩, _, _⟩ := h
 obtain rfl := Option.some.inj (gRef.symm.trans hg0)
 obtain rfl := Option.some.inj (gHash.symm.trans hg1)
 obtain rfl := Option.some.inj (tRef.symm.trans ht0)
 obtain rfl := Option.some.inj (tHash.symm.trans ht1)
 exact ⟨glRef hv0 hd0, glHash hv1 hd1⟩
theorem door_met (os : Os) (args : Array Value) : laidMetH Tryz.prog [("custody/custodyref02.constants", Rows.laid_custody_custodyref02_constants), ("custody/hash.constants", Rows.laid_custody_hash_constants)] ((World.doorLaid Tryz.prog 400 os).forCall (fun _ _ => 0) ⟨#[], args, []⟩).memory :=
 laidMetH_of_parts3 (fuel := 8) (laidMet_of_run' 8 (by kernel_rfl) (by kernel_rfl)) (by kernel_rfl) (by kernel_rfl)
end Go.Cu
