/- Rules for walks over facts, for any program; no condition. -/
import Derived.Test.YtakfalfggmgcfaaDoorCu18
import Derived.Laws.BytesString
import Derived.Scope
set_option linter.unusedVariables false
set_option linter.unusedSimpArgs false
/-! Arrays that the call owns, views of them, bytes and strings, scopes, what is lent. -/
namespace Go.Cu
/-- An element replaced. -/
def vs {α : Type} {n : Nat} (v : Vector α n) (i : Int) (x : α) : Vector α n := v.setIfInBounds i.toNat x
/-- n elements from a place on. -/
def lv {α : Type} [Inhabited α] (l : List α) (o n : Nat) : Vector α n := Vector.ofFn fun i => l.getD (o + i) default
/-- Elements laid over a vector from a place on. -/
def vcp {α : Type} [Inhabited α] {n : Nat} (v : Vector α n) (o : Nat) (c : List α) : Vector α n := lv (v.toList.take o ++ (c ++ v.toList.drop (o + c.length))) 0 n
def intsB (l : List Int) : List UInt8 := l.map fun n => UInt8.ofNat n.toNat
theorem vm_get {α : Type} [Inhabited α] {f : α → Value} {n : Nat} {v : Vector α n} {i : Int} (h0 : 0 ≤ i) (h1 : i < n) : (v.toList.map f)[i.toNat]? = some (f (rd v.toList i)) := by
  have hl : i.toNat < v.toList.length := by simp; omega
  rw [List.getElem?_map, List.getElem?_eq_getElem hl]
  simp only [Option.map_some, rd, List.getD, List.getElem?_eq_getElem hl, Option.getD_some]
theorem vm_set {α : Type} {f : α → Value} {n : Nat} {v : Vector α n} {i : Int} {x : α} (h0 : 0 ≤ i) (h1 : i < n) : splice (v.toList.map f) i.toNat [f x] = (vs v i x).toList.map f := by
  have hl : i.toNat < v.toList.length := by simp; omega
  have : (vs v i x).toList = v.toList.set i.toNat x := by
    unfold vs
    simp [Vector.toList_setIfInBounds]
  rw [this, List.map_set]
  unfold splice
  simp only [List.length_singleton]
  rw [List.set_eq_take_append_cons_drop, if_pos (by simpa using hl)]
  simp
theorem part_get {L V : List Value} {o n j : Nat} {u : Value} (h : (L.drop o).take n = V) (hj : j < n) (hu : V[j]? = some u) : L[o + j]? = some u := by
  rw [← h, List.getElem?_take, if_pos hj, List.getElem?_drop] at hu
  exact hu
theorem splice_whole {A V V' B : List Value} (h : V'.length = V.length) : splice (A ++ (V ++ B)) A.length V' = A ++ (V' ++ B) := by
  unfold splice
  rw [List.take_left, List.drop_append, List.drop_of_length_le (l := A) (by omega), Nat.add_sub_cancel_left, h, List.drop_left]
  simp
theorem vI_len {k : IntKind} {n : Nat} (v : Vector Int n) : (vI k v).length = n := by simp [vI]
theorem vI_get {k : IntKind} {n : Nat} {v : Vector Int n} {i : Int} (h0 : 0 ≤ i) (h1 : i < n) : (vI k v)[i.toNat]? = some (.int k (rd v.toList i)) := vm_get (f := .int k) h0 h1
theorem vI_set {k : IntKind} {n : Nat} {v : Vector Int n} {i x : Int} (h0 : 0 ≤ i) (h1 : i < n) : splice (vI k v) i.toNat [.int k x] = vI k (vs v i x) := vm_set (f := .int k) h0 h1
theorem lv_map {α : Type} [Inhabited α] {f : α → Value} {l : List α} {o n : Nat} (h : o + n ≤ l.length) : (lv l o n).toList.map f = ((l.map f).drop o).take n := by
  apply List.ext_getElem?
  intro i
  rw [List.getElem?_map, List.getElem?_take, List.getElem?_drop]
  rcases Nat.lt_or_ge i n with hi | hi
  · rw [if_pos hi, List.getElem?_map]
    congr 1
    have h1 : i < (lv l o n).toList.length := by simpa using hi
    rw [List.getElem?_eq_getElem h1, List.getElem?_eq_getElem (by omega)]
    simp [lv, List.getD, show o + i < l.length by omega]
  · rw [if_neg (by omega), List.getElem?_eq_none (by simpa using hi)]
    rfl
section
variable {P : Program} {w : World} {ρ : Operand → Value} {dst : Option Tmp} {ty : TypeId} {pos : String} {af : Array Edge} {gd : Option (Nat × Bool)}
theorem r_iaI {x y : Operand} {t e : TypeId} {n b o : Nat} {k : IntKind} {i : Int} (ht : P.underlying t = some (.array n e)) (hs : TSize P e 1) (hx : ρ x = ptr b o) (hy : ρ y = .int k i)
    (h0 : 0 ≤ i) (h1 : i < n) : (execOp ρ ⟨dst, .indexAddr t x y, ty, pos, af, gd⟩).run P w = .ok (.value (ptr b (o + i.toNat))) w := by
  rw [r_ia ht hs hx hy h0 h1, Nat.mul_one]
theorem run_part1 {t : TypeId} {A : List Value} {o : Nat} {v : Value} (ha : TAgg P t false) (hv : A[o]? = some v) : (part t A.toArray o).run P w = .ok v w := by
  have : A.toArray[o]? = some v := by simpa using hv
  simp [part, ha.run, this]
/-- An element of an array that is a value. -/
theorem r_index {x y : Operand} {t e : TypeId} {n : Nat} {k : IntKind} {i : Int} {A : List Value} {v : Value} (ht : P.underlying t = some (.array n e)) (ha : TAgg P e false) (hs : TSize P e 1) (hx : ρ x = .agg A.toArray) (hy : ρ y = .int k i)
    (h0 : 0 ≤ i) (h1 : i < n) (hv : A[i.toNat]? = some v) : (execOp ρ ⟨dst, .index t x y, ty, pos, af, gd⟩).run P w = .ok (.value v) w := by
  have := run_part1 (P := P) (w := w) ha hv
  simp [execOp, hx, hy, Instr.index, asIntOf, run_underlying ht, h0, h1, hs.run, this]
/-- A slice of an array's cells. -/
def vw (b off n lo h : Nat) : Value := .slice (some (if n = lo then ⟨b, off, none⟩ else ⟨b, off + lo, none⟩)) (h - lo) (n - lo)
theorem r_view {x : Operand} {lo hi : Option Operand} {t e : TypeId} {n b o : Nat} {a c : Int} (ht : P.underlying t = some (.array n e)) (hs : TSize P e 1) (hx : ρ x = ptr b o)
    (ha : match lo with | none => a = 0 | some o => ∃ k, ρ o = .int k a) (hc : match hi with | none => c = n | some o => ∃ k, ρ o = .int k c) (h0 : 0 ≤ a) (h1 : a ≤ c) (h2 : c ≤ n) :
    (execOp ρ ⟨dst, .slice t x lo hi none, ty, pos, af, gd⟩).run P w = .ok (.value (vw b o n a.toNat c.toNat)) w := by
  obtain ⟨cn, rfl⟩ := Int.eq_ofNat_of_zero_le (show 0 ≤ c by omega)
  obtain ⟨an, rfl⟩ := Int.eq_ofNat_of_zero_le h0
  have h3 : an ≤ cn := by omega
  have h4 : cn ≤ n := by omega
  have m : ∀ {o : Option Operand} {z d : Int}, (match o with | none => z = d | some o => ∃ k, ρ o = .int k z) → (o = none ∧ z = d) ∨ ∃ p k, o = some p ∧ ρ p = .int k z := by
    intro o z d h
    cases o with
    | none => exact .inl ⟨rfl, h⟩
    | some p => obtain ⟨k, hk⟩ := h; exact .inr ⟨p, k, rfl, hk⟩
  have key : (if n = an then (⟨b, o, none⟩ : Addr) else Addr.add ⟨b, o, none⟩ (an * 1)) = (if n = an then (⟨b, o, none⟩ : Addr) else ⟨b, o + an, none⟩) := by
    rw [Nat.mul_one, add_ptr]
  rcases m ha with ⟨rfl, ha1⟩ | ⟨p, k, rfl, ha1⟩ <;> rcases m hc with ⟨rfl, hc1⟩ | ⟨q, k', rfl, hc1⟩ <;> clear ha hc
  · have ha0 : an = 0 := by omega
    have hc0 : cn = n := by omega
    subst ha0 hc0
    simp [execOp, hx, Instr.sliceAt, run_underlying ht, Instr.sureAddr, Instr.sliceBounds, hs.run, vw, add_ptr]
  · have ha0 : an = 0 := by omega
    subst ha0
    simp [execOp, hx, hc1, Instr.sliceAt, run_underlying ht, Instr.sureAddr, Instr.sliceBounds, Instr.sliceBound, asIntOf, hs.run, vw, h4, add_ptr]
  · have hc0 : cn = n := by omega
    subst hc0
    simp [execOp, hx, ha1, Instr.sliceAt, run_underlying ht, Instr.sureAddr, Instr.sliceBounds, Instr.sliceBound, asIntOf, hs.run, vw, h3, add_ptr]
  · simp [execOp, hx, ha1, hc1, Instr.sliceAt, run_underlying ht, Instr.sureAddr, Instr.sliceBounds, Instr.sliceBound, asIntOf, hs.run, vw, h3, h4, add_ptr]
theorem foldl_bytes : ∀ (l : List Int) (s : ByteArray), l.foldl (fun r n => r.push (UInt8.ofNat n.toNat)) s = ⟨(s.data.toList ++ intsB l).toArray⟩
  | [], s => by simp [intsB]
  | n :: l, s => by
    rw [List.foldl_cons, foldl_bytes l]
    simp [intsB, ByteArray.push]
theorem run_b2s {s d e : TypeId} {a : Addr} {c : Nat} {l : List Int} (hs : P.underlying s = some (.slice e)) (he : P.underlying e = some (.int .u8)) (hd : P.underlying d = some .string)
    (h : (loadCells a l.length).run P w = .ok (l.map (Value.int .u8)).toArray w) : (convert s d (.slice (some a) l.length c)).run P w = .ok (str (intsB l)) w := by
  rw [run_convert_bytes_string w s d e (some a) l.length c hs he hd, run_bytesToString w a l.length c l h, foldl_bytes]
  rfl
theorem flat_ints {k : IntKind} (l : List Int) : flat (FI k) l = l.map (Value.int k) := by
  induction l with
  | nil => rfl
  | cons x l ih => rw [flat_cons, ih]; rfl
theorem r_b2s {x : Operand} {s d e : TypeId} {M : Heap} {v : Value} {l : List Int} (hs : P.underlying s = some (.slice e)) (he : P.underlying e = some (.int .u8)) (hd : P.underlying d = some .string)
    (hR : RS (FI .u8) M v l) (hM : Sub M w) (hx : ρ x = v) : (execOp ρ ⟨dst, .convert s d x, ty, pos, af, gd⟩).run P w = .ok (.value (str (intsB l))) w := by
  have : (convert s d v).run P w = .ok (str (intsB l)) w := by
    rcases hR with ⟨rfl, rfl⟩ | ⟨b, cap, pre, post, T, fr, rfl, h, h1, h2⟩
    · rw [run_convert_bytes_string w s d e none 0 0 hs he hd]
      rfl
    · refine run_b2s hs he hd ?_
      refine run_loadCells_blk (A := pre ++ (flat (FI .u8) l ++ post)) (T := T) (fr := fr) (hM _ _ h) ?_ (by simp)
      rw [List.drop_left, flat_ints]
      simp
  simp [execOp, hx, this]
theorem vw_cells {b off n lo h : Nat} {A V : List Value} {T : TypeId} {fr : Nat × Nat} (hB : Blk w b A T fr) (hV : (A.drop off).take n = V) (hl : V.length = n) (h1 : lo ≤ h) (h2 : h ≤ n) :
    (loadCells (if n = lo then (⟨b, off, none⟩ : Addr) else ⟨b, off + lo, none⟩) (h - lo)).run P w = .ok ((V.take h).drop lo).toArray w := by
  by_cases hn : n = lo
  · have : h - lo = 0 := by omega
    rw [if_pos hn, this]
    have e : (V.take h).drop lo = [] := by
      apply List.drop_of_length_le
      simp; omega
    rw [e]
    exact run_loadCells_blk hB (by simp) rfl
  · rw [if_neg hn]
    refine run_loadCells_blk hB ?_ (by simp; omega)
    subst hV
    rw [List.take_take, Nat.min_eq_left h2, List.drop_take, List.drop_drop]
/-- string(a[lo:hi]) of an array that the call owns. -/
theorem r_vw2s {x : Operand} {s d e T : TypeId} {b off n lo h : Nat} {A : List Value} {v : Vector Int n} {fr : Nat × Nat} (hs : P.underlying s = some (.slice e)) (he : P.underlying e = some (.int .u8)) (hd : P.underlying d = some .string)
    (hx : ρ x = vw b off n lo h) (hB : Blk w b A T fr) (hV : (A.drop off).take n = vI .u8 v) (h1 : lo ≤ h) (h2 : h ≤ n) :
    (execOp ρ ⟨dst, .convert s d x, ty, pos, af, gd⟩).run P w = .ok (.value (str (intsB ((v.toList.take h).drop lo)))) w := by
  have hl : h - lo = ((v.toList.take h).drop lo).length := by simp; omega
  have : (convert s d (vw b off n lo h)).run P w = .ok (str (intsB ((v.toList.take h).drop lo))) w := by
    have hc := vw_cells (P := P) hB hV (vI_len v) h1 h2
    rw [hl] at hc
    unfold vw
    rw [hl]
    refine run_b2s hs he hd ?_
    rw [hc]
    simp [vI]
  simp [execOp, hx, this]
/-- The part of an array under a slice, as an array by its address. -/
theorem r_vwptr {x : Operand} {t e : TypeId} {b off n lo h m : Nat} (ht : P.underlying t = some (.array m e)) (hx : ρ x = vw b off n lo h) (h1 : m ≤ h - lo) (h2 : lo < n) :
    (execOp ρ ⟨dst, .sliceToArrayPointer t x, ty, pos, af, gd⟩).run P w = .ok (.value (ptr b (off + lo))) w := by
  have h3 : ¬ h - lo < m := by omega
  have h4 : ¬ n = lo := by omega
  simp [execOp, hx, Instr.arrayAt, run_underlying ht, vw, h3, h4]
end
end Go.Cu
