/- Rules for walks over facts, for any program; no condition. -/
import Derived.Test.YtakfalfggmgcfaaDoorCu3
set_option linter.unusedSimpArgs false
set_option linter.unusedVariables false
/-! Memory: reading, boxes, stores. -/
namespace Go.Cu

/-! ### Facts on types -/
def TSize (P : Program) (t : TypeId) (n : Nat) : Prop := (P.info? t).map (·.size) = some n
def TBytes (P : Program) (t : TypeId) (n : Nat) : Prop := (P.info? t).map (·.bytes) = some n
def TZero (P : Program) (t : TypeId) (z : Value) : Prop := (P.info? t).map (·.zero) = some (some z)
def aggD : TypeDesc → Bool
  | .struct _ | .array _ _ => true
  | _ => false
def TAgg (P : Program) (t : TypeId) (b : Bool) : Prop := (P.underlying t).map aggD = some b

section types
variable {P : Program} {w : World} {t : TypeId} {n : Nat}
theorem run_typeInfo {i : TypeInfo} (h : P.info? t = some i) : (typeInfo t).run P w = .ok i w := by simp [typeInfo, h]
theorem TSize.info (h : TSize P t n) : ∃ i, P.info? t = some i ∧ i.size = n := by
  unfold TSize at h
  cases hi : P.info? t with
  | none => rw [hi] at h; cases h
  | some i => rw [hi] at h; exact ⟨i, rfl, by simpa using h⟩
theorem TSize.run (h : TSize P t n) : (sizeOf t).run P w = .ok n w := by
  obtain ⟨i, hi, e⟩ := h.info
  simp [sizeOf, run_typeInfo hi, e]
theorem TBytes.info (h : TBytes P t n) : ∃ i, P.info? t = some i ∧ i.bytes = n := by
  unfold TBytes at h
  cases hi : P.info? t with
  | none => rw [hi] at h; cases h
  | some i => rw [hi] at h; exact ⟨i, rfl, by simpa using h⟩
theorem TZero.run {z : Value} (h : TZero P t z) : (zeroValue t).run P w = .ok z w := by
  unfold TZero at h
  cases hi : P.info? t with
  | none => rw [hi] at h; cases h
  | some i =>
    rw [hi] at h
    have : i.zero = some z := by simpa using h
    simp [zeroValue, run_typeInfo hi, this]
theorem TAgg.run {b : Bool} (h : TAgg P t b) : (isAgg t).run P w = .ok b w := by
  unfold TAgg at h
  cases hi : P.underlying t with
  | none => rw [hi] at h; cases h
  | some d =>
    rw [hi] at h
    have h : aggD d = b := by simpa using h
    subst h
    simp only [isAgg, Sem.run_bind, run_underlying hi, Result.andThen_ok]
    cases d <;> rfl
end types

/-! ### A block of cells -/
abbrev Blk (w : World) (b : Nat) (A : List Value) (T : TypeId) (fr : Nat × Nat) : Prop := w.heap[b]? = some (.cells A.toArray T fr)
abbrev ptr (b o : Nat) : Value := .pointer (some ⟨b, o, none⟩)

theorem Blk.cell {w : World} {b : Nat} {A : List Value} {T : TypeId} {fr : Nat × Nat} (h : Blk w b A T fr) (o : Nat) : w.cell? ⟨b, o, none⟩ = A[o]? := by
  simp [World.cell?, h]
theorem add_ptr (b o n : Nat) : Addr.add ⟨b, o, none⟩ n = ⟨b, o + n, none⟩ := by
  unfold Addr.add; split
  · rename_i h; subst h; rfl
  · rfl
theorem run_loadCells_blk {P : Program} {w : World} {b : Nat} {A : List Value} {T : TypeId} {fr : Nat × Nat} (h : Blk w b A T fr) {o n : Nat} {cs : List Value}
    (hc : (A.drop o).take n = cs) (hn : cs.length = n) : (loadCells ⟨b, o, none⟩ n).run P w = .ok cs.toArray w := by
  subst hn
  have := run_loadCells_list (P := P) (w := w) ⟨b, o, none⟩ cs (fun j v hj => by
    rw [add_ptr, h.cell]
    rw [← hc] at hj
    rw [List.getElem?_take] at hj
    split at hj
    · rw [List.getElem?_drop] at hj; exact hj
    · cases hj)
  simpa using this

theorem run_load1 {P : Program} {w : World} {b : Nat} {A : List Value} {T t : TypeId} {fr : Nat × Nat} (h : Blk w b A T fr) (ht : TAgg P t false) {o : Nat} {v : Value}
    (hv : A[o]? = some v) : (loadVar t ⟨b, o, none⟩).run P w = .ok v w := by
  simp [loadVar, ht.run, load, Sem.run, h.cell, hv]
theorem run_loadA {P : Program} {w : World} {b : Nat} {A : List Value} {T t : TypeId} {fr : Nat × Nat} (h : Blk w b A T fr) (ht : TAgg P t true) {n : Nat} (hs : TSize P t n) {o : Nat} {cs : List Value}
    (hc : (A.drop o).take n = cs) (hn : cs.length = n) : (loadVar t ⟨b, o, none⟩).run P w = .ok (.agg cs.toArray) w := by
  simp [loadVar, ht.run, hs.run, run_loadCells_blk h hc hn]

/-- A part of a struct has this offset. -/
def FA (P : Program) (T i off : Nat) : Prop := ∀ (b o : Nat) (w : World), (Instr.fieldAt T (ptr b o) i).run P w = .ok (ptr b (o + off)) w
theorem FA.mk {P : Program} {T i off n : Nat} {fs : Array Field} {f : Field} (hT : P.underlying T = some (.struct fs)) (hf : fs[i]? = some f) (hs : TSize P f.type n) (hn : n ≠ 0) (ho : f.offset = off) :
    FA P T i off := by
  intro b o w
  subst ho
  simp [Instr.fieldAt, run_underlying hT, hf, Instr.sureAddr, fieldPlace, hs.run, hn, add_ptr]

section mem
variable {P : Program} {w : World} {ρ : Operand → Value} {dst : Option Tmp} {ty : TypeId} {pos : String} {af : Array Edge} {gd : Option (Nat × Bool)}
theorem r_load1 {x : Operand} {t T : TypeId} {b o : Nat} {A : List Value} {fr : Nat × Nat} {v : Value} (ht : TAgg P t false) (hx : ρ x = ptr b o) (h : Blk w b A T fr) (hv : A[o]? = some v) :
    (execOp ρ ⟨dst, .load t x, ty, pos, af, gd⟩).run P w = .ok (.value v) w := by
  simp [execOp, hx, Instr.loadAt, Instr.sureAddr, run_load1 h ht hv]
theorem r_loadA {x : Operand} {t T : TypeId} {b o n : Nat} {A cs : List Value} {fr : Nat × Nat} (ht : TAgg P t true) (hs : TSize P t n) (hx : ρ x = ptr b o) (h : Blk w b A T fr)
    (hc : (A.drop o).take n = cs) (hn : cs.length = n) : (execOp ρ ⟨dst, .load t x, ty, pos, af, gd⟩).run P w = .ok (.value (.agg cs.toArray)) w := by
  simp [execOp, hx, Instr.loadAt, Instr.sureAddr, run_loadA h ht hs hc hn]
theorem r_fa {x : Operand} {T i off b o : Nat} (hF : FA P T i off) (hx : ρ x = ptr b o) : (execOp ρ ⟨dst, .fieldAddr T x i, ty, pos, af, gd⟩).run P w = .ok (.value (ptr b (o + off))) w := by
  simp [execOp, hx, hF b o w]
theorem r_ia {x y : Operand} {t e : TypeId} {n sz b o : Nat} {k : IntKind} {i : Int} (ht : P.underlying t = some (.array n e)) (hs : TSize P e sz) (hx : ρ x = ptr b o) (hy : ρ y = .int k i)
    (h0 : 0 ≤ i) (h1 : i < n) : (execOp ρ ⟨dst, .indexAddr t x y, ty, pos, af, gd⟩).run P w = .ok (.value (ptr b (o + i.toNat * sz))) w := by
  simp [execOp, hx, hy, Instr.indexAt, asIntOf, run_underlying ht, Instr.sureAddr, h0, h1, hs.run, add_ptr]
theorem r_is {x y : Operand} {t e : TypeId} {n c sz b o : Nat} {k : IntKind} {i : Int} (ht : P.underlying t = some (.slice e)) (hs : TSize P e sz) (hx : ρ x = .slice (some ⟨b, o, none⟩) n c) (hy : ρ y = .int k i)
    (h0 : 0 ≤ i) (h1 : i < n) : (execOp ρ ⟨dst, .indexAddr t x y, ty, pos, af, gd⟩).run P w = .ok (.value (ptr b (o + i.toNat * sz))) w := by
  simp [execOp, hx, hy, Instr.indexAt, asIntOf, run_underlying ht, h0, h1, hs.run, add_ptr]
end mem

/-! ### Data that does not change: slices of flat elements -/
structure Fl (α : Type) where
  f : α → List Value
  sz : Nat
  len : ∀ x, (f x).length = sz

def flat {α : Type} (F : Fl α) (l : List α) : List Value := l.flatMap F.f
@[simp] theorem flat_nil {α : Type} (F : Fl α) : flat F [] = [] := rfl
@[simp] theorem flat_cons {α : Type} (F : Fl α) (x : α) (l : List α) : flat F (x :: l) = F.f x ++ flat F l := rfl
@[simp] theorem flat_append {α : Type} (F : Fl α) (l m : List α) : flat F (l ++ m) = flat F l ++ flat F m := by simp [flat]
theorem flat_length {α : Type} (F : Fl α) (l : List α) : (flat F l).length = l.length * F.sz := by
  induction l with
  | nil => simp
  | cons x l ih => simp [ih, F.len, Nat.succ_mul]; omega

theorem flat_at {α : Type} (F : Fl α) : ∀ (l : List α) (i : Nat) (x : α), l[i]? = some x → ((flat F l).drop (i * F.sz)).take F.sz = F.f x
  | [], i, x, h => by simp at h
  | y :: l, 0, x, h => by
    simp at h; subst h
    simp [F.len]
  | y :: l, i + 1, x, h => by
    have h' : l[i]? = some x := by simpa using h
    rw [flat_cons, Nat.succ_mul, Nat.add_comm, ← List.drop_drop]
    have : (F.f y ++ flat F l).drop F.sz = flat F l := by
      rw [List.drop_append_of_le_length (by rw [F.len]; exact Nat.le_refl _), List.drop_of_length_le (by rw [F.len]; exact Nat.le_refl _)]; rfl
    rw [this]
    exact flat_at F l i x h'

def rd {α : Type} [Inhabited α] (l : List α) (i : Int) : α := l.getD i.toNat default
theorem rd_get {α : Type} [Inhabited α] {l : List α} {i : Int} (h0 : 0 ≤ i) (h1 : i < l.length) : l[i.toNat]? = some (rd l i) := by
  have : i.toNat < l.length := by omega
  simp [rd, List.getD, this]

def RS {α : Type} (F : Fl α) (M : Heap) (v : Value) (l : List α) : Prop :=
  (v = .slice none 0 0 ∧ l = []) ∨ ∃ (b : Nat) (cap : Nat) (pre post : List Value) (T : TypeId) (fr : Nat × Nat), v = .slice (some ⟨b, pre.length, none⟩) l.length cap ∧
    M b = some (.cells (pre ++ (flat F l ++ post)).toArray T fr) ∧ l.length ≤ cap ∧ cap * F.sz ≤ (flat F l ++ post).length

theorem RS.mono {α : Type} {F : Fl α} {M M' : Heap} {v : Value} {l : List α} (h : RS F M v l) (hM : HLe M M') : RS F M' v l := by
  rcases h with h | ⟨b, cap, pre, post, T, fr, h1, h2, h3⟩
  · exact .inl h
  · exact .inr ⟨b, cap, pre, post, T, fr, h1, hM _ _ h2, h3⟩
theorem RS.slice {α : Type} {F : Fl α} {M : Heap} {v : Value} {l : List α} (h : RS F M v l) : ∃ a c, v = .slice a l.length c := by
  rcases h with ⟨h, rfl⟩ | ⟨b, cap, pre, post, T, fr, h1, _⟩
  · exact ⟨_, _, h⟩
  · exact ⟨_, _, h1⟩

/-- The place of a part of an element. -/
def eP (v : Value) (i : Int) (sz off : Nat) : Value :=
  match v with
  | .slice (some a) _ _ => .pointer (some ⟨a.block, a.off + (i.toNat * sz + off), none⟩)
  | _ => undef

section rs
variable {P : Program} {w : World} {ρ : Operand → Value} {dst : Option Tmp} {ty : TypeId} {pos : String} {af : Array Edge} {gd : Option (Nat × Bool)}
variable {α : Type} {F : Fl α} {M : Heap} {v : Value} {l : List α}
theorem r_lenR {x : Operand} {t e : TypeId} (ht : P.underlying t = some (.slice e)) (h : RS F M v l) (hx : ρ x = v) :
    (execOp ρ ⟨dst, .call ⟨.builtin .len, #[x], #[t]⟩, ty, pos, af, gd⟩).run P w = .ok (.value (.int .i64 l.length)) w := by
  obtain ⟨a, c, rfl⟩ := h.slice; exact r_llen ht hx
theorem r_iR {x y : Operand} {t e : TypeId} {k : IntKind} {i : Int} (ht : P.underlying t = some (.slice e)) (hs : TSize P e F.sz) (h : RS F M v l) (hx : ρ x = v) (hy : ρ y = .int k i)
    (h0 : 0 ≤ i) (h1 : i < l.length) : (execOp ρ ⟨dst, .indexAddr t x y, ty, pos, af, gd⟩).run P w = .ok (.value (eP v i F.sz 0)) w := by
  rcases h with ⟨_, rfl⟩ | ⟨b, cap, pre, post, T, fr, rfl, _⟩
  · simp at h1; omega
  · rw [r_is ht hs hx hy h0 h1]; rfl
theorem r_loadE1 [Inhabited α] {x : Operand} {t : TypeId} {i : Int} {off : Nat} {u : Value} (ht : TAgg P t false) (h : RS F M v l) (hs : Sub M w) (h0 : 0 ≤ i) (h1 : i < l.length)
    (hx : ρ x = eP v i F.sz off) (hu : (F.f (rd l i))[off]? = some u) : (execOp ρ ⟨dst, .load t x, ty, pos, af, gd⟩).run P w = .ok (.value u) w := by
  rcases h with ⟨_, rfl⟩ | ⟨b, cap, pre, post, T, fr, rfl, hM, _⟩
  · simp at h1; omega
  · refine r_load1 ht (b := b) (o := pre.length + (i.toNat * F.sz + off)) hx (hs _ _ hM) ?_
    have hlt : off < F.sz := by have := (List.getElem?_eq_some_iff.1 hu).1; rwa [F.len] at this
    have hat := flat_at F l i.toNat _ (rd_get h0 h1)
    have : (flat F l)[i.toNat * F.sz + off]? = some u := by
      rw [← hu, ← hat, List.getElem?_take, if_pos hlt, List.getElem?_drop]
    rw [List.getElem?_append_right (by omega), Nat.add_sub_cancel_left, List.getElem?_append_left (List.getElem?_eq_some_iff.1 this).1]
    exact this
end rs
end Go.Cu
