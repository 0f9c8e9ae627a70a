/- Rules for walks over facts, for any program; no condition. -/
import Derived.WalkKit
import Derived.KernelRfl
set_option linter.unusedSimpArgs false
set_option linter.unusedVariables false
/-! Core of an ownership calculus over the model: abstract frames, owned items, immutable ghost heap. -/
namespace Go.Cu

/-! ### Loops by a step function -/
inductive Iter {σ ρ : Type} (step : σ → Option (σ ⊕ ρ)) : Nat → σ → ρ → Prop
  | done {s r} : step s = some (.inr r) → Iter step 0 s r
  | next {n s s' r} : step s = some (.inl s') → Iter step n s' r → Iter step (n + 1) s r

theorem Iter.det {σ ρ : Type} {step : σ → Option (σ ⊕ ρ)} {n m : Nat} {s : σ} {r r' : ρ} (h : Iter step n s r) (h' : Iter step m s r') : r = r' := by
  induction h generalizing m with
  | done h1 => cases h' with
    | done h2 => rw [h1] at h2; injection h2 with h2; injection h2
    | next h2 _ => rw [h1] at h2; injection h2 with h2; cases h2
  | next h1 _ ih => cases h' with
    | done h2 => rw [h1] at h2; injection h2 with h2; cases h2
    | next h2 h3 => rw [h1] at h2; injection h2 with h2; injection h2 with h2; subst h2; exact ih h3

open Classical in
/-- The result of going round by a step function; none where it never comes to an end. -/
noncomputable def loopF {σ ρ : Type} (step : σ → Option (σ ⊕ ρ)) (s : σ) : Option ρ :=
  if h : ∃ r n, Iter step n s r then some h.choose else none

theorem loopF_some {σ ρ : Type} {step : σ → Option (σ ⊕ ρ)} {s : σ} {r : ρ} : loopF step s = some r ↔ ∃ n, Iter step n s r := by
  unfold loopF
  constructor
  · intro h
    split at h
    · rename_i hx
      injection h with h
      obtain ⟨n, hn⟩ := hx.choose_spec
      exact ⟨n, h ▸ hn⟩
    · cases h
  · rintro ⟨n, hn⟩
    have hx : ∃ r n, Iter step n s r := ⟨r, n, hn⟩
    rw [dif_pos hx]
    obtain ⟨m, hm⟩ := hx.choose_spec
    rw [Iter.det hm hn]

theorem loopF_eq {σ ρ : Type} (step : σ → Option (σ ⊕ ρ)) (s : σ) :
    loopF step s = (step s).bind fun | .inl s' => loopF step s' | .inr r => some r := by
  apply Option.ext
  intro r
  rw [loopF_some]
  constructor
  · rintro ⟨n, hn⟩
    cases hn with
    | done h => rw [h]; rfl
    | next h h' => rw [h]; exact loopF_some.2 ⟨_, h'⟩
  · intro h
    rw [Option.bind_eq_some_iff] at h
    obtain ⟨x, hx, h⟩ := h
    cases x with
    | inl s' => obtain ⟨n, hn⟩ := loopF_some.1 h; exact ⟨n + 1, .next hx hn⟩
    | inr r' => cases h; exact ⟨0, .done hx⟩

theorem loopF_next {σ ρ : Type} {step : σ → Option (σ ⊕ ρ)} {s s' : σ} (h : step s = some (.inl s')) : loopF step s = loopF step s' := by
  rw [loopF_eq, h]; rfl
theorem loopF_done {σ ρ : Type} {step : σ → Option (σ ⊕ ρ)} {s : σ} {r : ρ} (h : step s = some (.inr r)) : loopF step s = some r := by
  rw [loopF_eq, h]; rfl

theorem wp_loop_ghost {P : Program} {c : Code} {Q : Exit → Act → World → Prop} {a : Act} {w : World} {σ : Type} (μ : σ → Nat) (I : σ → Act → World → Prop)
    (s : σ) (h₀ : I s a w)
    (round : ∀ s a w, I s a w → c.wp P (Exit.then (fun a' w' => ∃ s', μ s' < μ s ∧ I s' a' w') Q) a w) : (Code.loop c).wp P Q a w := by
  intro b k cs
  have key : ∀ n s a w, μ s = n → I s a w →
      ∃ e a' w', Q e a' w' ∧ Arrives P (lone (b.at a (.code c :: .inLoop c :: k)) cs w) b k cs e a' w' := by
    intro n
    induction n using Nat.strongRecOn with
    | _ n ih =>
      intro s a w hn hI
      obtain ⟨e, a₁, w₁, hq, harr⟩ := round s a w hI b (.inLoop c :: k) cs
      cases e with
      | normal =>
        obtain ⟨s₁, hlt, hI₁⟩ := hq
        obtain ⟨e₂, a₂, w₂, hq₂, harr₂⟩ := ih (μ s₁) (hn ▸ hlt) s₁ a₁ w₁ rfl hI₁
        exact ⟨e₂, a₂, w₂, hq₂, .of_steps (Steps.trans harr (.one step_inLoop)) harr₂⟩
      | exit id => exact ⟨_, a₁, w₁, hq, .pass (x := .inLoop c) rfl (fun _ _ => .inl (by simp)) harr⟩
      | goto l => exact ⟨_, a₁, w₁, hq, .pass (x := .inLoop c) rfl (fun _ _ => .inl (by simp)) harr⟩
      | ret => exact ⟨_, a₁, w₁, hq, .pass (x := .inLoop c) rfl (fun _ _ => .inl (by simp)) harr⟩
      | panic ch => exact ⟨_, a₁, w₁, hq, .pass (x := .inLoop c) rfl (fun _ _ => .inl (by simp)) harr⟩
      | outgrown => exact ⟨_, a₁, w₁, hq, .pass (x := .inLoop c) rfl (fun _ _ => .inl (by simp)) harr⟩
  obtain ⟨e, a', w', hq, harr⟩ := key _ s a w rfl h₀
  exact ⟨e, a', w', hq, .of_steps (.one step_loop) harr⟩

/-- A loop whose rounds follow a step function that comes to an end at r. -/
theorem wp_loop_step {P : Program} {c : Code} {Q : Exit → Act → World → Prop} {a : Act} {w : World} {σ ρ : Type} {step : σ → Option (σ ⊕ ρ)} {r : ρ}
    (J : σ → Act → World → Prop) (s : σ) (hs : loopF step s = some r) (h₀ : J s a w)
    (round : ∀ s a w, J s a w → ∀ x, step s = some x → (∀ r', x = .inr r' → r' = r) →
      c.wp P (Exit.then (fun a' w' => ∃ s', x = .inl s' ∧ J s' a' w') Q) a w) : (Code.loop c).wp P Q a w := by
  obtain ⟨n, hn⟩ := loopF_some.1 hs
  refine wp_loop_ghost (σ := Nat × σ) (·.1) (fun p a w => Iter step p.1 p.2 r ∧ J p.2 a w) (n, s) ⟨hn, h₀⟩ ?_
  rintro ⟨n, s⟩ a w ⟨hn, hJ⟩
  cases hn with
  | done h =>
    refine wp_mono (round s a w hJ _ h (fun r' e => by injection e with e; exact e.symm)) ?_
    intro e a w q
    cases e with
    | normal => obtain ⟨s', hs', _⟩ := q; cases hs'
    | _ => exact q
  | next h h' =>
    refine wp_mono (round s a w hJ _ h (fun r' e => by cases e)) ?_
    intro e a w q
    cases e with
    | normal => obtain ⟨s', hs', hJ'⟩ := q; cases hs'; exact ⟨(_, _), Nat.lt_succ_self _, h', hJ'⟩
    | _ => exact q

/-! ### Ghost heap, extension of worlds -/
abbrev Heap := Nat → Option Obj
def Sub (M : Heap) (w : World) : Prop := ∀ b o, M b = some o → w.heap[b]? = some o
def HLe (M M' : Heap) : Prop := ∀ b o, M b = some o → M' b = some o
theorem HLe.refl (M : Heap) : HLe M M := fun _ _ h => h
theorem HLe.trans {A B C : Heap} (h : HLe A B) (k : HLe B C) : HLe A C := fun b o x => k b o (h b o x)

/-- What a call leaves: nothing that was there has turned but for the blocks in X. -/
structure Ext (X : Nat → Prop) (M : Heap) (w : World) (M' : Heap) (w' : World) : Prop where
  os : w'.os = w.os
  tape : w'.tape = w.tape
  output : w'.output = w.output
  size : w.heap.size ≤ w'.heap.size
  block : ∀ k, k < w.heap.size → ¬ X k → w'.heap[k]? = w.heap[k]?
  old : ∀ k, k < w.heap.size → M' k = M k
  sub : Sub M' w'

theorem lt_of_get {w : World} {b : Nat} {o : Obj} (h : w.heap[b]? = some o) : b < w.heap.size := by
  rcases Nat.lt_or_ge b w.heap.size with h' | h'
  · exact h'
  · simp [Array.getElem?_eq_none h'] at h

theorem Ext.le {X : Nat → Prop} {M M' : Heap} {w w' : World} (h : Ext X M w M' w') (hs : Sub M w) : HLe M M' :=
  fun b o hb => by rw [h.old b (lt_of_get (hs b o hb))]; exact hb

def none' : Nat → Prop := fun _ => False

/-! ### Items that the running call owns -/
inductive Item where
  | blk (b : Nat) (o : Obj)
  /-- a slice value that owns its row: elements of type T, sz cells each, the cells that are in use -/
  | row (v : Value) (T : TypeId) (sz : Nat) (n : Nat) (cells : List Value)

def Item.sat (w : World) : Item → Option Nat → Prop
  | .blk b o, x => x = some b ∧ w.heap[b]? = some o
  | .row v T sz n cells, none => v = .slice none 0 0 ∧ cells = [] ∧ n = 0
  | .row v T sz n cells, some b => ∃ (cap : Nat) (spare : List Value) (fr : Nat × Nat), v = .slice (some ⟨b, 0, none⟩) n cap ∧ cells.length = n * sz ∧ n ≤ cap ∧
      (cells.length + spare.length = cap * sz) ∧ (∀ i, i < cap * sz → ¬ (fr.1 ≤ i ∧ i < fr.2)) ∧ w.heap[b]? = some (.cells (cells ++ spare).toArray T fr)

theorem Item.sat_lt {w : World} {i : Item} {b : Nat} (h : i.sat w (some b)) : b < w.heap.size := by
  cases i with
  | blk b' o => obtain ⟨e, h⟩ := h; cases e; exact lt_of_get h
  | row v T sz n cells => obtain ⟨_, _, _, _, _, _, _, _, h⟩ := h; exact lt_of_get h

theorem Item.sat_of_same {w w' : World} {i : Item} {x : Option Nat} (h : i.sat w x) (he : ∀ b, x = some b → w'.heap[b]? = w.heap[b]?) : i.sat w' x := by
  cases i with
  | blk b' o => obtain ⟨e, h⟩ := h; exact ⟨e, by rw [he b' e]; exact h⟩
  | row v T sz n cells =>
    cases x with
    | none => exact h
    | some b =>
      obtain ⟨cap, spare, fr, h1, h2, h3, h4, h5, h⟩ := h
      exact ⟨cap, spare, fr, h1, h2, h3, h4, h5, by rw [he b rfl]; exact h⟩

/-- The state of a call: w0 the world at its begin, M0 the ghost heap then, X the caller's blocks that it may write. -/
structure St (X : Nat → Prop) (M0 : Heap) (w0 : World) (M : Heap) (it : Nat → Option Item) (w : World) : Prop where
  ext : Ext X M0 w0 M w
  own : ∃ bo : Nat → Option Nat, (∀ i j b, bo i = some b → bo j = some b → i = j) ∧
    (∀ i b, bo i = some b → (w0.heap.size ≤ b ∨ X b) ∧ M b = none) ∧
    (∀ i x, it i = some x → x.sat w (bo i))

def lt (L : List Item) : Nat → Option Item := fun i => L[i]?

section st
variable {X : Nat → Prop} {M0 M : Heap} {w0 w : World} {it : Nat → Option Item}

theorem St.le (h : St X M0 w0 M it w) (hs : Sub M0 w0) : HLe M0 M := h.ext.le hs
theorem St.sub (h : St X M0 w0 M it w) : Sub M w := h.ext.sub

theorem St.start (hs : Sub M w) : St X M w M (lt []) w :=
  ⟨⟨rfl, rfl, rfl, Nat.le_refl _, fun _ _ _ => rfl, fun _ _ => rfl, hs⟩, fun _ => none, by simp, by simp, by simp [lt]⟩

/-- Forget items. -/
theorem St.forget (h : St X M0 w0 M it w) {it' : Nat → Option Item} (f : Nat → Nat) (hf : ∀ i j, (it' i).isSome → (it' j).isSome → f i = f j → i = j)
    (hi : ∀ i x, it' i = some x → it (f i) = some x) : St X M0 w0 M it' w := by
  obtain ⟨e, bo, h1, h2, h3⟩ := h
  refine ⟨e, fun i => if (it' i).isSome then bo (f i) else none, ?_, ?_, ?_⟩
  · intro i j b hb hb'
    simp only at hb hb'
    split at hb
    · split at hb'
      · exact hf i j (by assumption) (by assumption) (h1 _ _ _ hb hb')
      · cases hb'
    · cases hb
  · intro i b hb
    simp only at hb
    split at hb
    · exact h2 _ _ hb
    · cases hb
  · intro i x hx
    simp only [hx, Option.isSome_some, if_true]
    exact h3 _ _ (hi i x hx)

/-- Behind a step that leaves every block that is there but for those in X. -/
theorem St.step (h : St X M0 w0 M it w) {M' : Heap} {w' : World} (he : Ext none' M w M' w') : St X M0 w0 M' it w' := by
  obtain ⟨e, bo, h1, h2, h3⟩ := h
  have hlt : ∀ i b, bo i = some b → (it i).isSome → b < w.heap.size := by
    intro i b hb hi
    obtain ⟨x, hx⟩ := Option.isSome_iff_exists.1 hi
    have := h3 i x hx
    rw [hb] at this
    exact Item.sat_lt this
  refine ⟨⟨he.os.trans e.os, he.tape.trans e.tape, he.output.trans e.output, Nat.le_trans e.size he.size, ?_, ?_, he.sub⟩, fun i => if (it i).isSome then bo i else none, ?_, ?_, ?_⟩
  · intro k hk hX
    rw [he.block k (Nat.lt_of_lt_of_le hk e.size) id, e.block k hk hX]
  · intro k hk
    rw [he.old k (Nat.lt_of_lt_of_le hk e.size), e.old k hk]
  · intro i j b hb hb'
    simp only at hb hb'
    split at hb
    · split at hb'
      · exact h1 _ _ _ hb hb'
      · cases hb'
    · cases hb
  · intro i b hb
    simp only at hb
    split at hb
    · rename_i hi
      refine ⟨(h2 _ _ hb).1, ?_⟩
      rw [he.old b (hlt i b hb hi)]; exact (h2 _ _ hb).2
    · cases hb
  · intro i x hx
    simp only [hx, Option.isSome_some, if_true]
    refine Item.sat_of_same (h3 i x hx) fun b hb => ?_
    exact he.block b (hlt i b hb (by simp [hx])) id

theorem St.drew (h : St X M0 w0 M it w) : St X M0 w0 M it { w with drawn := w.drawn + 1 } := by
  obtain ⟨⟨a, b, c, d, e, f, g⟩, bo, h1, h2, h3⟩ := h
  exact ⟨⟨a, b, c, d, e, f, g⟩, bo, h1, h2, fun i x hx => Item.sat_of_same (h3 i x hx) fun _ _ => rfl⟩

/-- A new item in a new block. -/
theorem St.new (h : St X M0 w0 M it w) {o : Obj} {i : Nat} {x : Item} (hi : it i = none) (hx : x.sat (w.alloc o) (some w.heap.size)) :
    St X M0 w0 M (fun j => if j = i then some x else it j) (w.alloc o) := by
  have hlt' : ∀ b, b < w.heap.size → (w.alloc o).heap[b]? = w.heap[b]? := fun b hb => RowKit.Below.heap_alloc w o b hb
  have he : Ext none' M w M (w.alloc o) := ⟨rfl, rfl, rfl, by simp, fun k hk _ => hlt' k hk, fun _ _ => rfl,
    fun b o' hb => by rw [hlt' b (lt_of_get (h.sub b o' hb))]; exact h.sub b o' hb⟩
  obtain ⟨e, bo, h1, h2, h3⟩ := h.step he
  obtain ⟨e0, bo0, h10, h20, h30⟩ := h
  have hM : M w.heap.size = none := by
    cases hm : M w.heap.size with
    | none => rfl
    | some o' => have := lt_of_get (e0.sub _ _ hm); omega
  have hlt : ∀ j b, bo0 j = some b → (it j).isSome → b < w.heap.size := by
    intro j b hb hj
    obtain ⟨y, hy⟩ := Option.isSome_iff_exists.1 hj
    have := h30 j y hy
    rw [hb] at this
    exact Item.sat_lt this
  refine ⟨e, fun j => if j = i then some w.heap.size else if (it j).isSome then bo0 j else none, ?_, ?_, ?_⟩
  · intro j k b hb hb'
    simp only at hb hb'
    split at hb <;> split at hb'
    · rename_i p q; rw [p, q]
    · rename_i p q
      split at hb'
      · injection hb with hb; have := hlt _ _ hb' (by assumption); omega
      · cases hb'
    · rename_i p q
      split at hb
      · injection hb' with hb'; have := hlt _ _ hb (by assumption); omega
      · cases hb
    · split at hb <;> split at hb' <;> first | exact h10 _ _ _ hb hb' | contradiction
  · intro j b hb
    simp only at hb
    split at hb
    · injection hb with hb; subst hb; exact ⟨.inl e0.size, hM⟩
    · split at hb
      · exact h20 _ _ hb
      · cases hb
  · intro j y hy
    simp only at hy ⊢
    split at hy
    · rename_i p; rw [if_pos p]; injection hy with hy; subst hy; exact hx
    · rename_i p
      rw [if_neg p, if_pos (by simp [hy])]
      exact Item.sat_of_same (h30 j y hy) fun b hb => hlt' b (hlt j b hb (by simp [hy]))

/-- An item's block is written. -/
theorem St.write (h : St X M0 w0 M it w) {i : Nat} {x x' : Item} {w' : World} (hi : it i = some x)
    (hos : w'.os = w.os) (htape : w'.tape = w.tape) (hout : w'.output = w.output) (hsz : w'.heap.size = w.heap.size)
    (hw : ∀ b, x.sat w (some b) → (∀ k, k ≠ b → w'.heap[k]? = w.heap[k]?) ∧ x'.sat w' (some b)) (hn : ∀ v T sz n cs, x = .row v T sz n cs → x.sat w none → False) :
    St X M0 w0 M (fun j => if j = i then some x' else it j) w' := by
  obtain ⟨e, bo, h1, h2, h3⟩ := h
  have hx := h3 i x hi
  have hb : ∃ b, bo i = some b := by
    cases hbo : bo i with
    | some b => exact ⟨b, rfl⟩
    | none =>
      rw [hbo] at hx
      cases x with
      | blk b o => obtain ⟨h, _⟩ := hx; cases h
      | row v T sz n cs => exact (hn v T sz n cs rfl hx).elim
  obtain ⟨b, hb⟩ := hb
  rw [hb] at hx
  obtain ⟨hk, hx'⟩ := hw b hx
  have hbo := h2 i b hb
  refine ⟨⟨hos.trans e.os, htape.trans e.tape, hout.trans e.output, by rw [hsz]; exact e.size, ?_, e.old, ?_⟩, bo, h1, h2, ?_⟩
  · intro k hkl hX
    rw [hk k, e.block k hkl hX]
    rintro rfl
    rcases hbo.1 with h | h
    · omega
    · exact hX h
  · intro k o hko
    rw [hk k, e.sub k o hko]
    rintro rfl
    rw [hbo.2] at hko; cases hko
  · intro j y hy
    try simp only at hy
    split at hy
    · rename_i p; subst p; injection hy with hy; subst hy; rw [hb]; exact hx'
    · rename_i p
      refine Item.sat_of_same (h3 j y hy) fun c hc => hk c ?_
      rintro rfl
      exact p (h1 _ _ _ hc hb)

/-- An item is handed over to the ghost heap. -/
def Heap.upd (M : Heap) (b : Nat) (o : Obj) : Heap := fun k => if k = b then some o else M k

theorem St.give (h : St X M0 w0 M it w) {i : Nat} {b : Nat} {o : Obj} (hi : it i = some (.blk b o)) (hX : ¬ X b) :
    St X M0 w0 (Heap.upd M b o) (fun j => if j = i then none else it j) w ∧ HLe M (Heap.upd M b o) := by
  obtain ⟨e, bo, h1, h2, h3⟩ := h
  obtain ⟨hb, hh⟩ := h3 i _ hi
  have hbo := h2 i b hb
  have hge : w0.heap.size ≤ b := hbo.1.resolve_right hX
  refine ⟨⟨⟨e.os, e.tape, e.output, e.size, e.block, ?_, ?_⟩, fun j => if j = i then none else bo j, ?_, ?_, ?_⟩, ?_⟩
  · intro k hk
    show (if k = b then some o else M k) = _; rw [if_neg (by omega)]; exact e.old k hk
  · intro k o' hk
    unfold Heap.upd at hk
    split at hk
    · rename_i p; subst p; injection hk with hk; subst hk; exact hh
    · exact e.sub k o' hk
  · intro j k c hj hk
    try simp only at hj hk
    split at hj <;> split at hk <;> first | exact h1 _ _ _ hj hk | contradiction
  · intro j c hj
    try simp only at hj
    split at hj
    · cases hj
    · rename_i p
      refine ⟨(h2 j c hj).1, ?_⟩
      show (if c = b then some o else M c) = _
      rw [if_neg, (h2 j c hj).2]
      rintro rfl
      exact p (h1 _ _ _ hj hb)
  · intro j y hy
    try simp only at hy ⊢
    split at hy
    · cases hy
    · rename_i p; rw [if_neg p]; exact h3 j y hy
  · intro k o' hk
    show (if k = b then some o else M k) = _
    split
    · rename_i p; subst p; rw [hbo.2] at hk; cases hk
    · exact hk

end st
end Go.Cu
