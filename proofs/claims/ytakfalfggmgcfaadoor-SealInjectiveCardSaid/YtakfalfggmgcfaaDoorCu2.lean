/- Rules for walks over facts, for any program; no condition. -/
import Derived.Test.YtakfalfggmgcfaaDoorCu1
set_option linter.unusedSimpArgs false
set_option linter.unusedVariables false
/-! Frames by facts, the walk's goals, the structural rules. -/
namespace Go.Cu

def lk (t : Nat) : List (Nat × Value) → Option Value
  | [] => none
  | (k, v) :: r => match Nat.beq t k with | true => some v | false => lk t r

/-- The slots of which something is known. -/
structure Fr (n : Nat) (l : List (Nat × Value)) (a : Act) : Prop where
  df : a.defers = []
  sz : a.tmps.size = n
  get : ∀ t v, lk t l = some v → a.tmps.getD t undef = v

def ev (l : List (Nat × Value)) : Operand → Option Value
  | .tmp t => lk t l
  | .const v => some v
  | .global g => some (.pointer (some ⟨g, 0, none⟩))
  | .func f => some (.func (.func f) #[] #[])

theorem Fr.ev {n : Nat} {l : List (Nat × Value)} {a : Act} (h : Fr n l a) {x : Operand} {v : Value} (hx : ev l x = some v) : a.eval x = v := by
  cases x with
  | tmp t => exact h.get t v hx
  | const u => injection hx
  | global g => injection hx
  | func f => injection hx

theorem lk_cons (t k : Nat) (v : Value) (r : List (Nat × Value)) : lk t ((k, v) :: r) = if t = k then some v else lk t r := by
  by_cases h : t = k
  · subst h; simp [lk, Nat.beq_refl]
  · have : Nat.beq t k = false := by
      cases hh : Nat.beq t k with
      | false => rfl
      | true => exact absurd (Nat.eq_of_beq_eq_true hh) h
    simp [lk, this, h]

theorem Fr.put {n : Nat} {l : List (Nat × Value)} {a : Act} (h : Fr n l a) {d : Nat} (hd : Nat.blt d n = true) (v : Value) : Fr n ((d, v) :: l) (a.put (some d) v) := by
  have hd : d < n := by simpa [Nat.blt_eq] using hd
  refine ⟨h.df, by simp [Act.put, h.sz], ?_⟩
  intro t u hu
  rw [lk_cons] at hu
  simp only [Act.put]
  by_cases e : t = d
  · subst e
    rw [if_pos rfl] at hu; injection hu with hu; subst hu
    simp [Array.getD_eq_getD_getElem?, h.sz, hd]
  · rw [if_neg e] at hu
    have := h.get t u hu
    simp only [Array.getD_eq_getD_getElem?] at this ⊢
    rw [Array.getElem?_setIfInBounds_ne (by omega)]
    exact this

theorem Fr.putN {n : Nat} {l : List (Nat × Value)} {a : Act} (h : Fr n l a) (v : Value) : Fr n l (a.put none v) := h

theorem Fr.nil {n : Nat} {l : List (Nat × Value)} {a : Act} (h : Fr n l a) : Fr n [] a := ⟨h.df, h.sz, by simp [lk]⟩
theorem Fr.add {n : Nat} {l : List (Nat × Value)} {a : Act} (h : Fr n l a) {t : Nat} {v : Value} (hv : a.tmps.getD t undef = v) : Fr n ((t, v) :: l) a := by
  refine ⟨h.df, h.sz, ?_⟩
  intro t' u hu
  rw [lk_cons] at hu
  split at hu
  · rename_i e; subst e; injection hu with hu; exact hv.trans hu
  · exact h.get _ _ hu

/-- Is the operation wanted: no guard, or one that is met. -/
def Wnt (ops : Array Oper) (l : List (Nat × Value)) : Option (Nat × Bool) → Prop
  | none => True
  | some (j, b) => ∃ t x, (ops[j]?).bind (·.dst) = some t ∧ lk t l = some (.bool x) ∧ x = b
theorem Wnt.of {ops : Array Oper} {l : List (Nat × Value)} {j t : Nat} {b x : Bool} (h1 : (ops[j]?).bind (·.dst) = some t) (h2 : lk t l = some (.bool x)) (h3 : x = b) : Wnt ops l (some (j, b)) := ⟨t, x, h1, h2, h3⟩
/-- Is it passed over. -/
def Nwt (ops : Array Oper) (l : List (Nat × Value)) : Option (Nat × Bool) → Prop
  | none => False
  | some (j, b) => ∃ t, (ops[j]?).bind (·.dst) = some t ∧ ((∃ x, lk t l = some (.bool x) ∧ x = !b) ∨ lk t l = some undef)
theorem Nwt.of {ops : Array Oper} {l : List (Nat × Value)} {j t : Nat} {b x : Bool} (h1 : (ops[j]?).bind (·.dst) = some t) (h2 : lk t l = some (.bool x)) (h3 : x = !b) : Nwt ops l (some (j, b)) := ⟨t, h1, .inl ⟨x, h2, h3⟩⟩
theorem Fr.yield {n : Nat} {l : List (Nat × Value)} {a : Act} (h : Fr n l a) {ops : Array Oper} {j t : Nat} {v : Value}
    (ht : (ops[j]?).bind (·.dst) = some t) (hv : lk t l = some v) : yielded ops a.tmps j = match v with | .bool b => some b | _ => none := by
  have hg := h.get t v hv
  unfold yielded
  rw [ht]
  simp only [Option.bind_some]
  rw [Array.getD_eq_getD_getElem?] at hg
  cases hx : a.tmps[t]? with
  | none =>
    rw [hx] at hg
    have : v = undef := hg.symm
    subst this; rfl
  | some u => rw [hx] at hg; have : u = v := hg; subst this; cases u <;> rfl

theorem Wnt.wanted {n : Nat} {l : List (Nat × Value)} {a : Act} {ops : Array Oper} {o : Oper} (h : Wnt ops l o.guard) (hf : Fr n l a) : Region.wanted o (yielded ops a.tmps) = true := by
  unfold Region.wanted
  cases hg : o.guard with
  | none => rfl
  | some p =>
    obtain ⟨j, b⟩ := p
    rw [hg] at h
    obtain ⟨t, x, ht, hv, rfl⟩ := h
    simp [hf.yield ht hv]

theorem Nwt.wanted {n : Nat} {l : List (Nat × Value)} {a : Act} {ops : Array Oper} {o : Oper} (h : Nwt ops l o.guard) (hf : Fr n l a) : Region.wanted o (yielded ops a.tmps) = false := by
  unfold Region.wanted
  cases hg : o.guard with
  | none => rw [hg] at h; exact h.elim
  | some p =>
    obtain ⟨j, b⟩ := p
    rw [hg] at h
    obtain ⟨t, ht, hv⟩ := h
    rcases hv with ⟨x, hv, rfl⟩ | hv
    · simp only [hf.yield ht hv]; cases b <;> rfl
    · simp only [hf.yield ht hv]; rfl

/-- One operation: it comes to a value, or its callee returns. -/
def OpOK (P : Program) (o : Oper) (a : Act) (w : World) (Φ : Value → World → Prop) : Prop :=
  ∀ (next : Act → World → Prop) (Q : Exit → Act → World → Prop), (∀ v w', Φ v w' → next (a.put o.dst v) w') → o.wp P a w next Q

theorem OpOK.val {P : Program} {o : Oper} {a : Act} {w w' : World} {v : Value} {Φ : Value → World → Prop}
    (h : (execOp a.eval o).run P w = .ok (.value v) w') (hΦ : Φ v w') : OpOK P o a w Φ := by
  intro next Q hn
  unfold Oper.wp; rw [h]; exact hn v w' hΦ
theorem OpOK.skip {P : Program} {o : Oper} {a : Act} {w w' : World} {Φ : Value → World → Prop}
    (h : (execOp a.eval o).run P w = .ok .skip w') (hΦ : Φ undef w') : OpOK P o a w Φ := by
  intro next Q hn
  unfold Oper.wp; rw [h]; exact hn undef w' hΦ
theorem OpOK.enter {P : Program} {o : Oper} {a : Act} {w w' : World} {f : FuncId} {args : Array Value} {Φ : Value → World → Prop}
    (h : (execOp a.eval o).run P w = .ok (.enter f args) w') (hc : Calls P f args w' fun e w'' => ∃ v, e = .returned v ∧ Φ v w'') : OpOK P o a w Φ := by
  intro next Q hn
  unfold Oper.wp; rw [h]
  refine Calls.mono hc ?_
  rintro e w'' ⟨v, rfl, hv⟩
  exact hn v w'' hv

/-- What does not change in a walk: the program, the frame's size, the state at the call's begin. -/
structure Cx where
  P : Program
  n : Nat
  X : Nat → Prop
  M0 : Heap
  w0 : World

namespace Cx
variable (c : Cx)
def N (K : Act → World → Prop) (l : List (Nat × Value)) (M : Heap) (L : List Item) : Prop :=
  ∀ a w, Fr c.n l a → St c.X c.M0 c.w0 M (lt L) w → K a w
def C (x : Code) (Q : Exit → Act → World → Prop) (l : List (Nat × Value)) (M : Heap) (L : List Item) : Prop :=
  ∀ a w, Fr c.n l a → St c.X c.M0 c.w0 M (lt L) w → x.wp c.P Q a w
def W (ops : Array Oper) (rest : List Oper) (Q : Exit → Act → World → Prop) (l : List (Nat × Value)) (M : Heap) (L : List Item) : Prop :=
  ∀ a w, Fr c.n l a → St c.X c.M0 c.w0 M (lt L) w → wpList c.P ops Q rest a w
end Cx

section rules
variable {c : Cx} {Q : Exit → Act → World → Prop} {l : List (Nat × Value)} {M : Heap} {L : List Item} {x y : Code}

theorem c_seq (h : ∀ K, (∀ l M L, c.C y Q l M L → c.N K l M L) → c.C x (Exit.then K Q) l M L) : c.C (.seq x y) Q l M L :=
  fun a w hf hs => wp_seq_k fun K hK => h K (fun _ _ _ hc a w hf hs => hK a w (hc a w hf hs)) a w hf hs
theorem c_cut (J : Act → World → Prop) (h1 : c.C x (Exit.then J Q) l M L) (h2 : ∀ a w, J a w → y.wp c.P Q a w) : c.C (.seq x y) Q l M L :=
  fun a w hf hs => wp_seq (wp_mono (h1 a w hf hs) fun e a w q => by cases e <;> first | exact h2 a w q | exact q)
theorem c_reg {id : Nat} {ops : List Oper} (h : c.W ops.toArray ops Q l M L) : c.C (.region id ops.toArray false) Q l M L :=
  fun a w hf hs => wp_region_lit (h a w hf hs)
theorem w_nil {ops : Array Oper} (h : c.N (Q .normal) l M L) : c.W ops [] Q l M L := fun a w hf hs => wpList_nil (h a w hf hs)
theorem c_skip (h : c.N (Q .normal) l M L) : c.C .skip Q l M L := fun a w hf hs => wp_skip (h a w hf hs)
theorem c_ret (h : c.N (Q .ret) l M L) : c.C .ret Q l M L := fun a w hf hs => wp_ret (h a w hf hs)
theorem c_exit {id : Nat} (h : c.N (Q (.exit id)) l M L) : c.C (.exit id) Q l M L := fun a w hf hs => wp_exit (h a w hf hs)
theorem c_block {id : Nat} (h : c.C x (Exit.inBlock id Q) l M L) : c.C (.block id x) Q l M L := fun a w hf hs => wp_block (h a w hf hs)
theorem c_if {o : Operand} {b : Bool} (hc : ev l o = some (.bool b)) (ht : b = true → c.C x Q l M L) (he : b = false → c.C y Q l M L) : c.C (.cond o x y) Q l M L :=
  fun a w hf hs => wp_cond_split (hf.ev hc) (fun h => ht h a w hf hs) (fun h => he h a w hf hs)
theorem c_of {a : Act} {w : World} (h : c.C x Q l M L) (hf : Fr c.n l a) (hs : St c.X c.M0 c.w0 M (lt L) w) : x.wp c.P Q a w := h a w hf hs
theorem c_loop {σ ρ : Type} {step : σ → Option (σ ⊕ ρ)} {r : ρ} (J : σ → Act → World → Prop) (s : σ) (hs : loopF step s = some r) (h0 : c.N (J s) l M L)
    (round : ∀ s x, step s = some x → (∀ r', x = .inr r' → r' = r) → ∀ a w, J s a w → y.wp c.P (Exit.then (fun a' w' => ∃ s', x = .inl s' ∧ J s' a' w') Q) a w) :
    c.C (.loop y) Q l M L :=
  fun a w hf hst => wp_loop_step J s hs (h0 a w hf hst) fun s a w hJ x hx hr => round s x hx hr a w hJ

/-- An operation that comes to one value and leaves the world alone. -/
theorem w_val {ops : Array Oper} {rest : List Oper} {d : Nat} {op : Op} {ty : TypeId} {pos : String} {af : Array Edge} {gd : Option (Nat × Bool)} {v : Value}
    (hg : Wnt ops l gd) (hd : Nat.blt d c.n = true)
    (hr : ∀ a w, Fr c.n l a → St c.X c.M0 c.w0 M (lt L) w → (execOp a.eval ⟨some d, op, ty, pos, af, gd⟩).run c.P w = .ok (.value v) w)
    (h : c.W ops rest Q ((d, v) :: l) M L) : c.W ops (⟨some d, op, ty, pos, af, gd⟩ :: rest) Q l M L := by
  intro a w hf hs
  refine wpList_step fun K hK => ?_
  rw [if_pos (Wnt.wanted (o := ⟨some d, op, ty, pos, af, gd⟩) hg hf)]
  exact OpOK.val (hr a w hf hs) (Φ := fun v' w' => v' = v ∧ w' = w) ⟨rfl, rfl⟩ K Q (by rintro v' w' ⟨rfl, rfl⟩; exact hK _ _ (h _ _ (hf.put hd _) hs))
/-- An operation behind which the world and the items have moved on. -/
theorem w_op {ops : Array Oper} {rest : List Oper} {d : Nat} {op : Op} {ty : TypeId} {pos : String} {af : Array Edge} {gd : Option (Nat × Bool)} {Φ : Value → World → Prop}
    (hg : Wnt ops l gd) (hd : Nat.blt d c.n = true)
    (hr : ∀ a w, Fr c.n l a → St c.X c.M0 c.w0 M (lt L) w → OpOK c.P ⟨some d, op, ty, pos, af, gd⟩ a w Φ)
    (h : ∀ v w', Φ v w' → ∀ a', Fr c.n ((d, v) :: l) a' → wpList c.P ops Q rest a' w') : c.W ops (⟨some d, op, ty, pos, af, gd⟩ :: rest) Q l M L := by
  intro a w hf hs
  refine wpList_step fun K hK => ?_
  rw [if_pos (Wnt.wanted (o := ⟨some d, op, ty, pos, af, gd⟩) hg hf)]
  exact hr a w hf hs K Q fun v w' hv => hK _ _ (h v w' hv _ (hf.put hd _))
theorem w_op0 {ops : Array Oper} {rest : List Oper} {op : Op} {ty : TypeId} {pos : String} {af : Array Edge} {gd : Option (Nat × Bool)} {Φ : Value → World → Prop}
    (hg : Wnt ops l gd)
    (hr : ∀ a w, Fr c.n l a → St c.X c.M0 c.w0 M (lt L) w → OpOK c.P ⟨none, op, ty, pos, af, gd⟩ a w Φ)
    (h : ∀ v w', Φ v w' → ∀ a', Fr c.n l a' → wpList c.P ops Q rest a' w') : c.W ops (⟨none, op, ty, pos, af, gd⟩ :: rest) Q l M L := by
  intro a w hf hs
  refine wpList_step fun K hK => ?_
  rw [if_pos (Wnt.wanted (o := ⟨none, op, ty, pos, af, gd⟩) hg hf)]
  exact hr a w hf hs K Q fun v w' hv => hK _ _ (h v w' hv _ (hf.putN _))
/-- An operation whose guard says no. -/
theorem w_not {ops : Array Oper} {rest : List Oper} {d : Nat} {op : Op} {ty : TypeId} {pos : String} {af : Array Edge} {gd : Option (Nat × Bool)}
    (hg : Nwt ops l gd) (hd : Nat.blt d c.n = true) (h : c.W ops rest Q ((d, undef) :: l) M L) : c.W ops (⟨some d, op, ty, pos, af, gd⟩ :: rest) Q l M L := by
  intro a w hf hs
  exact wpList_skip (Nwt.wanted (o := ⟨some d, op, ty, pos, af, gd⟩) hg hf) (h _ _ (hf.put hd _) hs)
end rules

/-! ### Calls -/
/-- It returns a value of which Φ holds over a greater ghost heap; nothing that was there has turned. -/
def Post (M : Heap) (w : World) (Φ : Heap → Value → Prop) (e : Ending) (w' : World) : Prop :=
  ∃ v M', e = .returned v ∧ Ext none' M w M' w' ∧ Φ M' v

theorem Post.mono {M : Heap} {w : World} {Φ Ψ : Heap → Value → Prop} (h : ∀ M' v, HLe M M' → Φ M' v → Ψ M' v) (hs : Sub M w) {e : Ending} {w' : World} (hp : Post M w Φ e w') : Post M w Ψ e w' := by
  obtain ⟨v, M', he, hx, hv⟩ := hp
  exact ⟨v, M', he, hx, h _ _ (hx.le hs) hv⟩

def frame0 : Nat → List Value → List (Nat × Value)
  | _, [] => []
  | k, v :: r => (k, v) :: frame0 (k + 1) r

theorem lk_frame0 (vs : List Value) : ∀ (k t : Nat) (v : Value), lk t (frame0 k vs) = some v → k ≤ t ∧ vs[t - k]? = some v := by
  induction vs with
  | nil => intro k t v h; simp [frame0, lk] at h
  | cons u r ih =>
    intro k t v h
    simp only [frame0] at h
    rw [lk_cons] at h
    split at h
    · rename_i e; subst e; simp at h; simp [h]
    · obtain ⟨h1, h2⟩ := ih _ _ _ h
      refine ⟨by omega, ?_⟩
      rw [show t - k = (t - (k + 1)) + 1 from by omega]; simpa using h2

def Res (P : Program) (fn : Func) (a : Act) (w : World) (v : Value) : Prop := (results fn a.tmps).run P w = .ok v w

/-- A call, entered. -/
theorem enter {P : Program} {f : FuncId} {fn : Func} {body : Code} {args : List Value} {M : Heap} {w : World} {Φ : Heap → Value → Prop} (n : Nat) (l : List (Nat × Value))
    (hf : P.funcs[f]? = some fn) (hb : fn.body = some body) (hn : args.length + (fn.ntmps - args.length) = n) (hl : frame0 0 args = l) (hs : Sub M w)
    (h : ∀ Q : Exit → Act → World → Prop,
      (∀ e, e = .ret ∨ e = .normal → ∀ a w', a.defers = [] → (∃ v M', Res P fn a w' v ∧ Ext none' M w M' w' ∧ Φ M' v) → Q e a w') →
      (Cx.mk P n none' M w).C body Q l M []) : Calls P f args.toArray w (Post M w Φ) := by
  subst hn hl
  refine calls_of_wp hf hb ?_
  refine h _ ?_ _ _ ?_ (St.start hs)
  · rintro e he a w' hd ⟨v, M', hr, hx, hv⟩
    rcases he with rfl | rfl
    · exact ⟨hd, v, hr, v, M', rfl, hx, hv⟩
    · exact ⟨hd, v, hr, v, M', rfl, hx, hv⟩
  · refine ⟨rfl, by simp, ?_⟩
    intro t v hv
    obtain ⟨_, h2⟩ := lk_frame0 _ _ _ _ hv
    simp only [Nat.sub_zero] at h2
    rw [Array.getD_eq_getD_getElem?, Array.getElem?_append_left]
    · simp [h2]
    · have := (List.getElem?_eq_some_iff.1 h2).1; simpa using this

end Go.Cu
