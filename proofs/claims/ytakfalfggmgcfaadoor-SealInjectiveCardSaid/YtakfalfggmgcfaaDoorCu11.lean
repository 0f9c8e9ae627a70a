/- Rules for walks over facts, for any program; no condition. -/
import Derived.Test.YtakfalfggmgcfaaDoorCu10
set_option linter.unusedSimpArgs false
set_option linter.unusedVariables false
/-! Regions whose order is open, by tables. -/
namespace Go.Cu

/-- What an operation yields, or is passed over. -/
def OP (c : Cx) (ops : Array Oper) (o : Oper) (a : Act) (w : World) (Ψ : Value → World → Prop) : Prop :=
  (Region.wanted o (yielded ops a.tmps) = true ∧ OpOK c.P o a w Ψ) ∨ (Region.wanted o (yielded ops a.tmps) = false ∧ Ψ undef w)

def back (o : Oper) (a : Act) : Value := match o.dst with | some d => a.tmps.getD d undef | none => undef
def QQ (o : Oper) (Ψ : Value → World → Prop) (e : Exit) (a : Act) (w : World) : Prop := e = .normal ∧ a.defers = [] ∧ Ψ (back o a) w

theorem QQ.noOut {o : Oper} {Ψ : Value → World → Prop} : ¬ LetsOut (QQ o Ψ) := by
  rintro ⟨a, w, h, _⟩; cases h
theorem back_put {o : Oper} {a : Act} {v : Value} (hd : ∀ d, o.dst = some d → d < a.tmps.size) : back o (a.put o.dst v) = match o.dst with | some _ => v | none => undef := by
  unfold back
  cases h : o.dst with
  | none => rfl
  | some d =>
    have := hd d h
    simp [Act.put, Array.getD_eq_getD_getElem?, this]
theorem OpOK.ofQ {P : Program} {o : Oper} {a : Act} {w : World} {Ψ : Value → World → Prop} (hd : ∀ d, o.dst = some d → d < a.tmps.size)
    (h : o.wp P a w (fun a' w' => QQ o Ψ .normal a' w') (QQ o Ψ)) : OpOK P o a w Ψ := by
  intro next Q hn
  have key : ∀ v w', QQ o Ψ .normal (a.put o.dst v) w' → next (a.put o.dst v) w' := by
    rintro v w' ⟨_, _, h⟩
    rw [back_put hd] at h
    cases hdst : o.dst with
    | none =>
      rw [hdst] at h
      have := hn undef w' h
      rw [hdst] at this; exact this
    | some d =>
      rw [hdst] at h
      have := hn v w' h
      rw [hdst] at this; exact this
  unfold Oper.wp at h ⊢
  generalize (execOp a.eval o).run P w = res at h ⊢
  cases res with
  | ok x w' =>
    cases x with
    | value v => exact key v w' h
    | skip => exact key undef w' h
    | «defer» d =>
      exfalso
      obtain ⟨_, h, _⟩ := h
      revert h
      cases o.dst <;> simp [Act.put]
    | enter f args =>
      refine Calls.mono h ?_
      intro e w'' he
      cases e with
      | returned v => exact key v w'' he
      | panicked ch => exact absurd he.1 (by simp)
      | outgrown => exact absurd he QQ.noOut
    | row row args => exact Rows.mono h fun v w'' hv => key v w'' hv
    | _ => exact h.elim
  | halt s w' =>
    cases s with
    | panic v => exact absurd h.1 (by simp)
    | _ => exact h.elim
theorem OP.ofW {c : Cx} {ops : Array Oper} {o : Oper} {a : Act} {w : World} {Ψ : Value → World → Prop} {l : List (Nat × Value)} {M : Heap} {L : List Item} (hf : Fr c.n l a) (hs : St c.X c.M0 c.w0 M (lt L) w)
    (hd : (match o.dst with | some d => Nat.blt d c.n | none => true) = true) (h : c.W ops [o] (QQ o Ψ) l M L) : OP c ops o a w Ψ := by
  have hd' : ∀ d, o.dst = some d → d < a.tmps.size := by
    intro d e; rw [e] at hd; rw [hf.sz]; simpa [Nat.blt_eq] using hd
  have h := h a w hf hs
  unfold wpList at h
  cases hw : Region.wanted o (yielded ops a.tmps) with
  | true =>
    rw [hw, if_pos rfl] at h
    refine .inl ⟨hw, OpOK.ofQ hd' ?_⟩
    rcases h with h | h
    · exact h
    · exact absurd h.2 QQ.noOut
  | false =>
    rw [hw, if_neg (by simp)] at h
    refine .inr ⟨hw, ?_⟩
    obtain ⟨_, _, h⟩ := h
    rw [back_put hd'] at h
    cases hdst : o.dst <;> rw [hdst] at h <;> exact h

theorem St.less {X : Nat → Prop} {M0 M : Heap} {w0 w : World} {it it2 : Nat → Option Item} (h : St X M0 w0 M it w) (hh : ∀ r x, it2 r = some x → it r = some x) : St X M0 w0 M it2 w :=
  ⟨h.ext, h.own.imp fun bo hb => ⟨hb.1, hb.2.1, fun i x hx => hb.2.2 i x (hh i x hx)⟩⟩

def tA (As : List (Value → Heap → Prop)) (i : Nat) (v : Value) (M : Heap) : Prop := match As[i]? with | some p => p v M | none => True
def MonoA : List (Value → Heap → Prop) → Prop
  | [] => True
  | p :: ps => (∀ v M M', HLe M M' → p v M → p v M') ∧ MonoA ps
theorem MonoA.get : ∀ {As : List (Value → Heap → Prop)}, MonoA As → ∀ {i : Nat} {v : Value} {M M' : Heap}, HLe M M' → tA As i v M → tA As i v M'
  | [], _, i, v, M, M', _, h => by simp [tA]
  | p :: ps, h, 0, v, M, M', hM, hp => by simp [tA] at hp ⊢; exact h.1 v M M' hM hp
  | p :: ps, h, i + 1, v, M, M', hM, hp => by
    have := MonoA.get h.2 (i := i) (v := v) hM (by simpa [tA] using hp)
    simpa [tA] using this

/-- For each operation: the results it may use (operation and slot), and the slots from before. -/
abbrev Tab := List (List (Nat × Nat) × List Nat)
def chk1 (ops : List Oper) (i : Nat) (e : List (Nat × Nat) × List Nat) : Bool :=
  (e.1.all fun (j, t) => de ops i j && (match (ops[j]?).bind (·.dst) with | some t' => Nat.beq t t' | none => false)) && (e.2.all fun t => clean ops i t)
def chk (n : Nat) (ops : List Oper) (T : Tab) : Bool :=
  backward ops && dstsOk ops && (ops.all fun o => match o.dst with | some d => Nat.blt d n | none => true) && (T.zipIdx.all fun (e, i) => chk1 ops i e)

structure DPre (c : Cx) (l : List (Nat × Value)) (As : List (Value → Heap → Prop)) (e : List (Nat × Nat) × List Nat) (a : Act) (M' : Heap) : Prop where
  df : a.defers = []
  sz : a.tmps.size = c.n
  base : ∀ t v, lk t l = some v → e.2.contains t = true → a.tmps.getD t undef = v
  val : ∀ j t p, e.1.contains (j, t) = true → As[j]? = some p → p (a.tmps.getD t undef) M'
theorem DPre.fr {c : Cx} {l : List (Nat × Value)} {As : List (Value → Heap → Prop)} {e : List (Nat × Nat) × List Nat} {a : Act} {M' : Heap} (h : DPre c l As e a M') : Fr c.n [] a := ⟨h.df, h.sz, by simp [lk]⟩

def AllT (f : Nat → (List (Nat × Nat) × List Nat) → Oper → Prop) : Nat → Tab → List Oper → Prop
  | _, _, [] => True
  | _, [], _ :: _ => False
  | i, e :: T, o :: ops => f i e o ∧ AllT f (i + 1) T ops
theorem AllT.get {f : Nat → (List (Nat × Nat) × List Nat) → Oper → Prop} : ∀ {k : Nat} {T : Tab} {ops : List Oper}, AllT f k T ops → ∀ {i : Nat} {o : Oper}, ops[i]? = some o → ∃ e, T[i]? = some e ∧ f (k + i) e o
  | _, _, [], _, i, o, h => by simp at h
  | _, [], _ :: _, h, _, _, _ => h.elim
  | k, e :: T, o :: ops, h, 0, o', ho => by simp at ho; subst ho; exact ⟨e, by simp, h.1⟩
  | k, e :: T, o :: ops, h, i + 1, o', ho => by
    obtain ⟨e', h1, h2⟩ := AllT.get h.2 (i := i) (by simpa using ho)
    exact ⟨e', by simpa using h1, by rw [show k + (i + 1) = k + 1 + i by omega]; exact h2⟩

section
variable {c : Cx} {ops : List Oper} {l : List (Nat × Value)} {M : Heap}
/-- A region that changes no item. -/
theorem c_drawP {id : Nat} {Q : Exit → Act → World → Prop} {L : List Item} (T : Tab) (As : List (Value → Heap → Prop)) (hm : c.P.follows .mixedOrders = true)
    (hck : chk c.n ops T = true) (mA : MonoA As)
    (hop : AllT (fun i e o => ∀ a w M', HLe M M' → DPre c l As e a M' → St c.X c.M0 c.w0 M' (lt L) w →
      OP c ops.toArray o a w fun v w' => ∃ M'', HLe M' M'' ∧ St c.X c.M0 c.w0 M'' (lt L) w' ∧ tA As i v M'') 0 T ops)
    (hend : ∀ a w M', HLe M M' → a.defers = [] → a.tmps.size = c.n → (∀ t v, lk t l = some v → (ops.all fun o => match o.dst with | some t' => !Nat.beq t t' | none => true) = true → a.tmps.getD t undef = v) →
      (∀ (i t : Nat) (p : Value → Heap → Prop), (ops[i]?).bind (fun o => o.dst) = some t → As[i]? = some p → p (a.tmps.getD t undef) M') → St c.X c.M0 c.w0 M' (lt L) w → Q .normal a w) : c.C (.region id ops.toArray true) Q l M L := by
  unfold chk at hck
  simp only [Bool.and_eq_true] at hck
  obtain ⟨⟨⟨h1, h2⟩, h3⟩, h4⟩ := hck
  have eqL : ∀ {M' : Heap} {w : World} {it : Nat → Option Item}, St c.X c.M0 c.w0 M' it w → (∀ r, r < L.length → it r = lt L r) → St c.X c.M0 c.w0 M' (lt L) w := by
    intro M' w it hs h
    refine hs.less fun r x hx => ?_
    have hr : r < L.length := by
      unfold lt at hx
      exact (List.getElem?_eq_some_iff.1 hx).1
    rw [h r hr]; exact hx
  refine c_draw (m0 := L.length) ⟨fun i v M _ => tA As i v M, fun r _ x _ => x = lt L r, fun _ => []⟩ hm rfl h1 h2 (fun _ => List.nodup_nil) (by simp) (by simp) (by simp)
    (fun i v M M' _ hM h => mA.get hM h) (fun _ _ _ _ _ _ h => h) (fun _ _ => rfl) h3 ?_ ?_
  · intro i o ho a w M' it tg hp
    obtain ⟨e, he, hf⟩ := hop.get ho
    rw [Nat.zero_add] at hf
    have hc := List.all_eq_true.1 h4 (e, i) (by rw [List.mem_zipIdx_iff_getElem?]; exact he)
    unfold chk1 at hc
    simp only [Bool.and_eq_true] at hc
    have hit : ∀ r, it r = lt L r := by
      intro r
      by_cases hr : r < L.length
      · exact hp.item r (.inl hr) (by simp [sorted])
      · have e1 : lt L r = none := List.getElem?_eq_none (by omega)
        rw [e1]
        exact hp.fin r (by omega) fun k x M h => by rw [h, e1]
    have hit : it = lt L := funext hit
    subst hit
    have hd : DPre c l As e a M' := by
      refine ⟨hp.df, hp.sz, ?_, ?_⟩
      · intro t v hv ht
        exact hp.base t v hv (List.all_eq_true.1 hc.2 t (List.contains_iff_mem.1 ht))
      · intro j t p ht hp'
        have := List.all_eq_true.1 hc.1 (j, t) (List.contains_iff_mem.1 ht)
        simp only [Bool.and_eq_true] at this
        cases ho' : ops[j]? with
        | none => rw [ho'] at this; simp at this
        | some o' =>
          rw [ho'] at this
          cases hdst : o'.dst with
          | none => simp [hdst] at this
          | some t' =>
            simp only [Option.bind_some, hdst] at this
            have e2 := Nat.eq_of_beq_eq_true this.2
            subst e2
            have := hp.val j o' t ho' hdst this.1
            simpa [tA, hp'] using this
    have hr := hf a w M' hp.le hd hp.st
    have post : ∀ v w', (∃ M'', HLe M' M'' ∧ St c.X c.M0 c.w0 M'' (lt L) w' ∧ tA As i v M'') → RPost c ops L.length ⟨fun i v M _ => tA As i v M, fun r _ x _ => x = lt L r, fun _ => []⟩ i M' (lt L) tg v w' := by
      rintro v w' ⟨M'', q1, q2, q3⟩
      refine ⟨M'', lt L, undef, q1, q2, q3, fun _ _ _ => rfl, fun r hr => by simp at hr, rfl, ?_⟩
      intro x hx
      have : lt L (L.length + i) = none := List.getElem?_eq_none (by omega)
      rw [this] at hx; cases hx
    rcases hr with ⟨q1, q2⟩ | ⟨q1, q2⟩
    · exact .inl ⟨q1, fun next Q hn => q2 next Q fun v w' h => hn v w' (post v w' h)⟩
    · exact .inr ⟨q1, post _ _ q2⟩
  · intro a w M' it tg he
    refine hend a w M' he.le he.df he.sz he.base ?_ (eqL he.st fun r hr => he.item r (.inl hr))
    intro i t p ht hp
    cases ho' : ops[i]? with
    | none => rw [ho'] at ht; simp at ht
    | some o' =>
      rw [ho'] at ht
      have := he.val i o' t ho' (by simpa using ht)
      simpa [tA, hp] using this
end
theorem MonoA.nil : MonoA [] := trivial
theorem MonoA.cons {p : Value → Heap → Prop} {ps : List (Value → Heap → Prop)} (h : ∀ v M M', HLe M M' → p v M → p v M') (t : MonoA ps) : MonoA (p :: ps) := ⟨h, t⟩
theorem AllT.nil {f : Nat → (List (Nat × Nat) × List Nat) → Oper → Prop} {i : Nat} {T : Tab} : AllT f i T [] := by unfold AllT; trivial
theorem AllT.cons {f : Nat → (List (Nat × Nat) × List Nat) → Oper → Prop} {i : Nat} {e : List (Nat × Nat) × List Nat} {T : Tab} {o : Oper} {ops : List Oper} (h : f i e o) (t : AllT f (i + 1) T ops) : AllT f i (e :: T) (o :: ops) := ⟨h, t⟩
theorem n_of {c : Cx} {K : Act → World → Prop} {l : List (Nat × Value)} {M : Heap} {L : List Item} {a : Act} {w : World} (h : c.N K l M L) (hf : Fr c.n l a) (hs : St c.X c.M0 c.w0 M (lt L) w) : K a w := h a w hf hs
theorem n_id {c : Cx} {K : Act → World → Prop} {l : List (Nat × Value)} {M : Heap} {L : List Item} (h : c.N K l M L) : c.N K l M L := h
theorem Fr.start {n : Nat} {a : Act} (h1 : a.defers = []) (h2 : a.tmps.size = n) : Fr n [] a := ⟨h1, h2, by simp [lk]⟩
end Go.Cu
