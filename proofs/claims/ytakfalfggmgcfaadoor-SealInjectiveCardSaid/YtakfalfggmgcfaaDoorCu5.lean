/- Rules for walks over facts, for any program; no condition. -/
import Derived.Test.YtakfalfggmgcfaaDoorCu4
set_option linter.unusedSimpArgs false
set_option linter.unusedVariables false
/-! The walk's rules for memory and calls. -/
namespace Go.Cu

theorem lt_push (L : List Item) (x : Item) : (fun j => if j = L.length then some x else lt L j) = lt (L ++ [x]) := by
  funext j
  unfold lt
  by_cases h : j = L.length
  · subst h; simp
  · rw [if_neg h]
    rcases Nat.lt_or_ge j L.length with h' | h'
    · rw [List.getElem?_append_left h']
    · have h2 : ¬ j < L.length := by omega
      rw [List.getElem?_append_right h', List.getElem?_eq_none (by omega), List.getElem?_eq_none (by simp; omega)]
theorem lt_set (L : List Item) (i : Nat) (x y : Item) (hi : L[i]? = some y) : (fun j => if j = i then some x else lt L j) = lt (L.set i x) := by
  have hlt := (List.getElem?_eq_some_iff.1 hi).1
  funext j
  unfold lt
  rw [List.getElem?_set]
  by_cases h : j = i
  · subst h; simp [hlt]
  · rw [if_neg h, if_neg (by omega)]

section st
variable {X : Nat → Prop} {M0 M : Heap} {w0 w : World} {L : List Item}
theorem St.blk {it : Nat → Option Item} (h : St X M0 w0 M it w) {i b : Nat} {o : Obj} (hi : it i = some (.blk b o)) : w.heap[b]? = some o := by
  obtain ⟨_, bo, _, _, h3⟩ := h
  exact (h3 i _ hi).2
theorem St.newL (h : St X M0 w0 M (lt L) w) {o : Obj} {x : Item} (hx : x.sat (w.alloc o) (some w.heap.size)) : St X M0 w0 M (lt (L ++ [x])) (w.alloc o) := by
  rw [← lt_push]; exact h.new (by simp [lt]) hx
theorem alloc_get (w : World) (o : Obj) : (w.alloc o).heap[w.heap.size]? = some o := heap_alloc_new w o
end st

/-! ### Stores -/
/-- n cells of a list replaced from a place on. -/
def splice (A : List Value) (o : Nat) (vs : List Value) : List Value := A.take o ++ vs ++ A.drop (o + vs.length)

theorem splice_cons (A : List Value) (o : Nat) (v : Value) (vs : List Value) (h : o < A.length) : splice A o (v :: vs) = splice (A.set o v) (o + 1) vs := by
  unfold splice
  rw [List.take_set, List.drop_set_of_lt (by omega)]
  have : List.take (o + 1) A = List.take o A ++ [A[o]] := by rw [List.take_succ_eq_append_getElem h]
  rw [this, List.set_append_right _ _ (by simp; omega)]
  simp [Nat.min_eq_left (Nat.le_of_lt h)]
  congr 1
  omega

theorem run_storeCells {P : Program} {b : Nat} {T : TypeId} {fr : Nat × Nat} : ∀ (vs : List Value) (w : World) (A : List Value) (o i : Nat), Blk w b A T fr → o + i + vs.length ≤ A.length →
    (∀ j, j < A.length → ¬ (fr.1 ≤ j ∧ j < fr.2)) → (∀ v ∈ vs, v.oneCell' = true) →
    ∃ w', (storeCells ⟨b, o, none⟩ vs i).run P w = .ok () w' ∧ w'.os = w.os ∧ w'.tape = w.tape ∧ w'.output = w.output ∧ w'.heap.size = w.heap.size ∧
      (∀ k, k ≠ b → w'.heap[k]? = w.heap[k]?) ∧ Blk w' b (splice A (o + i) vs) T fr
  | [], w, A, o, i, h, hl, hf, hv => ⟨w, rfl, rfl, rfl, rfl, rfl, fun _ _ => rfl, by simpa [splice] using h⟩
  | v :: vs, w, A, o, i, h, hl, hf, hv => by
    have hlt : o + i < A.length := by simp at hl; omega
    have h1 : w.cell? ⟨b, o + i, none⟩ = some A[o + i] := by rw [h.cell]; exact List.getElem?_eq_getElem hlt
    have h2 : w.frozen? ⟨b, o + i, none⟩ = false := by
      simp only [World.frozen?, h]
      have := hf (o + i) hlt
      simp only [Bool.and_eq_false_iff, decide_eq_false_iff_not]
      omega
    have hb : Blk (w.setCell ⟨b, o + i, none⟩ v) b (A.set (o + i) v) T fr := by
      show ((w.heap.modify b _)[b]?) = _
      rw [Array.getElem?_modify, if_pos rfl, h]
      simp
    obtain ⟨w', hr, e1, e2, e3, e4, e5, e6⟩ := run_storeCells (P := P) vs (w.setCell ⟨b, o + i, none⟩ v) (A.set (o + i) v) o (i + 1) hb (by simp at hl ⊢; omega)
      (by simpa using hf) (fun u hu => hv u (by simp [hu]))
    refine ⟨w', ?_, e1, e2, e3, by rw [e4]; simp, ?_, ?_⟩
    · rw [storeCells, add_ptr]
      have hone := hv v (by simp)
      simp only [Sem.run_bind]
      rw [run_store P w _ v .plain hone]
      simp only [h1, h2]
      exact hr
    · intro k hk
      rw [e5 k hk]
      simp only [World.setCell, Array.getElem?_modify]
      rw [if_neg (by simpa using fun e => hk e.symm)]
    · rw [splice_cons _ _ _ _ hlt]; exact e6

section rules
variable {c : Cx} {Q : Exit → Act → World → Prop} {l : List (Nat × Value)} {M : Heap} {L : List Item}
variable {ops : Array Oper} {rest : List Oper} {d : Nat} {ty : TypeId} {pos : String} {af : Array Edge} {gd : Option (Nat × Bool)}

theorem St.wr {it : Nat → Option Item} {M0 : Heap} {X : Nat → Prop} {w0 w w' : World} (h : St X M0 w0 M it w) {i b : Nat} {A A' : List Value} {T : TypeId} {fr : Nat × Nat} (hi : it i = some (.blk b (.cells A.toArray T fr)))
    (e1 : w'.os = w.os) (e2 : w'.tape = w.tape) (e3 : w'.output = w.output) (e4 : w'.heap.size = w.heap.size) (e5 : ∀ k, k ≠ b → w'.heap[k]? = w.heap[k]?) (e6 : Blk w' b A' T fr) :
    St X M0 w0 M (fun j => if j = i then some (.blk b (.cells A'.toArray T fr)) else it j) w' := by
  refine h.write hi e1 e2 e3 e4 ?_ ?_
  · rintro b' ⟨e, hb'⟩
    injection e with e; subst e
    exact ⟨e5, rfl, e6⟩
  · intro v T' sz n cs e
    cases e

/-- A new block that the call owns. -/
theorem w_new {op : Op} {o : Obj} (hg : Wnt ops l gd) (hd : Nat.blt d c.n = true)
    (hr : ∀ a w, Fr c.n l a → (execOp a.eval ⟨some d, op, ty, pos, af, gd⟩).run c.P w = .ok (.value (ptr w.heap.size 0)) (w.alloc o))
    (h : ∀ b, c.W ops rest Q ((d, ptr b 0) :: l) M (L ++ [.blk b o])) : c.W ops (⟨some d, op, ty, pos, af, gd⟩ :: rest) Q l M L := by
  refine w_op hg hd (Φ := fun v w' => ∃ b, v = ptr b 0 ∧ St c.X c.M0 c.w0 M (lt (L ++ [.blk b o])) w') ?_ ?_
  · intro a w hf hs
    exact OpOK.val (hr a w hf) ⟨_, rfl, hs.newL ⟨rfl, alloc_get w o⟩⟩
  · rintro v w' ⟨b, rfl, hs⟩ a' hf
    exact h b a' w' hf hs
theorem run_newRow {P : Program} {w : World} (T : TypeId) (cs : Array Value) : (newRow T cs).run P w = .ok ⟨w.heap.size, 0, none⟩ (w.alloc (.cells cs T)) := by
  simp [newRow, newObj, Sem.run]
theorem w_box {T : TypeId} {x : Operand} {v : Value} (hg : Wnt ops l gd) (hd : Nat.blt d c.n = true) (hx : ev l x = some v)
    (h : ∀ b, c.W ops rest Q ((d, ptr b 0) :: l) M (L ++ [.blk b (.cells v.cells T (0, 0))])) : c.W ops (⟨some d, .box T x, ty, pos, af, gd⟩ :: rest) Q l M L := by
  refine w_new hg hd (fun a w hf => ?_) h
  simp [execOp, hf.ev hx, Instr.box, newVar, run_newRow]
theorem w_alloc {T : TypeId} {z : Value} (hz : TZero c.P T z) (hg : Wnt ops l gd) (hd : Nat.blt d c.n = true)
    (h : ∀ b, c.W ops rest Q ((d, ptr b 0) :: l) M (L ++ [.blk b (.cells z.cells T (0, 0))])) : c.W ops (⟨some d, .alloc T, ty, pos, af, gd⟩ :: rest) Q l M L := by
  refine w_new hg hd (fun a w hf => ?_) h
  simp [execOp, Instr.alloc, newVar, run_newRow, hz.run]

/-- A store into a block of the call's own. -/
theorem w_store {T E : TypeId} {p x : Operand} {b o k : Nat} {i : Nat} {A vs A' : List Value} {v : Value} (hg : Wnt ops l gd) (hp : ev l p = some (ptr b o)) (hx : ev l x = some v)
    (hi : L[i]? = some (.blk b (.cells A.toArray E (0, 0)))) (hv : v.cells = vs.toArray) (hk : TSize c.P T k) (hl : vs.length = k) (hone : ∀ u ∈ vs, u.oneCell' = true) (hb : o + k ≤ A.length)
    (hA : splice A o vs = A') (h : c.W ops rest Q l M (L.set i (.blk b (.cells A'.toArray E (0, 0))))) : c.W ops (⟨none, .store T p x, ty, pos, af, gd⟩ :: rest) Q l M L := by
  refine w_op0 hg (Φ := fun _ w' => St c.X c.M0 c.w0 M (lt (L.set i (.blk b (.cells A'.toArray E (0, 0))))) w') ?_ ?_
  · intro a w hf hs
    have hB : Blk w b A E (0, 0) := hs.blk hi
    subst hl
    obtain ⟨w', hr, e1, e2, e3, e4, e5, e6⟩ := run_storeCells (P := c.P) vs w A o 0 hB (by simpa using hb) (by simp) hone
    refine OpOK.skip (w' := w') ?_ ?_
    · have hsz : vs.toArray.size = vs.length := by simp
      simp [execOp, hf.ev hp, hf.ev hx, Instr.storeAt, Instr.sureAddr, storeVar, hv, hk.run, hr]
    · rw [← lt_set L i _ _ hi]
      refine hs.wr hi e1 e2 e3 e4 e5 ?_
      rw [← hA]; simpa using e6
  · intro v w' hs a' hf
    exact h a' w' hf hs

/-! ### Calls -/
def evs (l : List (Nat × Value)) : List Operand → Option (List Value)
  | [] => some []
  | x :: r => match ev l x, evs l r with
    | some v, some vs => some (v :: vs)
    | _, _ => none
theorem Fr.evs {n : Nat} {l : List (Nat × Value)} {a : Act} (h : Fr n l a) : ∀ {xs : List Operand} {vs : List Value}, evs l xs = some vs → xs.map a.eval = vs
  | [], vs, e => by injection e
  | x :: r, vs, e => by
    simp only [Cu.evs] at e
    split at e
    · rename_i v us h1 h2
      injection e with e; subst e
      simp [h.ev h1, Fr.evs h h2]
    · cases e

/-- The function has a body. -/
def CF (P : Program) (f : FuncId) : Prop := ∀ args w, (callFunc f args).run P w = .ok (.enter f args) w
theorem CF.mk {P : Program} {f : FuncId} {fn : Func} (hf : P.funcs[f]? = some fn) (hn : (fn.name == "runtime.NumGoroutine") = false) (hb : fn.body.isNone = false) : CF P f := by
  intro args w
  have hn' : fn.name ≠ "runtime.NumGoroutine" := by simpa using hn
  have hb' : fn.body ≠ none := by cases h : fn.body <;> simp_all
  simp [callFunc, hf, hn', hb']

theorem w_callG {f : FuncId} {op : Op} {vs : List Value} {Φ : Heap → Value → Prop} (hg : Wnt ops l gd) (hd : Nat.blt d c.n = true)
    (hr : ∀ a w, Fr c.n l a → (execOp a.eval ⟨some d, op, ty, pos, af, gd⟩).run c.P w = .ok (.enter f vs.toArray) w)
    (hc : ∀ w, Sub M w → Calls c.P f vs.toArray w (Post M w Φ)) (h : ∀ v M', HLe M M' → Φ M' v → c.W ops rest Q ((d, v) :: l) M' L) :
    c.W ops (⟨some d, op, ty, pos, af, gd⟩ :: rest) Q l M L := by
  refine w_op hg hd (Φ := fun v w' => ∃ M', HLe M M' ∧ Φ M' v ∧ St c.X c.M0 c.w0 M' (lt L) w') ?_ ?_
  · intro a w hf hs
    refine OpOK.enter (hr a w hf) (Calls.mono (hc w hs.sub) ?_)
    rintro e w'' ⟨v, M', rfl, hx, hv⟩
    exact ⟨v, rfl, M', hx.le hs.sub, hv, hs.step hx⟩
  · rintro v w' ⟨M', h1, h2, h3⟩ a' hf
    exact h v M' h1 h2 a' w' hf h3
theorem w_call {f : FuncId} {xs : List Operand} {ts : Array TypeId} {vs : List Value} {Φ : Heap → Value → Prop} (hcf : CF c.P f) (hg : Wnt ops l gd) (hd : Nat.blt d c.n = true) (hx : evs l xs = some vs)
    (hc : ∀ w, Sub M w → Calls c.P f vs.toArray w (Post M w Φ)) (h : ∀ v M', HLe M M' → Φ M' v → c.W ops rest Q ((d, v) :: l) M' L) :
    c.W ops (⟨some d, .call ⟨.value (.func f), xs.toArray, ts⟩, ty, pos, af, gd⟩ :: rest) Q l M L := by
  refine w_callG hg hd (fun a w hf => ?_) hc h
  simp [execOp, resolve, Act.eval, Deferred.ofValue, invoke, hf.evs hx]
  exact hcf _ _
/-- A call of a function value. -/
def CallsV (P : Program) (fv : Value) (args : List Value) (w : World) (R : Ending → World → Prop) : Prop :=
  ∃ f first cap, fv = .func (.func f) first cap ∧ CF P f ∧ Calls P f (first ++ args.toArray ++ cap) w R
theorem w_callV {x : Operand} {xs : List Operand} {ts : Array TypeId} {fv : Value} {vs : List Value} {Φ : Heap → Value → Prop} (hg : Wnt ops l gd) (hd : Nat.blt d c.n = true) (hx : evs l xs = some vs) (hf : ev l x = some fv)
    (hne : ∀ f, x ≠ .func f) (hc : ∀ w, Sub M w → CallsV c.P fv vs w (Post M w Φ)) (h : ∀ v M', HLe M M' → Φ M' v → c.W ops rest Q ((d, v) :: l) M' L) :
    c.W ops (⟨some d, .call ⟨.value x, xs.toArray, ts⟩, ty, pos, af, gd⟩ :: rest) Q l M L := by
  refine w_op hg hd (Φ := fun v w' => ∃ M', HLe M M' ∧ Φ M' v ∧ St c.X c.M0 c.w0 M' (lt L) w') ?_ ?_
  · intro a w hfr hs
    obtain ⟨f, first, cap, rfl, hcf, hcc⟩ := hc w hs.sub
    refine OpOK.enter (f := f) (args := first ++ vs.toArray ++ cap) (w' := w) ?_ (Calls.mono hcc ?_)
    · simp [execOp, resolve, hfr.ev hf, Deferred.ofValue, invoke, hfr.evs hx]
      have := hcf (first ++ (vs.toArray ++ cap)) w
      simpa using this
    · rintro e w'' ⟨v, M', rfl, hx, hv⟩
      exact ⟨v, rfl, M', hx.le hs.sub, hv, hs.step hx⟩
  · rintro v w' ⟨M', h1, h2, h3⟩ a' hf
    exact h v M' h1 h2 a' w' hf h3
end rules

/-! ### Results -/
def RV (P : Program) (a : Act) (w : World) : ResultVar → Value → Prop
  | .tmp t, v => a.tmps.getD t undef = v
  | .cell t T, v => ∃ ad, a.tmps.getD t undef = .pointer (some ad) ∧ (loadVar T ad).run P w = .ok v w
def resF (a : Act) (x : ResultVar) : Sem Value :=
  match x with
  | .tmp t => pure (a.tmps.getD t undef)
  | .cell t T => do loadVar T (← asAddr (a.tmps.getD t undef))
theorem RV.run {P : Program} {a : Act} {w : World} {r : ResultVar} {v : Value} (h : RV P a w r v) : (resF a r).run P w = .ok v w := by
  cases r with
  | tmp t => have h : a.tmps.getD t undef = v := h; simp only [resF, h]; rfl
  | cell t T => obtain ⟨ad, h1, h2⟩ := h; simp only [resF, h1, asAddr, Sem.run_bind, Sem.run_pure, Result.andThen_ok, h2]
theorem Res.eq (fn : Func) (a : Act) : results fn a.tmps = (do
    let vs ← fn.results.mapM (resF a)
    pure (if h : vs.size = 1 then vs[0] else Value.tuple vs)) := rfl
theorem Res.of0 {P : Program} {fn : Func} {a : Act} {w : World} (h : fn.results = #[]) : Res P fn a w (.tuple #[]) := by
  simp [Res, results, h]
theorem Res.of1 {P : Program} {fn : Func} {a : Act} {w : World} {r : ResultVar} {v : Value} (h : fn.results = #[r]) (hr : RV P a w r v) : Res P fn a w v := by
  have h1 := hr.run
  unfold Res
  rw [Res.eq, h]
  generalize resF a = g at *
  simp [h1]
theorem Res.of2 {P : Program} {fn : Func} {a : Act} {w : World} {r s : ResultVar} {v u : Value} (h : fn.results = #[r, s]) (hr : RV P a w r v) (hs : RV P a w s u) : Res P fn a w (.tuple #[v, u]) := by
  have h1 := hr.run
  have h2 := hs.run
  unfold Res
  rw [Res.eq, h]
  generalize resF a = g at *
  simp [h1, h2]
theorem Res.of3 {P : Program} {fn : Func} {a : Act} {w : World} {r s q : ResultVar} {v u x : Value} (h : fn.results = #[r, s, q]) (hr : RV P a w r v) (hs : RV P a w s u) (hq : RV P a w q x) : Res P fn a w (.tuple #[v, u, x]) := by
  have h1 := hr.run
  have h2 := hs.run
  have h3 := hq.run
  unfold Res
  rw [Res.eq, h]
  generalize resF a = g at *
  simp [h1, h2, h3]
theorem RV.t {P : Program} {n : Nat} {l : List (Nat × Value)} {a : Act} {w : World} (h : Fr n l a) {t : Nat} {v : Value} (hv : lk t l = some v) : RV P a w (.tmp t) v := h.get t v hv
end Go.Cu
