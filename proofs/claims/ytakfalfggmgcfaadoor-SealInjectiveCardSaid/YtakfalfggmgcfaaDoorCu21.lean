/- Rules for walks over facts, for any program; no condition. -/
import Derived.Test.YtakfalfggmgcfaaDoorCu20
set_option linter.unusedVariables false
set_option linter.unusedSimpArgs false
/-! Regions whose order is open, that write items and make some. -/
namespace Go.Cu
structure RowN where
  vals : List (Nat × Nat)
  base : List Nat
  reads : List (Nat × Nat)
  wr : Option (Nat × Nat)
  nw : Option Nat
def chkN1 (ops : List Oper) (wss : List (List Nat)) (al : List Nat) (n0 i : Nat) (e : RowN) : Bool :=
  (e.vals.all fun (j, t) => de ops i j && (match (ops[j]?).bind (·.dst) with | some t' => Nat.beq t t' | none => false)) && (e.base.all fun t => clean ops i t) &&
  (e.reads.all fun (r, k) => (match wss[r]? with | some ws => sorted ops ws i && Nat.beq (ws.countP (de ops i)) k | none => false) && (Nat.blt r n0 || (match al[r - n0]? with | some j => de ops i j | none => false))) &&
  (match e.wr with | none => wss.all fun ws => !ws.contains i | some (r, k) => (wss.zipIdx.all fun (ws, r') => ws.contains i == Nat.beq r r') &&
    (match wss[r]? with | some ws => sorted ops ws i && Nat.beq (ws.countP (de ops i)) k | none => false)) &&
  (match e.nw with | none => !al.contains i | some q => (match al[q]? with | some j => Nat.beq j i | none => false) && (match e.wr with | none => true | some _ => false))
def chkN (n n0 : Nat) (ops : List Oper) (wss : List (List Nat)) (al : List Nat) (T : List RowN) : Bool :=
  backward ops && dstsOk ops && (ops.all fun o => match o.dst with | some d => Nat.blt d n | none => true) && (T.zipIdx.all fun (e, i) => chkN1 ops wss al n0 i e) &&
  (wss.all fun ws => nodupB ws && ws.all fun i => Nat.blt i ops.length) && Nat.beq T.length ops.length && nodupB al && (al.all fun i => Nat.blt i ops.length) &&
  (al.zipIdx.all fun (i, q) => match wss[n0 + q]? with | some ws => ws.all fun j => de ops j i | none => false) && Nat.beq wss.length (n0 + al.length)
structure NPre (c : Cx) (l : List (Nat × Value)) (As : List (Value → Heap → Prop)) (Ps : List (List (Item → Heap → Prop))) (al : List Nat) (n0 : Nat) (e : RowN) (a : Act) (M' : Heap) (L' : List Item) : Prop where
  df : a.defers = []
  sz : a.tmps.size = c.n
  base : ∀ t v, lk t l = some v → e.base.contains t = true → a.tmps.getD t undef = v
  val : ∀ j t p, e.vals.contains (j, t) = true → As[j]? = some p → p (a.tmps.getD t undef) M'
  item : ∀ (r k : Nat) (p : Item → Heap → Prop), e.reads.contains (r, k) = true → (Ps[r]?).bind (fun ps => ps[k]?) = some p → ∃ y, L'[r]? = some y ∧ p y M'
  link : ∀ (q i t k : Nat) (y : Item), al[q]? = some i → e.vals.contains (i, t) = true → e.reads.contains (n0 + q, k) = true → L'[n0 + q]? = some y → y.tag = a.tmps.getD t undef
theorem NPre.fr {c : Cx} {l : List (Nat × Value)} {As : List (Value → Heap → Prop)} {Ps : List (List (Item → Heap → Prop))} {al : List Nat} {n0 : Nat} {e : RowN} {a : Act} {M' : Heap} {L' : List Item} (h : NPre c l As Ps al n0 e a M' L') : Fr c.n [] a := ⟨h.df, h.sz, by simp [lk]⟩
def NPost (Ps : List (List (Item → Heap → Prop))) (n0 : Nat) (e : RowN) (v : Value) (M'' : Heap) (L' L'' : List Item) : Prop :=
  match e.nw with
  | some q => ∃ y, L'' = L'.set (n0 + q) y ∧ (∀ p, (Ps[n0 + q]?).bind (fun ps => ps[0]?) = some p → p y M'') ∧ y.tag = v
  | none => match e.wr with
    | none => L'' = L'
    | some (r, k) => ∃ y, L'' = L'.set r y ∧ (∀ p, (Ps[r]?).bind (fun ps => ps[k + 1]?) = some p → p y M'') ∧ (n0 ≤ r → ∀ y0, L'[r]? = some y0 → y0.tag = y.tag)
def AllN (f : Nat → RowN → Oper → Prop) : Nat → List RowN → List Oper → Prop
  | _, _, [] => True
  | _, [], _ :: _ => False
  | i, e :: T, o :: ops => f i e o ∧ AllN f (i + 1) T ops
theorem AllN.get {f : Nat → RowN → Oper → Prop} : ∀ {k : Nat} {T : List RowN} {ops : List Oper}, AllN f k T ops → ∀ {i : Nat} {o : Oper}, ops[i]? = some o → ∃ e, T[i]? = some e ∧ f (k + i) e o
  | _, _, [], _, i, o, h => by simp at h
  | _, [], _ :: _, h, _, _, _ => h.elim
  | k, e :: T, o :: ops, h, 0, o', ho => by simp at ho; subst ho; exact ⟨e, by simp, h.1⟩
  | k, e :: T, o :: ops, h, i + 1, o', ho => by
    obtain ⟨e', h1, h2⟩ := AllN.get h.2 (i := i) (by simpa using ho)
    exact ⟨e', by simpa using h1, by rw [show k + (i + 1) = k + 1 + i by omega]; exact h2⟩
theorem AllN.nil {f : Nat → RowN → Oper → Prop} {i : Nat} {T : List RowN} : AllN f i T [] := by unfold AllN; trivial
theorem AllN.cons {f : Nat → RowN → Oper → Prop} {i : Nat} {e : RowN} {T : List RowN} {o : Oper} {ops : List Oper} (h : f i e o) (t : AllN f (i + 1) T ops) : AllN f i (e :: T) (o :: ops) := ⟨h, t⟩
def All0N (M : Heap) : List (List (Item → Heap → Prop)) → List Item → Prop
  | _, [] => True
  | ps :: Ps, y :: L => (∀ p, ps[0]? = some p → p y M) ∧ All0N M Ps L
  | [], _ :: _ => False
theorem All0N.get {M : Heap} : ∀ {Ps : List (List (Item → Heap → Prop))} {L : List Item}, All0N M Ps L → ∀ (r : Nat) (ps : List (Item → Heap → Prop)) (y : Item), Ps[r]? = some ps → L[r]? = some y → ∀ (p : Item → Heap → Prop), ps[0]? = some p → p y M
  | _, [], _, r, ps, y, _, hy => by simp at hy
  | ps :: Ps, y :: L, h, r, ps', y', hr, hy => by
    cases r with
    | zero => simp at hr hy; subst hr hy; exact h.1
    | succ r => exact h.2.get r ps' y' (by simpa using hr) (by simpa using hy)
  | [], _ :: _, h, _, _, _, _, _ => h.elim
theorem All0N.nil {M : Heap} {Ps : List (List (Item → Heap → Prop))} : All0N M Ps [] := by unfold All0N; trivial
theorem All0N.cons {M : Heap} {q : Item → Heap → Prop} {ps : List (Item → Heap → Prop)} {Ps : List (List (Item → Heap → Prop))} {y : Item} {L : List Item} (h : q y M) (t : All0N M Ps L) : All0N M ((q :: ps) :: Ps) (y :: L) :=
  ⟨fun p hp => by simp at hp; subst hp; exact h, t⟩
/-- Items renumbered, dead ones beside them. -/
theorem St.pad {X : Nat → Prop} {M0 M : Heap} {w0 w : World} {it it' : Nat → Option Item} (h : St X M0 w0 M it w) (f : Nat → Nat) (hf : ∀ i j, (it' i).isSome → (it' j).isSome → f i = f j → i = j)
    (hi : ∀ i x, it' i = some x → it (f i) = some x ∨ (it (f i) = none ∧ x = dead)) : St X M0 w0 M it' w := by
  obtain ⟨e, bo, h1, h2, h3⟩ := h
  refine ⟨e, fun i => if (it' i).isSome ∧ (it (f i)).isSome then bo (f i) else none, ?_, ?_, ?_⟩
  · intro i j b hb hb'
    simp only at hb hb'
    split at hb
    · split at hb'
      · rename_i p q; exact hf i j p.1 q.1 (h1 _ _ _ hb hb')
      · cases hb'
    · cases hb
  · intro i b hb
    simp only at hb
    split at hb
    · exact h2 _ _ hb
    · cases hb
  · intro i x hx
    rcases hi i x hx with hi | ⟨hi, rfl⟩
    · simp only [hx, hi, Option.isSome_some, and_self, if_true]
      exact h3 _ _ hi
    · simp only [hx, hi, Option.isSome_some, Option.isSome_none, Bool.false_eq_true, and_false, if_false]
      exact ⟨rfl, rfl, rfl⟩
section
variable {c : Cx} {ops : List Oper} {l : List (Nat × Value)} {M : Heap}
end
end Go.Cu
