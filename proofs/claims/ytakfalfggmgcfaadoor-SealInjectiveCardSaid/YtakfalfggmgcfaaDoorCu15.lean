/- Rules for walks over facts, for any program; no condition. -/
import Derived.Test.YtakfalfggmgcfaaDoorCu14
set_option linter.unusedSimpArgs false
set_option linter.unusedVariables false
/-! Regions whose order is open and that write items. -/
namespace Go.Cu

structure RowW where
  vals : List (Nat × Nat)
  base : List Nat
  reads : List (Nat × Nat)
  wr : Option (Nat × Nat)

def chkW1 (ops : List Oper) (wss : List (List Nat)) (i : Nat) (e : RowW) : Bool :=
  (e.vals.all fun (j, t) => de ops i j && (match (ops[j]?).bind (·.dst) with | some t' => Nat.beq t t' | none => false)) && (e.base.all fun t => clean ops i t) &&
  (e.reads.all fun (r, k) => match wss[r]? with | some ws => sorted ops ws i && Nat.beq (ws.countP (de ops i)) k | none => false) &&
  (match e.wr with | none => wss.all fun ws => !ws.contains i | some (r, k) => (wss.zipIdx.all fun (ws, r') => ws.contains i == Nat.beq r r') &&
    (match wss[r]? with | some ws => sorted ops ws i && Nat.beq (ws.countP (de ops i)) k | none => false))
def nodupB : List Nat → Bool
  | [] => true
  | x :: xs => !xs.contains x && nodupB xs
theorem nodupB.nodup : ∀ {l : List Nat}, nodupB l = true → l.Nodup
  | [], _ => List.nodup_nil
  | x :: xs, h => by
    simp only [nodupB, Bool.and_eq_true, Bool.not_eq_true'] at h
    refine List.nodup_cons.2 ⟨?_, nodupB.nodup h.2⟩
    intro hx
    rw [List.contains_iff_mem.2 hx] at h
    simp at h
def chkW (n : Nat) (ops : List Oper) (wss : List (List Nat)) (T : List RowW) : Bool :=
  backward ops && dstsOk ops && (ops.all fun o => match o.dst with | some d => Nat.blt d n | none => true) && (T.zipIdx.all fun (e, i) => chkW1 ops wss i e) &&
  (wss.all fun ws => nodupB ws && ws.all fun i => Nat.blt i ops.length) && Nat.beq T.length ops.length

def MonoK : List (List (Item → Heap → Prop)) → Prop
  | [] => True
  | ps :: Ps => (∀ p, p ∈ ps → ∀ y M M', HLe M M' → p y M → p y M') ∧ MonoK Ps
theorem MonoK.get : ∀ {Ps : List (List (Item → Heap → Prop))}, MonoK Ps → ∀ {r : Nat} {ps : List (Item → Heap → Prop)}, Ps[r]? = some ps → ∀ p, p ∈ ps → ∀ y M M', HLe M M' → p y M → p y M'
  | [], _, r, ps, h => by simp at h
  | _ :: _, h, 0, ps, hr => by simp at hr; subst hr; exact h.1
  | _ :: _, h, r + 1, ps, hr => MonoK.get h.2 (by simpa using hr)
def All0 (M : Heap) : List (List (Item → Heap → Prop)) → List Item → Prop
  | [], [] => True
  | ps :: Ps, y :: L => (∀ p, ps[0]? = some p → p y M) ∧ All0 M Ps L
  | _, _ => False
theorem All0.get {M : Heap} : ∀ {Ps : List (List (Item → Heap → Prop))} {L : List Item}, All0 M Ps L → Ps.length = L.length ∧ ∀ (r : Nat) (ps : List (Item → Heap → Prop)) (y : Item), Ps[r]? = some ps → L[r]? = some y → ∀ (p : Item → Heap → Prop), ps[0]? = some p → p y M
  | [], [], _ => ⟨rfl, by simp⟩
  | ps :: Ps, y :: L, h => by
    obtain ⟨h1, h2⟩ := h.2.get
    refine ⟨by simp [h1], ?_⟩
    intro r ps' y' hr hy
    cases r with
    | zero => simp at hr hy; subst hr hy; exact h.1
    | succ r => exact h2 r ps' y' (by simpa using hr) (by simpa using hy)
  | [], _ :: _, h => h.elim
  | _ :: _, [], h => h.elim

structure WPre (c : Cx) (l : List (Nat × Value)) (As : List (Value → Heap → Prop)) (Ps : List (List (Item → Heap → Prop))) (e : RowW) (a : Act) (M' : Heap) (L' : List Item) : Prop where
  df : a.defers = []
  sz : a.tmps.size = c.n
  base : ∀ t v, lk t l = some v → e.base.contains t = true → a.tmps.getD t undef = v
  val : ∀ j t p, e.vals.contains (j, t) = true → As[j]? = some p → p (a.tmps.getD t undef) M'
  item : ∀ (r k : Nat) (p : Item → Heap → Prop), e.reads.contains (r, k) = true → (Ps[r]?).bind (fun ps => ps[k]?) = some p → ∃ y, L'[r]? = some y ∧ p y M'
theorem WPre.fr {c : Cx} {l : List (Nat × Value)} {As : List (Value → Heap → Prop)} {Ps : List (List (Item → Heap → Prop))} {e : RowW} {a : Act} {M' : Heap} {L' : List Item} (h : WPre c l As Ps e a M' L') : Fr c.n [] a := ⟨h.df, h.sz, by simp [lk]⟩

/-- What a writer leaves, or that nothing is written. -/
def WPost (Ps : List (List (Item → Heap → Prop))) (e : RowW) (M'' : Heap) (L' L'' : List Item) : Prop :=
  match e.wr with
  | none => L'' = L'
  | some (r, k) => ∃ y, L'' = L'.set r y ∧ ∀ p, (Ps[r]?).bind (fun ps => ps[k + 1]?) = some p → p y M''

def AllW (f : Nat → RowW → Oper → Prop) : Nat → List RowW → List Oper → Prop
  | _, _, [] => True
  | _, [], _ :: _ => False
  | i, e :: T, o :: ops => f i e o ∧ AllW f (i + 1) T ops
theorem AllW.get {f : Nat → RowW → Oper → Prop} : ∀ {k : Nat} {T : List RowW} {ops : List Oper}, AllW f k T ops → ∀ {i : Nat} {o : Oper}, ops[i]? = some o → ∃ e, T[i]? = some e ∧ f (k + i) e o
  | _, _, [], _, i, o, h => by simp at h
  | _, [], _ :: _, h, _, _, _ => h.elim
  | k, e :: T, o :: ops, h, 0, o', ho => by simp at ho; subst ho; exact ⟨e, by simp, h.1⟩
  | k, e :: T, o :: ops, h, i + 1, o', ho => by
    obtain ⟨e', h1, h2⟩ := AllW.get h.2 (i := i) (by simpa using ho)
    exact ⟨e', by simpa using h1, by rw [show k + (i + 1) = k + 1 + i by omega]; exact h2⟩
theorem AllW.nil {f : Nat → RowW → Oper → Prop} {i : Nat} {T : List RowW} : AllW f i T [] := by unfold AllW; trivial
theorem AllW.cons {f : Nat → RowW → Oper → Prop} {i : Nat} {e : RowW} {T : List RowW} {o : Oper} {ops : List Oper} (h : f i e o) (t : AllW f (i + 1) T ops) : AllW f i (e :: T) (o :: ops) := ⟨h, t⟩

section
variable {c : Cx} {ops : List Oper} {l : List (Nat × Value)} {M : Heap}
end
theorem MonoK.nil : MonoK [] := trivial
theorem MonoK.cons {ps : List (Item → Heap → Prop)} {Ps : List (List (Item → Heap → Prop))} (h : ∀ p, p ∈ ps → ∀ y M M', HLe M M' → p y M → p y M') (t : MonoK Ps) : MonoK (ps :: Ps) := ⟨h, t⟩
theorem mono_nil : ∀ p, p ∈ ([] : List (Item → Heap → Prop)) → ∀ y M M', HLe M M' → p y M → p y M' := by intro p hp; cases hp
theorem mono_cons {q : Item → Heap → Prop} {ps : List (Item → Heap → Prop)} (h : ∀ y M M', HLe M M' → q y M → q y M') (t : ∀ p, p ∈ ps → ∀ y M M', HLe M M' → p y M → p y M') :
    ∀ p, p ∈ q :: ps → ∀ y M M', HLe M M' → p y M → p y M' := by
  intro p hp
  rcases List.mem_cons.1 hp with rfl | hp
  · exact h
  · exact t p hp
theorem All0.nil {M : Heap} : All0 M [] [] := by unfold All0; trivial
theorem All0.cons {M : Heap} {q : Item → Heap → Prop} {ps : List (Item → Heap → Prop)} {Ps : List (List (Item → Heap → Prop))} {y : Item} {L : List Item} (h : q y M) (t : All0 M Ps L) : All0 M ((q :: ps) :: Ps) (y :: L) :=
  ⟨fun p hp => by simp at hp; subst hp; exact h, t⟩
theorem lenS {α : Type} {l : List α} {n : Nat} (h : l.length = n + 1) : ∃ a m, l = a :: m ∧ m.length = n := by
  cases l with
  | nil => simp at h
  | cons a m => exact ⟨a, m, rfl, by simpa using h⟩
theorem len0 {α : Type} {l : List α} (h : l.length = 0) : l = [] := List.length_eq_zero_iff.1 h
theorem of_some {q : Item → Heap → Prop} {y : Item} {M : Heap} (h : q y M) : ∀ p, some q = some p → p y M := by
  intro p hp; injection hp with hp; subst hp; exact h
theorem RS.cells1 {α : Type} {F : Fl α} {M : Heap} {v : Value} {l : List α} (h : RS F M v l) : v.cells = [v].toArray := by
  rcases h with ⟨rfl, _⟩ | ⟨_, _, _, _, _, _, rfl, _⟩ <;> rfl
/-- Some items are kept in their places, the others are dropped. -/
theorem St.selD {X : Nat → Prop} {M0 M : Heap} {w0 w : World} {L : List Item} (h : St X M0 w0 M (lt L) w) {L' : List Item} (f : List (Option Nat)) (hf : f.Pairwise fun a b => a = none ∨ a ≠ b)
    (hl : f.map (fun o => match o with | some i => L[i]? | none => some dead) = L'.map some) : St X M0 w0 M (lt L') w := by
  obtain ⟨e, bo, h1, h2, h3⟩ := h
  let bo' : Nat → Option Nat := fun i => match f[i]? with | some (some j) => bo j | _ => none
  have key : ∀ {i b}, bo' i = some b → ∃ p, f[i]? = some (some p) ∧ bo p = some b := by
    intro i b hb
    simp only [bo'] at hb
    split at hb
    · rename_i j hj; exact ⟨j, hj, hb⟩
    · cases hb
  refine ⟨e, bo', ?_, ?_, ?_⟩
  · intro i j b hi hj
    obtain ⟨p, hp, hbp⟩ := key hi
    obtain ⟨q, hq, hbq⟩ := key hj
    have hpq := h1 _ _ _ hbp hbq
    subst hpq
    rw [List.pairwise_iff_getElem] at hf
    obtain ⟨li, gi⟩ := List.getElem?_eq_some_iff.1 hp
    obtain ⟨lj, gj⟩ := List.getElem?_eq_some_iff.1 hq
    rcases Nat.lt_trichotomy i j with hlt | heq | hgt
    · have := hf i j li lj hlt
      rw [gi, gj] at this
      simp at this
    · exact heq
    · have := hf j i lj li hgt
      rw [gi, gj] at this
      simp at this
  · intro i b hi
    obtain ⟨p, _, hbp⟩ := key hi
    exact h2 _ _ hbp
  · intro i x hx
    have hx : L'[i]? = some x := hx
    have := congrArg (fun l => l[i]?) hl
    simp only [List.getElem?_map, hx] at this
    cases hfi : f[i]? with
    | none => rw [hfi] at this; cases this
    | some o =>
      rw [hfi] at this
      cases o with
      | none =>
        simp at this
        subst this
        have : bo' i = none := by simp [bo', hfi]
        rw [this]
        exact ⟨rfl, rfl, rfl⟩
      | some j =>
        have hj : L[j]? = some x := by simpa using this
        have : bo' i = bo j := by simp [bo', hfi]
        rw [this]
        exact h3 j x hj
end Go.Cu
