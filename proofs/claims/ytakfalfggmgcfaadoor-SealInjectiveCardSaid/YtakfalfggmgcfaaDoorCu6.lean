/- Rules for walks over facts, for any program; no condition. -/
import Derived.Test.YtakfalfggmgcfaaDoorCu5
set_option linter.unusedSimpArgs false
set_option linter.unusedVariables false
/-! A region whose order is open: by assertions on each operation's value and each item's content. -/
namespace Go.Cu

def de (ops : List Oper) (i j : Nat) : Bool :=
  match ops[i]? with
  | some o => o.after.toList.any fun e => Region.binds .any e && Nat.beq e.on j
  | none => false

def Item.tag : Item → Value
  | .blk b _ => ptr b 0
  | .row v _ _ _ _ => v

def restr (ops : List Oper) (i : Nat) (tg : Nat → Value) : Nat → Value := fun j => if de ops i j || Nat.beq j i then tg j else undef

def backward (ops : List Oper) : Bool := (ops.zipIdx).all fun (o, i) => o.after.all fun e => !Region.binds .any e || Nat.blt e.on i
def dstsOk (ops : List Oper) : Bool := (ops.zipIdx).all fun (o, i) => (ops.zipIdx).all fun (o', j) => Nat.beq i j || (match o.dst, o'.dst with | some t, some t' => !Nat.beq t t' | _, _ => true)

/-- The slot is no operation's, or only of such as come later than i. -/
def clean (ops : List Oper) (i t : Nat) : Bool := (ops.zipIdx).all fun (o, j) => (match o.dst with | some t' => !Nat.beq t t' | none => true) || de ops j i || Nat.beq j i
/-- The item's writers stand in order to i. -/
def sorted (ops : List Oper) (ws : List Nat) (i : Nat) : Bool := ws.all fun j => Nat.beq j i || de ops i j || de ops j i

structure RPlan where
  A : Nat → Value → Heap → (Nat → Value) → Prop
  K : Nat → Nat → Option Item → Heap → Prop
  wr : Nat → List Nat

section
variable (c : Cx) (ops : List Oper) (l : List (Nat × Value)) (M : Heap) (m0 : Nat) (R : RPlan)

structure RInv (S : Nat → Bool) (a : Act) (w : World) (M' : Heap) (it : Nat → Option Item) (tg : Nat → Value) : Prop where
  st : St c.X c.M0 c.w0 M' it w
  le : HLe M M'
  df : a.defers = []
  sz : a.tmps.size = c.n
  base : ∀ t v, lk t l = some v → (∀ i o, ops[i]? = some o → S i = true → o.dst ≠ some t) → a.tmps.getD t undef = v
  val : ∀ i o t, ops[i]? = some o → S i = true → o.dst = some t → R.A i (a.tmps.getD t undef) M' (restr ops i tg)
  item : ∀ r, r < m0 ∨ S (r - m0) = true → R.K r ((R.wr r).countP S) (it r) M'
  tag : ∀ j x, it (m0 + j) = some x → x.tag = tg j

/-- What an operation may use. -/
structure RPre (i : Nat) (a : Act) (w : World) (M' : Heap) (it : Nat → Option Item) (tg : Nat → Value) : Prop where
  st : St c.X c.M0 c.w0 M' it w
  le : HLe M M'
  base : ∀ t v, lk t l = some v → clean ops i t = true → a.tmps.getD t undef = v
  val : ∀ j o t, ops[j]? = some o → o.dst = some t → de ops i j = true → R.A j (a.tmps.getD t undef) M' (restr ops j tg)
  item : ∀ r, r < m0 ∨ de ops i (r - m0) = true → sorted ops (R.wr r) i = true → R.K r ((R.wr r).countP (de ops i)) (it r) M'
  tag : ∀ j x, it (m0 + j) = some x → x.tag = tg j
  new : it (m0 + i) = none
  df : a.defers = []
  sz : a.tmps.size = c.n
  fin : ∀ r, m0 ≤ r → (∀ k x M, R.K r k x M → x = none) → it r = none
  isSome : ∀ r, r < m0 → (∀ k x M, R.K r k x M → ∃ y, x = some y) → ∃ y, it r = some y

/-- What it must leave. -/
def RPost (i : Nat) (M' : Heap) (it : Nat → Option Item) (tg : Nat → Value) (v : Value) (w' : World) : Prop :=
  ∃ M'' it' tv, HLe M' M'' ∧ St c.X c.M0 c.w0 M'' it' w' ∧ R.A i v M'' (restr ops i fun j => if j = i then tv else tg j) ∧
    (∀ r, (R.wr r).contains i = false → r ≠ m0 + i → it' r = it r) ∧
    (∀ r, (R.wr r).contains i = true → R.K r ((R.wr r).countP (de ops i) + 1) (it' r) M'' ∧ (m0 ≤ r → ∀ x, it' r = some x → ∃ y, it r = some y ∧ y.tag = x.tag)) ∧
    R.K (m0 + i) 0 (it' (m0 + i)) M'' ∧ (∀ x, it' (m0 + i) = some x → x.tag = tv)
end

theorem mem_zip {ops : List Oper} {i : Nat} {o : Oper} (h : ops[i]? = some o) : (o, i) ∈ ops.zipIdx := by
  rw [List.mem_zipIdx_iff_getElem?]; exact h

section
variable {c : Cx} {ops : List Oper} {l : List (Nat × Value)} {M : Heap} {m0 : Nat} {R : RPlan}

/-- The state of the listing: what is listed is closed. -/
def Closed (ops : List Oper) (S : Nat → Bool) : Prop := ∀ i j, S i = true → de ops i j = true → S j = true

theorem RInv.pre {S : Nat → Bool} {a : Act} {w : World} {M' : Heap} {it : Nat → Option Item} {tg : Nat → Value} (h : RInv c ops l M m0 R S a w M' it tg) (hS : Closed ops S) {i : Nat}
    (hnew : ∀ r, m0 ≤ r → S (r - m0) = false → it r = none)
    (hi : S i = false) (hd : ∀ j, de ops i j = true → S j = true) : RPre c ops l M m0 R i a w M' it tg := by
  refine ⟨h.st, h.le, ?_, ?_, ?_, h.tag, hnew _ (by omega) (by rw [Nat.add_sub_cancel_left]; exact hi), h.df, h.sz, ?_, fun r hr hK => hK _ _ _ (h.item r (.inl hr))⟩
  rotate_right
  · intro r hr hK
    cases hb : S (r - m0) with
    | false => exact hnew r hr hb
    | true => exact hK _ _ _ (h.item r (.inr hb))
  · intro t v hv hc
    refine h.base t v hv ?_
    intro j o ho hj e
    have := List.all_eq_true.1 hc (o, j) (mem_zip ho)
    simp only [e, Nat.beq_refl, Bool.not_true, Bool.false_or, Bool.or_eq_true] at this
    rcases this with h1 | h1
    · rw [hS j i hj h1] at hi; cases hi
    · have := Nat.eq_of_beq_eq_true h1; subst this; rw [hj] at hi; cases hi
  · intro j o t ho ht hj
    exact h.val j o t ho (hd j hj) ht
  · intro r hr0 hr
    have := h.item r (hr0.imp (fun h => h) (hd _))
    have e : (R.wr r).countP S = (R.wr r).countP (de ops i) := by
      apply List.countP_congr
      intro j hj
      have hj := List.all_eq_true.1 hr j hj
      simp only [Bool.or_eq_true] at hj
      constructor
      · intro hs
        rcases hj with (h1 | h1) | h1
        · have := Nat.eq_of_beq_eq_true h1; subst this; rw [hs] at hi; cases hi
        · exact h1
        · rw [hS j i hs h1] at hi; cases hi
      · exact hd j
    rw [← e]; exact this

theorem RInv.step {S : Nat → Bool} {a : Act} {w w' : World} {M' : Heap} {it : Nat → Option Item} {tg : Nat → Value} (h : RInv c ops l M m0 R S a w M' it tg) (hS : Closed ops S) {i : Nat} {o : Oper}
    (hnew : ∀ r, m0 ≤ r → S (r - m0) = false → it r = none)
    (mA : ∀ i v M M' tg, HLe M M' → R.A i v M tg → R.A i v M' tg) (mK : ∀ r k x M M', HLe M M' → R.K r k x M → R.K r k x M')
    (hdst : dstsOk ops = true) (hwr : ∀ r, (R.wr r).Nodup) (hwl : ∀ r i, i ∈ R.wr r → i < ops.length) (hwn : ∀ i j, (R.wr (m0 + i)).contains j = true → de ops j i = true)
    (hsort : ∀ r, (R.wr r).contains i = true → sorted ops (R.wr r) i = true)
    (hi : S i = false) (ho : ops[i]? = some o) (hd : ∀ j, de ops i j = true → S j = true) (hnd : ∀ d, o.dst = some d → Nat.blt d c.n = true)
    {v : Value} (hp : RPost c ops m0 R i M' it tg v w') :
    ∃ M'' it' tg', RInv c ops l M m0 R (fun j => S j || Nat.beq j i) (a.put o.dst v) w' M'' it' tg' ∧ (∀ r, m0 ≤ r → (S (r - m0) || Nat.beq (r - m0) i) = false → it' r = none) := by
  obtain ⟨M'', it', tv, h1, h2, h3, h4, h5, h6, h7⟩ := hp
  refine ⟨M'', it', fun j => if j = i then tv else tg j, ⟨h2, h.le.trans h1, ?_, ?_, ?_, ?_, ?_, ?_⟩, ?_⟩
  · cases o.dst <;> exact h.df
  · cases o.dst <;> simp [Act.put, h.sz]
  · intro t u hu hn
    have hot : o.dst ≠ some t := hn i o ho (by simp [Nat.beq_refl])
    have := h.base t u hu (fun j p hp hj => hn j p hp (by simp [hj]))
    cases hd' : o.dst with
    | none => exact this
    | some d =>
      have : t ≠ d := by rintro rfl; exact hot hd'
      simp only [Act.put, Array.getD_eq_getD_getElem?] at *
      rw [Array.getElem?_setIfInBounds_ne (by omega)]
      assumption
  · intro j p t hp hj ht
    by_cases e : j = i
    · subst e
      rw [ho] at hp; injection hp with hp; subst hp
      have : (a.put o.dst v).tmps.getD t undef = v := by
        have hb := hnd t ht
        have hb : t < c.n := by simpa [Nat.blt_eq] using hb
        rw [ht]; simp [Act.put, Array.getD_eq_getD_getElem?, h.sz, hb]
      rw [this]; exact h3
    · have hj' : S j = true := by
        simp only [Bool.or_eq_true] at hj
        rcases hj with h | h
        · exact h
        · exact absurd (Nat.eq_of_beq_eq_true h) e
      have hold := h.val j p t hp hj' ht
      have hne : o.dst ≠ some t := by
        intro hot
        have := List.all_eq_true.1 (List.all_eq_true.1 hdst (o, i) (mem_zip ho)) (p, j) (mem_zip hp)
        simp only [hot, ht, Nat.beq_refl, Bool.not_true, Bool.or_false] at this
        exact e (Nat.eq_of_beq_eq_true this).symm
      have : (a.put o.dst v).tmps.getD t undef = a.tmps.getD t undef := by
        cases hd' : o.dst with
        | none => rfl
        | some d =>
          have : t ≠ d := by rintro rfl; exact hne hd'
          simp only [Act.put, Array.getD_eq_getD_getElem?]
          rw [Array.getElem?_setIfInBounds_ne (by omega)]
      rw [this]
      have er : restr ops j (fun k => if k = i then tv else tg k) = restr ops j tg := by
        funext k
        unfold restr
        by_cases hk : k = i
        · subst hk
          have : de ops j k = false := by
            cases hh : de ops j k with
            | false => rfl
            | true => rw [hS j k hj' hh] at hi; cases hi
          have h' : Nat.beq k j = false := by
            cases hh : Nat.beq k j with
            | false => rfl
            | true => exact absurd (Nat.eq_of_beq_eq_true hh).symm e
          simp [this, h']
        · simp [hk]
      rw [er]
      exact mA _ _ _ _ _ h1 hold
  · intro r hr0
    by_cases hr : (R.wr r).contains i = true
    · have hm : i ∈ R.wr r := by simpa using hr
      have e : (R.wr r).countP (fun j => S j || Nat.beq j i) = (R.wr r).countP (de ops i) + 1 := by
        have hnd := hwr r
        have key : ∀ (ws : List Nat), ws.Nodup → (∀ j ∈ ws, j ≠ i → (S j = true ↔ de ops i j = true)) → ws.countP (fun j => S j || Nat.beq j i) = ws.countP (fun j => de ops i j && !Nat.beq j i) + (if i ∈ ws then 1 else 0) := by
          intro ws
          induction ws with
          | nil => simp
          | cons k ws ih =>
            intro hn hw
            have hn' := List.nodup_cons.1 hn
            have ih' := ih hn'.2 (fun j hj => hw j (by simp [hj]))
            rw [List.countP_cons, List.countP_cons, ih']
            by_cases hk : k = i
            · subst hk
              simp [Nat.beq_refl, hn'.1]
            · have hb : Nat.beq k i = false := by
                cases hh : Nat.beq k i with
                | false => rfl
                | true => exact absurd (Nat.eq_of_beq_eq_true hh) hk
              have := hw k (by simp) hk
              have hs : S k = de ops i k := by
                cases h1 : S k <;> cases h2 : de ops i k <;> simp_all
              have hik : i ≠ k := fun e => hk e.symm
              simp [hb, hs, hik]
              omega
        have hcond : ∀ j ∈ R.wr r, j ≠ i → (S j = true ↔ de ops i j = true) := by
          intro j hj hne
          have := List.all_eq_true.1 (hsort r hr) j hj
          simp only [Bool.or_eq_true] at this
          constructor
          · intro hs
            rcases this with (h1 | h1) | h1
            · exact absurd (Nat.eq_of_beq_eq_true h1) hne
            · exact h1
            · rw [hS j i hs h1] at hi; cases hi
          · exact hd j
        rw [key _ hnd hcond, if_pos hm]
        congr 1
        apply List.countP_congr
        intro j hj
        have hself : de ops i i = false := by
          cases hh : de ops i i with
          | false => rfl
          | true => rw [hd i hh] at hi; cases hi
        by_cases hji : j = i
        · subst hji; simp [hself]
        · have hb : Nat.beq j i = false := by
            cases hh : Nat.beq j i with
            | false => rfl
            | true => exact absurd (Nat.eq_of_beq_eq_true hh) hji
          simp [hb]
      rw [e]; exact (h5 r hr).1
    · have hr : (R.wr r).contains i = false := by simpa using hr
      have hm : i ∉ R.wr r := by simpa using hr
      have e : (R.wr r).countP (fun j => S j || Nat.beq j i) = (R.wr r).countP S := by
        apply List.countP_congr
        intro j hj
        have : Nat.beq j i = false := by
          cases hh : Nat.beq j i with
          | false => rfl
          | true => have := Nat.eq_of_beq_eq_true hh; subst this; exact absurd hj hm
        simp [this]
      rw [e]
      by_cases hrn : r = m0 + i
      · subst hrn
        have hz : (R.wr (m0 + i)).countP S = 0 := by
          rw [List.countP_eq_zero]
          intro j hj hs
          have := hS j i hs (hwn i j (by simpa using hj))
          rw [this] at hi; cases hi
        rw [hz]; exact h6
      · rw [h4 r hr hrn]
        refine mK _ _ _ _ _ h1 (h.item r ?_)
        rcases hr0 with h0 | h0
        · exact .inl h0
        · rcases Nat.lt_or_ge r m0 with h' | h'
          · exact .inl h'
          · refine .inr ?_
            simp only [Bool.or_eq_true] at h0
            rcases h0 with h0 | h0
            · exact h0
            · have := Nat.eq_of_beq_eq_true h0; omega
  · intro j x hx
    by_cases e : j = i
    · subst e; rw [if_pos rfl]; exact h7 x hx
    · rw [if_neg e]
      by_cases hr : (R.wr (m0 + j)).contains i = true
      · obtain ⟨y, hy, ht⟩ := (h5 _ hr).2 (by omega) x hx
        rw [← ht]; exact h.tag j y hy
      · have hr : (R.wr (m0 + j)).contains i = false := by simpa using hr
        rw [h4 _ hr (by omega)] at hx
        exact h.tag j x hx
  · intro r hr hs
    have hs' := Bool.or_eq_false_iff.1 hs
    have hne : r ≠ m0 + i := by
      rintro rfl
      rw [Nat.add_sub_cancel_left, Nat.beq_refl] at hs'
      cases hs'.2
    by_cases hc : (R.wr r).contains i = true
    · cases hx : it' r with
      | none => rfl
      | some x =>
        obtain ⟨y, hy, _⟩ := (h5 r hc).2 hr x hx
        rw [hnew r hr hs'.1] at hy; cases hy
    · have hc : (R.wr r).contains i = false := by simpa using hc
      rw [h4 r hc hne]; exact hnew r hr hs'.1

def goL (ops : Array Oper) : Nat → Nat → Array Bool → List Nat
  | 0, _, _ => []
  | fuel + 1, t, listed =>
    let rs := (List.range ops.size).filter fun i => !listed.getD i true && ((ops[i]?).map (·.after.all fun e => !Region.binds .any e || listed.getD e.on false)).getD false
    match rs[t % rs.length]? with
    | some i => i :: goL ops fuel (t / rs.length) (listed.setIfInBounds i true)
    | none => []

theorem goL_eq (ops : Array Oper) : ∀ (fuel t : Nat) (listed : Array Bool) (acc : List Nat), Region.linearise.go .any ops fuel t listed acc = acc.reverse ++ goL ops fuel t listed
  | 0, t, listed, acc => by simp [Region.linearise.go, goL]
  | fuel + 1, t, listed, acc => by
    simp only [Region.linearise.go, goL]
    generalize hrs : (List.filter _ (List.range ops.size)) = rs
    generalize rs[t % rs.length]? = x
    cases x with
    | none => simp
    | some i => simp only [goL_eq]; simp

/-- What is there behind the region. -/
structure REnd (c : Cx) (ops : List Oper) (l : List (Nat × Value)) (M : Heap) (m0 : Nat) (R : RPlan) (a : Act) (w : World) (M' : Heap) (it : Nat → Option Item) (tg : Nat → Value) : Prop where
  st : St c.X c.M0 c.w0 M' it w
  le : HLe M M'
  df : a.defers = []
  sz : a.tmps.size = c.n
  base : ∀ t v, lk t l = some v → (ops.all fun o => match o.dst with | some t' => !Nat.beq t t' | none => true) = true → a.tmps.getD t undef = v
  val : ∀ i o t, ops[i]? = some o → o.dst = some t → R.A i (a.tmps.getD t undef) M' (restr ops i tg)
  item : ∀ r, r < m0 ∨ r - m0 < ops.length → R.K r (R.wr r).length (it r) M'
  tag : ∀ j x, it (m0 + j) = some x → x.tag = tg j

theorem countP_set_false : ∀ (l : List Bool) (i : Nat), l[i]? = some false → (l.set i true).countP (fun b => !b) + 1 = l.countP (fun b => !b)
  | [], i, h => by simp at h
  | x :: l, 0, h => by simp at h; subst h; simp
  | x :: l, i + 1, h => by
    have := countP_set_false l i (by simpa using h)
    simp only [List.set_cons_succ, List.countP_cons]
    omega

/-- The region, in whatever order. -/
theorem c_draw {id : Nat} {Q : Exit → Act → World → Prop} {L : List Item} (R : RPlan) (hm : c.P.follows .mixedOrders = true) (hL : L.length = m0)
    (hback : backward ops = true) (hdst : dstsOk ops = true) (hwr : ∀ r, (R.wr r).Nodup) (hwl : ∀ r i, i ∈ R.wr r → i < ops.length) (hwn : ∀ i j, (R.wr (m0 + i)).contains j = true → de ops j i = true)
    (hsort : ∀ r i, (R.wr r).contains i = true → sorted ops (R.wr r) i = true)
    (mA : ∀ i v M M' tg, HLe M M' → R.A i v M tg → R.A i v M' tg) (mK : ∀ r k x M M', HLe M M' → R.K r k x M → R.K r k x M')
    (hK0 : ∀ r, r < m0 → R.K r 0 (lt L r) M)
    (hnd : ops.all (fun o => match o.dst with | some d => Nat.blt d c.n | none => true) = true)
    (hop : ∀ i o, ops[i]? = some o → ∀ a w M' it tg, RPre c ops l M m0 R i a w M' it tg →
      (Region.wanted o (yielded ops.toArray a.tmps) = true ∧ OpOK c.P o a w (RPost c ops m0 R i M' it tg)) ∨
      (Region.wanted o (yielded ops.toArray a.tmps) = false ∧ RPost c ops m0 R i M' it tg undef w))
    (hend : ∀ a w M' it tg, REnd c ops l M m0 R a w M' it tg → Q .normal a w) : c.C (.region id ops.toArray true) Q l M L := by
  intro a w hf hs
  refine wp_region_draw fun t => ?_
  have hsch : Region.schedule (c.P.follows .mixedOrders) ops.toArray t = goL ops.toArray ops.length t (Array.replicate ops.length false) := by
    unfold Region.schedule
    rw [hm, Bool.true_or, if_pos rfl]
    unfold Region.linearise
    rw [goL_eq]; simp
  rw [hsch]
  let Sof : Array Bool → Nat → Bool := fun x i => x.getD i false
  have done : ∀ (S : Nat → Bool) (a : Act) (w : World), (∀ i, i < ops.length → S i = true) →
      (∃ M' it tg, RInv c ops l M m0 R S a w M' it tg ∧ ∀ r, m0 ≤ r → S (r - m0) = false → it r = none) → Q .normal a w := by
    rintro S a w hall ⟨M', it, tg, h, hn⟩
    refine hend a w M' it tg ⟨h.st, h.le, h.df, h.sz, ?_, ?_, ?_, h.tag⟩
    · intro t v hv hx
      refine h.base t v hv fun i o ho _ e => ?_
      have := List.all_eq_true.1 hx o (List.mem_of_getElem? ho)
      simp [e, Nat.beq_refl] at this
    · intro i o t ho ht
      exact h.val i o t ho (hall i (List.getElem?_eq_some_iff.1 ho).1) ht
    · intro r hr
      have e : (R.wr r).countP S = (R.wr r).length := by
        rw [List.countP_eq_length]
        exact fun i hi => hall i (hwl r i hi)
      rw [← e]
      exact h.item r (hr.imp (fun h => h) fun h' => hall _ h')
  have key : ∀ (fuel t : Nat) (listed : Array Bool) (a : Act) (w : World), listed.size = ops.length → Closed ops (Sof listed) → (listed.toList.countP (fun b => !b) ≤ fuel) →
      (∃ M' it tg, RInv c ops l M m0 R (Sof listed) a w M' it tg ∧ ∀ r, m0 ≤ r → Sof listed (r - m0) = false → it r = none) → wpOps c.P ops.toArray Q (goL ops.toArray fuel t listed) a w := by
    intro fuel
    induction fuel with
    | zero =>
      intro t listed a w hsz hcl hcnt hinv
      simp only [goL, wpOps]
      refine done (Sof listed) a w ?_ hinv
      intro i hi
      have h0 : listed.toList.countP (fun b => !b) = 0 := by omega
      rw [List.countP_eq_zero] at h0
      have hi' : i < listed.toList.length := by simpa [hsz] using hi
      have := h0 (listed.toList[i]) (List.getElem_mem hi')
      show listed.getD i false = true
      simp [Array.getD_eq_getD_getElem?, show i < listed.size by omega] at this ⊢
      exact this
    | succ fuel ih =>
      intro t listed a w hsz hcl hcnt hinv
      simp only [goL]
      generalize hrs : (List.filter _ (List.range ops.toArray.size)) = rs
      by_cases hemp : rs = []
      · subst hemp
        simp only [List.length_nil, List.getElem?_nil, wpOps]
        refine done (Sof listed) a w ?_ hinv
        intro i
        induction i using Nat.strongRecOn with
        | _ i ihi =>
          intro hi
          cases hl : Sof listed i with
          | true => rfl
          | false =>
            exfalso
            have hmem : i ∈ (List.filter (fun i => !listed.getD i true && ((ops.toArray[i]?).map (·.after.all fun e => !Region.binds .any e || listed.getD e.on false)).getD false) (List.range ops.toArray.size)) := by
              rw [List.mem_filter]
              refine ⟨by simpa using hi, ?_⟩
              have ho : ops[i]? = some ops[i] := List.getElem?_eq_getElem hi
              have hlt : i < listed.size := by omega
              have e1 : listed.getD i true = false := by
                have : listed.getD i false = false := hl
                simp [Array.getD_eq_getD_getElem?, hlt] at this ⊢
                exact this
              simp only [e1, Bool.not_false, Bool.true_and, List.getElem?_toArray, ho, Option.map_some, Option.getD_some]
              rw [Array.all_eq_true_iff_forall_mem]
              intro e he
              have hb := List.all_eq_true.1 hback (ops[i], i) (mem_zip ho)
              have hb := (Array.all_eq_true_iff_forall_mem.1 hb) e he
              simp only [Bool.or_eq_true] at hb ⊢
              rcases hb with hb | hb
              · exact .inl hb
              · have hb : e.on < i := by simpa [Nat.blt_eq] using hb
                exact .inr (ihi e.on hb (by omega))
            rw [hrs] at hmem
            exact absurd hmem (by simp)
      · have hpos : 0 < rs.length := List.length_pos_iff.2 hemp
        have hlt : t % rs.length < rs.length := Nat.mod_lt _ hpos
        rw [List.getElem?_eq_getElem hlt]
        have hi : rs[t % rs.length] ∈ rs := List.getElem_mem hlt
        generalize rs[t % rs.length] = i at hi
        rw [← hrs, List.mem_filter] at hi
        obtain ⟨hi1, hi2⟩ := hi
        have hil : i < ops.length := by simpa using hi1
        have ho : ops[i]? = some ops[i] := List.getElem?_eq_getElem hil
        have hls : i < listed.size := by omega
        simp only [Bool.and_eq_true, List.getElem?_toArray, ho, Option.map_some, Option.getD_some] at hi2
        obtain ⟨hi2, hi3⟩ := hi2
        have hSi : Sof listed i = false := by
          show listed.getD i false = false
          simp [Array.getD_eq_getD_getElem?, hls] at hi2 ⊢
          exact hi2
        have hd : ∀ j, de ops i j = true → Sof listed j = true := by
          intro j hj
          unfold de at hj
          rw [ho] at hj
          obtain ⟨e, he, hj⟩ := List.any_eq_true.1 hj
          have := (Array.all_eq_true_iff_forall_mem.1 hi3) e (Array.mem_toList_iff.1 he)
          simp only [Bool.and_eq_true, Bool.or_eq_true] at hj this
          have hon := Nat.eq_of_beq_eq_true hj.2
          rw [hj.1] at this
          simp at this
          rw [← hon]
          show listed.getD e.on false = true
          simpa [Array.getD_eq_getD_getElem?] using this
        obtain ⟨M', it, tg, hinv, hnew⟩ := hinv
        have hpre := hinv.pre hcl hnew hSi hd
        have hS' : ∀ j, Sof (listed.setIfInBounds i true) j = (Sof listed j || Nat.beq j i) := by
          intro j
          show (listed.setIfInBounds i true).getD j false = (listed.getD j false || Nat.beq j i)
          simp only [Array.getD_eq_getD_getElem?]
          by_cases e : j = i
          · subst e; simp [hls, Nat.beq_refl]
          · have : Nat.beq j i = false := by
              cases hh : Nat.beq j i with
              | false => rfl
              | true => exact absurd (Nat.eq_of_beq_eq_true hh) e
            rw [Array.getElem?_setIfInBounds_ne (by omega), this, Bool.or_false]
        have hcl' : Closed ops (Sof (listed.setIfInBounds i true)) := by
          intro j k hj hjk
          rw [hS'] at hj ⊢
          simp only [Bool.or_eq_true] at hj ⊢
          rcases hj with hj | hj
          · exact .inl (hcl j k hj hjk)
          · have := Nat.eq_of_beq_eq_true hj; subst this; exact .inl (hd k hjk)
        have hcnt' : (listed.setIfInBounds i true).toList.countP (fun b => !b) ≤ fuel := by
          have hll : i < listed.toList.length := by simpa using hls
          have hget : listed.toList[i] = false := by
            have : listed.getD i false = false := hSi
            simpa [Array.getD_eq_getD_getElem?, hls] using this
          have h1 : (listed.toList.set i true).countP (fun b => !b) + 1 = listed.toList.countP (fun b => !b) := by
            exact countP_set_false _ _ (by rw [List.getElem?_eq_getElem hll, hget])
          have h2 : (listed.setIfInBounds i true).toList = listed.toList.set i true := by simp
          rw [h2]; omega
        have hnd' : ∀ d, (ops[i]).dst = some d → Nat.blt d c.n = true := by
          intro d e
          have := List.all_eq_true.1 hnd (ops[i]) (List.getElem_mem hil)
          simpa [e] using this
        have next : ∀ v w', RPost c ops m0 R i M' it tg v w' → wpOps c.P ops.toArray Q (goL ops.toArray fuel (t / rs.length) (listed.setIfInBounds i true)) (Act.put a (ops[i]).dst v) w' := by
          intro v w' hp
          obtain ⟨M'', it', tg', h1, h2⟩ := hinv.step hcl hnew mA mK hdst hwr hwl hwn (fun r => hsort r i) hSi ho hd hnd' hp
          have hfun : Sof (listed.setIfInBounds i true) = fun j => Sof listed j || Nat.beq j i := funext hS'
          refine ih _ _ _ _ (by simpa using hsz) hcl' hcnt' ⟨M'', it', tg', ?_, ?_⟩
          · rw [hfun]; exact h1
          · intro r hr hs; rw [hS'] at hs; exact h2 r hr hs
        simp only [wpOps, List.getElem?_toArray, ho]
        rcases hop i _ ho a w M' it tg hpre with ⟨hw, hok⟩ | ⟨hw, hp⟩
        · rw [if_pos hw]
          exact .inl (hok _ _ next)
        · rw [if_neg (by rw [hw]; exact Bool.false_ne_true)]
          exact next undef w hp
  refine key ops.length t (Array.replicate ops.length false) a _ (by simp) ?_ ?_ ⟨M, lt L, fun _ => undef, ⟨?_, HLe.refl _, hf.df, hf.sz, ?_, ?_, ?_, ?_⟩, ?_⟩
  · intro i j hi
    have : Sof (Array.replicate ops.length false) i = false := by
      show (Array.replicate ops.length false).getD i false = false
      simp only [Array.getD_eq_getD_getElem?, Array.getElem?_replicate]; split <;> rfl
    rw [this] at hi; cases hi
  · refine Nat.le_trans (List.countP_le_length) ?_
    simp
  · exact hs.drew
  · intro t v hv _; exact hf.get t v hv
  · intro i o t _ hi
    have : Sof (Array.replicate ops.length false) i = false := by
      show (Array.replicate ops.length false).getD i false = false
      simp only [Array.getD_eq_getD_getElem?, Array.getElem?_replicate]; split <;> rfl
    rw [this] at hi; cases hi
  · intro r hr
    have hz : ∀ i, Sof (Array.replicate ops.length false) i = false := by
      intro i
      show (Array.replicate ops.length false).getD i false = false
      simp only [Array.getD_eq_getD_getElem?, Array.getElem?_replicate]; split <;> rfl
    have e : (R.wr r).countP (Sof (Array.replicate ops.length false)) = 0 := by
      rw [List.countP_eq_zero]; intro i _; rw [hz]; simp
    rw [e]
    rcases hr with hr | hr
    · exact hK0 r hr
    · rw [hz] at hr; cases hr
  · intro j x hx
    unfold lt at hx
    rw [List.getElem?_eq_none (by omega)] at hx; cases hx
  · intro r hr _
    unfold lt
    exact List.getElem?_eq_none (by omega)
end
end Go.Cu
