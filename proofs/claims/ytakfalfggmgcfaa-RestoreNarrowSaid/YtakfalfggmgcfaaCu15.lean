/- Rules for walks over facts, for any program; no condition. -/
import Derived.Test.YtakfalfggmgcfaaCu14
set_option linter.unusedSimpArgs false
set_option linter.unusedVariables false
/-! Regions whose order is open and that write items. -/
namespace Go.Cu

structure RowW where
  vals : List (Nat × Nat)
  base : List Nat
  reads : List (Nat × Nat)
  wr : Option (Nat × Nat)

def chkW1 (ops : List Oper) (wss : List (List Nat)) (i : Nat) (e : RowW) : Bool :=
  (e.vals.all fun (j, t) => de ops i j && (match (ops[j]?).bind (·.dst) with | some t' => Nat.beq t t' | none => false)) && (e.base.all fun t => clean ops i t) &&
  (e.reads.all fun (r, k) => match wss[r]? with | some ws => sorted ops ws i && Nat.beq (ws.countP (de ops i)) k | none => false) &&
  (match e.wr with | none => wss.all fun ws => !ws.contains i | some (r, k) => (wss.zipIdx.all fun (ws, r') => ws.contains i == Nat.beq r r') &&
    (match wss[r]? with | some ws => sorted ops ws i && Nat.beq (ws.countP (de ops i)) k | none => false))
def nodupB : List Nat → Bool
  | [] => true
  | x :: xs => !xs.contains x && nodupB xs
theorem nodupB.nodup : ∀ {l : List Nat}, nodupB l = true → l.Nodup
  | [], _ => List.nodup_nil
  | x :: xs, h => by
    simp only [nodupB, Bool.and_eq_true, Bool.not_eq_true'] at h
    refine List.nodup_cons.2 ⟨?_, nodupB.nodup h.2⟩
    intro hx
    rw [List.contains_iff_mem.2 hx] at h
    simp at h
def chkW (n : Nat) (ops : List Oper) (wss : List (List Nat)) (T : List RowW) : Bool :=
  backward ops && dstsOk ops && (ops.all fun o => match o.dst with | some d => Nat.blt d n | none => true) && (T.zipIdx.all fun (e, i) => chkW1 ops wss i e) &&
  (wss.all fun ws => nodupB ws && ws.all fun i => Nat.blt i ops.length) && Nat.beq T.length ops.length

def MonoK : List (List (Item → Heap → Prop)) → Prop
  | [] => True
  | ps :: Ps => (∀ p, p ∈ ps → ∀ y M M', HLe M M' → p y M → p y M') ∧ MonoK Ps
theorem MonoK.get : ∀ {Ps : List (List (Item → Heap → Prop))}, MonoK Ps → ∀ {r : Nat} {ps : List (Item → Heap → Prop)}, Ps[r]? = some ps → ∀ p, p ∈ ps → ∀ y M M', HLe M M' → p y M → p y M'
  | [], _, r, ps, h => by simp at h
  | _ :: _, h, 0, ps, hr => by simp at hr; subst hr; exact h.1
  | _ :: _, h, r + 1, ps, hr => MonoK.get h.2 (by simpa using hr)
def All0 (M : Heap) : List (List (Item → Heap → Prop)) → List Item → Prop
  | [], [] => True
  | ps :: Ps, y :: L => (∀ p, ps[0]? = some p → p y M) ∧ All0 M Ps L
  | _, _ => False
theorem All0.get {M : Heap} : ∀ {Ps : List (List (Item → Heap → Prop))} {L : List Item}, All0 M Ps L → Ps.length = L.length ∧ ∀ (r : Nat) (ps : List (Item → Heap → Prop)) (y : Item), Ps[r]? = some ps → L[r]? = some y → ∀ (p : Item → Heap → Prop), ps[0]? = some p → p y M
  | [], [], _ => ⟨rfl, by simp⟩
  | ps :: Ps, y :: L, h => by
    obtain ⟨h1, h2⟩ := h.2.get
    refine ⟨by simp [h1], ?_⟩
    intro r ps' y' hr hy
    cases r with
    | zero => simp at hr hy; subst hr hy; exact h.1
    | succ r => exact h2 r ps' y' (by simpa using hr) (by simpa using hy)
  | [], _ :: _, h => h.elim
  | _ :: _, [], h => h.elim

structure WPre (c : Cx) (l : List (Nat × Value)) (As : List (Value → Heap → Prop)) (Ps : List (List (Item → Heap → Prop))) (e : RowW) (a : Act) (M' : Heap) (L' : List Item) : Prop where
  df : a.defers = []
  sz : a.tmps.size = c.n
  base : ∀ t v, lk t l = some v → e.base.contains t = true → a.tmps.getD t undef = v
  val : ∀ j t p, e.vals.contains (j, t) = true → As[j]? = some p → p (a.tmps.getD t undef) M'
  item : ∀ (r k : Nat) (p : Item → Heap → Prop), e.reads.contains (r, k) = true → (Ps[r]?).bind (fun ps => ps[k]?) = some p → ∃ y, L'[r]? = some y ∧ p y M'
theorem WPre.fr {c : Cx} {l : List (Nat × Value)} {As : List (Value → Heap → Prop)} {Ps : List (List (Item → Heap → Prop))} {e : RowW} {a : Act} {M' : Heap} {L' : List Item} (h : WPre c l As Ps e a M' L') : Fr c.n [] a := ⟨h.df, h.sz, by simp [lk]⟩

/-- What a writer leaves, or that nothing is written. -/
def WPost (Ps : List (List (Item → Heap → Prop))) (e : RowW) (M'' : Heap) (L' L'' : List Item) : Prop :=
  match e.wr with
  | none => L'' = L'
  | some (r, k) => ∃ y, L'' = L'.set r y ∧ ∀ p, (Ps[r]?).bind (fun ps => ps[k + 1]?) = some p → p y M''

def AllW (f : Nat → RowW → Oper → Prop) : Nat → List RowW → List Oper → Prop
  | _, _, [] => True
  | _, [], _ :: _ => False
  | i, e :: T, o :: ops => f i e o ∧ AllW f (i + 1) T ops
theorem AllW.get {f : Nat → RowW → Oper → Prop} : ∀ {k : Nat} {T : List RowW} {ops : List Oper}, AllW f k T ops → ∀ {i : Nat} {o : Oper}, ops[i]? = some o → ∃ e, T[i]? = some e ∧ f (k + i) e o
  | _, _, [], _, i, o, h => by simp at h
  | _, [], _ :: _, h, _, _, _ => h.elim
  | k, e :: T, o :: ops, h, 0, o', ho => by simp at ho; subst ho; exact ⟨e, by simp, h.1⟩
  | k, e :: T, o :: ops, h, i + 1, o', ho => by
    obtain ⟨e', h1, h2⟩ := AllW.get h.2 (i := i) (by simpa using ho)
    exact ⟨e', by simpa using h1, by rw [show k + (i + 1) = k + 1 + i by omega]; exact h2⟩
theorem AllW.nil {f : Nat → RowW → Oper → Prop} {i : Nat} {T : List RowW} : AllW f i T [] := by unfold AllW; trivial
theorem AllW.cons {f : Nat → RowW → Oper → Prop} {i : Nat} {e : RowW} {T : List RowW} {o : Oper} {ops : List Oper} (h : f i e o) (t : AllW f (i + 1) T ops) : AllW f i (e :: T) (o :: ops) := ⟨h, t⟩

section
variable {c : Cx} {ops : List Oper} {l : List (Nat × Value)} {M : Heap}
theorem c_drawW {id : Nat} {Q : Exit → Act → World → Prop} {L : List Item} (wss : List (List Nat)) (T : List RowW) (As : List (Value → Heap → Prop)) (Ps : List (List (Item → Heap → Prop)))
    (hm : c.P.follows .mixedOrders = true) (hck : chkW c.n ops wss T = true) (mA : MonoA As) (mK : MonoK Ps) (hwl : wss.length = Ps.length) (hK0 : All0 M Ps L)
    (hop : AllW (fun i e o => ∀ a w M' L', HLe M M' → L'.length = L.length → WPre c l As Ps e a M' L' → St c.X c.M0 c.w0 M' (lt L') w →
      OP c ops.toArray o a w fun v w' => ∃ M'' L'', HLe M' M'' ∧ St c.X c.M0 c.w0 M'' (lt L'') w' ∧ tA As i v M'' ∧ WPost Ps e M'' L' L'') 0 T ops)
    (hend : ∀ a w M' L', HLe M M' → L'.length = L.length → a.defers = [] → a.tmps.size = c.n →
      (∀ t v, lk t l = some v → (ops.all fun o => match o.dst with | some t' => !Nat.beq t t' | none => true) = true → a.tmps.getD t undef = v) →
      (∀ (i t : Nat) (p : Value → Heap → Prop), (ops[i]?).bind (fun o => o.dst) = some t → As[i]? = some p → p (a.tmps.getD t undef) M') →
      (∀ (r : Nat) (p : Item → Heap → Prop), (wss[r]?).bind (fun ws => (Ps[r]?).bind fun ps => ps[ws.length]?) = some p → ∃ y, L'[r]? = some y ∧ p y M') →
      St c.X c.M0 c.w0 M' (lt L') w → Q .normal a w) : c.C (.region id ops.toArray true) Q l M L := by
  unfold chkW at hck
  simp only [Bool.and_eq_true] at hck
  obtain ⟨⟨⟨⟨⟨h1, h2⟩, h3⟩, h4⟩, h5⟩, h6⟩ := hck
  obtain ⟨hPL, hK0'⟩ := hK0.get
  let K : Nat → Nat → Option Item → Heap → Prop := fun r k x M => match Ps[r]? with | some ps => ∃ y, x = some y ∧ ∀ p, ps[k]? = some p → p y M | none => x = none
  let WR : Nat → List Nat := fun r => (wss[r]?).getD []
  have Kge : ∀ {r k x M}, L.length ≤ r → K r k x M → x = none := by
    intro r k x M hr h
    have : Ps[r]? = none := List.getElem?_eq_none (by omega)
    simpa only [K, this] using h
  have Klt : ∀ {r k x M}, r < L.length → K r k x M → ∃ y, x = some y := by
    intro r k x M hr h
    have : Ps[r]? = some Ps[r] := List.getElem?_eq_getElem (by omega)
    simp only [K, this] at h
    exact ⟨_, h.choose_spec.1⟩
  have WRge : ∀ {r}, L.length ≤ r → WR r = [] := by
    intro r hr
    have : wss[r]? = none := List.getElem?_eq_none (by omega)
    simp [WR, this]
  have mem5 : ∀ {r}, nodupB (WR r) = true ∧ ∀ i ∈ WR r, i < ops.length := by
    intro r
    by_cases hr : r < wss.length
    · have := List.all_eq_true.1 h5 wss[r] (List.getElem_mem hr)
      simp only [Bool.and_eq_true, List.all_eq_true] at this
      have e : WR r = wss[r] := by simp [WR, hr]
      rw [e]
      exact ⟨this.1, fun i hi => by simpa [Nat.blt_eq] using this.2 i hi⟩
    · have e : WR r = [] := by simp [WR, show wss.length ≤ r by omega]
      rw [e]; exact ⟨rfl, by simp⟩
  have wrOf : ∀ {i : Nat} {e : RowW}, T[i]? = some e → ∀ {r}, (WR r).contains i = true → ∃ k, e.wr = some (r, k) ∧ sorted ops (WR r) i = true ∧ (WR r).countP (de ops i) = k ∧ r < L.length := by
    intro i e he r hr
    have hrl : r < wss.length := by
      rcases Nat.lt_or_ge r wss.length with h | h
      · exact h
      · rw [WRge (by omega)] at hr; simp at hr
    have eW : WR r = wss[r] := by simp [WR, hrl]
    have hc := List.all_eq_true.1 h4 (e, i) (by rw [List.mem_zipIdx_iff_getElem?]; exact he)
    unfold chkW1 at hc
    simp only [Bool.and_eq_true] at hc
    have hw := hc.2
    cases hwr : e.wr with
    | none =>
      rw [hwr] at hw
      have := List.all_eq_true.1 hw wss[r] (List.getElem_mem hrl)
      rw [eW] at hr; rw [hr] at this; simp at this
    | some rk =>
      obtain ⟨r', k⟩ := rk
      rw [hwr] at hw
      simp only [Bool.and_eq_true] at hw
      have := List.all_eq_true.1 hw.1 (wss[r], r) (by rw [List.mem_zipIdx_iff_getElem?]; exact List.getElem?_eq_getElem hrl)
      rw [eW] at hr
      simp only [hr] at this
      have e1 : r' = r := Nat.eq_of_beq_eq_true (by simpa using this)
      subst e1
      have h2 := hw.2
      rw [List.getElem?_eq_getElem hrl] at h2
      simp only [Bool.and_eq_true] at h2
      rw [eW]
      exact ⟨k, rfl, h2.1, Nat.eq_of_beq_eq_true h2.2, by omega⟩
  have notOf : ∀ {i : Nat} {e : RowW}, T[i]? = some e → ∀ {r k}, e.wr = some (r, k) → (WR r).contains i = true ∧ r < L.length := by
    intro i e he r k hwr
    have hc := List.all_eq_true.1 h4 (e, i) (by rw [List.mem_zipIdx_iff_getElem?]; exact he)
    unfold chkW1 at hc
    simp only [Bool.and_eq_true] at hc
    have hw := hc.2
    rw [hwr] at hw
    simp only [Bool.and_eq_true] at hw
    have hrl : r < wss.length := by
      rcases Nat.lt_or_ge r wss.length with h | h
      · exact h
      · have := hw.2; rw [List.getElem?_eq_none h] at this; simp at this
    have := List.all_eq_true.1 hw.1 (wss[r], r) (by rw [List.mem_zipIdx_iff_getElem?]; exact List.getElem?_eq_getElem hrl)
    simp only [Nat.beq_refl] at this
    have eW : WR r = wss[r] := by simp [WR, hrl]
    rw [eW]
    exact ⟨by simpa using this, by omega⟩
  have hTl : T.length = ops.length := Nat.eq_of_beq_eq_true h6
  refine c_draw (m0 := L.length) ⟨fun i v M _ => tA As i v M, K, WR⟩ hm rfl h1 h2 (fun r => nodupB.nodup mem5.1) (fun r i hi => mem5.2 i hi) (fun i j h => ?_) (fun r i hi => ?_)
    (fun i v M M' _ hM h => mA.get hM h) (fun r k x M1 M2 hM h => ?_) (fun r hr => ?_) h3 ?_ ?_
  · have : WR (L.length + i) = [] := WRge (by omega)
    rw [show (RPlan.wr ⟨fun i v M _ => tA As i v M, K, WR⟩) = WR from rfl, this] at h
    simp at h
  · have hil := mem5.2 i (List.contains_iff_mem.1 hi)
    obtain ⟨k, _, h, _⟩ := wrOf (List.getElem?_eq_getElem (show i < T.length by omega)) hi
    exact h
  · show K r k x M2
    have h : K r k x M1 := h
    simp only [K] at h ⊢
    cases hp : Ps[r]? with
    | none => rw [hp] at h; exact h
    | some ps =>
      rw [hp] at h
      obtain ⟨y, e, hy⟩ := h
      exact ⟨y, e, fun p hpp => mK.get hp p (List.mem_of_getElem? hpp) y M1 M2 hM (hy p hpp)⟩
  · show K r 0 (lt L r) M
    have e1 : Ps[r]? = some Ps[r] := List.getElem?_eq_getElem (by omega)
    have e2 : L[r]? = some L[r] := List.getElem?_eq_getElem hr
    simp only [K, e1]
    exact ⟨L[r], e2, hK0' r _ _ e1 e2⟩
  · intro i o ho a w M' it tg hp
    obtain ⟨e, he, hf⟩ := hop.get ho
    rw [Nat.zero_add] at hf
    have hc := List.all_eq_true.1 h4 (e, i) (by rw [List.mem_zipIdx_iff_getElem?]; exact he)
    unfold chkW1 at hc
    simp only [Bool.and_eq_true] at hc
    have hit : it = lt ((List.range L.length).map fun r => (it r).getD dead) := by
      funext r
      unfold lt
      by_cases hr : r < L.length
      · obtain ⟨y, hy⟩ := hp.isSome r hr fun k x M h => Klt hr h
        simp [hr, hy]
      · rw [List.getElem?_eq_none (by simp; omega)]
        exact hp.fin r (by omega) fun k x M h => Kge (by omega) h
    generalize hL' : ((List.range L.length).map fun r => (it r).getD dead) = L' at hit
    have hLl : L'.length = L.length := by rw [← hL']; simp
    subst hit
    have hd : WPre c l As Ps e a M' L' := by
      refine ⟨hp.df, hp.sz, ?_, ?_, ?_⟩
      · intro t v hv ht
        exact hp.base t v hv (List.all_eq_true.1 hc.1.1.2 t (List.contains_iff_mem.1 ht))
      · intro j t p ht hp'
        have := List.all_eq_true.1 hc.1.1.1 (j, t) (List.contains_iff_mem.1 ht)
        simp only [Bool.and_eq_true] at this
        cases ho' : ops[j]? with
        | none => rw [ho'] at this; simp at this
        | some o' =>
          rw [ho'] at this
          cases hdst : o'.dst with
          | none => simp [hdst] at this
          | some t' =>
            simp only [Option.bind_some, hdst] at this
            have e2 := Nat.eq_of_beq_eq_true this.2
            subst e2
            have := hp.val j o' t ho' hdst this.1
            simpa [tA, hp'] using this
      · intro r k p hr hpp
        have := List.all_eq_true.1 hc.1.2 (r, k) (List.contains_iff_mem.1 hr)
        cases hw : wss[r]? with
        | none => simp [hw] at this
        | some ws =>
          simp only [hw, Bool.and_eq_true] at this
          have eW : WR r = ws := by simp [WR, hw]
          have hrl : r < wss.length := (List.getElem?_eq_some_iff.1 hw).1
          have h := hp.item r (.inl (by omega)) (show sorted ops (WR r) i = true by rw [eW]; exact this.1)
          have h : K r ((WR r).countP (de ops i)) (lt L' r) M' := h
          rw [eW, Nat.eq_of_beq_eq_true this.2] at h
          cases hps : Ps[r]? with
          | none => simp [hps] at hpp
          | some ps =>
            simp only [hps, Option.bind_some] at hpp
            simp only [K, hps] at h
            obtain ⟨y, e1, e2⟩ := h
            exact ⟨y, e1, e2 p hpp⟩
    have hr := hf a w M' L' hp.le hLl hd hp.st
    have post : ∀ v w', (∃ M'' L'', HLe M' M'' ∧ St c.X c.M0 c.w0 M'' (lt L'') w' ∧ tA As i v M'' ∧ WPost Ps e M'' L' L'') →
        RPost c ops L.length ⟨fun i v M _ => tA As i v M, K, WR⟩ i M' (lt L') tg v w' := by
      rintro v w' ⟨M'', L'', q1, q2, q3, q4⟩
      unfold WPost at q4
      have hnone : ∀ (L2 : List Item), L2.length = L.length → lt L2 (L.length + i) = none := fun L2 h => List.getElem?_eq_none (by omega)
      have hKn : ∀ (L2 : List Item), L2.length = L.length → K (L.length + i) 0 (lt L2 (L.length + i)) M'' := by
        intro L2 h
        have : Ps[L.length + i]? = none := List.getElem?_eq_none (by omega)
        simp only [K, this]
        exact hnone L2 h
      cases hwr : e.wr with
      | none =>
        rw [hwr] at q4
        subst q4
        refine ⟨M'', lt L'', undef, q1, q2, q3, fun _ _ _ => rfl, fun r hr => ?_, hKn _ hLl, ?_⟩
        · obtain ⟨k, hk, _⟩ := wrOf he hr
          rw [hwr] at hk; cases hk
        · intro x hx
          rw [hnone _ hLl] at hx; cases hx
      | some rk =>
        obtain ⟨r0, k⟩ := rk
        rw [hwr] at q4
        obtain ⟨y, g3, g4⟩ := q4
        subst g3
        have hl2 : (L'.set r0 y).length = L.length := by simp [hLl]
        obtain ⟨hin, hr0⟩ := notOf he hwr
        refine ⟨M'', lt (L'.set r0 y), undef, q1, q2, q3, fun r hr _ => ?_, fun r hr => ?_, hKn _ hl2, ?_⟩
        · have : r0 ≠ r := by
            rintro rfl
            rw [show (RPlan.wr ⟨fun i v M _ => tA As i v M, K, WR⟩) r0 = WR r0 from rfl, hin] at hr
            cases hr
          unfold lt
          rw [List.getElem?_set_ne this]
        · obtain ⟨k', hk', _, hcount, _⟩ := wrOf he hr
          rw [hwr] at hk'
          injection hk' with hk'
          injection hk' with e1 e2
          subst e1 e2
          have hset : lt (L'.set r0 y) r0 = some y := by
            unfold lt
            rw [List.getElem?_set_self (by omega)]
          refine ⟨?_, ?_⟩
          · show K r0 ((WR r0).countP (de ops i) + 1) (lt (L'.set r0 y) r0) M''
            rw [hcount, hset]
            have e1 : Ps[r0]? = some Ps[r0] := List.getElem?_eq_getElem (by omega)
            simp only [K, e1]
            refine ⟨y, rfl, fun p hpp => g4 p ?_⟩
            rw [e1]; exact hpp
          · intro hge
            omega
        · intro x hx
          rw [hnone _ hl2] at hx; cases hx
    rcases hr with ⟨q1, q2⟩ | ⟨q1, q2⟩
    · exact .inl ⟨q1, fun next Q hn => q2 next Q fun v w' h => hn v w' (post v w' h)⟩
    · exact .inr ⟨q1, post _ _ q2⟩
  · intro a w M' it tg he
    have key : ∀ r, r < L.length → ∃ y, it r = some y := fun r hr => Klt hr (he.item r (.inl hr))
    have hlt : ∀ r, r < L.length → lt ((List.range L.length).map fun r => (it r).getD dead) r = it r := by
      intro r hr
      obtain ⟨y, hy⟩ := key r hr
      unfold lt
      simp [hr, hy]
    refine hend a w M' ((List.range L.length).map fun r => (it r).getD dead) he.le (by simp) he.df he.sz he.base ?_ ?_ (he.st.less ?_)
    · intro i t p ht hp
      cases ho' : ops[i]? with
      | none => rw [ho'] at ht; simp at ht
      | some o' =>
        rw [ho'] at ht
        have := he.val i o' t ho' (by simpa using ht)
        simpa [tA, hp] using this
    · intro r p hpp
      cases hw : wss[r]? with
      | none => simp [hw] at hpp
      | some ws =>
        have hrl : r < wss.length := (List.getElem?_eq_some_iff.1 hw).1
        cases hps : Ps[r]? with
        | none => simp [hw, hps] at hpp
        | some ps =>
          simp only [hw, hps, Option.bind_some] at hpp
          have h := he.item r (.inl (by omega))
          have h : K r (WR r).length (it r) M' := h
          have eW : WR r = ws := by simp [WR, hw]
          rw [eW] at h
          simp only [K, hps] at h
          obtain ⟨y, e1, e2⟩ := h
          refine ⟨y, ?_, e2 p hpp⟩
          have := hlt r (by omega)
          unfold lt at this
          rw [this, e1]
    · intro r x hx
      have hr : r < L.length := by
        unfold lt at hx
        have := (List.getElem?_eq_some_iff.1 hx).1
        simpa using this
      rw [← hlt r hr]; exact hx
end
theorem MonoK.nil : MonoK [] := trivial
theorem MonoK.cons {ps : List (Item → Heap → Prop)} {Ps : List (List (Item → Heap → Prop))} (h : ∀ p, p ∈ ps → ∀ y M M', HLe M M' → p y M → p y M') (t : MonoK Ps) : MonoK (ps :: Ps) := ⟨h, t⟩
theorem mono_nil : ∀ p, p ∈ ([] : List (Item → Heap → Prop)) → ∀ y M M', HLe M M' → p y M → p y M' := by intro p hp; cases hp
theorem mono_cons {q : Item → Heap → Prop} {ps : List (Item → Heap → Prop)} (h : ∀ y M M', HLe M M' → q y M → q y M') (t : ∀ p, p ∈ ps → ∀ y M M', HLe M M' → p y M → p y M') :
    ∀ p, p ∈ q :: ps → ∀ y M M', HLe M M' → p y M → p y M' := by
  intro p hp
  rcases List.mem_cons.1 hp with rfl | hp
  · exact h
  · exact t p hp
theorem All0.nil {M : Heap} : All0 M [] [] := by unfold All0; trivial
theorem All0.cons {M : Heap} {q : Item → Heap → Prop} {ps : List (Item → Heap → Prop)} {Ps : List (List (Item → Heap → Prop))} {y : Item} {L : List Item} (h : q y M) (t : All0 M Ps L) : All0 M ((q :: ps) :: Ps) (y :: L) :=
  ⟨fun p hp => by simp at hp; subst hp; exact h, t⟩
theorem len1 {α : Type} {l : List α} (h : l.length = 1) : ∃ a, l = [a] := List.length_eq_one_iff.1 h
theorem lenS {α : Type} {l : List α} {n : Nat} (h : l.length = n + 1) : ∃ a m, l = a :: m ∧ m.length = n := by
  cases l with
  | nil => simp at h
  | cons a m => exact ⟨a, m, rfl, by simpa using h⟩
theorem len0 {α : Type} {l : List α} (h : l.length = 0) : l = [] := List.length_eq_zero_iff.1 h
theorem of_some {q : Item → Heap → Prop} {y : Item} {M : Heap} (h : q y M) : ∀ p, some q = some p → p y M := by
  intro p hp; injection hp with hp; subst hp; exact h
theorem RS.cells1 {α : Type} {F : Fl α} {M : Heap} {v : Value} {l : List α} (h : RS F M v l) : v.cells = [v].toArray := by
  rcases h with ⟨rfl, _⟩ | ⟨_, _, _, _, _, _, rfl, _⟩ <;> rfl
/-- Some items are kept in their places, the others are dropped. -/
theorem St.selD {X : Nat → Prop} {M0 M : Heap} {w0 w : World} {L : List Item} (h : St X M0 w0 M (lt L) w) {L' : List Item} (f : List (Option Nat)) (hf : f.Pairwise fun a b => a = none ∨ a ≠ b)
    (hl : f.map (fun o => match o with | some i => L[i]? | none => some dead) = L'.map some) : St X M0 w0 M (lt L') w := by
  obtain ⟨e, bo, h1, h2, h3⟩ := h
  let bo' : Nat → Option Nat := fun i => match f[i]? with | some (some j) => bo j | _ => none
  have key : ∀ {i b}, bo' i = some b → ∃ p, f[i]? = some (some p) ∧ bo p = some b := by
    intro i b hb
    simp only [bo'] at hb
    split at hb
    · rename_i j hj; exact ⟨j, hj, hb⟩
    · cases hb
  refine ⟨e, bo', ?_, ?_, ?_⟩
  · intro i j b hi hj
    obtain ⟨p, hp, hbp⟩ := key hi
    obtain ⟨q, hq, hbq⟩ := key hj
    have hpq := h1 _ _ _ hbp hbq
    subst hpq
    rw [List.pairwise_iff_getElem] at hf
    obtain ⟨li, gi⟩ := List.getElem?_eq_some_iff.1 hp
    obtain ⟨lj, gj⟩ := List.getElem?_eq_some_iff.1 hq
    rcases Nat.lt_trichotomy i j with hlt | heq | hgt
    · have := hf i j li lj hlt
      rw [gi, gj] at this
      simp at this
    · exact heq
    · have := hf j i lj li hgt
      rw [gi, gj] at this
      simp at this
  · intro i b hi
    obtain ⟨p, _, hbp⟩ := key hi
    exact h2 _ _ hbp
  · intro i x hx
    have hx : L'[i]? = some x := hx
    have := congrArg (fun l => l[i]?) hl
    simp only [List.getElem?_map, hx] at this
    cases hfi : f[i]? with
    | none => rw [hfi] at this; cases this
    | some o =>
      rw [hfi] at this
      cases o with
      | none =>
        simp at this
        subst this
        have : bo' i = none := by simp [bo', hfi]
        rw [this]
        exact ⟨rfl, rfl, rfl⟩
      | some j =>
        have hj : L[j]? = some x := by simpa using this
        have : bo' i = bo j := by simp [bo', hfi]
        rw [this]
        exact h3 j x hj
theorem c_give {c : Cx} {Q : Exit → Act → World → Prop} {l : List (Nat × Value)} {M : Heap} {L : List Item} {x : Code} {α : Type} {F : Fl α} {v : Value} {T : TypeId} {m : List α} (i : Nat)
    (hi : L[i]? = some (rowI F v T m)) (hX : ∀ b, ¬ c.X b) (h : ∀ M', HLe M M' → RS F M' v m → c.C x Q l M' (L.set i dead)) : c.C x Q l M L := by
  intro a w hf hs
  obtain ⟨M', h1, h2, h3⟩ := hs.giveRow hi hX
  rw [lt_set _ _ _ _ hi] at h1
  exact h M' h2 h3 a w hf h1
/-- A row's value is one cell. -/
theorem w_rcell {c : Cx} {Q : Exit → Act → World → Prop} {ops : Array Oper} {rest : List Oper} {l : List (Nat × Value)} {M : Heap} {L : List Item} {v : Value} {T sz n : Nat} {cs : List Value} (i : Nat)
    (hi : L[i]? = some (.row v T sz n cs)) (h : v.cells = [v].toArray ∧ v.oneCell' = true → c.W ops rest Q l M L) : c.W ops rest Q l M L := by
  intro a w hf hs
  refine h ?_ a w hf hs
  obtain ⟨_, bo, _, _, h3⟩ := hs
  have := h3 i _ hi
  cases hb : bo i with
  | none =>
    rw [hb] at this
    obtain ⟨rfl, _⟩ := this
    exact ⟨rfl, rfl⟩
  | some b =>
    rw [hb] at this
    obtain ⟨_, _, _, rfl, _⟩ := this
    exact ⟨rfl, rfl⟩
end Go.Cu
