/- Rules for walks over facts, for any program; no condition. -/
import Derived.Test.YtakfalfggmgcfaaDoorCu23
set_option linter.unusedVariables false
set_option linter.unusedSimpArgs false
/-! Open regions whose last operations stand in order. -/
namespace Go.Cu
open Go
def Cx.D (c : Cx) (ops : List Oper) (Q : Exit → Act → World → Prop) (l : List (Nat × Value)) (M : Heap) (L : List Item) : Prop :=
  ∀ a w, Fr c.n l a → St c.X c.M0 c.w0 M (lt L) w → ∀ t, wpOps c.P ops.toArray Q (goL ops.toArray ops.length t (Array.replicate ops.length false)) a { w with drawn := w.drawn + 1 }
section
variable {c : Cx} {ops : List Oper} {l : List (Nat × Value)} {M : Heap} {m0 : Nat}
theorem d_draw {Q : Exit → Act → World → Prop} {L : List Item} (R : RPlan) (hm : c.P.follows .mixedOrders = true) (hL : L.length = m0)
    (hback : backward ops = true) (hdst : dstsOk ops = true) (hwr : ∀ r, (R.wr r).Nodup) (hwl : ∀ r i, i ∈ R.wr r → i < ops.length) (hwn : ∀ i j, (R.wr (m0 + i)).contains j = true → de ops j i = true)
    (hsort : ∀ r i, (R.wr r).contains i = true → sorted ops (R.wr r) i = true)
    (mA : ∀ i v M M' tg, HLe M M' → R.A i v M tg → R.A i v M' tg) (mK : ∀ r k x M M', HLe M M' → R.K r k x M → R.K r k x M')
    (hK0 : ∀ r, r < m0 → R.K r 0 (lt L r) M)
    (hnd : ops.all (fun o => match o.dst with | some d => Nat.blt d c.n | none => true) = true)
    (hop : ∀ i o, ops[i]? = some o → ∀ a w M' it tg, RPre c ops l M m0 R i a w M' it tg →
      (Region.wanted o (yielded ops.toArray a.tmps) = true ∧ OpOK c.P o a w (RPost c ops m0 R i M' it tg)) ∨
      (Region.wanted o (yielded ops.toArray a.tmps) = false ∧ RPost c ops m0 R i M' it tg undef w))
    (hend : ∀ a w M' it tg, REnd c ops l M m0 R a w M' it tg → Q .normal a w) : c.D ops Q l M L := by
  intro a w hf hs
  intro t
  let Sof : Array Bool → Nat → Bool := fun x i => x.getD i false
  have done : ∀ (S : Nat → Bool) (a : Act) (w : World), (∀ i, i < ops.length → S i = true) →
      (∃ M' it tg, RInv c ops l M m0 R S a w M' it tg ∧ ∀ r, m0 ≤ r → S (r - m0) = false → it r = none) → Q .normal a w := by
    rintro S a w hall ⟨M', it, tg, h, hn⟩
    refine hend a w M' it tg ⟨h.st, h.le, h.df, h.sz, ?_, ?_, ?_, h.tag⟩
    · intro t v hv hx
      refine h.base t v hv fun i o ho _ e => ?_
      have := List.all_eq_true.1 hx o (List.mem_of_getElem? ho)
      simp [e, Nat.beq_refl] at this
    · intro i o t ho ht
      exact h.val i o t ho (hall i (List.getElem?_eq_some_iff.1 ho).1) ht
    · intro r hr
      have e : (R.wr r).countP S = (R.wr r).length := by
        rw [List.countP_eq_length]
        exact fun i hi => hall i (hwl r i hi)
      rw [← e]
      exact h.item r (hr.imp (fun h => h) fun h' => hall _ h')
  have key : ∀ (fuel t : Nat) (listed : Array Bool) (a : Act) (w : World), listed.size = ops.length → Closed ops (Sof listed) → (listed.toList.countP (fun b => !b) ≤ fuel) →
      (∃ M' it tg, RInv c ops l M m0 R (Sof listed) a w M' it tg ∧ ∀ r, m0 ≤ r → Sof listed (r - m0) = false → it r = none) → wpOps c.P ops.toArray Q (goL ops.toArray fuel t listed) a w := by
    intro fuel
    induction fuel with
    | zero =>
      intro t listed a w hsz hcl hcnt hinv
      simp only [goL, wpOps]
      refine done (Sof listed) a w ?_ hinv
      intro i hi
      have h0 : listed.toList.countP (fun b => !b) = 0 := by omega
      rw [List.countP_eq_zero] at h0
      have hi' : i < listed.toList.length := by simpa [hsz] using hi
      have := h0 (listed.toList[i]) (List.getElem_mem hi')
      show listed.getD i false = true
      simp [Array.getD_eq_getD_getElem?, show i < listed.size by omega] at this ⊢
      exact this
    | succ fuel ih =>
      intro t listed a w hsz hcl hcnt hinv
      simp only [goL]
      generalize hrs : (List.filter _ (List.range ops.toArray.size)) = rs
      by_cases hemp : rs = []
      · subst hemp
        simp only [List.length_nil, List.getElem?_nil, wpOps]
        refine done (Sof listed) a w ?_ hinv
        intro i
        induction i using Nat.strongRecOn with
        | _ i ihi =>
          intro hi
          cases hl : Sof listed i with
          | true => rfl
          | false =>
            exfalso
            have hmem : i ∈ (List.filter (fun i => !listed.getD i true && ((ops.toArray[i]?).map (·.after.all fun e => !Region.binds .any e || listed.getD e.on false)).getD false) (List.range ops.toArray.size)) := by
              rw [List.mem_filter]
              refine ⟨by simpa using hi, ?_⟩
              have ho : ops[i]? = some ops[i] := List.getElem?_eq_getElem hi
              have hlt : i < listed.size := by omega
              have e1 : listed.getD i true = false := by
                have : listed.getD i false = false := hl
                simp [Array.getD_eq_getD_getElem?, hlt] at this ⊢
                exact this
              simp only [e1, Bool.not_false, Bool.true_and, List.getElem?_toArray, ho, Option.map_some, Option.getD_some]
              rw [Array.all_eq_true_iff_forall_mem]
              intro e he
              have hb := List.all_eq_true.1 hback (ops[i], i) (mem_zip ho)
              have hb := (Array.all_eq_true_iff_forall_mem.1 hb) e he
              simp only [Bool.or_eq_true] at hb ⊢
              rcases hb with hb | hb
              · exact .inl hb
              · have hb : e.on < i := by simpa [Nat.blt_eq] using hb
                exact .inr (ihi e.on hb (by omega))
            rw [hrs] at hmem
            exact absurd hmem (by simp)
      · have hpos : 0 < rs.length := List.length_pos_iff.2 hemp
        have hlt : t % rs.length < rs.length := Nat.mod_lt _ hpos
        rw [List.getElem?_eq_getElem hlt]
        have hi : rs[t % rs.length] ∈ rs := List.getElem_mem hlt
        generalize rs[t % rs.length] = i at hi
        rw [← hrs, List.mem_filter] at hi
        obtain ⟨hi1, hi2⟩ := hi
        have hil : i < ops.length := by simpa using hi1
        have ho : ops[i]? = some ops[i] := List.getElem?_eq_getElem hil
        have hls : i < listed.size := by omega
        simp only [Bool.and_eq_true, List.getElem?_toArray, ho, Option.map_some, Option.getD_some] at hi2
        obtain ⟨hi2, hi3⟩ := hi2
        have hSi : Sof listed i = false := by
          show listed.getD i false = false
          simp [Array.getD_eq_getD_getElem?, hls] at hi2 ⊢
          exact hi2
        have hd : ∀ j, de ops i j = true → Sof listed j = true := by
          intro j hj
          unfold de at hj
          rw [ho] at hj
          obtain ⟨e, he, hj⟩ := List.any_eq_true.1 hj
          have := (Array.all_eq_true_iff_forall_mem.1 hi3) e (Array.mem_toList_iff.1 he)
          simp only [Bool.and_eq_true, Bool.or_eq_true] at hj this
          have hon := Nat.eq_of_beq_eq_true hj.2
          rw [hj.1] at this
          simp at this
          rw [← hon]
          show listed.getD e.on false = true
          simpa [Array.getD_eq_getD_getElem?] using this
        obtain ⟨M', it, tg, hinv, hnew⟩ := hinv
        have hpre := hinv.pre hcl hnew hSi hd
        have hS' : ∀ j, Sof (listed.setIfInBounds i true) j = (Sof listed j || Nat.beq j i) := by
          intro j
          show (listed.setIfInBounds i true).getD j false = (listed.getD j false || Nat.beq j i)
          simp only [Array.getD_eq_getD_getElem?]
          by_cases e : j = i
          · subst e; simp [hls, Nat.beq_refl]
          · have : Nat.beq j i = false := by
              cases hh : Nat.beq j i with
              | false => rfl
              | true => exact absurd (Nat.eq_of_beq_eq_true hh) e
            rw [Array.getElem?_setIfInBounds_ne (by omega), this, Bool.or_false]
        have hcl' : Closed ops (Sof (listed.setIfInBounds i true)) := by
          intro j k hj hjk
          rw [hS'] at hj ⊢
          simp only [Bool.or_eq_true] at hj ⊢
          rcases hj with hj | hj
          · exact .inl (hcl j k hj hjk)
          · have := Nat.eq_of_beq_eq_true hj; subst this; exact .inl (hd k hjk)
        have hcnt' : (listed.setIfInBounds i true).toList.countP (fun b => !b) ≤ fuel := by
          have hll : i < listed.toList.length := by simpa using hls
          have hget : listed.toList[i] = false := by
            have : listed.getD i false = false := hSi
            simpa [Array.getD_eq_getD_getElem?, hls] using this
          have h1 : (listed.toList.set i true).countP (fun b => !b) + 1 = listed.toList.countP (fun b => !b) := by
            exact countP_set_false _ _ (by rw [List.getElem?_eq_getElem hll, hget])
          have h2 : (listed.setIfInBounds i true).toList = listed.toList.set i true := by simp
          rw [h2]; omega
        have hnd' : ∀ d, (ops[i]).dst = some d → Nat.blt d c.n = true := by
          intro d e
          have := List.all_eq_true.1 hnd (ops[i]) (List.getElem_mem hil)
          simpa [e] using this
        have next : ∀ v w', RPost c ops m0 R i M' it tg v w' → wpOps c.P ops.toArray Q (goL ops.toArray fuel (t / rs.length) (listed.setIfInBounds i true)) (Act.put a (ops[i]).dst v) w' := by
          intro v w' hp
          obtain ⟨M'', it', tg', h1, h2⟩ := hinv.step hcl hnew mA mK hdst hwr hwl hwn (fun r => hsort r i) hSi ho hd hnd' hp
          have hfun : Sof (listed.setIfInBounds i true) = fun j => Sof listed j || Nat.beq j i := funext hS'
          refine ih _ _ _ _ (by simpa using hsz) hcl' hcnt' ⟨M'', it', tg', ?_, ?_⟩
          · rw [hfun]; exact h1
          · intro r hr hs; rw [hS'] at hs; exact h2 r hr hs
        simp only [wpOps, List.getElem?_toArray, ho]
        rcases hop i _ ho a w M' it tg hpre with ⟨hw, hok⟩ | ⟨hw, hp⟩
        · rw [if_pos hw]
          exact .inl (hok _ _ next)
        · rw [if_neg (by rw [hw]; exact Bool.false_ne_true)]
          exact next undef w hp
  refine key ops.length t (Array.replicate ops.length false) a _ (by simp) ?_ ?_ ⟨M, lt L, fun _ => undef, ⟨?_, HLe.refl _, hf.df, hf.sz, ?_, ?_, ?_, ?_⟩, ?_⟩
  · intro i j hi
    have : Sof (Array.replicate ops.length false) i = false := by
      show (Array.replicate ops.length false).getD i false = false
      simp only [Array.getD_eq_getD_getElem?, Array.getElem?_replicate]; split <;> rfl
    rw [this] at hi; cases hi
  · refine Nat.le_trans (List.countP_le_length) ?_
    simp
  · exact hs.drew
  · intro t v hv _; exact hf.get t v hv
  · intro i o t _ hi
    have : Sof (Array.replicate ops.length false) i = false := by
      show (Array.replicate ops.length false).getD i false = false
      simp only [Array.getD_eq_getD_getElem?, Array.getElem?_replicate]; split <;> rfl
    rw [this] at hi; cases hi
  · intro r hr
    have hz : ∀ i, Sof (Array.replicate ops.length false) i = false := by
      intro i
      show (Array.replicate ops.length false).getD i false = false
      simp only [Array.getD_eq_getD_getElem?, Array.getElem?_replicate]; split <;> rfl
    have e : (R.wr r).countP (Sof (Array.replicate ops.length false)) = 0 := by
      rw [List.countP_eq_zero]; intro i _; rw [hz]; simp
    rw [e]
    rcases hr with hr | hr
    · exact hK0 r hr
    · rw [hz] at hr; cases hr
  · intro j x hx
    unfold lt at hx
    rw [List.getElem?_eq_none (by omega)] at hx; cases hx
  · intro r hr _
    unfold lt
    exact List.getElem?_eq_none (by omega)
end
section
variable {c : Cx} {ops : List Oper} {l : List (Nat × Value)} {M : Heap}
theorem d_drawP {Q : Exit → Act → World → Prop} {L : List Item} (T : Tab) (As : List (Value → Heap → Prop)) (hm : c.P.follows .mixedOrders = true)
    (hck : chk c.n ops T = true) (mA : MonoA As)
    (hop : AllT (fun i e o => ∀ a w M', HLe M M' → DPre c l As e a M' → St c.X c.M0 c.w0 M' (lt L) w →
      OP c ops.toArray o a w fun v w' => ∃ M'', HLe M' M'' ∧ St c.X c.M0 c.w0 M'' (lt L) w' ∧ tA As i v M'') 0 T ops)
    (hend : ∀ a w M', HLe M M' → a.defers = [] → a.tmps.size = c.n → (∀ t v, lk t l = some v → (ops.all fun o => match o.dst with | some t' => !Nat.beq t t' | none => true) = true → a.tmps.getD t undef = v) →
      (∀ (i t : Nat) (p : Value → Heap → Prop), (ops[i]?).bind (fun o => o.dst) = some t → As[i]? = some p → p (a.tmps.getD t undef) M') → St c.X c.M0 c.w0 M' (lt L) w → Q .normal a w) : c.D ops Q l M L := by
  unfold chk at hck
  simp only [Bool.and_eq_true] at hck
  obtain ⟨⟨⟨h1, h2⟩, h3⟩, h4⟩ := hck
  have eqL : ∀ {M' : Heap} {w : World} {it : Nat → Option Item}, St c.X c.M0 c.w0 M' it w → (∀ r, r < L.length → it r = lt L r) → St c.X c.M0 c.w0 M' (lt L) w := by
    intro M' w it hs h
    refine hs.less fun r x hx => ?_
    have hr : r < L.length := by
      unfold lt at hx
      exact (List.getElem?_eq_some_iff.1 hx).1
    rw [h r hr]; exact hx
  refine d_draw (m0 := L.length) ⟨fun i v M _ => tA As i v M, fun r _ x _ => x = lt L r, fun _ => []⟩ hm rfl h1 h2 (fun _ => List.nodup_nil) (by simp) (by simp) (by simp)
    (fun i v M M' _ hM h => mA.get hM h) (fun _ _ _ _ _ _ h => h) (fun _ _ => rfl) h3 ?_ ?_
  · intro i o ho a w M' it tg hp
    obtain ⟨e, he, hf⟩ := hop.get ho
    rw [Nat.zero_add] at hf
    have hc := List.all_eq_true.1 h4 (e, i) (by rw [List.mem_zipIdx_iff_getElem?]; exact he)
    unfold chk1 at hc
    simp only [Bool.and_eq_true] at hc
    have hit : ∀ r, it r = lt L r := by
      intro r
      by_cases hr : r < L.length
      · exact hp.item r (.inl hr) (by simp [sorted])
      · have e1 : lt L r = none := List.getElem?_eq_none (by omega)
        rw [e1]
        exact hp.fin r (by omega) fun k x M h => by rw [h, e1]
    have hit : it = lt L := funext hit
    subst hit
    have hd : DPre c l As e a M' := by
      refine ⟨hp.df, hp.sz, ?_, ?_⟩
      · intro t v hv ht
        exact hp.base t v hv (List.all_eq_true.1 hc.2 t (List.contains_iff_mem.1 ht))
      · intro j t p ht hp'
        have := List.all_eq_true.1 hc.1 (j, t) (List.contains_iff_mem.1 ht)
        simp only [Bool.and_eq_true] at this
        cases ho' : ops[j]? with
        | none => rw [ho'] at this; simp at this
        | some o' =>
          rw [ho'] at this
          cases hdst : o'.dst with
          | none => simp [hdst] at this
          | some t' =>
            simp only [Option.bind_some, hdst] at this
            have e2 := Nat.eq_of_beq_eq_true this.2
            subst e2
            have := hp.val j o' t ho' hdst this.1
            simpa [tA, hp'] using this
    have hr := hf a w M' hp.le hd hp.st
    have post : ∀ v w', (∃ M'', HLe M' M'' ∧ St c.X c.M0 c.w0 M'' (lt L) w' ∧ tA As i v M'') → RPost c ops L.length ⟨fun i v M _ => tA As i v M, fun r _ x _ => x = lt L r, fun _ => []⟩ i M' (lt L) tg v w' := by
      rintro v w' ⟨M'', q1, q2, q3⟩
      refine ⟨M'', lt L, undef, q1, q2, q3, fun _ _ _ => rfl, fun r hr => by simp at hr, rfl, ?_⟩
      intro x hx
      have : lt L (L.length + i) = none := List.getElem?_eq_none (by omega)
      rw [this] at hx; cases hx
    rcases hr with ⟨q1, q2⟩ | ⟨q1, q2⟩
    · exact .inl ⟨q1, fun next Q hn => q2 next Q fun v w' h => hn v w' (post v w' h)⟩
    · exact .inr ⟨q1, post _ _ q2⟩
  · intro a w M' it tg he
    refine hend a w M' he.le he.df he.sz he.base ?_ (eqL he.st fun r hr => he.item r (.inl hr))
    intro i t p ht hp
    cases ho' : ops[i]? with
    | none => rw [ho'] at ht; simp at ht
    | some o' =>
      rw [ho'] at ht
      have := he.val i o' t ho' (by simpa using ht)
      simpa [tA, hp] using this
theorem d_drawN {Q : Exit → Act → World → Prop} {L : List Item} (al : List Nat) (wss : List (List Nat)) (T : List RowN) (As : List (Value → Heap → Prop)) (Ps : List (List (Item → Heap → Prop)))
    (hm : c.P.follows .mixedOrders = true) (hck : chkN c.n L.length ops wss al T = true) (mA : MonoA As) (mK : MonoK Ps) (hwl : wss.length = Ps.length) (hK0 : All0N M Ps L)
    (hop : AllN (fun i e o => ∀ a w M' L', HLe M M' → L'.length = L.length + al.length → NPre c l As Ps al L.length e a M' L' → St c.X c.M0 c.w0 M' (lt L') w →
      OP c ops.toArray o a w fun v w' => ∃ M'' L'', HLe M' M'' ∧ St c.X c.M0 c.w0 M'' (lt L'') w' ∧ tA As i v M'' ∧ NPost Ps L.length e v M'' L' L'') 0 T ops)
    (hend : ∀ a w M' L', HLe M M' → L'.length = L.length + al.length → a.defers = [] → a.tmps.size = c.n →
      (∀ t v, lk t l = some v → (ops.all fun o => match o.dst with | some t' => !Nat.beq t t' | none => true) = true → a.tmps.getD t undef = v) →
      (∀ (i t : Nat) (p : Value → Heap → Prop), (ops[i]?).bind (fun o => o.dst) = some t → As[i]? = some p → p (a.tmps.getD t undef) M') →
      (∀ (r : Nat) (p : Item → Heap → Prop), (wss[r]?).bind (fun ws => (Ps[r]?).bind fun ps => ps[ws.length]?) = some p → ∃ y, L'[r]? = some y ∧ p y M') →
      (∀ (q i t : Nat) (y : Item), al[q]? = some i → (ops[i]?).bind (fun o => o.dst) = some t → L'[L.length + q]? = some y → y.tag = a.tmps.getD t undef) →
      St c.X c.M0 c.w0 M' (lt L') w → Q .normal a w) : c.D ops Q l M L := by
  unfold chkN at hck
  simp only [Bool.and_eq_true] at hck
  obtain ⟨⟨⟨⟨⟨⟨⟨⟨⟨h1, h2⟩, h3⟩, h4⟩, h5⟩, h6⟩, h7⟩, h8⟩, h9⟩, h10⟩ := hck
  have hal := nodupB.nodup h7
  have hwsl : wss.length = L.length + al.length := Nat.eq_of_beq_eq_true h10
  have hPl : Ps.length = L.length + al.length := by omega
  have hTl : T.length = ops.length := Nat.eq_of_beq_eq_true h6
  -- where an item stands in the list
  let ix : Nat → Option Nat := fun r => if r < L.length then some r else (al.findIdx? (fun j => Nat.beq j (r - L.length))).map (L.length + ·)
  let rx : Nat → Nat := fun s => if s < L.length then s else L.length + al.getD (s - L.length) 0
  have ixlt : ∀ {r s}, ix r = some s → s < L.length + al.length ∧ rx s = r := by
    intro r s h
    simp only [ix] at h
    split at h
    · injection h with h; subst h
      exact ⟨by omega, by simp only [rx]; rw [if_pos (by assumption)]⟩
    · rename_i hr
      cases hf : al.findIdx? (fun j => Nat.beq j (r - L.length)) with
      | none => rw [hf] at h; cases h
      | some q =>
        rw [hf] at h
        simp only [Option.map_some, Option.some.injEq] at h
        subst h
        obtain ⟨hq, hv, _⟩ := List.findIdx?_eq_some_iff_getElem.1 hf
        refine ⟨by omega, ?_⟩
        simp only [rx]
        rw [if_neg (by omega), Nat.add_sub_cancel_left]
        have := Nat.eq_of_beq_eq_true hv
        simp only [List.getD, List.getElem?_eq_getElem hq, Option.getD_some, this]
        omega
  have ixrx : ∀ {s}, s < L.length + al.length → ix (rx s) = some s := by
    intro s hs
    by_cases h : s < L.length
    · simp only [rx, ix, h, if_true]
    · have hq : s - L.length < al.length := by omega
      simp only [rx, h, if_false, ix, show ¬ L.length + al.getD (s - L.length) 0 < L.length by omega, Nat.add_sub_cancel_left]
      have : al.findIdx? (fun j => Nat.beq j (al.getD (s - L.length) 0)) = some (s - L.length) := by
        rw [List.findIdx?_eq_some_iff_getElem]
        refine ⟨hq, by simp [List.getD, hq, Nat.beq_refl], ?_⟩
        intro j hj hb
        have hb := Nat.eq_of_beq_eq_true hb
        simp only [List.getD, List.getElem?_eq_getElem hq, Option.getD_some] at hb
        have := (List.getElem_inj hal).1 hb
        omega
      rw [this]
      simp only [Option.map_some]
      congr 1
      omega
  have rxinj : ∀ {s s'}, s < L.length + al.length → s' < L.length + al.length → rx s = rx s' → s = s' := by
    intro s s' h h' e
    have := ixrx h
    rw [e, ixrx h'] at this
    injection this with this
    exact this.symm
  let WR : Nat → List Nat := fun r => match ix r with | some s => (wss[s]?).getD [] | none => []
  let K : Nat → Nat → Option Item → Heap → Prop := fun r k x M => match ix r with | some s => (∃ y, x = some y ∧ ∀ p, (Ps[s]?).bind (fun ps => ps[k]?) = some p → p y M) | none => x = none
  let A : Nat → Value → Heap → (Nat → Value) → Prop := fun i v M tg => tA As i v M ∧ (al.contains i = true → v = tg i)
  have WRs : ∀ {r s}, ix r = some s → WR r = wss.getD s [] := by
    intro r s h
    simp only [WR, h, List.getD]
  have WRn : ∀ {r}, ix r = none → WR r = [] := by
    intro r h
    simp only [WR, h]
  have Ks : ∀ {r s k x M}, ix r = some s → (K r k x M ↔ ∃ y, x = some y ∧ ∀ p, (Ps[s]?).bind (fun ps => ps[k]?) = some p → p y M) := by
    intro r s k x M h
    simp only [K, h]
  have Kn : ∀ {r k x M}, ix r = none → (K r k x M ↔ x = none) := by
    intro r k x M h
    simp only [K, h]
  have mem5 : ∀ {r}, nodupB (WR r) = true ∧ ∀ i ∈ WR r, i < ops.length := by
    intro r
    cases h : ix r with
    | none => rw [WRn h]; exact ⟨rfl, by simp⟩
    | some s =>
      have hs := (ixlt h).1
      rw [WRs h]
      have hsw : s < wss.length := by omega
      have := List.all_eq_true.1 h5 wss[s] (List.getElem_mem hsw)
      simp only [Bool.and_eq_true, List.all_eq_true] at this
      simp only [List.getD, List.getElem?_eq_getElem hsw, Option.getD_some]
      exact ⟨this.1, fun i hi => by simpa [Nat.blt_eq] using this.2 i hi⟩
  have chk1 : ∀ {i e}, T[i]? = some e → chkN1 ops wss al L.length i e = true := fun {i e} he => List.all_eq_true.1 h4 (e, i) (by rw [List.mem_zipIdx_iff_getElem?]; exact he)
  have wrOf : ∀ {i : Nat} {e : RowN}, T[i]? = some e → ∀ {r}, (WR r).contains i = true → ∃ s k, ix r = some s ∧ e.wr = some (s, k) ∧ sorted ops (WR r) i = true ∧ (WR r).countP (de ops i) = k := by
    intro i e he r hr
    cases h : ix r with
    | none => rw [WRn h] at hr; simp at hr
    | some s =>
      have hs := (ixlt h).1
      have hsw : s < wss.length := by omega
      have eW : WR r = wss[s] := by rw [WRs h]; simp [List.getD, hsw]
      rw [eW] at hr ⊢
      have hc := chk1 he
      unfold chkN1 at hc
      simp only [Bool.and_eq_true] at hc
      have hw := hc.1.2
      cases hwr : e.wr with
      | none =>
        rw [hwr] at hw
        have := List.all_eq_true.1 hw wss[s] (List.getElem_mem hsw)
        rw [hr] at this; simp at this
      | some rk =>
        obtain ⟨s', k⟩ := rk
        rw [hwr] at hw
        simp only [Bool.and_eq_true] at hw
        have := List.all_eq_true.1 hw.1 (wss[s], s) (by rw [List.mem_zipIdx_iff_getElem?]; exact List.getElem?_eq_getElem hsw)
        simp only [hr] at this
        have e1 : s' = s := Nat.eq_of_beq_eq_true (by simpa using this)
        subst e1
        have h2 := hw.2
        rw [List.getElem?_eq_getElem hsw] at h2
        simp only [Bool.and_eq_true] at h2
        exact ⟨s', k, rfl, rfl, h2.1, Nat.eq_of_beq_eq_true h2.2⟩
  have notOf : ∀ {i : Nat} {e : RowN}, T[i]? = some e → ∀ {s k}, e.wr = some (s, k) → s < L.length + al.length ∧ (WR (rx s)).contains i = true := by
    intro i e he s k hwr
    have hc := chk1 he
    unfold chkN1 at hc
    simp only [Bool.and_eq_true] at hc
    have hw := hc.1.2
    rw [hwr] at hw
    simp only [Bool.and_eq_true] at hw
    have hsw : s < wss.length := by
      rcases Nat.lt_or_ge s wss.length with h | h
      · exact h
      · have := hw.2; rw [List.getElem?_eq_none h] at this; simp at this
    have := List.all_eq_true.1 hw.1 (wss[s], s) (by rw [List.mem_zipIdx_iff_getElem?]; exact List.getElem?_eq_getElem hsw)
    simp only [Nat.beq_refl] at this
    refine ⟨by omega, ?_⟩
    rw [WRs (ixrx (by omega))]
    simp only [List.getD, List.getElem?_eq_getElem hsw, Option.getD_some]
    simpa using this
  have mkOf : ∀ {i : Nat} {e : RowN}, T[i]? = some e → ∀ {q}, e.nw = some q → al[q]? = some i ∧ e.wr = none := by
    intro i e he q hq
    have hc := chk1 he
    unfold chkN1 at hc
    simp only [Bool.and_eq_true] at hc
    have hw := hc.2
    rw [hq] at hw
    simp only [Bool.and_eq_true] at hw
    constructor
    · cases h : al[q]? with
      | none => rw [h] at hw; simp at hw
      | some j => rw [h] at hw; exact congrArg some (Nat.eq_of_beq_eq_true hw.1)
    · cases h : e.wr with
      | none => rfl
      | some _ => rw [h] at hw; simp at hw
  have mkNo : ∀ {i : Nat} {e : RowN}, T[i]? = some e → e.nw = none → al.contains i = false := by
    intro i e he hq
    have hc := chk1 he
    unfold chkN1 at hc
    simp only [Bool.and_eq_true] at hc
    have hw := hc.2
    rw [hq] at hw
    simpa using hw
  have rxal : ∀ {q i}, al[q]? = some i → rx (L.length + q) = L.length + i ∧ L.length + q < L.length + al.length := by
    intro q i h
    have hq := (List.getElem?_eq_some_iff.1 h).1
    refine ⟨?_, by omega⟩
    simp only [rx]
    rw [if_neg (by omega), Nat.add_sub_cancel_left]
    simp [List.getD, h]
  have ixal : ∀ {q i}, al[q]? = some i → ix (L.length + i) = some (L.length + q) := by
    intro q i h
    obtain ⟨e, hlt⟩ := rxal h
    rw [← e]; exact ixrx hlt
  have mkL : ∀ (it : Nat → Option Item), ((List.range (L.length + al.length)).map fun s => (it (rx s)).getD dead).length = L.length + al.length := fun it => by simp
  have getL : ∀ (it : Nat → Option Item) s, s < L.length + al.length → ((List.range (L.length + al.length)).map fun s => (it (rx s)).getD dead)[s]? = some ((it (rx s)).getD dead) := by
    intro it s hs; simp [hs]
  have stL : ∀ {it : Nat → Option Item} {M' w}, St c.X c.M0 c.w0 M' it w → St c.X c.M0 c.w0 M' (lt ((List.range (L.length + al.length)).map fun s => (it (rx s)).getD dead)) w := by
    intro it M' w hs
    have hsome : ∀ {s x}, lt ((List.range (L.length + al.length)).map fun s => (it (rx s)).getD dead) s = some x → s < L.length + al.length := by
      intro s x hx
      have := (List.getElem?_eq_some_iff.1 (show ((List.range (L.length + al.length)).map fun s => (it (rx s)).getD dead)[s]? = some x from hx)).1
      simpa using this
    refine hs.pad rx ?_ ?_
    · intro s s' h h' e
      obtain ⟨x, hx⟩ := Option.isSome_iff_exists.1 h
      obtain ⟨x', hx'⟩ := Option.isSome_iff_exists.1 h'
      exact rxinj (hsome hx) (hsome hx') e
    · intro s x hx
      have hlt := hsome hx
      have hx : ((List.range (L.length + al.length)).map fun s => (it (rx s)).getD dead)[s]? = some x := hx
      rw [getL it s hlt] at hx
      injection hx with hx
      cases h : it (rx s) with
      | some y => rw [h] at hx; exact .inl (congrArg some hx)
      | none => rw [h] at hx; exact .inr ⟨rfl, hx.symm⟩
  refine d_draw (m0 := L.length) ⟨A, K, WR⟩ hm rfl h1 h2 (fun r => nodupB.nodup mem5.1) (fun r i hi => mem5.2 i hi) (fun i j h => ?_) (fun r i hi => ?_)
    (fun i v M M' _ hM h => ⟨mA.get hM h.1, h.2⟩) (fun r k x M1 M2 hM h => ?_) (fun r hr => ?_) h3 ?_ ?_
  · have h : (WR (L.length + i)).contains j = true := h
    cases hi : ix (L.length + i) with
    | none => rw [WRn hi] at h; simp at h
    | some s =>
      obtain ⟨hs, hr⟩ := ixlt hi
      have hsn : ¬ s < L.length := by
        intro h'
        simp only [rx, h', if_true] at hr
        omega
      rw [WRs hi] at h
      have hsw : s < wss.length := by omega
      simp only [List.getD, List.getElem?_eq_getElem hsw, Option.getD_some] at h
      have hq : s - L.length < al.length := by omega
      have hrx : al[s - L.length] = i := by
        simp only [rx, hsn, if_false, List.getD, List.getElem?_eq_getElem hq, Option.getD_some] at hr
        omega
      have := List.all_eq_true.1 h9 (i, s - L.length) (by rw [List.mem_zipIdx_iff_getElem?]; rw [List.getElem?_eq_getElem hq, hrx])
      simp only [show L.length + (s - L.length) = s by omega, List.getElem?_eq_getElem hsw] at this
      exact List.all_eq_true.1 this j (List.contains_iff_mem.1 h)
  · have hil := mem5.2 i (List.contains_iff_mem.1 hi)
    obtain ⟨_, _, _, _, h, _⟩ := wrOf (List.getElem?_eq_getElem (show i < T.length by omega)) hi
    exact h
  · have h : K r k x M1 := h
    show K r k x M2
    cases hi : ix r with
    | none => rw [Kn hi] at h ⊢; exact h
    | some s =>
      rw [Ks hi] at h ⊢
      obtain ⟨y, e, hy⟩ := h
      refine ⟨y, e, fun p hp => ?_⟩
      cases hps : Ps[s]? with
      | none => rw [hps] at hp; cases hp
      | some ps =>
        rw [hps] at hp
        exact mK.get hps p (List.mem_of_getElem? hp) y M1 M2 hM (hy p (by rw [hps]; exact hp))
  · show K r 0 (lt L r) M
    have hi : ix r = some r := by simp only [ix, hr, if_true]
    rw [Ks hi]
    refine ⟨L[r], List.getElem?_eq_getElem hr, fun p hp => ?_⟩
    cases hps : Ps[r]? with
    | none => rw [hps] at hp; cases hp
    | some ps =>
      rw [hps] at hp
      exact hK0.get r ps _ hps (List.getElem?_eq_getElem hr) p hp
  · intro i o ho a w M' it tg hp
    obtain ⟨e, he, hf⟩ := hop.get ho
    rw [Nat.zero_add] at hf
    have hc := chk1 he
    unfold chkN1 at hc
    simp only [Bool.and_eq_true] at hc
    obtain ⟨⟨⟨⟨hcv, hcb⟩, hcr⟩, hcw⟩, hcm⟩ := hc
    have hvals : ∀ j t, e.vals.contains (j, t) = true → ∃ o', ops[j]? = some o' ∧ o'.dst = some t ∧ de ops i j = true := by
      intro j t ht
      have := List.all_eq_true.1 hcv (j, t) (List.contains_iff_mem.1 ht)
      simp only [Bool.and_eq_true] at this
      cases ho' : ops[j]? with
      | none => rw [ho'] at this; simp at this
      | some o' =>
        rw [ho'] at this
        cases hdst : o'.dst with
        | none => simp [hdst] at this
        | some t' =>
          simp only [Option.bind_some, hdst] at this
          have e2 := Nat.eq_of_beq_eq_true this.2
          subst e2
          exact ⟨o', rfl, hdst, this.1⟩
    generalize hL' : ((List.range (L.length + al.length)).map fun s => (it (rx s)).getD dead) = L'
    have hLl : L'.length = L.length + al.length := by rw [← hL']; simp
    have hLg : ∀ s, s < L.length + al.length → L'[s]? = some ((it (rx s)).getD dead) := by intro s hs; rw [← hL']; exact getL it s hs
    have hst : St c.X c.M0 c.w0 M' (lt L') w := by rw [← hL']; exact stL hp.st
    have hd : NPre c l As Ps al L.length e a M' L' := by
      refine ⟨hp.df, hp.sz, ?_, ?_, ?_, ?_⟩
      · intro t v hv ht
        exact hp.base t v hv (List.all_eq_true.1 hcb t (List.contains_iff_mem.1 ht))
      · intro j t p ht hp'
        obtain ⟨o', h1', h2', h3'⟩ := hvals j t ht
        have := (hp.val j o' t h1' h2' h3').1
        simpa [tA, hp'] using this
      · intro s k p hr hpp
        have := List.all_eq_true.1 hcr (s, k) (List.contains_iff_mem.1 hr)
        simp only [Bool.and_eq_true] at this
        obtain ⟨g1, g2⟩ := this
        cases hw : wss[s]? with
        | none => simp [hw] at g1
        | some ws =>
          simp only [hw, Bool.and_eq_true] at g1
          have hsw := (List.getElem?_eq_some_iff.1 hw).1
          have hs : s < L.length + al.length := by omega
          have eW : WR (rx s) = ws := by rw [WRs (ixrx hs)]; simp [List.getD, hw]
          have hcond : rx s < L.length ∨ de ops i (rx s - L.length) = true := by
            by_cases h : s < L.length
            · left; simp only [rx, h, if_true]
            · right
              have hq : s - L.length < al.length := by omega
              have hb : Nat.blt s L.length = false := by
                cases hb : Nat.blt s L.length with
                | false => rfl
                | true => exact absurd (by simpa [Nat.blt_eq] using hb) h
              rw [hb, List.getElem?_eq_getElem hq] at g2
              simp only [Bool.false_or] at g2
              simp only [rx, h, if_false, List.getD, List.getElem?_eq_getElem hq, Option.getD_some, Nat.add_sub_cancel_left]
              exact g2
          have h := hp.item (rx s) hcond (show sorted ops (WR (rx s)) i = true by rw [eW]; exact g1.1)
          have h : K (rx s) ((WR (rx s)).countP (de ops i)) (it (rx s)) M' := h
          rw [eW, Nat.eq_of_beq_eq_true g1.2, Ks (ixrx hs)] at h
          obtain ⟨y, e1, e2⟩ := h
          exact ⟨y, by rw [hLg s hs, e1]; rfl, e2 p hpp⟩
      · intro q j t k y hq ht hr hy
        obtain ⟨o', h1', h2', h3'⟩ := hvals j t ht
        have hA := (hp.val j o' t h1' h2' h3').2 (List.contains_iff_mem.2 (List.mem_of_getElem? hq))
        obtain ⟨hrx, hlt⟩ := rxal hq
        have hg := List.all_eq_true.1 hcr (L.length + q, k) (List.contains_iff_mem.1 hr)
        simp only [Bool.and_eq_true] at hg
        cases hw : wss[L.length + q]? with
        | none => rw [hw] at hg; simp at hg
        | some ws =>
          have hg1 := hg.1
          rw [hw] at hg1
          simp only [Bool.and_eq_true] at hg1
          have eW : WR (L.length + j) = ws := by rw [WRs (ixal hq)]; simp [List.getD, hw]
          have h := hp.item (L.length + j) (.inr (by rw [Nat.add_sub_cancel_left]; exact h3')) (show sorted ops (WR (L.length + j)) i = true by rw [eW]; exact hg1.1)
          have h : K (L.length + j) _ (it (L.length + j)) M' := h
          rw [Ks (ixal hq)] at h
          obtain ⟨y', e1, _⟩ := h
          have htag := hp.tag j y' e1
          rw [hLg _ hlt, hrx, e1] at hy
          injection hy with hy
          have hy : y' = y := hy
          rw [← hy, htag, hA]
          show tg j = restr ops j tg j
          simp [restr, Nat.beq_refl]
    have hr := hf a w M' L' hp.le hLl hd hst
    have post : ∀ v w', (∃ M'' L'', HLe M' M'' ∧ St c.X c.M0 c.w0 M'' (lt L'') w' ∧ tA As i v M'' ∧ NPost Ps L.length e v M'' L' L'') →
        RPost c ops L.length ⟨A, K, WR⟩ i M' it tg v w' := by
      rintro v w' ⟨M'', L'', q1, q2, q3, q4⟩
      -- back to the items by their numbers, where item s was set
      have back : ∀ (s : Nat) (y : Item), s < L.length + al.length → St c.X c.M0 c.w0 M'' (lt (L'.set s y)) w' →
          St c.X c.M0 c.w0 M'' (fun r => if r = rx s then some y else it r) w' := by
        intro s y hs hst
        have hnone : ∀ r, ix r = none → it r = none := by
          intro r hr
          have hrl : L.length ≤ r := by
            rcases Nat.lt_or_ge r L.length with h | h
            · simp only [ix, h, if_true] at hr; cases hr
            · exact h
          exact hp.fin r hrl fun k x M h => by rwa [show (RPlan.K ⟨A, K, WR⟩) = K from rfl, Kn hr] at h
        refine hst.forget (fun r => (ix r).getD 0) ?_ ?_
        · intro r r' h h' e'
          have g : ∀ r, ((if r = rx s then some y else it r)).isSome = true → ∃ k, ix r = some k := by
            intro r hr
            cases hi : ix r with
            | some k => exact ⟨k, rfl⟩
            | none =>
              by_cases hrs : r = rx s
              · rw [hrs, ixrx hs] at hi; cases hi
              · rw [if_neg hrs, hnone r hi] at hr; cases hr
          obtain ⟨k, hk⟩ := g r h
          obtain ⟨k', hk'⟩ := g r' h'
          simp only [hk, hk', Option.getD_some] at e'
          rw [← (ixlt hk).2, ← (ixlt hk').2, e']
        · intro r x hx
          by_cases hrs : r = rx s
          · rw [if_pos hrs] at hx
            injection hx with hx
            subst hrs
            simp only [ixrx hs, Option.getD_some, lt]
            rw [List.getElem?_set_self (by omega), hx]
          · rw [if_neg hrs] at hx
            cases hi : ix r with
            | none => rw [hnone r hi] at hx; cases hx
            | some k =>
              obtain ⟨hk, hrk⟩ := ixlt hi
              simp only [Option.getD_some, lt]
              rw [List.getElem?_set_ne (by rintro rfl; exact hrs hrk.symm), hLg k hk, hrk, hx]
              rfl
      have same : St c.X c.M0 c.w0 M'' (lt L') w' → St c.X c.M0 c.w0 M'' it w' := by
        intro hst
        have hnone : ∀ r, ix r = none → it r = none := by
          intro r hr
          have hrl : L.length ≤ r := by
            rcases Nat.lt_or_ge r L.length with h | h
            · simp only [ix, h, if_true] at hr; cases hr
            · exact h
          exact hp.fin r hrl fun k x M h => by rwa [show (RPlan.K ⟨A, K, WR⟩) = K from rfl, Kn hr] at h
        refine hst.forget (fun r => (ix r).getD 0) ?_ ?_
        · intro r r' h h' e'
          have g : ∀ r, (it r).isSome = true → ∃ k, ix r = some k := by
            intro r hr
            cases hi : ix r with
            | some k => exact ⟨k, rfl⟩
            | none => rw [hnone r hi] at hr; cases hr
          obtain ⟨k, hk⟩ := g r h
          obtain ⟨k', hk'⟩ := g r' h'
          simp only [hk, hk', Option.getD_some] at e'
          rw [← (ixlt hk).2, ← (ixlt hk').2, e']
        · intro r x hx
          cases hi : ix r with
          | none => rw [hnone r hi] at hx; cases hx
          | some k =>
            obtain ⟨hk, hrk⟩ := ixlt hi
            simp only [Option.getD_some, lt]
            rw [hLg k hk, hrk, hx]
            rfl
      unfold NPost at q4
      cases hmk : e.nw with
      | some q =>
        rw [hmk] at q4
        obtain ⟨y, rfl, g2, g3⟩ := q4
        obtain ⟨hq, hwn⟩ := mkOf he hmk
        obtain ⟨hrx, hlt⟩ := rxal hq
        have hb := back (L.length + q) y hlt q2
        rw [hrx] at hb
        refine ⟨M'', _, v, q1, hb, ⟨q3, fun _ => ?_⟩, fun r _ hr => if_neg hr, fun r hr => ?_, ?_, ?_⟩
        · simp [restr, Nat.beq_refl]
        · obtain ⟨_, _, _, hw, _⟩ := wrOf he hr
          rw [hwn] at hw; cases hw
        · show K (L.length + i) 0 _ M''
          rw [Ks (ixal hq)]
          exact ⟨y, if_pos rfl, g2⟩
        · intro x hx
          have hx : (if L.length + i = L.length + i then some y else it (L.length + i)) = some x := hx
          rw [if_pos rfl] at hx
          injection hx with hx
          rw [← hx]; exact g3
      | none =>
        rw [hmk] at q4
        have hna := mkNo he hmk
        have hixn : ix (L.length + i) = none := by
          simp only [ix, show ¬ L.length + i < L.length by omega, if_false, Nat.add_sub_cancel_left]
          rw [List.findIdx?_eq_none_iff.2]
          · rfl
          · intro j hj
            cases hb : Nat.beq j i with
            | false => rfl
            | true =>
              have := Nat.eq_of_beq_eq_true hb
              subst this
              rw [List.contains_iff_mem.2 hj] at hna; cases hna
        have hnew : it (L.length + i) = none := hp.new
        cases hwr : e.wr with
        | none =>
          rw [hwr] at q4
          subst q4
          refine ⟨M'', it, undef, q1, same q2, ⟨q3, fun h => by rw [hna] at h; cases h⟩, fun _ _ _ => rfl, fun r hr => ?_, ?_, ?_⟩
          · obtain ⟨_, _, _, hw, _⟩ := wrOf he hr
            rw [hwr] at hw; cases hw
          · show K (L.length + i) 0 _ M''
            rw [Kn hixn]; exact hnew
          · intro x hx; rw [hnew] at hx; cases hx
        | some sk =>
          obtain ⟨s, k⟩ := sk
          rw [hwr] at q4
          obtain ⟨y, rfl, g2, g3⟩ := q4
          obtain ⟨hs, hin⟩ := notOf he hwr
          have hb := back s y hs q2
          obtain ⟨s', k', hix, hw', hsort, hcount⟩ := wrOf he hin
          rw [hwr] at hw'
          injection hw' with hw'
          injection hw' with e1 e2
          subst e1 e2
          have hne : rx s ≠ L.length + i := by
            intro h
            rw [h, hixn] at hix; cases hix
          refine ⟨M'', _, undef, q1, hb, ⟨q3, fun h => by rw [hna] at h; cases h⟩, fun r hr hr' => ?_, fun r hr => ?_, ?_, ?_⟩
          · rw [if_neg]
            rintro rfl
            rw [show (RPlan.wr ⟨A, K, WR⟩) (rx s) = WR (rx s) from rfl, hin] at hr
            cases hr
          · obtain ⟨s'', k'', hix', hw'', _, hcount'⟩ := wrOf he hr
            rw [hwr] at hw''
            injection hw'' with hw''
            injection hw'' with e1 e2
            subst e1 e2
            have hrr : r = rx s := (ixlt hix').2.symm
            subst hrr
            rw [if_pos rfl]
            refine ⟨?_, ?_⟩
            · show K (rx s) ((WR (rx s)).countP (de ops i) + 1) (some y) M''
              rw [hcount, Ks hix]
              exact ⟨y, rfl, g2⟩
            · intro hge x hx
              injection hx with hx
              subst hx
              have hsn : ¬ s < L.length := by
                intro h'
                simp only [rx, h', if_true] at hge
                omega
              -- the item was there
              have hdq : de ops i (rx s - L.length) = true := by
                have hq : s - L.length < al.length := by omega
                have := List.all_eq_true.1 h9 (al[s - L.length], s - L.length) (by rw [List.mem_zipIdx_iff_getElem?]; exact List.getElem?_eq_getElem hq)
                have hsw : s < wss.length := by omega
                simp only [show L.length + (s - L.length) = s by omega, List.getElem?_eq_getElem hsw] at this
                have hin' := hin
                rw [WRs hix] at hin'
                simp only [List.getD, List.getElem?_eq_getElem hsw, Option.getD_some] at hin'
                have := List.all_eq_true.1 this i (List.contains_iff_mem.1 hin')
                simp only [rx, hsn, if_false, List.getD, List.getElem?_eq_getElem hq, Option.getD_some, Nat.add_sub_cancel_left]
                exact this
              have h := hp.item (rx s) (.inr hdq) hsort
              have h : K (rx s) _ (it (rx s)) M' := h
              rw [Ks hix] at h
              obtain ⟨y0, e1, _⟩ := h
              exact ⟨y0, e1, g3 (by omega) y0 (by rw [hLg s hs, e1]; rfl)⟩
          · show K (L.length + i) 0 _ M''
            rw [Kn hixn, if_neg (fun h => hne h.symm)]
            exact hnew
          · intro x hx
            rw [if_neg (fun h => hne h.symm), hnew] at hx; cases hx
    rcases hr with ⟨q1, q2⟩ | ⟨q1, q2⟩
    · exact .inl ⟨q1, fun next Q hn => q2 next Q fun v w' h => hn v w' (post v w' h)⟩
    · exact .inr ⟨q1, post _ _ q2⟩
  · intro a w M' it tg he
    have hcond : ∀ {s}, s < L.length + al.length → rx s < L.length ∨ rx s - L.length < ops.length := by
      intro s hs
      by_cases h : s < L.length
      · left; simp only [rx, h, if_true]
      · right
        have hq : s - L.length < al.length := by omega
        simp only [rx, h, if_false, List.getD, List.getElem?_eq_getElem hq, Option.getD_some, Nat.add_sub_cancel_left]
        have := List.all_eq_true.1 h8 _ (List.getElem_mem hq)
        simpa [Nat.blt_eq] using this
    refine hend a w M' _ he.le (mkL it) he.df he.sz he.base ?_ ?_ ?_ (stL he.st)
    · intro i t p ht hp
      cases ho' : ops[i]? with
      | none => rw [ho'] at ht; simp at ht
      | some o' =>
        rw [ho'] at ht
        have := (he.val i o' t ho' (by simpa using ht)).1
        simpa [tA, hp] using this
    · intro s p hpp
      cases hw : wss[s]? with
      | none => simp [hw] at hpp
      | some ws =>
        have hsw := (List.getElem?_eq_some_iff.1 hw).1
        have hs : s < L.length + al.length := by omega
        have h := he.item (rx s) (hcond hs)
        have h : K (rx s) (WR (rx s)).length (it (rx s)) M' := h
        have eW : WR (rx s) = ws := by rw [WRs (ixrx hs)]; simp [List.getD, hw]
        rw [eW, Ks (ixrx hs)] at h
        obtain ⟨y, e1, e2⟩ := h
        rw [hw] at hpp
        exact ⟨y, by rw [getL it s hs, e1]; rfl, e2 p hpp⟩
    · intro q i t y hq ht hy
      obtain ⟨hrx, hlt⟩ := rxal hq
      cases ho' : ops[i]? with
      | none => rw [ho'] at ht; simp at ht
      | some o' =>
        rw [ho'] at ht
        have hA := (he.val i o' t ho' (by simpa using ht)).2 (List.contains_iff_mem.2 (List.mem_of_getElem? hq))
        have h := he.item (L.length + i) (.inr (by rw [Nat.add_sub_cancel_left]; exact (List.getElem?_eq_some_iff.1 ho').1))
        have h : K (L.length + i) _ (it (L.length + i)) M' := h
        rw [Ks (ixal hq)] at h
        obtain ⟨y', e1, _⟩ := h
        have htag := he.tag i y' e1
        rw [getL it _ hlt, hrx, e1] at hy
        injection hy with hy
        have hy : y' = y := hy
        rw [← hy, htag, hA]
        simp [restr, Nat.beq_refl]
end

theorem c_open {c : Cx} {id : Nat} {ops : List Oper} {Q : Exit → Act → World → Prop} {l : List (Nat × Value)} {M : Heap} {L : List Item} (hm : c.P.follows .mixedOrders = true) (h : c.D ops Q l M L) : c.C (.region id ops.toArray true) Q l M L := by
  intro a w hf hs
  refine wp_region_draw fun t => ?_
  have hsch : Region.schedule (c.P.follows .mixedOrders) ops.toArray t = goL ops.toArray ops.length t (Array.replicate ops.length false) := by
    unfold Region.schedule
    rw [hm, Bool.true_or, if_pos rfl]
    unfold Region.linearise
    rw [goL_eq]; simp
  rw [hsch]
  exact h a w hf hs t
def splitOk (k : Nat) (ops : List Oper) : Bool := backward ops && (List.range ops.length).all fun i => Nat.blt i k || (List.range i).all fun j => (List.range (i + 1)).any fun m => Nat.blt j m && de ops m j
def elig (A : Array Oper) (listed : Array Bool) (i : Nat) : Bool := !listed.getD i true && ((A[i]?).map (·.after.all fun e => !Region.binds .any e || listed.getD e.on false)).getD false
theorem goL_succ (A : Array Oper) (fuel t : Nat) (listed : Array Bool) : goL A (fuel + 1) t listed =
    match ((List.range A.size).filter (elig A listed))[t % ((List.range A.size).filter (elig A listed)).length]? with
    | some i => i :: goL A fuel (t / ((List.range A.size).filter (elig A listed)).length) (listed.setIfInBounds i true)
    | none => [] := rfl
theorem elig_de {ops : List Oper} {listed : Array Bool} {i j : Nat} (h : elig ops.toArray listed i = true) (hd : de ops i j = true) : listed.getD j false = true := by
  unfold elig at h
  simp only [Bool.and_eq_true] at h
  unfold de at hd
  cases ho : ops[i]? with
  | none => rw [ho] at hd; cases hd
  | some o =>
    rw [ho] at hd
    have h2 := h.2
    simp only [List.getElem?_toArray, ho, Option.map_some, Option.getD_some] at h2
    obtain ⟨e, he, hj⟩ := List.any_eq_true.1 hd
    have := (Array.all_eq_true_iff_forall_mem.1 h2) e (Array.mem_toList_iff.1 he)
    simp only [Bool.and_eq_true, Bool.or_eq_true] at hj this
    have hon := Nat.eq_of_beq_eq_true hj.2
    rw [hj.1] at this
    simp only [Bool.not_true, Bool.false_eq_true, false_or] at this
    rw [← hon]; exact this
theorem elig_of {ops : List Oper} {listed : Array Bool} {i : Nat} (hb : backward ops = true) (hi : i < ops.length) (h0 : listed.getD i true = false) (h : ∀ j, j < i → listed.getD j false = true) : elig ops.toArray listed i = true := by
  unfold elig
  have ho : ops[i]? = some ops[i] := List.getElem?_eq_getElem hi
  simp only [h0, Bool.not_false, Bool.true_and, List.getElem?_toArray, ho, Option.map_some, Option.getD_some]
  rw [Array.all_eq_true_iff_forall_mem]
  intro e he
  have hb := List.all_eq_true.1 hb (ops[i], i) (mem_zip ho)
  have hb := (Array.all_eq_true_iff_forall_mem.1 hb) e he
  simp only [Bool.or_eq_true] at hb ⊢
  rcases hb with hb | hb
  · exact .inl hb
  · exact .inr (h _ (by simpa [Nat.blt_eq] using hb))
theorem getD_set (x : Array Bool) (i j : Nat) (h : i < x.size) (b : Bool) : (x.setIfInBounds i true).getD j b = if j = i then true else x.getD j b := by
  simp only [Array.getD_eq_getD_getElem?]
  by_cases e : j = i
  · subst e; simp [h]
  · rw [Array.getElem?_setIfInBounds_ne (by omega), if_neg e]
theorem getD_tf {x : Array Bool} {i : Nat} (h : i < x.size) : x.getD i true = x.getD i false := by
  simp [Array.getD_eq_getD_getElem?, h]
theorem de_lt {ops : List Oper} (hb : backward ops = true) {i j : Nat} (h : de ops i j = true) : j < i := by
  unfold de at h
  cases ho : ops[i]? with
  | none => rw [ho] at h; cases h
  | some o =>
    rw [ho] at h
    obtain ⟨e, he, hj⟩ := List.any_eq_true.1 h
    have hb := List.all_eq_true.1 hb (o, i) (mem_zip ho)
    have hb := (Array.all_eq_true_iff_forall_mem.1 hb) e (Array.mem_toList_iff.1 he)
    simp only [Bool.and_eq_true, Bool.or_eq_true] at hj hb
    rw [hj.1] at hb
    have hon := Nat.eq_of_beq_eq_true hj.2
    simp only [Bool.not_true, Bool.false_eq_true, false_or, Nat.blt_eq] at hb
    omega
def Cl (ops : List Oper) (x : Array Bool) : Prop := ∀ i j, x.getD i false = true → de ops i j = true → x.getD j false = true
theorem reach {ops : List Oper} {k : Nat} {x : Array Bool} (hk : splitOk k ops = true) (hc : Cl ops x) {i : Nat} (h1 : k ≤ i) (h2 : i < ops.length) (he : elig ops.toArray x i = true) : ∀ j, j < i → x.getD j false = true := by
  unfold splitOk at hk
  simp only [Bool.and_eq_true] at hk
  have hi := List.all_eq_true.1 hk.2 i (List.mem_range.2 h2)
  simp only [Bool.or_eq_true, Nat.blt_eq] at hi
  rcases hi with hi | hi
  · omega
  have key : ∀ d j, j < i → i - j ≤ d → x.getD j false = true := by
    intro d
    induction d with
    | zero => intro j hj hd; omega
    | succ d ih =>
      intro j hj hd
      have := List.all_eq_true.1 hi j (List.mem_range.2 hj)
      obtain ⟨m, hm, h3⟩ := List.any_eq_true.1 this
      have hm := List.mem_range.1 hm
      simp only [Bool.and_eq_true, Nat.blt_eq] at h3
      by_cases e : m = i
      · subst e; exact elig_de he h3.2
      · exact hc m j (ih m (by omega) (by omega)) h3.2
  exact fun j hj => key (i - j) j hj (Nat.le_refl _)
/-- The last operations come one after the other. -/
theorem goL_tail {ops : List Oper} {k : Nat} (hk : splitOk k ops = true) : ∀ (m fuel t : Nat) (listed : Array Bool), m ≤ fuel → m ≤ ops.length → k ≤ ops.length - m → listed.size = ops.length →
    (∀ j, j < ops.length → listed.getD j false = decide (j < ops.length - m)) → goL ops.toArray fuel t listed = List.range' (ops.length - m) m := by
  have hk0 := hk
  unfold splitOk at hk
  simp only [Bool.and_eq_true] at hk
  obtain ⟨hb, hk⟩ := hk
  intro m
  induction m with
  | zero =>
    intro fuel t listed _ _ _ hsz hl
    cases fuel with
    | zero => simp [goL]
    | succ fuel =>
      rw [goL_succ]
      have : (List.range ops.toArray.size).filter (elig ops.toArray listed) = [] := by
        rw [List.filter_eq_nil_iff]
        intro i hi
        have hi : i < ops.length := by simpa using hi
        have := hl i hi
        rw [decide_eq_true (by omega)] at this
        unfold elig
        rw [getD_tf (by omega), this]; simp
      rw [this]; simp
  | succ m ih =>
    intro fuel t listed hfu hm hkm hsz hl
    cases fuel with
    | zero => omega
    | succ fuel =>
      rw [goL_succ]
      generalize hrs : (List.range ops.toArray.size).filter (elig ops.toArray listed) = rs
      have hlt : ops.length - (m + 1) < ops.length := by omega
      have hmem : ∀ i ∈ rs, i = ops.length - (m + 1) := by
        intro i hi
        rw [← hrs, List.mem_filter] at hi
        obtain ⟨h1, h2⟩ := hi
        have h1 : i < ops.length := by simpa using h1
        have h3 : listed.getD i true = false := by
          unfold elig at h2; simp only [Bool.and_eq_true] at h2; simpa using h2.1
        rw [getD_tf (by omega), hl i h1] at h3
        have h3 : ¬ i < ops.length - (m + 1) := by simpa using h3
        by_cases e : i = ops.length - (m + 1)
        · exact e
        · have hc : Cl ops listed := by
            intro p q hp hq
            have hqp := de_lt hb hq
            by_cases hpl : p < ops.length
            · rw [hl p hpl] at hp
              rw [hl q (by omega)]
              simp at hp ⊢; omega
            · have : listed.getD p false = false := by simp [Array.getD_eq_getD_getElem?, show ¬ p < listed.size by omega]
              rw [this] at hp; cases hp
          have := reach hk0 hc (by omega) h1 h2 (ops.length - (m + 1)) (by omega)
          rw [hl _ hlt] at this
          simp at this
      have hin : ops.length - (m + 1) ∈ rs := by
        rw [← hrs, List.mem_filter]
        refine ⟨by simpa using hlt, elig_of hb hlt ?_ ?_⟩
        · rw [getD_tf (by omega), hl _ hlt]; simp
        · intro j hj; rw [hl j (by omega)]; simp; omega
      have hpos : 0 < rs.length := List.length_pos_of_mem hin
      have hmod : t % rs.length < rs.length := Nat.mod_lt _ hpos
      rw [List.getElem?_eq_getElem hmod]
      have hi := hmem _ (List.getElem_mem hmod)
      rw [hi]
      show _ :: _ = _
      rw [List.range'_succ, ih fuel _ _ (by omega) (by omega) (by omega) (by simpa using hsz) ?_]
      · congr 2; omega
      · intro j hj
        rw [getD_set _ _ _ (by omega)]
        by_cases e : j = ops.length - (m + 1)
        · rw [if_pos e]; simp; omega
        · rw [if_neg e, hl j hj]
          congr 1; exact propext (by omega)
theorem countP_zero_all {x : Array Bool} (h : x.toList.countP (fun b => !b) = 0) {i : Nat} (hi : i < x.size) : x.getD i false = true := by
  rw [List.countP_eq_zero] at h
  have := h (x.toList[i]'(by simpa using hi)) (List.getElem_mem _)
  simp [Array.getD_eq_getD_getElem?, hi] at this ⊢
  exact this
/-- The first operations come in an order of their own. -/
theorem goL_split {pre suf : List Oper} (hk : splitOk pre.length (pre ++ suf) = true) (hbp : backward pre = true) : ∀ (fuel t : Nat) (x y : Array Bool), x.size = (pre ++ suf).length → y.size = pre.length →
    (∀ j, j < pre.length → x.getD j false = y.getD j false) → (∀ j, pre.length ≤ j → x.getD j false = false) → Cl (pre ++ suf) x → y.toList.countP (fun b => !b) ≤ fuel →
    goL (pre ++ suf).toArray (fuel + suf.length) t x = goL pre.toArray fuel t y ++ List.range' pre.length suf.length := by
  have hb : backward (pre ++ suf) = true := by unfold splitOk at hk; simp only [Bool.and_eq_true] at hk; exact hk.1
  have all : ∀ (fuel t : Nat) (x y : Array Bool), x.size = (pre ++ suf).length → y.size = pre.length → (∀ j, j < pre.length → x.getD j false = y.getD j false) → (∀ j, pre.length ≤ j → x.getD j false = false) →
      (∀ j, j < pre.length → y.getD j false = true) → goL (pre ++ suf).toArray (fuel + suf.length) t x = goL pre.toArray fuel t y ++ List.range' pre.length suf.length := by
    intro fuel t x y hx hy hxy hx0 hall
    have e1 : goL pre.toArray fuel t y = [] := by
      cases fuel with
      | zero => rfl
      | succ fuel =>
        rw [goL_succ]
        have : (List.range pre.toArray.size).filter (elig pre.toArray y) = [] := by
          rw [List.filter_eq_nil_iff]
          intro i hi
          have hi : i < pre.length := by simpa using hi
          unfold elig
          rw [getD_tf (by omega), hall i hi]; simp
        rw [this]; simp
    rw [e1, List.nil_append]
    have := goL_tail hk suf.length (fuel + suf.length) t x (by omega) (by simp) (by simp) hx (by
      intro j hj
      rw [show (pre ++ suf).length - suf.length = pre.length by simp]
      by_cases h : j < pre.length
      · rw [hxy j h, hall j h, decide_eq_true h]
      · rw [hx0 j (by omega), decide_eq_false h])
    rw [this]; congr 1; simp
  intro fuel
  induction fuel with
  | zero =>
    intro t x y hx hy hxy hx0 hcl hc
    exact all 0 t x y hx hy hxy hx0 fun j hj => countP_zero_all (by omega) (by omega)
  | succ fuel ih =>
    intro t x y hx hy hxy hx0 hcl hc
    by_cases hall : ∀ j, j < pre.length → y.getD j false = true
    · exact all _ t x y hx hy hxy hx0 hall
    · obtain ⟨j0, hj0⟩ := Classical.not_forall.1 hall
      obtain ⟨hj1, hj2⟩ := Classical.not_imp.1 hj0
      have hj2 : y.getD j0 false = false := by simpa using hj2
      have e : ∀ i, i < pre.length → elig (pre ++ suf).toArray x i = elig pre.toArray y i := by
        intro i hi
        unfold elig
        rw [getD_tf (by rw [hx]; simp; omega), getD_tf (by omega), hxy i hi]
        have o1 : (pre ++ suf)[i]? = some pre[i] := by rw [List.getElem?_append_left hi, List.getElem?_eq_getElem hi]
        have o2 : pre[i]? = some pre[i] := List.getElem?_eq_getElem hi
        simp only [List.getElem?_toArray, o1, o2, Option.map_some, Option.getD_some]
        congr 1
        have hbi := List.all_eq_true.1 hbp (pre[i], i) (mem_zip o2)
        have hbi := Array.all_eq_true_iff_forall_mem.1 hbi
        rw [Bool.eq_iff_iff, Array.all_eq_true_iff_forall_mem, Array.all_eq_true_iff_forall_mem]
        constructor
        · intro h z hz
          have := h z hz
          have hbz := hbi z hz
          simp only [Bool.or_eq_true] at this hbz ⊢
          rcases hbz with hbz | hbz
          · exact .inl hbz
          · rw [hxy _ (by simp only [Nat.blt_eq] at hbz; omega)] at this; exact this
        · intro h z hz
          have := h z hz
          have hbz := hbi z hz
          simp only [Bool.or_eq_true] at this hbz ⊢
          rcases hbz with hbz | hbz
          · exact .inl hbz
          · rw [hxy _ (by simp only [Nat.blt_eq] at hbz; omega)]; exact this
      have hf : (List.range (pre ++ suf).toArray.size).filter (elig (pre ++ suf).toArray x) = (List.range pre.toArray.size).filter (elig pre.toArray y) := by
        have : List.range (pre ++ suf).toArray.size = List.range pre.toArray.size ++ (List.range suf.length).map (pre.length + ·) := by
          simp [List.range_add]
        rw [this, List.filter_append]
        have z : (List.filter (elig (pre ++ suf).toArray x) ((List.range suf.length).map (pre.length + ·))) = [] := by
          rw [List.filter_eq_nil_iff]
          intro i hi h
          obtain ⟨q, hq, rfl⟩ := List.mem_map.1 hi
          have hq := List.mem_range.1 hq
          have := reach hk hcl (by omega) (by simp; omega) h j0 (by omega)
          rw [hxy j0 hj1, hj2] at this; cases this
        rw [z, List.append_nil]
        apply List.filter_congr
        intro i hi
        exact e i (by simpa using hi)
      rw [show fuel + 1 + suf.length = (fuel + suf.length) + 1 by omega, goL_succ, goL_succ, hf]
      generalize hrs : (List.range pre.toArray.size).filter (elig pre.toArray y) = rs
      cases hg : rs[t % rs.length]? with
      | none =>
        exfalso
        have hn : rs = [] := by
          rcases Nat.eq_zero_or_pos rs.length with h | h
          · exact List.length_eq_zero_iff.1 h
          · rw [List.getElem?_eq_getElem (Nat.mod_lt _ h)] at hg; cases hg
        have : ∀ i, i < pre.length → y.getD i false = true := by
          intro i
          induction i using Nat.strongRecOn with
          | _ i ihi =>
            intro hi
            cases hl : y.getD i false with
            | true => rfl
            | false =>
              have hmem : i ∈ rs := by
                rw [← hrs, List.mem_filter]
                exact ⟨by simpa using hi, elig_of hbp hi (by rw [getD_tf (by omega), hl]) fun j hj => ihi j hj (by omega)⟩
              rw [hn] at hmem; cases hmem
        exact hall this
      | some i =>
        have hi : i ∈ rs := List.mem_of_getElem? hg
        rw [← hrs, List.mem_filter] at hi
        have hil : i < pre.length := by simpa using hi.1
        have hyi : y.getD i false = false := by
          have := hi.2
          unfold elig at this; simp only [Bool.and_eq_true] at this
          rw [← getD_tf (by omega)]; simpa using this.1
        simp only [List.cons_append]
        congr 1
        refine ih _ _ _ (by simpa using hx) (by simpa using hy) ?_ ?_ ?_ ?_
        · intro j hj
          rw [getD_set _ _ _ (by rw [hx]; simp; omega), getD_set _ _ _ (by omega)]
          split
          · rfl
          · exact hxy j hj
        · intro j hj
          rw [getD_set _ _ _ (by rw [hx]; simp; omega), if_neg (by omega)]
          exact hx0 j hj
        · intro p q hp hq
          rw [getD_set _ _ _ (by rw [hx]; simp; omega)] at hp ⊢
          split
          · rfl
          · split at hp
            · rename_i hpe
              subst hpe
              exact elig_de (by rw [e p hil]; exact hi.2) hq
            · exact hcl p q hp hq
        · have hll : i < y.toList.length := by simp; omega
          have hget : y.toList[i] = false := by
            simpa [Array.getD_eq_getD_getElem?, show i < y.size by omega] using hyi
          have h1 := countP_set_false y.toList i (by rw [List.getElem?_eq_getElem hll, hget])
          have h2 : (y.setIfInBounds i true).toList = y.toList.set i true := by simp
          rw [h2]; omega
def guardOk (k : Nat) (pre : List Oper) : Bool := pre.all fun o => match o.guard with | none => true | some (j, _) => Nat.blt j k
theorem Oper.wp_change {P : Program} {Q Q' : Exit → Act → World → Prop} {o : Oper} {a : Act} {w : World} {K K' : Act → World → Prop} (h : ∀ a w, K a w → K' a w) (hp : ∀ ch a w, Q (.panic ch) a w → Q' (.panic ch) a w) (hL : LetsOut Q → LetsOut Q')
    (hh : o.wp P a w K Q) : o.wp P a w K' Q' := by
  unfold Oper.wp at *
  generalize (execOp a.eval o).run P w = r at *
  cases r with
  | ok n w' =>
    cases n <;> simp only [Oper.upon] at hh ⊢ <;>
      first
        | exact h _ _ hh
        | exact Calls.mono hh (fun e w'' he => by cases e <;> first | exact h _ _ he | exact hp _ _ _ he | exact hL he)
        | exact Rows.mono hh (fun _ _ he => h _ _ he)
  | halt x w' => cases x <;> simp only [Oper.upon] at hh ⊢ <;> first | exact hp _ _ _ hh | exact hh
def thenOps (P : Program) (ops : Array Oper) (Q : Exit → Act → World → Prop) (r : List Nat) : Exit → Act → World → Prop
  | .normal, a, w => wpOps P ops Q r a w
  | .exit id, a, w => Q (.exit id) a w
  | .goto l, a, w => Q (.goto l) a w
  | .ret, a, w => Q .ret a w
  | .panic ch, a, w => Q (.panic ch) a w
  | .outgrown, a, w => Q .outgrown a w
theorem wpOps_app {P : Program} {pre suf : List Oper} {Q : Exit → Act → World → Prop} (r : List Nat) (hg : guardOk pre.length pre = true) : ∀ (s : List Nat) (a : Act) (w : World), (∀ i ∈ s, i < pre.length) →
    wpOps P pre.toArray (thenOps P (pre ++ suf).toArray Q r) s a w → wpOps P (pre ++ suf).toArray Q (s ++ r) a w := by
  intro s
  induction s with
  | nil => intro a w _ h; exact h
  | cons i s ih =>
    intro a w hs h
    have hi : i < pre.length := hs i (by simp)
    have o1 : (pre ++ suf)[i]? = some pre[i] := by rw [List.getElem?_append_left hi, List.getElem?_eq_getElem hi]
    have o2 : pre[i]? = some pre[i] := List.getElem?_eq_getElem hi
    have hg' := List.all_eq_true.1 hg pre[i] (List.getElem_mem hi)
    have ih' : ∀ a w, wpOps P pre.toArray (thenOps P (pre ++ suf).toArray Q r) s a w → wpOps P (pre ++ suf).toArray Q (s ++ r) a w := fun a w h => ih a w (fun j hj => hs j (by simp [hj])) h
    have hw : Region.wanted pre[i] (yielded (pre ++ suf).toArray a.tmps) = Region.wanted pre[i] (yielded pre.toArray a.tmps) := by
      unfold Region.wanted
      cases hgd : pre[i].guard with
      | none => rfl
      | some g =>
        obtain ⟨j, b⟩ := g
        rw [hgd] at hg'
        have hj : j < pre.length := by simpa [Nat.blt_eq] using hg'
        have : yielded (pre ++ suf).toArray a.tmps j = yielded pre.toArray a.tmps j := by
          unfold yielded
          simp only [List.getElem?_toArray, List.getElem?_append_left hj]
        simp only [this]
    simp only [List.cons_append, wpOps, List.getElem?_toArray, o1, o2] at h ⊢
    rw [hw]
    split
    · rename_i hww
      rw [if_pos hww] at h
      rcases h with h | ⟨h1, h2⟩
      · exact .inl (Oper.wp_change (Q := thenOps P (pre ++ suf).toArray Q r) ih' (fun _ _ _ h => h) (fun h => h) h)
      · exact .inr ⟨h1, h2⟩
    · rename_i hww
      rw [if_neg hww] at h
      exact ih' _ _ h
theorem goL_lt {ops : List Oper} : ∀ (fuel t : Nat) (x : Array Bool), ∀ i ∈ goL ops.toArray fuel t x, i < ops.length := by
  intro fuel
  induction fuel with
  | zero => intro t x i hi; simp [goL] at hi
  | succ fuel ih =>
    intro t x i hi
    rw [goL_succ] at hi
    generalize hrs : (List.range ops.toArray.size).filter (elig ops.toArray x) = rs at hi
    cases hg : rs[t % rs.length]? with
    | none => rw [hg] at hi; simp at hi
    | some j =>
      rw [hg] at hi
      simp only [List.mem_cons] at hi
      rcases hi with rfl | hi
      · have := List.mem_of_getElem? hg
        rw [← hrs, List.mem_filter] at this
        simpa using this.1
      · exact ih _ _ i hi
theorem rep_f (n j : Nat) : (Array.replicate n false).getD j false = false := by
  simp only [Array.getD_eq_getD_getElem?, Array.getElem?_replicate]
  split <;> rfl
/-- The first operations in an order of their own, the others as they stand. -/
theorem c_split {c : Cx} {id : Nat} {Q : Exit → Act → World → Prop} {l : List (Nat × Value)} {M : Heap} {L : List Item} (k : Nat) {ops : List Oper} (hm : c.P.follows .mixedOrders = true) (hk : splitOk k ops = true) (hb : backward (ops.take k) = true) (hg : guardOk k (ops.take k) = true) (hkl : Nat.ble k ops.length = true)
    (h : ∀ K : Act → World → Prop, (∀ l M L, c.W ops.toArray (ops.drop k) Q l M L → c.N K l M L) → c.D (ops.take k) (thenOps c.P ops.toArray Q (List.range' k (ops.drop k).length)) l M L ∨ c.D (ops.take k) (fun e a w => match e with | .normal => K a w | e => Q e a w) l M L) : c.C (.region id ops.toArray true) Q l M L := by
  have hkl := Nat.le_of_ble_eq_true hkl
  have hlen : (ops.take k).length = k := by simp; omega
  refine c_open hm ?_
  intro a w hf hs t
  have he : ops = ops.take k ++ ops.drop k := (List.take_append_drop k ops).symm
  have e1 := goL_split (pre := ops.take k) (suf := ops.drop k) (by rw [← he, hlen]; exact hk) hb k t (Array.replicate ops.length false) (Array.replicate (ops.take k).length false) (by rw [← he]; simp) (by simp) (fun j _ => by rw [rep_f, rep_f]) (fun j _ => rep_f _ _) (fun p q hp => by rw [rep_f] at hp; cases hp) (Nat.le_trans List.countP_le_length (by simp; omega))
  rw [← he, hlen, show k + (ops.drop k).length = ops.length by simp; omega] at e1
  rw [e1]
  have e2 : wpOps c.P ops.toArray Q (List.range' k (ops.drop k).length) = wpList c.P ops.toArray Q (ops.drop k) := wpOps_eq_wpList _ k (fun j => by simp)
  have fin := h (wpOps c.P ops.toArray Q (List.range' k (ops.drop k).length)) (fun l M L h a w hf hs => by rw [e2]; exact h a w hf hs)
  have fin : c.D (ops.take k) (thenOps c.P ops.toArray Q (List.range' k (ops.drop k).length)) l M L := by
    rcases fin with h | h
    · exact h
    · have : (fun (e : Exit) a w => match e with | .normal => wpOps c.P ops.toArray Q (List.range' k (ops.drop k).length) a w | e => Q e a w) = thenOps c.P ops.toArray Q (List.range' k (ops.drop k).length) := by
        funext e a w; cases e <;> rfl
      rw [this] at h; exact h
  have := fin a w hf hs t
  rw [hlen] at this
  have r := wpOps_app (pre := ops.take k) (suf := ops.drop k) (Q := Q) (List.range' k (ops.drop k).length) (by rw [hlen]; exact hg) _ _ _ (fun i hi => goL_lt _ _ _ i hi) (by rw [← he]; exact this)
  rw [← he] at r; exact r
def thenK (K : Act → World → Prop) (Q : Exit → Act → World → Prop) : Exit → Act → World → Prop
  | .normal => K
  | e => Q e
theorem c_split2 {c : Cx} {id : Nat} {Q : Exit → Act → World → Prop} {l : List (Nat × Value)} {M : Heap} {L : List Item} (k : Nat) {ops : List Oper} (hm : c.P.follows .mixedOrders = true) (hk : splitOk k ops = true) (hb : backward (ops.take k) = true) (hg : guardOk k (ops.take k) = true) (hkl : Nat.ble k ops.length = true)
    (h : ∀ K : Act → World → Prop, (∀ l M L, c.W ops.toArray (ops.drop k) Q l M L → c.N K l M L) → c.D (ops.take k) (thenK K Q) l M L) : c.C (.region id ops.toArray true) Q l M L := by
  refine c_split k hm hk hb hg hkl fun K hK => .inr ?_
  have e : (fun (e : Exit) a w => match e with | .normal => K a w | e => Q e a w) = thenK K Q := by
    funext e a w; cases e <;> rfl
  rw [e]; exact h K hK
end Go.Cu
