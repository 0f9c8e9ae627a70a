/- Rules for walks over facts, pure functions and plain laws; no condition. -/
import Derived.Test.YtakfalfggmgcfaaGreatDoorCK0
import Derived.KernelRfl
import Derived.Shelf.Strings.OnBuilder
import Derived.Ground.NamesProg
import Derived.Lib.Agree
import Derived.Test.YtakfalfggmgcfaaGreatDoorProg
import Derived.Shelf.Spec.SlicesGrow
import Derived.Ground.Names8Prog
set_option linter.unusedVariables false
set_option linter.unusedSimpArgs false

namespace Go.Cu
open Go
def Cx.D (c : Cx) (ops : List Oper) (Q : Exit → Act → World → Prop) (l : List (Nat × Value)) (M : Heap) (L : List Item) : Prop :=
 ∀ a w, Fr c.n l a → St c.X c.M0 c.w0 M (lt L) w → ∀ t, wpOps c.P ops.toArray Q (goL ops.toArray ops.length t (Array.replicate ops.length false)) a { w with drawn := w.drawn + 1 }
section
variable {c : Cx} {ops : List Oper} {l : List (Nat × Value)} {M : Heap} {m0 : Nat}
theorem d_draw {Q : Exit → Act → World → Prop} {L : List Item} (R : RPlan) (hm : c.P.follows .mixedOrders = true) (hL : L.length = m0)
  (hback : backward ops = true) (hdst : dstsOk ops = true) (hwr : ∀ r, (R.wr r).Nodup) (hwl : ∀ r i, i ∈ R.wr r → i < ops.length) (hwn : ∀ i j, (R.wr (m0 + i)).contains j = true → de ops j i = true)
  (hsort : ∀ r i, (R.wr r).contains i = true → sorted ops (R.wr r) i = true)
  (mA : ∀ i v M M' tg, HLe M M' → R.A i v M tg → R.A i v M' tg) (mK : ∀ r k x M M', HLe M M' → R.K r k x M → R.K r k x M')
  (hK0 : ∀ r, r < m0 → R.K r 0 (lt L r) M)
  (hnd : ops.all (fun o => match o.dst with | some d => Nat.blt d c.n | none => true) = true)
  (hop : ∀ i o, ops[i]? = some o → ∀ a w M' it tg, RPre c ops l M m0 R i a w M' it tg →
   (Region.wanted o (yielded ops.toArray a.tmps) = true ∧ OpOK c.P o a w (RPost c ops m0 R i M' it tg)) ∨
   (Region.wanted o (yielded ops.toArray a.tmps) = false ∧ RPost c ops m0 R i M' it tg undef w))
  (hend : ∀ a w M' it tg, REnd c ops l M m0 R a w M' it tg → Q .normal a w) : c.D ops Q l M L := by
 intro a w hf hs
 intro t
 let Sof : Array Bool → Nat → Bool := fun x i => x.getD i false
 have done : ∀ (S : Nat → Bool) (a : Act) (w : World), (∀ i, i < ops.length → S i = true) →
   (∃ M' it tg, RInv c ops l M m0 R S a w M' it tg ∧ ∀ r, m0 ≤ r → S (r - m0) = false → it r = none) → Q .normal a w := by
  rintro S a w hall ⟨M', it, tg, h, hn⟩
  refine hend a w M' it tg ⟨h.st, h.le, h.df, h.sz, ?_, ?_, ?_, h.tag⟩
  ·intro t v hv hx
   refine h.base t v hv fun i o ho _ e => ?_
   have := List.all_eq_true.1 hx o (List.mem_of_getElem? ho)
   simp [e, Nat.beq_refl] at this
  ·intro i o t ho ht
   exact h.val i o t ho (hall i (List.getElem?_eq_some_iff.1 ho).1) ht
  ·intro r hr
   have e : (R.wr r).countP S = (R.wr r).length := by
    rw [List.countP_eq_length]
    exact fun i hi => hall i (hwl r i hi)
   rw [← e]
   exact h.item r (hr.imp (fun h => h) fun h' => hall _ h')
 have key : ∀ (fuel t : Nat) (listed : Array Bool) (a : Act) (w : World), listed.size = ops.length → Closed ops (Sof listed) → (listed.toList.countP (fun b => !b) ≤ fuel) →
   (∃ M' it tg, RInv c ops l M m0 R (Sof listed) a w M' it tg ∧ ∀ r, m0 ≤ r → Sof listed (r - m0) = false → it r = none) → wpOps c.P ops.toArray Q (goL ops.toArray fuel t listed) a w := by
  intro fuel
  induction fuel with
  | zero =>
   intro t listed a w hsz hcl hcnt hinv
   simp only [goL, wpOps]
   refine done (Sof listed) a w ?_ hinv
   intro i hi
   have h0 : listed.toList.countP (fun b => !b) = 0 := by omega
   rw [List.countP_eq_zero] at h0
   have hi' : i < listed.toList.length := by simpa [hsz] using hi
   have := h0 (listed.toList[i]) (List.getElem_mem hi')
   show listed.getD i false = true
   simp [Array.getD_eq_getD_getElem?, show i < listed.size by omega] at this ⊢
   exact this
  | succ fuel ih =>
   intro t listed a w hsz hcl hcnt hinv
   simp only [goL]
   generalize hrs : (List.filter _ (List.range ops.toArray.size)) = rs
   by_cases hemp : rs = []
   ·subst hemp
    simp only [List.length_nil, List.getElem?_nil, wpOps]
    refine done (Sof listed) a w ?_ hinv
    intro i
    induction i using Nat.strongRecOn with
    | _ i ihi =>
     intro hi
     cases hl : Sof listed i with
     | true => rfl
     | false =>
      exfalso
      have hmem : i ∈ (List.filter (fun i => !listed.getD i true && ((ops.toArray[i]?).map (·.after.all fun e => !Region.binds .any e || listed.getD e.on false)).getD false) (List.range ops.toArray.size)) := by
       rw [List.mem_filter]
       refine ⟨by simpa using hi, ?_⟩
       have ho : ops[i]? = some ops[i] := List.getElem?_eq_getElem hi
       have hlt : i < listed.size := by omega
       have e1 : listed.getD i true = false := by
        have : listed.getD i false = false := hl
        simp [Array.getD_eq_getD_getElem?, hlt] at this ⊢
        exact this
       simp only [e1, Bool.not_false, Bool.true_and, List.getElem?_toArray, ho, Option.map_some, Option.getD_some]
       rw [Array.all_eq_true_iff_forall_mem]
       intro e he
       have hb := List.all_eq_true.1 hback (ops[i], i) (mem_zip ho)
       have hb := (Array.all_eq_true_iff_forall_mem.1 hb) e he
       simp only [Bool.or_eq_true] at hb ⊢
       rcases hb with hb | hb
       ·exact .inl hb
       ·have hb : e.on < i := by simpa [Nat.blt_eq] using hb
        exact .inr (ihi e.on hb (by omega))
      rw [hrs] at hmem
      exact absurd hmem (by simp)
   ·have hpos : 0 < rs.length := List.length_pos_iff.2 hemp
    have hlt : t % rs.length < rs.length := Nat.mod_lt _ hpos
    rw [List.getElem?_eq_getElem hlt]
    have hi : rs[t % rs.length] ∈ rs := List.getElem_mem hlt
    generalize rs[t % rs.length] = i at hi
    rw [← hrs, List.mem_filter] at hi
    obtain ⟨hi1, hi2⟩ := hi
    have hil : i < ops.length := by simpa using hi1
    have ho : ops[i]? = some ops[i] := List.getElem?_eq_getElem hil
    have hls : i < listed.size := by omega
    simp only [Bool.and_eq_true, List.getElem?_toArray, ho, Option.map_some, Option.getD_some] at hi2
    obtain ⟨hi2, hi3⟩ := hi2
    have hSi : Sof listed i = false := by
     show listed.getD i false = false
     simp [Array.getD_eq_getD_getElem?, hls] at hi2 ⊢
     exact hi2
    have hd : ∀ j, de ops i j = true → Sof listed j = true := by
     intro j hj
     unfold de at hj
     rw [ho] at hj
     obtain ⟨e, he, hj⟩ := List.any_eq_true.1 hj
     have := (Array.all_eq_true_iff_forall_mem.1 hi3) e (Array.mem_toList_iff.1 he)
     simp only [Bool.and_eq_true, Bool.or_eq_true] at hj this
     have hon := Nat.eq_of_beq_eq_true hj.2
     rw [hj.1] at this
     simp at this
     rw [← hon]
     show listed.getD e.on false = true
     simpa [Array.getD_eq_getD_getElem?] using this
    obtain ⟨M', it, tg, hinv, hnew⟩ := hinv
    have hpre := hinv.pre hcl hnew hSi hd
    have hS' : ∀ j, Sof (listed.setIfInBounds i true) j = (Sof listed j || Nat.beq j i) := by
     intro j
     show (listed.setIfInBounds i true).getD j false = (listed.getD j false || Nat.beq j i)
     simp only [Array.getD_eq_getD_getElem?]
     by_cases e : j = i
     ·subst e; simp [hls, Nat.beq_refl]
     ·have : Nat.beq j i = false := by
       cases hh : Nat.beq j i with
       | false => rfl
       | true => exact absurd (Nat.eq_of_beq_eq_true hh) e
      rw [Array.getElem?_setIfInBounds_ne (by omega), this, Bool.or_false]
    have hcl' : Closed ops (Sof (listed.setIfInBounds i true)) := by
     intro j k hj hjk
     rw [hS'] at hj ⊢
     simp only [Bool.or_eq_true] at hj ⊢
     rcases hj with hj | hj
     ·exact .inl (hcl j k hj hjk)
     ·have := Nat.eq_of_beq_eq_true hj; subst this; exact .inl (hd k hjk)
    have hcnt' : (listed.setIfInBounds i true).toList.countP (fun b => !b) ≤ fuel := by
     have hll : i < listed.toList.length := by simpa using hls
     have hget : listed.toList[i] = false := by
      have : listed.getD i false = false := hSi
      simpa [Array.getD_eq_getD_getElem?, hls] using this
     have h1 : (listed.toList.set i true).countP (fun b => !b) + 1 = listed.toList.countP (fun b => !b) := by
      exact countP_set_false _ _ (by rw [List.getElem?_eq_getElem hll, hget])
     have h2 : (listed.setIfInBounds i true).toList = listed.toList.set i true := by simp
     rw [h2]; omega
    have hnd' : ∀ d, (ops[i]).dst = some d → Nat.blt d c.n = true := by
     intro d e
     have := List.all_eq_true.1 hnd (ops[i]) (List.getElem_mem hil)
     simpa [e] using this
    have next : ∀ v w', RPost c ops m0 R i M' it tg v w' → wpOps c.P ops.toArray Q (goL ops.toArray fuel (t / rs.length) (listed.setIfInBounds i true)) (Act.put a (ops[i]).dst v) w' := by
     intro v w' hp
     obtain ⟨M'', it', tg', h1, h2⟩ := hinv.step hcl hnew mA mK hdst hwr hwl hwn (fun r => hsort r i) hSi ho hd hnd' hp
     have hfun : Sof (listed.setIfInBounds i true) = fun j => Sof listed j || Nat.beq j i := funext hS'
     refine ih _ _ _ _ (by simpa using hsz) hcl' hcnt' ⟨M'', it', tg', ?_, ?_⟩
     ·rw [hfun]; exact h1
     ·intro r hr hs; rw [hS'] at hs; exact h2 r hr hs
    simp only [wpOps, List.getElem?_toArray, ho]
    rcases hop i _ ho a w M' it tg hpre with ⟨hw, hok⟩ | ⟨hw, hp⟩
    ·rw [if_pos hw]
     exact .inl (hok _ _ next)
    ·rw [if_neg (by rw [hw]; exact Bool.false_ne_true)]
     exact next undef w hp
 refine key ops.length t (Array.replicate ops.length false) a _ (by simp) ?_ ?_ ⟨M, lt L, fun _ => undef, ⟨?_, HLe.refl _, hf.df, hf.sz, ?_, ?_, ?_, ?_⟩, ?_⟩
 ·intro i j hi
  have : Sof (Array.replicate ops.length false) i = false := by
   show (Array.replicate ops.length false).getD i false = false
   simp only [Array.getD_eq_getD_getElem?, Array.getElem?_replicate]; split <;> rfl
  rw [this] at hi; cases hi
 ·refine Nat.le_trans (List.countP_le_length) ?_
  simp
 ·exact hs.drew
 ·intro t v hv _; exact hf.get t v hv
 ·intro i o t _ hi
  have : Sof (Array.replicate ops.length false) i = false := by
   show (Array.replicate ops.length false).getD i false = false
   simp only [Array.getD_eq_getD_getElem?, Array.getElem?_replicate]; split <;> rfl
  rw [this] at hi; cases hi
 ·intro r hr
  have hz : ∀ i, Sof (Array.replicate ops.length false) i = false := by
   intro i
   show (Array.replicate ops.length false).getD i false = false
   simp only [Array.getD_eq_getD_getElem?, Array.getElem?_replicate]; split <;> rfl
  have e : (R.wr r).countP (Sof (Array.replicate ops.length false)) = 0 := by
   rw [List.countP_eq_zero]; intro i _; rw [hz]; simp
  rw [e]
  rcases hr with hr | hr
  ·exact hK0 r hr
  ·rw [hz] at hr; cases hr
 ·intro j x hx
  unfold lt at hx
  rw [List.getElem?_eq_none (by omega)] at hx; cases hx
 ·intro r hr _
  unfold lt
  exact List.getElem?_eq_none (by omega)
end
section
variable {c : Cx} {ops : List Oper} {l : List (Nat × Value)} {M : Heap}
theorem d_drawP {Q : Exit → Act → World → Prop} {L : List Item} (T : Tab) (As : List (Value → Heap → Prop)) (hm : c.P.follows .mixedOrders = true)
  (hck : chk c.n ops T = true) (mA : MonoA As)
  (hop : AllT (fun i e o => ∀ a w M', HLe M M' → DPre c l As e a M' → St c.X c.M0 c.w0 M' (lt L) w →
   OP c ops.toArray o a w fun v w' => ∃ M'', HLe M' M'' ∧ St c.X c.M0 c.w0 M'' (lt L) w' ∧ tA As i v M'') 0 T ops)
  (hend : ∀ a w M', HLe M M' → a.defers = [] → a.tmps.size = c.n → (∀ t v, lk t l = some v → (ops.all fun o => match o.dst with | some t' => !Nat.beq t t' | none => true) = true → a.tmps.getD t undef = v) →
   (∀ (i t : Nat) (p : Value → Heap → Prop), (ops[i]?).bind (fun o => o.dst) = some t → As[i]? = some p → p (a.tmps.getD t undef) M') → St c.X c.M0 c.w0 M' (lt L) w → Q .normal a w) : c.D ops Q l M L := by
 unfold chk at hck
 simp only [Bool.and_eq_true] at hck
 obtain ⟨⟨⟨h1, h2⟩, h3⟩, h4⟩ := hck
 have eqL : ∀ {M' : Heap} {w : World} {it : Nat → Option Item}, St c.X c.M0 c.w0 M' it w → (∀ r, r < L.length → it r = lt L r) → St c.X c.M0 c.w0 M' (lt L) w := by
  intro M' w it hs h
  refine hs.less fun r x hx => ?_
  have hr : r < L.length := by
   unfold lt at hx
   exact (List.getElem?_eq_some_iff.1 hx).1
  rw [h r hr]; exact hx
 refine d_draw (m0 := L.length) ⟨fun i v M _ => tA As i v M, fun r _ x _ => x = lt L r, fun _ => []⟩ hm rfl h1 h2 (fun _ => List.nodup_nil) (by simp) (by simp) (by simp)
  (fun i v M M' _ hM h => mA.get hM h) (fun _ _ _ _ _ _ h => h) (fun _ _ => rfl) h3 ?_ ?_
 ·intro i o ho a w M' it tg hp
  obtain ⟨e, he, hf⟩ := hop.get ho
  rw [Nat.zero_add] at hf
  have hc := List.all_eq_true.1 h4 (e, i) (by rw [List.mem_zipIdx_iff_getElem?]; exact he)
  unfold chk1 at hc
  simp only [Bool.and_eq_true] at hc
  have hit : ∀ r, it r = lt L r := by
   intro r
   by_cases hr : r < L.length
   ·exact hp.item r (.inl hr) (by simp [sorted])
   ·have e1 : lt L r = none := List.getElem?_eq_none (by omega)
    rw [e1]
    exact hp.fin r (by omega) fun k x M h => by rw [h, e1]
  have hit : it = lt L := funext hit
  subst hit
  have hd : DPre c l As e a M' := by
   refine ⟨hp.df, hp.sz, ?_, ?_⟩
   ·intro t v hv ht
    exact hp.base t v hv (List.all_eq_true.1 hc.2 t (List.contains_iff_mem.1 ht))
   ·intro j t p ht hp'
    have := List.all_eq_true.1 hc.1 (j, t) (List.contains_iff_mem.1 ht)
    simp only [Bool.and_eq_true] at this
    cases ho' : ops[j]? with
    | none => rw [ho'] at this; simp at this
    | some o' =>
     rw [ho'] at this
     cases hdst : o'.dst with
     | none => simp [hdst] at this
     | some t' =>
      simp only [Option.bind_some, hdst] at this
      have e2 := Nat.eq_of_beq_eq_true this.2
      subst e2
      have := hp.val j o' t ho' hdst this.1
      simpa [tA, hp'] using this
  have hr := hf a w M' hp.le hd hp.st
  have post : ∀ v w', (∃ M'', HLe M' M'' ∧ St c.X c.M0 c.w0 M'' (lt L) w' ∧ tA As i v M'') → RPost c ops L.length ⟨fun i v M _ => tA As i v M, fun r _ x _ => x = lt L r, fun _ => []⟩ i M' (lt L) tg v w' := by
   rintro v w' ⟨M'', q1, q2, q3⟩
   refine ⟨M'', lt L, undef, q1, q2, q3, fun _ _ _ => rfl, fun r hr => by simp at hr, rfl, ?_⟩
   intro x hx
   have : lt L (L.length + i) = none := List.getElem?_eq_none (by omega)
   rw [this] at hx; cases hx
  rcases hr with ⟨q1, q2⟩ | ⟨q1, q2⟩
  ·exact .inl ⟨q1, fun next Q hn => q2 next Q fun v w' h => hn v w' (post v w' h)⟩
  ·exact .inr ⟨q1, post _ _ q2⟩
 ·intro a w M' it tg he
  refine hend a w M' he.le he.df he.sz he.base ?_ (eqL he.st fun r hr => he.item r (.inl hr))
  intro i t p ht hp
  cases ho' : ops[i]? with
  | none => rw [ho'] at ht; simp at ht
  | some o' =>
   rw [ho'] at ht
   have := he.val i o' t ho' (by simpa using ht)
   simpa [tA, hp] using this
theorem d_drawW {Q : Exit → Act → World → Prop} {L : List Item} (wss : List (List Nat)) (T : List RowW) (As : List (Value → Heap → Prop)) (Ps : List (List (Item → Heap → Prop)))
  (hm : c.P.follows .mixedOrders = true) (hck : chkW c.n ops wss T = true) (mA : MonoA As) (mK : MonoK Ps) (hwl : wss.length = Ps.length) (hK0 : All0 M Ps L)
  (hop : AllW (fun i e o => ∀ a w M' L', HLe M M' → L'.length = L.length → WPre c l As Ps e a M' L' → St c.X c.M0 c.w0 M' (lt L') w →
   OP c ops.toArray o a w fun v w' => ∃ M'' L'', HLe M' M'' ∧ St c.X c.M0 c.w0 M'' (lt L'') w' ∧ tA As i v M'' ∧ WPost Ps e M'' L' L'') 0 T ops)
  (hend : ∀ a w M' L', HLe M M' → L'.length = L.length → a.defers = [] → a.tmps.size = c.n →
   (∀ t v, lk t l = some v → (ops.all fun o => match o.dst with | some t' => !Nat.beq t t' | none => true) = true → a.tmps.getD t undef = v) →
   (∀ (i t : Nat) (p : Value → Heap → Prop), (ops[i]?).bind (fun o => o.dst) = some t → As[i]? = some p → p (a.tmps.getD t undef) M') →
   (∀ (r : Nat) (p : Item → Heap → Prop), (wss[r]?).bind (fun ws => (Ps[r]?).bind fun ps => ps[ws.length]?) = some p → ∃ y, L'[r]? = some y ∧ p y M') →
   St c.X c.M0 c.w0 M' (lt L') w → Q .normal a w) : c.D ops Q l M L := by
 unfold chkW at hck
 simp only [Bool.and_eq_true] at hck
 obtain ⟨⟨⟨⟨⟨h1, h2⟩, h3⟩, h4⟩, h5⟩, h6⟩ := hck
 obtain ⟨hPL, hK0'⟩ := hK0.get
 let K : Nat → Nat → Option Item → Heap → Prop := fun r k x M => match Ps[r]? with | some ps => ∃ y, x = some y ∧ ∀ p, ps[k]? = some p → p y M | none => x = none
 let WR : Nat → List Nat := fun r => (wss[r]?).getD []
 have Kge : ∀ {r k x M}, L.length ≤ r → K r k x M → x = none := by
  intro r k x M hr h
  have : Ps[r]? = none := List.getElem?_eq_none (by omega)
  simpa only [K, this] using h
 have Klt : ∀ {r k x M}, r < L.length → K r k x M → ∃ y, x = some y := by
  intro r k x M hr h
  have : Ps[r]? = some Ps[r] := List.getElem?_eq_getElem (by omega)
  simp only [K, this] at h
  exact ⟨_, h.choose_spec.1⟩
 have WRge : ∀ {r}, L.length ≤ r → WR r = [] := by
  intro r hr
  have : wss[r]? = none := List.getElem?_eq_none (by omega)
  simp [WR, this]
 have mem5 : ∀ {r}, nodupB (WR r) = true ∧ ∀ i ∈ WR r, i < ops.length := by
  intro r
  by_cases hr : r < wss.length
  ·have := List.all_eq_true.1 h5 wss[r] (List.getElem_mem hr)
   simp only [Bool.and_eq_true, List.all_eq_true] at this
   have e : WR r = wss[r] := by simp [WR, hr]
   rw [e]
   exact ⟨this.1, fun i hi => by simpa [Nat.blt_eq] using this.2 i hi⟩
  ·have e : WR r = [] := by simp [WR, show wss.length ≤ r by omega]
   rw [e]; exact ⟨rfl, by simp⟩
 have wrOf : ∀ {i : Nat} {e : RowW}, T[i]? = some e → ∀ {r}, (WR r).contains i = true → ∃ k, e.wr = some (r, k) ∧ sorted ops (WR r) i = true ∧ (WR r).countP (de ops i) = k ∧ r < L.length := by
  intro i e he r hr
  have hrl : r < wss.length := by
   rcases Nat.lt_or_ge r wss.length with h | h
   ·exact h
   ·rw [WRge (by omega)] at hr; simp at hr
  have eW : WR r = wss[r] := by simp [WR, hrl]
  have hc := List.all_eq_true.1 h4 (e, i) (by rw [List.mem_zipIdx_iff_getElem?]; exact he)
  unfold chkW1 at hc
  simp only [Bool.and_eq_true] at hc
  have hw := hc.2
  cases hwr : e.wr with
  | none =>
   rw [hwr] at hw
   have := List.all_eq_true.1 hw wss[r] (List.getElem_mem hrl)
   rw [eW] at hr; rw [hr] at this; simp at this
  | some rk =>
   obtain ⟨r', k⟩ := rk
   rw [hwr] at hw
   simp only [Bool.and_eq_true] at hw
   have := List.all_eq_true.1 hw.1 (wss[r], r) (by rw [List.mem_zipIdx_iff_getElem?]; exact List.getElem?_eq_getElem hrl)
   rw [eW] at hr
   simp only [hr] at this
   have e1 : r' = r := Nat.eq_of_beq_eq_true (by simpa using this)
   subst e1
   have h2 := hw.2
   rw [List.getElem?_eq_getElem hrl] at h2
   simp only [Bool.and_eq_true] at h2
   rw [eW]
   exact ⟨k, rfl, h2.1, Nat.eq_of_beq_eq_true h2.2, by omega⟩
 have notOf : ∀ {i : Nat} {e : RowW}, T[i]? = some e → ∀ {r k}, e.wr = some (r, k) → (WR r).contains i = true ∧ r < L.length := by
  intro i e he r k hwr
  have hc := List.all_eq_true.1 h4 (e, i) (by rw [List.mem_zipIdx_iff_getElem?]; exact he)
  unfold chkW1 at hc
  simp only [Bool.and_eq_true] at hc
  have hw := hc.2
  rw [hwr] at hw
  simp only [Bool.and_eq_true] at hw
  have hrl : r < wss.length := by
   rcases Nat.lt_or_ge r wss.length with h | h
   ·exact h
   ·have := hw.2; rw [List.getElem?_eq_none h] at this; simp at this
  have := List.all_eq_true.1 hw.1 (wss[r], r) (by rw [List.mem_zipIdx_iff_getElem?]; exact List.getElem?_eq_getElem hrl)
  simp only [Nat.beq_refl] at this
  have eW : WR r = wss[r] := by simp [WR, hrl]
  rw [eW]
  exact ⟨by simpa using this, by omega⟩
 have hTl : T.length = ops.length := Nat.eq_of_beq_eq_true h6
 refine d_draw (m0 := L.length) ⟨fun i v M _ => tA As i v M, K, WR⟩ hm rfl h1 h2 (fun r => nodupB.nodup mem5.1) (fun r i hi => mem5.2 i hi) (fun i j h => ?_) (fun r i hi => ?_)
  (fun i v M M' _ hM h => mA.get hM h) (fun r k x M1 M2 hM h => ?_) (fun r hr => ?_) h3 ?_ ?_
 ·have : WR (L.length + i) = [] := WRge (by omega)
  rw [show (RPlan.wr ⟨fun i v M _ => tA As i v M, K, WR⟩) = WR from rfl, this] at h
  simp at h
 ·have hil := mem5.2 i (List.contains_iff_mem.1 hi)
  obtain ⟨k, _, h, _⟩ := wrOf (List.getElem?_eq_getElem (show i < T.length by omega)) hi
  exact h
 ·show K r k x M2
  have h : K r k x M1 := h
  simp only [K] at h ⊢
  cases hp : Ps[r]? with
  | none => rw [hp] at h; exact h
  | some ps =>
   rw [hp] at h
   obtain ⟨y, e, hy⟩ := h
   exact ⟨y, e, fun p hpp => mK.get hp p (List.mem_of_getElem? hpp) y M1 M2 hM (hy p hpp)⟩
 ·show K r 0 (lt L r) M
  have e1 : Ps[r]? = some Ps[r] := List.getElem?_eq_getElem (by omega)
  have e2 : L[r]? = some L[r] := List.getElem?_eq_getElem hr
  simp only [K, e1]
  exact ⟨L[r], e2, hK0' r _ _ e1 e2⟩
 ·intro i o ho a w M' it tg hp
  obtain ⟨e, he, hf⟩ := hop.get ho
  rw [Nat.zero_add] at hf
  have hc := List.all_eq_true.1 h4 (e, i) (by rw [List.mem_zipIdx_iff_getElem?]; exact he)
  unfold chkW1 at hc
  simp only [Bool.and_eq_true] at hc
  have hit : it = lt ((List.range L.length).map fun r => (it r).getD dead) := by
   funext r
   unfold lt
   by_cases hr : r < L.length
   ·obtain ⟨y, hy⟩ := hp.isSome r hr fun k x M h => Klt hr h
    simp [hr, hy]
   ·rw [List.getElem?_eq_none (by simp; omega)]
    exact hp.fin r (by omega) fun k x M h => Kge (by omega) h
  generalize hL' : ((List.range L.length).map fun r => (it r).getD dead) = L' at hit
  have hLl : L'.length = L.length := by rw [← hL']; simp
  subst hit
  have hd : WPre c l As Ps e a M' L' := by
   refine ⟨hp.df, hp.sz, ?_, ?_, ?_⟩
   ·intro t v hv ht
    exact hp.base t v hv (List.all_eq_true.1 hc.1.1.2 t (List.contains_iff_mem.1 ht))
   ·intro j t p ht hp'
    have := List.all_eq_true.1 hc.1.1.1 (j, t) (List.contains_iff_mem.1 ht)
    simp only [Bool.and_eq_true] at this
    cases ho' : ops[j]? with
    | none => rw [ho'] at this; simp at this
    | some o' =>
     rw [ho'] at this
     cases hdst : o'.dst with
     | none => simp [hdst] at this
     | some t' =>
      simp only [Option.bind_some, hdst] at this
      have e2 := Nat.eq_of_beq_eq_true this.2
      subst e2
      have := hp.val j o' t ho' hdst this.1
      simpa [tA, hp'] using this
   ·intro r k p hr hpp
    have := List.all_eq_true.1 hc.1.2 (r, k) (List.contains_iff_mem.1 hr)
    cases hw : wss[r]? with
    | none => simp [hw] at this
    | some ws =>
     simp only [hw, Bool.and_eq_true] at this
     have eW : WR r = ws := by simp [WR, hw]
     have hrl : r < wss.length := (List.getElem?_eq_some_iff.1 hw).1
     have h := hp.item r (.inl (by omega)) (show sorted ops (WR r) i = true by rw [eW]; exact this.1)
     have h : K r ((WR r).countP (de ops i)) (lt L' r) M' := h
     rw [eW, Nat.eq_of_beq_eq_true this.2] at h
     cases hps : Ps[r]? with
     | none => simp [hps] at hpp
     | some ps =>
      simp only [hps, Option.bind_some] at hpp
      simp only [K, hps] at h
      obtain ⟨y, e1, e2⟩ := h
      exact ⟨y, e1, e2 p hpp⟩
  have hr := hf a w M' L' hp.le hLl hd hp.st
  have post : ∀ v w', (∃ M'' L'', HLe M' M'' ∧ St c.X c.M0 c.w0 M'' (lt L'') w' ∧ tA As i v M'' ∧ WPost Ps e M'' L' L'') →
    RPost c ops L.length ⟨fun i v M _ => tA As i v M, K, WR⟩ i M' (lt L') tg v w' := by
   rintro v w' ⟨M'', L'', q1, q2, q3, q4⟩
   unfold WPost at q4
   have hnone : ∀ (L2 : List Item), L2.length = L.length → lt L2 (L.length + i) = none := fun L2 h => List.getElem?_eq_none (by omega)
   have hKn : ∀ (L2 : List Item), L2.length = L.length → K (L.length + i) 0 (lt L2 (L.length + i)) M'' := by
    intro L2 h
    have : Ps[L.length + i]? = none := List.getElem?_eq_none (by omega)
    simp only [K, this]
    exact hnone L2 h
   cases hwr : e.wr with
   | none =>
    rw [hwr] at q4
    subst q4
    refine ⟨M'', lt L'', undef, q1, q2, q3, fun _ _ _ => rfl, fun r hr => ?_, hKn _ hLl, ?_⟩
    ·obtain ⟨k, hk, _⟩ := wrOf he hr
     rw [hwr] at hk; cases hk
    ·intro x hx
     rw [hnone _ hLl] at hx; cases hx
   | some rk =>
    obtain ⟨r0, k⟩ := rk
    rw [hwr] at q4
    obtain ⟨y, g3, g4⟩ := q4
    subst g3
    have hl2 : (L'.set r0 y).length = L.length := by simp [hLl]
    obtain ⟨hin, hr0⟩ := notOf he hwr
    refine ⟨M'', lt (L'.set r0 y), undef, q1, q2, q3, fun r hr _ => ?_, fun r hr => ?_, hKn _ hl2, ?_⟩
    ·have : r0 ≠ r := by
      rintro rfl
      rw [show (RPlan.wr ⟨fun i v M _ => tA As i v M, K, WR⟩) r0 = WR r0 from rfl, hin] at hr
      cases hr
     unfold lt
     rw [List.getElem?_set_ne this]
    ·obtain ⟨k', hk', _, hcount, _⟩ := wrOf he hr
     rw [hwr] at hk'
     injection hk' with hk'
     injection hk' with e1 e2
     subst e1 e2
     have hset : lt (L'.set r0 y) r0 = some y := by
      unfold lt
      rw [List.getElem?_set_self (by omega)]
     refine ⟨?_, ?_⟩
     ·show K r0 ((WR r0).countP (de ops i) + 1) (lt (L'.set r0 y) r0) M''
      rw [hcount, hset]
      have e1 : Ps[r0]? = some Ps[r0] := List.getElem?_eq_getElem (by omega)
      simp only [K, e1]
      refine ⟨y, rfl, fun p hpp => g4 p ?_⟩
      rw [e1]; exact hpp
     ·intro hge
      omega
    ·intro x hx
     rw [hnone _ hl2] at hx; cases hx
  rcases hr with ⟨q1, q2⟩ | ⟨q1, q2⟩
  ·exact .inl ⟨q1, fun next Q hn => q2 next Q fun v w' h => hn v w' (post v w' h)⟩
  ·exact .inr ⟨q1, post _ _ q2⟩
 ·intro a w M' it tg he
  have key : ∀ r, r < L.length → ∃ y, it r = some y := fun r hr => Klt hr (he.item r (.inl hr))
  have hlt : ∀ r, r < L.length → lt ((List.range L.length).map fun r => (it r).getD dead) r = it r := by
   intro r hr
   obtain ⟨y, hy⟩ := key r hr
   unfold lt
   simp [hr, hy]
  refine hend a w M' ((List.range L.length).map fun r => (it r).getD dead) he.le (by simp) he.df he.sz he.base ?_ ?_ (he.st.less ?_)
  ·intro i t p ht hp
   cases ho' : ops[i]? with
   | none => rw [ho'] at ht; simp at ht
   | some o' =>
    rw [ho'] at ht
    have := he.val i o' t ho' (by simpa using ht)
    simpa [tA, hp] using this
  ·intro r p hpp
   cases hw : wss[r]? with
   | none => simp [hw] at hpp
   | some ws =>
    have hrl : r < wss.length := (List.getElem?_eq_some_iff.1 hw).1
    cases hps : Ps[r]? with
    | none => simp [hw, hps] at hpp
    | some ps =>
     simp only [hw, hps, Option.bind_some] at hpp
     have h := he.item r (.inl (by omega))
     have h : K r (WR r).length (it r) M' := h
     have eW : WR r = ws := by simp [WR, hw]
     rw [eW] at h
     simp only [K, hps] at h
     obtain ⟨y, e1, e2⟩ := h
     refine ⟨y, ?_, e2 p hpp⟩
     have := hlt r (by omega)
     unfold lt at this
     rw [this, e1]
  ·intro r x hx
   have hr : r < L.length := by
    unfold lt at hx
    have := (List.getElem?_eq_some_iff.1 hx).1
    simpa using this
   rw [← hlt r hr]; exact hx
theorem d_drawN {Q : Exit → Act → World → Prop} {L : List Item} (al : List Nat) (wss : List (List Nat)) (T : List RowN) (As : List (Value → Heap → Prop)) (Ps : List (List (Item → Heap → Prop)))
  (hm : c.P.follows .mixedOrders = true) (hck : chkN c.n L.length ops wss al T = true) (mA : MonoA As) (mK : MonoK Ps) (hwl : wss.length = Ps.length) (hK0 : All0N M Ps L)
  (hop : AllN (fun i e o => ∀ a w M' L', HLe M M' → L'.length = L.length + al.length → NPre c l As Ps al L.length e a M' L' → St c.X c.M0 c.w0 M' (lt L') w →
   OP c ops.toArray o a w fun v w' => ∃ M'' L'', HLe M' M'' ∧ St c.X c.M0 c.w0 M'' (lt L'') w' ∧ tA As i v M'' ∧ NPost Ps L.length e v M'' L' L'') 0 T ops)
  (hend : ∀ a w M' L', HLe M M' → L'.length = L.length + al.length → a.defers = [] → a.tmps.size = c.n →
   (∀ t v, lk t l = some v → (ops.all fun o => match o.dst with | some t' => !Nat.beq t t' | none => true) = true → a.tmps.getD t undef = v) →
   (∀ (i t : Nat) (p : Value → Heap → Prop), (ops[i]?).bind (fun o => o.dst) = some t → As[i]? = some p → p (a.tmps.getD t undef) M') →
   (∀ (r : Nat) (p : Item → Heap → Prop), (wss[r]?).bind (fun ws => (Ps[r]?).bind fun ps => ps[ws.length]?) = some p → ∃ y, L'[r]? = some y ∧ p y M') →
   (∀ (q i t : Nat) (y : Item), al[q]? = some i → (ops[i]?).bind (fun o => o.dst) = some t → L'[L.length + q]? = some y → y.tag = a.tmps.getD t undef) →
   St c.X c.M0 c.w0 M' (lt L') w → Q .normal a w) : c.D ops Q l M L := by
 unfold chkN at hck
 simp only [Bool.and_eq_true] at hck
 obtain ⟨⟨⟨⟨⟨⟨⟨⟨⟨h1, h2⟩, h3⟩, h4⟩, h5⟩, h6⟩, h7⟩, h8⟩, h9⟩, h10⟩ := hck
 have hal := nodupB.nodup h7
 have hwsl : wss.length = L.length + al.length := Nat.eq_of_beq_eq_true h10
 have hPl : Ps.length = L.length + al.length := by omega
 have hTl : T.length = ops.length := Nat.eq_of_beq_eq_true h6
 let ix : Nat → Option Nat := fun r => if r < L.length then some r else (al.findIdx? (fun j => Nat.beq j (r - L.length))).map (L.length + ·)
 let rx : Nat → Nat := fun s => if s < L.length then s else L.length + al.getD (s - L.length) 0
 have ixlt : ∀ {r s}, ix r = some s → s < L.length + al.length ∧ rx s = r := by
  intro r s h
  simp only [ix] at h
  split at h
  ·injection h with h; subst h
   exact ⟨by omega, by simp only [rx]; rw [if_pos (by assumption)]⟩
  ·rename_i hr
   cases hf : al.findIdx? (fun j => Nat.beq j (r - L.length)) with
   | none => rw [hf] at h; cases h
   | some q =>
    rw [hf] at h
    simp only [Option.map_some, Option.some.injEq] at h
    subst h
    obtain ⟨hq, hv, _⟩ := List.findIdx?_eq_some_iff_getElem.1 hf
    refine ⟨by omega, ?_⟩
    simp only [rx]
    rw [if_neg (by omega), Nat.add_sub_cancel_left]
    have := Nat.eq_of_beq_eq_true hv
    simp only [List.getD, List.getElem?_eq_getElem hq, Option.getD_some, this]
    omega
 have ixrx : ∀ {s}, s < L.length + al.length → ix (rx s) = some s := by
  intro s hs
  by_cases h : s < L.length
  ·simp only [rx, ix, h, if_true]
  ·have hq : s - L.length < al.length := by omega
   simp only [rx, h, if_false, ix, show ¬ L.length + al.getD (s - L.length) 0 < L.length by omega, Nat.add_sub_cancel_left]
   have : al.findIdx? (fun j => Nat.beq j (al.getD (s - L.length) 0)) = some (s - L.length) := by
    rw [List.findIdx?_eq_some_iff_getElem]
    refine ⟨hq, by simp [List.getD, hq, Nat.beq_refl], ?_⟩
    intro j hj hb
    have hb := Nat.eq_of_beq_eq_true hb
    simp only [List.getD, List.getElem?_eq_getElem hq, Option.getD_some] at hb
    have := (List.getElem_inj hal).1 hb
    omega
   rw [this]
   simp only [Option.map_some]
   congr 1
   omega
 have rxinj : ∀ {s s'}, s < L.length + al.length → s' < L.length + al.length → rx s = rx s' → s = s' := by
  intro s s' h h' e
  have := ixrx h
  rw [e, ixrx h'] at this
  injection this with this
  exact this.symm
 let WR : Nat → List Nat := fun r => match ix r with | some s => (wss[s]?).getD [] | none => []
 let K : Nat → Nat → Option Item → Heap → Prop := fun r k x M => match ix r with | some s => (∃ y, x = some y ∧ ∀ p, (Ps[s]?).bind (fun ps => ps[k]?) = some p → p y M) | none => x = none
 let A : Nat → Value → Heap → (Nat → Value) → Prop := fun i v M tg => tA As i v M ∧ (al.contains i = true → v = tg i)
 have WRs : ∀ {r s}, ix r = some s → WR r = wss.getD s [] := by
  intro r s h
  simp only [WR, h, List.getD]
 have WRn : ∀ {r}, ix r = none → WR r = [] := by
  intro r h
  simp only [WR, h]
 have Ks : ∀ {r s k x M}, ix r = some s → (K r k x M ↔ ∃ y, x = some y ∧ ∀ p, (Ps[s]?).bind (fun ps => ps[k]?) = some p → p y M) := by
  intro r s k x M h
  simp only [K, h]
 have Kn : ∀ {r k x M}, ix r = none → (K r k x M ↔ x = none) := by
  intro r k x M h
  simp only [K, h]
 have mem5 : ∀ {r}, nodupB (WR r) = true ∧ ∀ i ∈ WR r, i < ops.length := by
  intro r
  cases h : ix r with
  | none => rw [WRn h]; exact ⟨rfl, by simp⟩
  | some s =>
   have hs := (ixlt h).1
   rw [WRs h]
   have hsw : s < wss.length := by omega
   have := List.all_eq_true.1 h5 wss[s] (List.getElem_mem hsw)
   simp only [Bool.and_eq_true, List.all_eq_true] at this
   simp only [List.getD, List.getElem?_eq_getElem hsw, Option.getD_some]
   exact ⟨this.1, fun i hi => by simpa [Nat.blt_eq] using this.2 i hi⟩
 have chk1 : ∀ {i e}, T[i]? = some e → chkN1 ops wss al L.length i e = true := fun {i e} he => List.all_eq_true.1 h4 (e, i) (by rw [List.mem_zipIdx_iff_getElem?]; exact he)
 have wrOf : ∀ {i : Nat} {e : RowN}, T[i]? = some e → ∀ {r}, (WR r).contains i = true → ∃ s k, ix r = some s ∧ e.wr = some (s, k) ∧ sorted ops (WR r) i = true ∧ (WR r).countP (de ops i) = k := by
  intro i e he r hr
  cases h : ix r with
  | none => rw [WRn h] at hr; simp at hr
  | some s =>
   have hs := (ixlt h).1
   have hsw : s < wss.length := by omega
   have eW : WR r = wss[s] := by rw [WRs h]; simp [List.getD, hsw]
   rw [eW] at hr ⊢
   have hc := chk1 he
   unfold chkN1 at hc
   simp only [Bool.and_eq_true] at hc
   have hw := hc.1.2
   cases hwr : e.wr with
   | none =>
    rw [hwr] at hw
    have := List.all_eq_true.1 hw wss[s] (List.getElem_mem hsw)
    rw [hr] at this; simp at this
   | some rk =>
    obtain ⟨s', k⟩ := rk
    rw [hwr] at hw
    simp only [Bool.and_eq_true] at hw
    have := List.all_eq_true.1 hw.1 (wss[s], s) (by rw [List.mem_zipIdx_iff_getElem?]; exact List.getElem?_eq_getElem hsw)
    simp only [hr] at this
    have e1 : s' = s := Nat.eq_of_beq_eq_true (by simpa using this)
    subst e1
    have h2 := hw.2
    rw [List.getElem?_eq_getElem hsw] at h2
    simp only [Bool.and_eq_true] at h2
    exact ⟨s', k, rfl, rfl, h2.1, Nat.eq_of_beq_eq_true h2.2⟩
 have notOf : ∀ {i : Nat} {e : RowN}, T[i]? = some e → ∀ {s k}, e.wr = some (s, k) → s < L.length + al.length ∧ (WR (rx s)).contains i = true := by
  intro i e he s k hwr
  have hc := chk1 he
  unfold chkN1 at hc
  simp only [Bool.and_eq_true] at hc
  have hw := hc.1.2
  rw [hwr] at hw
  simp only [Bool.and_eq_true] at hw
  have hsw : s < wss.length := by
   rcases Nat.lt_or_ge s wss.length with h | h
   ·exact h
   ·have := hw.2; rw [List.getElem?_eq_none h] at this; simp at this
  have := List.all_eq_true.1 hw.1 (wss[s], s) (by rw [List.mem_zipIdx_iff_getElem?]; exact List.getElem?_eq_getElem hsw)
  simp only [Nat.beq_refl] at this
  refine ⟨by omega, ?_⟩
  rw [WRs (ixrx (by omega))]
  simp only [List.getD, List.getElem?_eq_getElem hsw, Option.getD_some]
  simpa using this
 have mkOf : ∀ {i : Nat} {e : RowN}, T[i]? = some e → ∀ {q}, e.nw = some q → al[q]? = some i ∧ e.wr = none := by
  intro i e he q hq
  have hc := chk1 he
  unfold chkN1 at hc
  simp only [Bool.and_eq_true] at hc
  have hw := hc.2
  rw [hq] at hw
  simp only [Bool.and_eq_true] at hw
  constructor
  ·cases h : al[q]? with
   | none => rw [h] at hw; simp at hw
   | some j => rw [h] at hw; exact congrArg some (Nat.eq_of_beq_eq_true hw.1)
  ·cases h : e.wr with
   | none => rfl
   | some _ => rw [h] at hw; simp at hw
 have mkNo : ∀ {i : Nat} {e : RowN}, T[i]? = some e → e.nw = none → al.contains i = false := by
  intro i e he hq
  have hc := chk1 he
  unfold chkN1 at hc
  simp only [Bool.and_eq_true] at hc
  have hw := hc.2
  rw [hq] at hw
  simpa using hw
 have rxal : ∀ {q i}, al[q]? = some i → rx (L.length + q) = L.length + i ∧ L.length + q < L.length + al.length := by
  intro q i h
  have hq := (List.getElem?_eq_some_iff.1 h).1
  refine ⟨?_, by omega⟩
  simp only [rx]
  rw [if_neg (by omega), Nat.add_sub_cancel_left]
  simp [List.getD, h]
 have ixal : ∀ {q i}, al[q]? = some i → ix (L.length + i) = some (L.length + q) := by
  intro q i h
  obtain ⟨e, hlt⟩ := rxal h
  rw [← e]; exact ixrx hlt
 have mkL : ∀ (it : Nat → Option Item), ((List.range (L.length + al.length)).map fun s => (it (rx s)).getD dead).length = L.length + al.length := fun it => by simp
 have getL : ∀ (it : Nat → Option Item) s, s < L.length + al.length → ((List.range (L.length + al.length)).map fun s => (it (rx s)).getD dead)[s]? = some ((it (rx s)).getD dead) := by
  intro it s hs; simp [hs]
 have stL : ∀ {it : Nat → Option Item} {M' w}, St c.X c.M0 c.w0 M' it w → St c.X c.M0 c.w0 M' (lt ((List.range (L.length + al.length)).map fun s => (it (rx s)).getD dead)) w := by
  intro it M' w hs
  have hsome : ∀ {s x}, lt ((List.range (L.length + al.length)).map fun s => (it (rx s)).getD dead) s = some x → s < L.length + al.length := by
   intro s x hx
   have := (List.getElem?_eq_some_iff.1 (show ((List.range (L.length + al.length)).map fun s => (it (rx s)).getD dead)[s]? = some x from hx)).1
   simpa using this
  refine hs.pad rx ?_ ?_
  ·intro s s' h h' e
   obtain ⟨x, hx⟩ := Option.isSome_iff_exists.1 h
   obtain ⟨x', hx'⟩ := Option.isSome_iff_exists.1 h'
   exact rxinj (hsome hx) (hsome hx') e
  ·intro s x hx
   have hlt := hsome hx
   have hx : ((List.range (L.length + al.length)).map fun s => (it (rx s)).getD dead)[s]? = some x := hx
   rw [getL it s hlt] at hx
   injection hx with hx
   cases h : it (rx s) with
   | some y => rw [h] at hx; exact .inl (congrArg some hx)
   | none => rw [h] at hx; exact .inr ⟨rfl, hx.symm⟩
 refine d_draw (m0 := L.length) ⟨A, K, WR⟩ hm rfl h1 h2 (fun r => nodupB.nodup mem5.1) (fun r i hi => mem5.2 i hi) (fun i j h => ?_) (fun r i hi => ?_)
  (fun i v M M' _ hM h => ⟨mA.get hM h.1, h.2⟩) (fun r k x M1 M2 hM h => ?_) (fun r hr => ?_) h3 ?_ ?_
 ·have h : (WR (L.length + i)).contains j = true := h
  cases hi : ix (L.length + i) with
  | none => rw [WRn hi] at h; simp at h
  | some s =>
   obtain ⟨hs, hr⟩ := ixlt hi
   have hsn : ¬ s < L.length := by
    intro h'
    simp only [rx, h', if_true] at hr
    omega
   rw [WRs hi] at h
   have hsw : s < wss.length := by omega
   simp only [List.getD, List.getElem?_eq_getElem hsw, Option.getD_some] at h
   have hq : s - L.length < al.length := by omega
   have hrx : al[s - L.length] = i := by
    simp only [rx, hsn, if_false, List.getD, List.getElem?_eq_getElem hq, Option.getD_some] at hr
    omega
   have := List.all_eq_true.1 h9 (i, s - L.length) (by rw [List.mem_zipIdx_iff_getElem?]; rw [List.getElem?_eq_getElem hq, hrx])
   simp only [show L.length + (s - L.length) = s by omega, List.getElem?_eq_getElem hsw] at this
   exact List.all_eq_true.1 this j (List.contains_iff_mem.1 h)
 ·have hil := mem5.2 i (List.contains_iff_mem.1 hi)
  obtain ⟨_, _, _, _, h, _⟩ := wrOf (List.getElem?_eq_getElem (show i < T.length by omega)) hi
  exact h
 ·have h : K r k x M1 := h
  show K r k x M2
  cases hi : ix r with
  | none => rw [Kn hi] at h ⊢; exact h
  | some s =>
   rw [Ks hi] at h ⊢
   obtain ⟨y, e, hy⟩ := h
   refine ⟨y, e, fun p hp => ?_⟩
   cases hps : Ps[s]? with
   | none => rw [hps] at hp; cases hp
   | some ps =>
    rw [hps] at hp
    exact mK.get hps p (List.mem_of_getElem? hp) y M1 M2 hM (hy p (by rw [hps]; exact hp))
 ·show K r 0 (lt L r) M
  have hi : ix r = some r := by simp only [ix, hr, if_true]
  rw [Ks hi]
  refine ⟨L[r], List.getElem?_eq_getElem hr, fun p hp => ?_⟩
  cases hps : Ps[r]? with
  | none => rw [hps] at hp; cases hp
  | some ps =>
   rw [hps] at hp
   exact hK0.get r ps _ hps (List.getElem?_eq_getElem hr) p hp
 ·intro i o ho a w M' it tg hp
  obtain ⟨e, he, hf⟩ := hop.get ho
  rw [Nat.zero_add] at hf
  have hc := chk1 he
  unfold chkN1 at hc
  simp only [Bool.and_eq_true] at hc
  obtain ⟨⟨⟨⟨hcv, hcb⟩, hcr⟩, hcw⟩, hcm⟩ := hc
  have hvals : ∀ j t, e.vals.contains (j, t) = true → ∃ o', ops[j]? = some o' ∧ o'.dst = some t ∧ de ops i j = true := by
   intro j t ht
   have := List.all_eq_true.1 hcv (j, t) (List.contains_iff_mem.1 ht)
   simp only [Bool.and_eq_true] at this
   cases ho' : ops[j]? with
   | none => rw [ho'] at this; simp at this
   | some o' =>
    rw [ho'] at this
    cases hdst : o'.dst with
    | none => simp [hdst] at this
    | some t' =>
     simp only [Option.bind_some, hdst] at this
     have e2 := Nat.eq_of_beq_eq_true this.2
     subst e2
     exact ⟨o', rfl, hdst, this.1⟩
  generalize hL' : ((List.range (L.length + al.length)).map fun s => (it (rx s)).getD dead) = L'
  have hLl : L'.length = L.length + al.length := by rw [← hL']; simp
  have hLg : ∀ s, s < L.length + al.length → L'[s]? = some ((it (rx s)).getD dead) := by intro s hs; rw [← hL']; exact getL it s hs
  have hst : St c.X c.M0 c.w0 M' (lt L') w := by rw [← hL']; exact stL hp.st
  have hd : NPre c l As Ps al L.length e a M' L' := by
   refine ⟨hp.df, hp.sz, ?_, ?_, ?_, ?_⟩
   ·intro t v hv ht
    exact hp.base t v hv (List.all_eq_true.1 hcb t (List.contains_iff_mem.1 ht))
   ·intro j t p ht hp'
    obtain ⟨o', h1', h2', h3'⟩ := hvals j t ht
    have := (hp.val j o' t h1' h2' h3').1
    simpa [tA, hp'] using this
   ·intro s k p hr hpp
    have := List.all_eq_true.1 hcr (s, k) (List.contains_iff_mem.1 hr)
    simp only [Bool.and_eq_true] at this
    obtain ⟨g1, g2⟩ := this
    cases hw : wss[s]? with
    | none => simp [hw] at g1
    | some ws =>
     simp only [hw, Bool.and_eq_true] at g1
     have hsw := (List.getElem?_eq_some_iff.1 hw).1
     have hs : s < L.length + al.length := by omega
     have eW : WR (rx s) = ws := by rw [WRs (ixrx hs)]; simp [List.getD, hw]
     have hcond : rx s < L.length ∨ de ops i (rx s - L.length) = true := by
      by_cases h : s < L.length
      ·left; simp only [rx, h, if_true]
      ·right
       have hq : s - L.length < al.length := by omega
       have hb : Nat.blt s L.length = false := by
        cases hb : Nat.blt s L.length with
        | false => rfl
        | true => exact absurd (by simpa [Nat.blt_eq] using hb) h
       rw [hb, List.getElem?_eq_getElem hq] at g2
       simp only [Bool.false_or] at g2
       simp only [rx, h, if_false, List.getD, List.getElem?_eq_getElem hq, Option.getD_some, Nat.add_sub_cancel_left]
       exact g2
     have h := hp.item (rx s) hcond (show sorted ops (WR (rx s)) i = true by rw [eW]; exact g1.1)
     have h : K (rx s) ((WR (rx s)).countP (de ops i)) (it (rx s)) M' := h
     rw [eW, Nat.eq_of_beq_eq_true g1.2, Ks (ixrx hs)] at h
     obtain ⟨y, e1, e2⟩ := h
     exact ⟨y, by rw [hLg s hs, e1]; rfl, e2 p hpp⟩
   ·intro q j t k y hq ht hr hy
    obtain ⟨o', h1', h2', h3'⟩ := hvals j t ht
    have hA := (hp.val j o' t h1' h2' h3').2 (List.contains_iff_mem.2 (List.mem_of_getElem? hq))
    obtain ⟨hrx, hlt⟩ := rxal hq
    have hg := List.all_eq_true.1 hcr (L.length + q, k) (List.contains_iff_mem.1 hr)
    simp only [Bool.and_eq_true] at hg
    cases hw : wss[L.length + q]? with
    | none => rw [hw] at hg; simp at hg
    | some ws =>
     have hg1 := hg.1
     rw [hw] at hg1
     simp only [Bool.and_eq_true] at hg1
     have eW : WR (L.length + j) = ws := by rw [WRs (ixal hq)]; simp [List.getD, hw]
     have h := hp.item (L.length + j) (.inr (by rw [Nat.add_sub_cancel_left]; exact h3')) (show sorted ops (WR (L.length + j)) i = true by rw [eW]; exact hg1.1)
     have h : K (L.length + j) _ (it (L.length + j)) M' := h
     rw [Ks (ixal hq)] at h
     obtain ⟨y', e1, _⟩ := h
     have htag := hp.tag j y' e1
     rw [hLg _ hlt, hrx, e1] at hy
     injection hy with hy
     have hy : y' = y := hy
     rw [← hy, htag, hA]
     show tg j = restr ops j tg j
     simp [restr, Nat.beq_refl]
  have hr := hf a w M' L' hp.le hLl hd hst
  have post : ∀ v w', (∃ M'' L'', HLe M' M'' ∧ St c.X c.M0 c.w0 M'' (lt L'') w' ∧ tA As i v M'' ∧ NPost Ps L.length e v M'' L' L'') →
    RPost c ops L.length ⟨A, K, WR⟩ i M' it tg v w' := by
   rintro v w' ⟨M'', L'', q1, q2, q3, q4⟩
   have back : ∀ (s : Nat) (y : Item), s < L.length + al.length → St c.X c.M0 c.w0 M'' (lt (L'.set s y)) w' →
     St c.X c.M0 c.w0 M'' (fun r => if r = rx s then some y else it r) w' := by
    intro s y hs hst
    have hnone : ∀ r, ix r = none → it r = none := by
     intro r hr
     have hrl : L.length ≤ r := by
      rcases Nat.lt_or_ge r L.length with h | h
      ·simp only [ix, h, if_true] at hr; cases hr
      ·exact h
     exact hp.fin r hrl fun k x M h => by rwa [show (RPlan.K ⟨A, K, WR⟩) = K from rfl, Kn hr] at h
    refine hst.forget (fun r => (ix r).getD 0) ?_ ?_
    ·intro r r' h h' e'
     have g : ∀ r, ((if r = rx s then some y else it r)).isSome = true → ∃ k, ix r = some k := by
      intro r hr
      cases hi : ix r with
      | some k => exact ⟨k, rfl⟩
      | none =>
       by_cases hrs : r = rx s
       ·rw [hrs, ixrx hs] at hi; cases hi
       ·rw [if_neg hrs, hnone r hi] at hr; cases hr
     obtain ⟨k, hk⟩ := g r h
     obtain ⟨k', hk'⟩ := g r' h'
     simp only [hk, hk', Option.getD_some] at e'
     rw [← (ixlt hk).2, ← (ixlt hk').2, e']
    ·intro r x hx
     by_cases hrs : r = rx s
     ·rw [if_pos hrs] at hx
      injection hx with hx
      subst hrs
      simp only [ixrx hs, Option.getD_some, lt]
      rw [List.getElem?_set_self (by omega), hx]
     ·rw [if_neg hrs] at hx
      cases hi : ix r with
      | none => rw [hnone r hi] at hx; cases hx
      | some k =>
       obtain ⟨hk, hrk⟩ := ixlt hi
       simp only [Option.getD_some, lt]
       rw [List.getElem?_set_ne (by rintro rfl; exact hrs hrk.symm), hLg k hk, hrk, hx]
       rfl
   have same : St c.X c.M0 c.w0 M'' (lt L') w' → St c.X c.M0 c.w0 M'' it w' := by
    intro hst
    have hnone : ∀ r, ix r = none → it r = none := by
     intro r hr
     have hrl : L.length ≤ r := by
      rcases Nat.lt_or_ge r L.length with h | h
      ·simp only [ix, h, if_true] at hr; cases hr
      ·exact h
     exact hp.fin r hrl fun k x M h => by rwa [show (RPlan.K ⟨A, K, WR⟩) = K from rfl, Kn hr] at h
    refine hst.forget (fun r => (ix r).getD 0) ?_ ?_
    ·intro r r' h h' e'
     have g : ∀ r, (it r).isSome = true → ∃ k, ix r = some k := by
      intro r hr
      cases hi : ix r with
      | some k => exact ⟨k, rfl⟩
      | none => rw [hnone r hi] at hr; cases hr
     obtain ⟨k, hk⟩ := g r h
     obtain ⟨k', hk'⟩ := g r' h'
     simp only [hk, hk', Option.getD_some] at e'
     rw [← (ixlt hk).2, ← (ixlt hk').2, e']
    ·intro r x hx
     cases hi : ix r with
     | none => rw [hnone r hi] at hx; cases hx
     | some k =>
      obtain ⟨hk, hrk⟩ := ixlt hi
      simp only [Option.getD_some, lt]
      rw [hLg k hk, hrk, hx]
      rfl
   unfold NPost at q4
   cases hmk : e.nw with
   | some q =>
    rw [hmk] at q4
    obtain ⟨y, rfl, g2, g3⟩ := q4
    obtain ⟨hq, hwn⟩ := mkOf he hmk
    obtain ⟨hrx, hlt⟩ := rxal hq
    have hb := back (L.length + q) y hlt q2
    rw [hrx] at hb
    refine ⟨M'', _, v, q1, hb, ⟨q3, fun _ => ?_⟩, fun r _ hr => if_neg hr, fun r hr => ?_, ?_, ?_⟩
    ·simp [restr, Nat.beq_refl]
    ·obtain ⟨_, _, _, hw, _⟩ := wrOf he hr
     rw [hwn] at hw; cases hw
    ·show K (L.length + i) 0 _ M''
     rw [Ks (ixal hq)]
     exact ⟨y, if_pos rfl, g2⟩
    ·intro x hx
     have hx : (if L.length + i = L.length + i then some y else it (L.length + i)) = some x := hx
     rw [if_pos rfl] at hx
     injection hx with hx
     rw [← hx]; exact g3
   | none =>
    rw [hmk] at q4
    have hna := mkNo he hmk
    have hixn : ix (L.length + i) = none := by
     simp only [ix, show ¬ L.length + i < L.length by omega, if_false, Nat.add_sub_cancel_left]
     rw [List.findIdx?_eq_none_iff.2]
     ·rfl
     ·intro j hj
      cases hb : Nat.beq j i with
      | false => rfl
      | true =>
       have := Nat.eq_of_beq_eq_true hb
       subst this
       rw [List.contains_iff_mem.2 hj] at hna; cases hna
    have hnew : it (L.length + i) = none := hp.new
    cases hwr : e.wr with
    | none =>
     rw [hwr] at q4
     subst q4
     refine ⟨M'', it, undef, q1, same q2, ⟨q3, fun h => by rw [hna] at h; cases h⟩, fun _ _ _ => rfl, fun r hr => ?_, ?_, ?_⟩
     ·obtain ⟨_, _, _, hw, _⟩ := wrOf he hr
      rw [hwr] at hw; cases hw
     ·show K (L.length + i) 0 _ M''
      rw [Kn hixn]; exact hnew
     ·intro x hx; rw [hnew] at hx; cases hx
    | some sk =>
     obtain ⟨s, k⟩ := sk
     rw [hwr] at q4
     obtain ⟨y, rfl, g2, g3⟩ := q4
     obtain ⟨hs, hin⟩ := notOf he hwr
     have hb := back s y hs q2
     obtain ⟨s', k', hix, hw', hsort, hcount⟩ := wrOf he hin
     rw [hwr] at hw'
     injection hw' with hw'
     injection hw' with e1 e2
     subst e1 e2
     have hne : rx s ≠ L.length + i := by
      intro h
      rw [h, hixn] at hix; cases hix
     refine ⟨M'', _, undef, q1, hb, ⟨q3, fun h => by rw [hna] at h; cases h⟩, fun r hr hr' => ?_, fun r hr => ?_, ?_, ?_⟩
     ·rw [if_neg]
      rintro rfl
      rw [show (RPlan.wr ⟨A, K, WR⟩) (rx s) = WR (rx s) from rfl, hin] at hr
      cases hr
     ·obtain ⟨s'', k'', hix', hw'', _, hcount'⟩ := wrOf he hr
      rw [hwr] at hw''
      injection hw'' with hw''
      injection hw'' with e1 e2
      subst e1 e2
      have hrr : r = rx s := (ixlt hix').2.symm
      subst hrr
      rw [if_pos rfl]
      refine ⟨?_, ?_⟩
      ·show K (rx s) ((WR (rx s)).countP (de ops i) + 1) (some y) M''
       rw [hcount, Ks hix]
       exact ⟨y, rfl, g2⟩
      ·intro hge x hx
       injection hx with hx
       subst hx
       have hsn : ¬ s < L.length := by
        intro h'
        simp only [rx, h', if_true] at hge
        omega
       have hdq : de ops i (rx s - L.length) = true := by
        have hq : s - L.length < al.length := by omega
        have := List.all_eq_true.1 h9 (al[s - L.length], s - L.length) (by rw [List.mem_zipIdx_iff_getElem?]; exact List.getElem?_eq_getElem hq)
        have hsw : s < wss.length := by omega
        simp only [show L.length + (s - L.length) = s by omega, List.getElem?_eq_getElem hsw] at this
        have hin' := hin
        rw [WRs hix] at hin'
        simp only [List.getD, List.getElem?_eq_getElem hsw, Option.getD_some] at hin'
        have := List.all_eq_true.1 this i (List.contains_iff_mem.1 hin')
        simp only [rx, hsn, if_false, List.getD, List.getElem?_eq_getElem hq, Option.getD_some, Nat.add_sub_cancel_left]
        exact this
       have h := hp.item (rx s) (.inr hdq) hsort
       have h : K (rx s) _ (it (rx s)) M' := h
       rw [Ks hix] at h
       obtain ⟨y0, e1, _⟩ := h
       exact ⟨y0, e1, g3 (by omega) y0 (by rw [hLg s hs, e1]; rfl)⟩
     ·show K (L.length + i) 0 _ M''
      rw [Kn hixn, if_neg (fun h => hne h.symm)]
      exact hnew
     ·intro x hx
      rw [if_neg (fun h => hne h.symm), hnew] at hx; cases hx
  rcases hr with ⟨q1, q2⟩ | ⟨q1, q2⟩
  ·exact .inl ⟨q1, fun next Q hn => q2 next Q fun v w' h => hn v w' (post v w' h)⟩
  ·exact .inr ⟨q1, post _ _ q2⟩
 ·intro a w M' it tg he
  have hcond : ∀ {s}, s < L.length + al.length → rx s < L.length ∨ rx s - L.length < ops.length := by
   intro s hs
   by_cases h : s < L.length
   ·left; simp only [rx, h, if_true]
   ·right
    have hq : s - L.length < al.length := by omega
    simp only [rx, h, if_false, List.getD, List.getElem?_eq_getElem hq, Option.getD_some, Nat.add_sub_cancel_left]
    have := List.all_eq_true.1 h8 _ (List.getElem_mem hq)
    simpa [Nat.blt_eq] using this
  refine hend a w M' _ he.le (mkL it) he.df he.sz he.base ?_ ?_ ?_ (stL he.st)
  ·intro i t p ht hp
   cases ho' : ops[i]? with
   | none => rw [ho'] at ht; simp at ht
   | some o' =>
    rw [ho'] at ht
    have := (he.val i o' t ho' (by simpa using ht)).1
    simpa [tA, hp] using this
  ·intro s p hpp
   cases hw : wss[s]? with
   | none => simp [hw] at hpp
   | some ws =>
    have hsw := (List.getElem?_eq_some_iff.1 hw).1
    have hs : s < L.length + al.length := by omega
    have h := he.item (rx s) (hcond hs)
    have h : K (rx s) (WR (rx s)).length (it (rx s)) M' := h
    have eW : WR (rx s) = ws := by rw [WRs (ixrx hs)]; simp [List.getD, hw]
    rw [eW, Ks (ixrx hs)] at h
    obtain ⟨y, e1, e2⟩ := h
    rw [hw] at hpp
    exact ⟨y, by rw [getL it s hs, e1]; rfl, e2 p hpp⟩
  ·intro q i t y hq ht hy
   obtain ⟨hrx, hlt⟩ := rxal hq
   cases ho' : ops[i]? with
   | none => rw [ho'] at ht; simp at ht
   | some o' =>
    rw [ho'] at ht
    have hA := (he.val i o' t ho' (by simpa using ht)).2 (List.contains_iff_mem.2 (List.mem_of_getElem? hq))
    have h := he.item (L.length + i) (.inr (by rw [Nat.add_sub_cancel_left]; exact (List.getElem?_eq_some_iff.1 ho').1))
    have h : K (L.length + i) _ (it (L.length + i)) M' := h
    rw [Ks (ixal hq)] at h
    obtain ⟨y', e1, _⟩ := h
    have htag := he.tag i y' e1
    rw [getL it _ hlt, hrx, e1] at hy
    injection hy with hy
    have hy : y' = y := hy
    rw [← hy, htag, hA]
    simp [restr, Nat.beq_refl]
end
theorem c_open {c : Cx} {id : Nat} {ops : List Oper} {Q : Exit → Act → World → Prop} {l : List (Nat × Value)} {M : Heap} {L : List Item} (hm : c.P.follows .mixedOrders = true) (h : c.D ops Q l M L) : c.C (.region id ops.toArray true) Q l M L := by
 intro a w hf hs
 refine wp_region_draw fun t => ?_
 have hsch : Region.schedule (c.P.follows .mixedOrders) ops.toArray t = goL ops.toArray ops.length t (Array.replicate ops.length false) := by
  unfold Region.schedule
  rw [hm, Bool.true_or, if_pos rfl]
  unfold Region.linearise
  rw [goL_eq]; simp
 rw [hsch]
 exact h a w hf hs t
section
variable {c : Cx} {ops : List Oper} {l : List (Nat × Value)} {M : Heap} {m0 : Nat}
theorem c_drawP {id : Nat} {Q : Exit → Act → World → Prop} {L : List Item} (T : Tab) (As : List (Value → Heap → Prop)) (hm : c.P.follows .mixedOrders = true)
  (hck : chk c.n ops T = true) (mA : MonoA As)
  (hop : AllT (fun i e o => ∀ a w M', HLe M M' → DPre c l As e a M' → St c.X c.M0 c.w0 M' (lt L) w →
   OP c ops.toArray o a w fun v w' => ∃ M'', HLe M' M'' ∧ St c.X c.M0 c.w0 M'' (lt L) w' ∧ tA As i v M'') 0 T ops)
  (hend : ∀ a w M', HLe M M' → a.defers = [] → a.tmps.size = c.n → (∀ t v, lk t l = some v → (ops.all fun o => match o.dst with | some t' => !Nat.beq t t' | none => true) = true → a.tmps.getD t undef = v) →
   (∀ (i t : Nat) (p : Value → Heap → Prop), (ops[i]?).bind (fun o => o.dst) = some t → As[i]? = some p → p (a.tmps.getD t undef) M') → St c.X c.M0 c.w0 M' (lt L) w → Q .normal a w) : c.C (.region id ops.toArray true) Q l M L := c_open hm (d_drawP (T := T) (As := As) (hm := hm) (hck := hck) (mA := mA) (hop := hop) (hend := hend))
end
def splitOk (k : Nat) (ops : List Oper) : Bool := backward ops && (List.range ops.length).all fun i => Nat.blt i k || (List.range i).all fun j => (List.range (i + 1)).any fun m => Nat.blt j m && de ops m j
def elig (A : Array Oper) (listed : Array Bool) (i : Nat) : Bool := !listed.getD i true && ((A[i]?).map (·.after.all fun e => !Region.binds .any e || listed.getD e.on false)).getD false
theorem goL_succ (A : Array Oper) (fuel t : Nat) (listed : Array Bool) : goL A (fuel + 1) t listed =
  match ((List.range A.size).filter (elig A listed))[t % ((List.range A.size).filter (elig A listed)).length]? with
  | some i => i :: goL A fuel (t / ((List.range A.size).filter (elig A listed)).length) (listed.setIfInBounds i true)
  | none => [] := rfl
theorem elig_de {ops : List Oper} {listed : Array Bool} {i j : Nat} (h : elig ops.toArray listed i = true) (hd : de ops i j = true) : listed.getD j false = true := by
 unfold elig at h
 simp only [Bool.and_eq_true] at h
 unfold de at hd
 cases ho : ops[i]? with
 | none => rw [ho] at hd; cases hd
 | some o =>
  rw [ho] at hd
  have h2 := h.2
  simp only [List.getElem?_toArray, ho, Option.map_some, Option.getD_some] at h2
  obtain ⟨e, he, hj⟩ := List.any_eq_true.1 hd
  have := (Array.all_eq_true_iff_forall_mem.1 h2) e (Array.mem_toList_iff.1 he)
  simp only [Bool.and_eq_true, Bool.or_eq_true] at hj this
  have hon := Nat.eq_of_beq_eq_true hj.2
  rw [hj.1] at this
  simp only [Bool.not_true, Bool.false_eq_true, false_or] at this
  rw [← hon]; exact this
theorem elig_of {ops : List Oper} {listed : Array Bool} {i : Nat} (hb : backward ops = true) (hi : i < ops.length) (h0 : listed.getD i true = false) (h : ∀ j, j < i → listed.getD j false = true) : elig ops.toArray listed i = true := by
 unfold elig
 have ho : ops[i]? = some ops[i] := List.getElem?_eq_getElem hi
 simp only [h0, Bool.not_false, Bool.true_and, List.getElem?_toArray, ho, Option.map_some, Option.getD_some]
 rw [Array.all_eq_true_iff_forall_mem]
 intro e he
 have hb := List.all_eq_true.1 hb (ops[i], i) (mem_zip ho)
 have hb := (Array.all_eq_true_iff_forall_mem.1 hb) e he
 simp only [Bool.or_eq_true] at hb ⊢
 rcases hb with hb | hb
 ·exact .inl hb
 ·exact .inr (h _ (by simpa [Nat.blt_eq] using hb))
theorem getD_set (x : Array Bool) (i j : Nat) (h : i < x.size) (b : Bool) : (x.setIfInBounds i true).getD j b = if j = i then true else x.getD j b := by
 simp only [Array.getD_eq_getD_getElem?]
 by_cases e : j = i
 ·subst e; simp [h]
 ·rw [Array.getElem?_setIfInBounds_ne (by omega), if_neg e]
theorem getD_tf {x : Array Bool} {i : Nat} (h : i < x.size) : x.getD i true = x.getD i false := by
 simp [Array.getD_eq_getD_getElem?, h]
theorem de_lt {ops : List Oper} (hb : backward ops = true) {i j : Nat} (h : de ops i j = true) : j < i := by
 unfold de at h
 cases ho : ops[i]? with
 | none => rw [ho] at h; cases h
 | some o =>
  rw [ho] at h
  obtain ⟨e, he, hj⟩ := List.any_eq_true.1 h
  have hb := List.all_eq_true.1 hb (o, i) (mem_zip ho)
  have hb := (Array.all_eq_true_iff_forall_mem.1 hb) e (Array.mem_toList_iff.1 he)
  simp only [Bool.and_eq_true, Bool.or_eq_true] at hj hb
  rw [hj.1] at hb
  have hon := Nat.eq_of_beq_eq_true hj.2
  simp only [Bool.not_true, Bool.false_eq_true, false_or, Nat.blt_eq] at hb
  omega
def Cl (ops : List Oper) (x : Array Bool) : Prop := ∀ i j, x.getD i false = true → de ops i j = true → x.getD j false = true
theorem reach {ops : List Oper} {k : Nat} {x : Array Bool} (hk : splitOk k ops = true) (hc : Cl ops x) {i : Nat} (h1 : k ≤ i) (h2 : i < ops.length) (he : elig ops.toArray x i = true) : ∀ j, j < i → x.getD j false = true := by
 unfold splitOk at hk
 simp only [Bool.and_eq_true] at hk
 have hi := List.all_eq_true.1 hk.2 i (List.mem_range.2 h2)
 simp only [Bool.or_eq_true, Nat.blt_eq] at hi
 rcases hi with hi | hi
 ·omega
 have key : ∀ d j, j < i → i - j ≤ d → x.getD j false = true := by
  intro d
  induction d with
  | zero => intro j hj hd; omega
  | succ d ih =>
   intro j hj hd
   have := List.all_eq_true.1 hi j (List.mem_range.2 hj)
   obtain ⟨m, hm, h3⟩ := List.any_eq_true.1 this
   have hm := List.mem_range.1 hm
   simp only [Bool.and_eq_true, Nat.blt_eq] at h3
   by_cases e : m = i
   ·subst e; exact elig_de he h3.2
   ·exact hc m j (ih m (by omega) (by omega)) h3.2
 exact fun j hj => key (i - j) j hj (Nat.le_refl _)
theorem goL_tail {ops : List Oper} {k : Nat} (hk : splitOk k ops = true) : ∀ (m fuel t : Nat) (listed : Array Bool), m ≤ fuel → m ≤ ops.length → k ≤ ops.length - m → listed.size = ops.length →
  (∀ j, j < ops.length → listed.getD j false = decide (j < ops.length - m)) → goL ops.toArray fuel t listed = List.range' (ops.length - m) m := by
 have hk0 := hk
 unfold splitOk at hk
 simp only [Bool.and_eq_true] at hk
 obtain ⟨hb, hk⟩ := hk
 intro m
 induction m with
 | zero =>
  intro fuel t listed _ _ _ hsz hl
  cases fuel with
  | zero => simp [goL]
  | succ fuel =>
   rw [goL_succ]
   have : (List.range ops.toArray.size).filter (elig ops.toArray listed) = [] := by
    rw [List.filter_eq_nil_iff]
    intro i hi
    have hi : i < ops.length := by simpa using hi
    have := hl i hi
    rw [decide_eq_true (by omega)] at this
    unfold elig
    rw [getD_tf (by omega), this]; simp
   rw [this]; simp
 | succ m ih =>
  intro fuel t listed hfu hm hkm hsz hl
  cases fuel with
  | zero => omega
  | succ fuel =>
   rw [goL_succ]
   generalize hrs : (List.range ops.toArray.size).filter (elig ops.toArray listed) = rs
   have hlt : ops.length - (m + 1) < ops.length := by omega
   have hmem : ∀ i ∈ rs, i = ops.length - (m + 1) := by
    intro i hi
    rw [← hrs, List.mem_filter] at hi
    obtain ⟨h1, h2⟩ := hi
    have h1 : i < ops.length := by simpa using h1
    have h3 : listed.getD i true = false := by
     unfold elig at h2; simp only [Bool.and_eq_true] at h2; simpa using h2.1
    rw [getD_tf (by omega), hl i h1] at h3
    have h3 : ¬ i < ops.length - (m + 1) := by simpa using h3
    by_cases e : i = ops.length - (m + 1)
    ·exact e
    ·have hc : Cl ops listed := by
      intro p q hp hq
      have hqp := de_lt hb hq
      by_cases hpl : p < ops.length
      ·rw [hl p hpl] at hp
       rw [hl q (by omega)]
       simp at hp ⊢; omega
      ·have : listed.getD p false = false := by simp [Array.getD_eq_getD_getElem?, show ¬ p < listed.size by omega]
       rw [this] at hp; cases hp
     have := reach hk0 hc (by omega) h1 h2 (ops.length - (m + 1)) (by omega)
     rw [hl _ hlt] at this
     simp at this
   have hin : ops.length - (m + 1) ∈ rs := by
    rw [← hrs, List.mem_filter]
    refine ⟨by simpa using hlt, elig_of hb hlt ?_ ?_⟩
    ·rw [getD_tf (by omega), hl _ hlt]; simp
    ·intro j hj; rw [hl j (by omega)]; simp; omega
   have hpos : 0 < rs.length := List.length_pos_of_mem hin
   have hmod : t % rs.length < rs.length := Nat.mod_lt _ hpos
   rw [List.getElem?_eq_getElem hmod]
   have hi := hmem _ (List.getElem_mem hmod)
   rw [hi]
   show _ :: _ = _
   rw [List.range'_succ, ih fuel _ _ (by omega) (by omega) (by omega) (by simpa using hsz) ?_]
   ·congr 2; omega
   ·intro j hj
    rw [getD_set _ _ _ (by omega)]
    by_cases e : j = ops.length - (m + 1)
    ·rw [if_pos e]; simp; omega
    ·rw [if_neg e, hl j hj]
     congr 1; exact propext (by omega)
theorem countP_zero_all {x : Array Bool} (h : x.toList.countP (fun b => !b) = 0) {i : Nat} (hi : i < x.size) : x.getD i false = true := by
 rw [List.countP_eq_zero] at h
 have := h (x.toList[i]'(by simpa using hi)) (List.getElem_mem _)
 simp [Array.getD_eq_getD_getElem?, hi] at this ⊢
 exact this
theorem goL_split {pre suf : List Oper} (hk : splitOk pre.length (pre ++ suf) = true) (hbp : backward pre = true) : ∀ (fuel t : Nat) (x y : Array Bool), x.size = (pre ++ suf).length → y.size = pre.length →
  (∀ j, j < pre.length → x.getD j false = y.getD j false) → (∀ j, pre.length ≤ j → x.getD j false = false) → Cl (pre ++ suf) x → y.toList.countP (fun b => !b) ≤ fuel →
  goL (pre ++ suf).toArray (fuel + suf.length) t x = goL pre.toArray fuel t y ++ List.range' pre.length suf.length := by
 have hb : backward (pre ++ suf) = true := by unfold splitOk at hk; simp only [Bool.and_eq_true] at hk; exact hk.1
 have all : ∀ (fuel t : Nat) (x y : Array Bool), x.size = (pre ++ suf).length → y.size = pre.length → (∀ j, j < pre.length → x.getD j false = y.getD j false) → (∀ j, pre.length ≤ j → x.getD j false = false) →
   (∀ j, j < pre.length → y.getD j false = true) → goL (pre ++ suf).toArray (fuel + suf.length) t x = goL pre.toArray fuel t y ++ List.range' pre.length suf.length := by
  intro fuel t x y hx hy hxy hx0 hall
  have e1 : goL pre.toArray fuel t y = [] := by
   cases fuel with
   | zero => rfl
   | succ fuel =>
    rw [goL_succ]
    have : (List.range pre.toArray.size).filter (elig pre.toArray y) = [] := by
     rw [List.filter_eq_nil_iff]
     intro i hi
     have hi : i < pre.length := by simpa using hi
     unfold elig
     rw [getD_tf (by omega), hall i hi]; simp
    rw [this]; simp
  rw [e1, List.nil_append]
  have := goL_tail hk suf.length (fuel + suf.length) t x (by omega) (by simp) (by simp) hx (by
   intro j hj
   rw [show (pre ++ suf).length - suf.length = pre.length by simp]
   by_cases h : j < pre.length
   ·rw [hxy j h, hall j h, decide_eq_true h]
   ·rw [hx0 j (by omega), decide_eq_false h])
  rw [this]; congr 1; simp
 intro fuel
 induction fuel with
 | zero =>
  intro t x y hx hy hxy hx0 hcl hc
  exact all 0 t x y hx hy hxy hx0 fun j hj => countP_zero_all (by omega) (by omega)
 | succ fuel ih =>
  intro t x y hx hy hxy hx0 hcl hc
  by_cases hall : ∀ j, j < pre.length → y.getD j false = true
  ·exact all _ t x y hx hy hxy hx0 hall
  ·obtain ⟨j0, hj0⟩ := Classical.not_forall.1 hall
   obtain ⟨hj1, hj2⟩ := Classical.not_imp.1 hj0
   have hj2 : y.getD j0 false = false := by simpa using hj2
   have e : ∀ i, i < pre.length → elig (pre ++ suf).toArray x i = elig pre.toArray y i := by
    intro i hi
    unfold elig
    rw [getD_tf (by rw [hx]; simp; omega), getD_tf (by omega), hxy i hi]
    have o1 : (pre ++ suf)[i]? = some pre[i] := by rw [List.getElem?_append_left hi, List.getElem?_eq_getElem hi]
    have o2 : pre[i]? = some pre[i] := List.getElem?_eq_getElem hi
    simp only [List.getElem?_toArray, o1, o2, Option.map_some, Option.getD_some]
    congr 1
    have hbi := List.all_eq_true.1 hbp (pre[i], i) (mem_zip o2)
    have hbi := Array.all_eq_true_iff_forall_mem.1 hbi
    rw [Bool.eq_iff_iff, Array.all_eq_true_iff_forall_mem, Array.all_eq_true_iff_forall_mem]
    constructor
    ·intro h z hz
     have := h z hz
     have hbz := hbi z hz
     simp only [Bool.or_eq_true] at this hbz ⊢
     rcases hbz with hbz | hbz
     ·exact .inl hbz
     ·rw [hxy _ (by simp only [Nat.blt_eq] at hbz; omega)] at this; exact this
    ·intro h z hz
     have := h z hz
     have hbz := hbi z hz
     simp only [Bool.or_eq_true] at this hbz ⊢
     rcases hbz with hbz | hbz
     ·exact .inl hbz
     ·rw [hxy _ (by simp only [Nat.blt_eq] at hbz; omega)]; exact this
   have hf : (List.range (pre ++ suf).toArray.size).filter (elig (pre ++ suf).toArray x) = (List.range pre.toArray.size).filter (elig pre.toArray y) := by
    have : List.range (pre ++ suf).toArray.size = List.range pre.toArray.size ++ (List.range suf.length).map (pre.length + ·) := by
     simp [List.range_add]
    rw [this, List.filter_append]
    have z : (List.filter (elig (pre ++ suf).toArray x) ((List.range suf.length).map (pre.length + ·))) = [] := by
     rw [List.filter_eq_nil_iff]
     intro i hi h
     obtain ⟨q, hq, rfl⟩ := List.mem_map.1 hi
     have hq := List.mem_range.1 hq
     have := reach hk hcl (by omega) (by simp; omega) h j0 (by omega)
     rw [hxy j0 hj1, hj2] at this; cases this
    rw [z, List.append_nil]
    apply List.filter_congr
    intro i hi
    exact e i (by simpa using hi)
   rw [show fuel + 1 + suf.length = (fuel + suf.length) + 1 by omega, goL_succ, goL_succ, hf]
   generalize hrs : (List.range pre.toArray.size).filter (elig pre.toArray y) = rs
   cases hg : rs[t % rs.length]? with
   | none =>
    exfalso
    have hn : rs = [] := by
     rcases Nat.eq_zero_or_pos rs.length with h | h
     ·exact List.length_eq_zero_iff.1 h
     ·rw [List.getElem?_eq_getElem (Nat.mod_lt _ h)] at hg; cases hg
    have : ∀ i, i < pre.length → y.getD i false = true := by
     intro i
     induction i using Nat.strongRecOn with
     | _ i ihi =>
      intro hi
      cases hl : y.getD i false with
      | true => rfl
      | false =>
       have hmem : i ∈ rs := by
        rw [← hrs, List.mem_filter]
        exact ⟨by simpa using hi, elig_of hbp hi (by rw [getD_tf (by omega), hl]) fun j hj => ihi j hj (by omega)⟩
       rw [hn] at hmem; cases hmem
    exact hall this
   | some i =>
    have hi : i ∈ rs := List.mem_of_getElem? hg
    rw [← hrs, List.mem_filter] at hi
    have hil : i < pre.length := by simpa using hi.1
    have hyi : y.getD i false = false := by
     have := hi.2
     unfold elig at this; simp only [Bool.and_eq_true] at this
     rw [← getD_tf (by omega)]; simpa using this.1
    simp only [List.cons_append]
    congr 1
    refine ih _ _ _ (by simpa using hx) (by simpa using hy) ?_ ?_ ?_ ?_
    ·intro j hj
     rw [getD_set _ _ _ (by rw [hx]; simp; omega), getD_set _ _ _ (by omega)]
     split
     ·rfl
     ·exact hxy j hj
    ·intro j hj
     rw [getD_set _ _ _ (by rw [hx]; simp; omega), if_neg (by omega)]
     exact hx0 j hj
    ·intro p q hp hq
     rw [getD_set _ _ _ (by rw [hx]; simp; omega)] at hp ⊢
     split
     ·rfl
     ·split at hp
      ·rename_i hpe
       subst hpe
       exact elig_de (by rw [e p hil]; exact hi.2) hq
      ·exact hcl p q hp hq
    ·have hll : i < y.toList.length := by simp; omega
     have hget : y.toList[i] = false := by
      simpa [Array.getD_eq_getD_getElem?, show i < y.size by omega] using hyi
     have h1 := countP_set_false y.toList i (by rw [List.getElem?_eq_getElem hll, hget])
     have h2 : (y.setIfInBounds i true).toList = y.toList.set i true := by simp
     rw [h2]; omega
def guardOk (k : Nat) (pre : List Oper) : Bool := pre.all fun o => match o.guard with | none => true | some (j, _) => Nat.blt j k
theorem Oper.wp_change {P : Program} {Q Q' : Exit → Act → World → Prop} {o : Oper} {a : Act} {w : World} {K K' : Act → World → Prop} (h : ∀ a w, K a w → K' a w) (hp : ∀ ch a w, Q (.panic ch) a w → Q' (.panic ch) a w) (hL : LetsOut Q → LetsOut Q')
  (hh : o.wp P a w K Q) : o.wp P a w K' Q' := by
 unfold Oper.wp at *
 generalize (execOp a.eval o).run P w = r at *
 cases r with
 | ok n w' =>
  cases n <;> simp only [Oper.upon] at hh ⊢ <;>
   first
    | exact h _ _ hh
    | exact Calls.mono hh (fun e w'' he => by cases e <;> first | exact h _ _ he | exact hp _ _ _ he | exact hL he)
    | exact Rows.mono hh (fun _ _ he => h _ _ he)
 | halt x w' => cases x <;> simp only [Oper.upon] at hh ⊢ <;> first | exact hp _ _ _ hh | exact hh
def thenOps (P : Program) (ops : Array Oper) (Q : Exit → Act → World → Prop) (r : List Nat) : Exit → Act → World → Prop
 | .normal, a, w => wpOps P ops Q r a w
 | .exit id, a, w => Q (.exit id) a w
 | .goto l, a, w => Q (.goto l) a w
 | .ret, a, w => Q .ret a w
 | .panic ch, a, w => Q (.panic ch) a w
 | .outgrown, a, w => Q .outgrown a w
theorem wpOps_app {P : Program} {pre suf : List Oper} {Q : Exit → Act → World → Prop} (r : List Nat) (hg : guardOk pre.length pre = true) : ∀ (s : List Nat) (a : Act) (w : World), (∀ i ∈ s, i < pre.length) →
  wpOps P pre.toArray (thenOps P (pre ++ suf).toArray Q r) s a w → wpOps P (pre ++ suf).toArray Q (s ++ r) a w := by
 intro s
 induction s with
 | nil => intro a w _ h; exact h
 | cons i s ih =>
  intro a w hs h
  have hi : i < pre.length := hs i (by simp)
  have o1 : (pre ++ suf)[i]? = some pre[i] := by rw [List.getElem?_append_left hi, List.getElem?_eq_getElem hi]
  have o2 : pre[i]? = some pre[i] := List.getElem?_eq_getElem hi
  have hg' := List.all_eq_true.1 hg pre[i] (List.getElem_mem hi)
  have ih' : ∀ a w, wpOps P pre.toArray (thenOps P (pre ++ suf).toArray Q r) s a w → wpOps P (pre ++ suf).toArray Q (s ++ r) a w := fun a w h => ih a w (fun j hj => hs j (by simp [hj])) h
  have hw : Region.wanted pre[i] (yielded (pre ++ suf).toArray a.tmps) = Region.wanted pre[i] (yielded pre.toArray a.tmps) := by
   unfold Region.wanted
   cases hgd : pre[i].guard with
   | none => rfl
   | some g =>
    obtain ⟨j, b⟩ := g
    rw [hgd] at hg'
    have hj : j < pre.length := by simpa [Nat.blt_eq] using hg'
    have : yielded (pre ++ suf).toArray a.tmps j = yielded pre.toArray a.tmps j := by
     unfold yielded
     simp only [List.getElem?_toArray, List.getElem?_append_left hj]
    simp only [this]
  simp only [List.cons_append, wpOps, List.getElem?_toArray, o1, o2] at h ⊢
  rw [hw]
  split
  ·rename_i hww
   rw [if_pos hww] at h
   rcases h with h | ⟨h1, h2⟩
   ·exact .inl (Oper.wp_change (Q := thenOps P (pre ++ suf).toArray Q r) ih' (fun _ _ _ h => h) (fun h => h) h)
   ·exact .inr ⟨h1, h2⟩
  ·rename_i hww
   rw [if_neg hww] at h
   exact ih' _ _ h
theorem goL_lt {ops : List Oper} : ∀ (fuel t : Nat) (x : Array Bool), ∀ i ∈ goL ops.toArray fuel t x, i < ops.length := by
 intro fuel
 induction fuel with
 | zero => intro t x i hi; simp [goL] at hi
 | succ fuel ih =>
  intro t x i hi
  rw [goL_succ] at hi
  generalize hrs : (List.range ops.toArray.size).filter (elig ops.toArray x) = rs at hi
  cases hg : rs[t % rs.length]? with
  | none => rw [hg] at hi; simp at hi
  | some j =>
   rw [hg] at hi
   simp only [List.mem_cons] at hi
   rcases hi with rfl | hi
   ·have := List.mem_of_getElem? hg
    rw [← hrs, List.mem_filter] at this
    simpa using this.1
   ·exact ih _ _ i hi
theorem rep_f (n j : Nat) : (Array.replicate n false).getD j false = false := by
 simp only [Array.getD_eq_getD_getElem?, Array.getElem?_replicate]
 split <;> rfl
theorem c_split {c : Cx} {id : Nat} {Q : Exit → Act → World → Prop} {l : List (Nat × Value)} {M : Heap} {L : List Item} (k : Nat) {ops : List Oper} (hm : c.P.follows .mixedOrders = true) (hk : splitOk k ops = true) (hb : backward (ops.take k) = true) (hg : guardOk k (ops.take k) = true) (hkl : Nat.ble k ops.length = true)
  (h : ∀ K : Act → World → Prop, (∀ l M L, c.W ops.toArray (ops.drop k) Q l M L → c.N K l M L) → c.D (ops.take k) (thenOps c.P ops.toArray Q (List.range' k (ops.drop k).length)) l M L ∨ c.D (ops.take k) (fun e a w => match e with | .normal => K a w | e => Q e a w) l M L) : c.C (.region id ops.toArray true) Q l M L := by
 have hkl := Nat.le_of_ble_eq_true hkl
 have hlen : (ops.take k).length = k := by simp; omega
 refine c_open hm ?_
 intro a w hf hs t
 have he : ops = ops.take k ++ ops.drop k := (List.take_append_drop k ops).symm
 have e1 := goL_split (pre := ops.take k) (suf := ops.drop k) (by rw [← he, hlen]; exact hk) hb k t (Array.replicate ops.length false) (Array.replicate (ops.take k).length false) (by rw [← he]; simp) (by simp) (fun j _ => by rw [rep_f, rep_f]) (fun j _ => rep_f _ _) (fun p q hp => by rw [rep_f] at hp; cases hp) (Nat.le_trans List.countP_le_length (by simp; omega))
 rw [← he, hlen, show k + (ops.drop k).length = ops.length by simp; omega] at e1
 rw [e1]
 have e2 : wpOps c.P ops.toArray Q (List.range' k (ops.drop k).length) = wpList c.P ops.toArray Q (ops.drop k) := wpOps_eq_wpList _ k (fun j => by simp)
 have fin := h (wpOps c.P ops.toArray Q (List.range' k (ops.drop k).length)) (fun l M L h a w hf hs => by rw [e2]; exact h a w hf hs)
 have fin : c.D (ops.take k) (thenOps c.P ops.toArray Q (List.range' k (ops.drop k).length)) l M L := by
  rcases fin with h | h
  ·exact h
  ·have : (fun (e : Exit) a w => match e with | .normal => wpOps c.P ops.toArray Q (List.range' k (ops.drop k).length) a w | e => Q e a w) = thenOps c.P ops.toArray Q (List.range' k (ops.drop k).length) := by
    funext e a w; cases e <;> rfl
   rw [this] at h; exact h
 have := fin a w hf hs t
 rw [hlen] at this
 have r := wpOps_app (pre := ops.take k) (suf := ops.drop k) (Q := Q) (List.range' k (ops.drop k).length) (by rw [hlen]; exact hg) _ _ _ (fun i hi => goL_lt _ _ _ i hi) (by rw [← he]; exact this)
 rw [← he] at r; exact r
def thenK (K : Act → World → Prop) (Q : Exit → Act → World → Prop) : Exit → Act → World → Prop
 | .normal => K
 | e => Q e
theorem c_split2 {c : Cx} {id : Nat} {Q : Exit → Act → World → Prop} {l : List (Nat × Value)} {M : Heap} {L : List Item} (k : Nat) {ops : List Oper} (hm : c.P.follows .mixedOrders = true) (hk : splitOk k ops = true) (hb : backward (ops.take k) = true) (hg : guardOk k (ops.take k) = true) (hkl : Nat.ble k ops.length = true)
  (h : ∀ K : Act → World → Prop, (∀ l M L, c.W ops.toArray (ops.drop k) Q l M L → c.N K l M L) → c.D (ops.take k) (thenK K Q) l M L) : c.C (.region id ops.toArray true) Q l M L := by
 refine c_split k hm hk hb hg hkl fun K hK => .inr ?_
 have e : (fun (e : Exit) a w => match e with | .normal => K a w | e => Q e a w) = thenK K Q := by
  funext e a w; cases e <;> rfl
 rw [e]; exact h K hK
end Go.Cu


namespace Go.Cu
open Go
theorem rs_strs {M : Heap} {w : World} {v : Value} {l : List (List UInt8)} (h : RS FS M v l) (hM : Sub M w) : (v = .slice none 0 0 ∧ l = []) ∨
  ∃ bk o c, v = .slice (some ⟨bk, o, none⟩) l.length c ∧ l.length ≤ c ∧ bk < w.heap.size ∧ ∀ (j : Nat) x, l[j]? = some x → w.cell? ⟨bk, o + j, none⟩ = some (str x) := by
 rcases h with h | ⟨b, cap, pre, post, T, fr, rfl, h2, h3, h4⟩
 ·exact .inl h
 ·refine .inr ⟨b, pre.length, cap, rfl, h3, ?_, ?_⟩
  ·have := hM _ _ h2
   exact (Array.getElem?_eq_some_iff.1 this).1
  ·intro j x hx
   have hB : Blk w b (pre ++ (flat FS l ++ post)) T fr := hM _ _ h2
   rw [hB.cell]
   rw [List.getElem?_append_right (by omega), Nat.add_sub_cancel_left]
   have hat := flat_at FS l j x hx
   have e1 : FS.sz = 1 := rfl
   have e2 : FS.f x = [str x] := rfl
   rw [e1, e2, Nat.mul_one] at hat
   have hj : j < l.length := (List.getElem?_eq_some_iff.1 hx).1
   have hfl : (flat FS l).length = l.length := by rw [flat_length, e1, Nat.mul_one]
   rw [List.getElem?_append_left (by omega)]
   have := congrArg (fun z => z[0]?) hat
   simpa using this
theorem lib_join (p0 : List (List UInt8)) (p1 : List UInt8) : (p0.map (fun s => (⟨s.toArray⟩ : ByteArray))).map (·.data.toList) = p0 := by
 simp [Function.comp_def]
theorem vI_one {k : IntKind} {n : Nat} (v : Vector Int n) : ∀ u ∈ vI k v, u.oneCell' = true := FV.one k n v
theorem bytesI_len (s : List UInt8) : (bytesI s).length = s.length := by simp [bytesI]
theorem srcStrB {P : Program} {M : Heap} (s : List UInt8) : Src P M 1 (Cu.str s) (bytesI s).length (flat (FI .u8) (bytesI s)) := by rw [bytesI_len]; exact Src.str s
end Go.Cu


namespace Go.Cu
open Go
theorem St.lendB {b0 : Nat} {o0 : Obj} {X : Nat → Prop} {M0 M : Heap} {w0 w : World} {it : Nat → Option Item} (h : St X M0 w0 M it w) {i : Nat} {x : Item} (hi : it i = some x) (hxb : x = .blk b0 o0) :
  St (fun k => k = b0) M w M (lt [x]) w ∧ ∀ M' x' w', St (fun k => k = b0) M w M' (lt [x']) w' → St X M0 w0 M' (fun j => if j = i then some x' else it j) w' := by
 obtain ⟨e, bo, h1, h2, h3⟩ := h
 have hbo : bo i = some b0 := by
  have := h3 i x hi
  rw [hxb] at this
  exact this.1
 refine ⟨⟨⟨rfl, rfl, rfl, Nat.le_refl _, fun _ _ _ => rfl, fun _ _ => rfl, e.sub⟩, fun j => if j = 0 then bo i else none, ?_, ?_, ?_⟩, ?_⟩
 ·intro j k b hj hk
  simp only at hj hk
  split at hj <;> split at hk <;> first | omega | contradiction
 ·intro j b hj
  simp only at hj
  split at hj
  ·exact ⟨.inr (Option.some.inj (hj.symm.trans hbo)), (h2 _ _ hj).2⟩
  ·cases hj
 ·intro j y hj
  cases j with
  | zero => simp [lt] at hj; subst hj; simpa using h3 i _ hi
  | succ j => simp [lt] at hj
 ·rintro M' x' w' ⟨e', bo', g1, g2, g3⟩
  have hlt : ∀ j b, bo j = some b → (it j).isSome → b < w.heap.size := by
   intro j b hb hj
   obtain ⟨y, hy⟩ := Option.isSome_iff_exists.1 hj
   have := h3 j y hy
   rw [hb] at this
   exact Item.sat_lt this
  have hx' := g3 0 x' (by simp [lt])
  refine ⟨⟨e'.os.trans e.os, e'.tape.trans e.tape, e'.output.trans e.output, Nat.le_trans e.size e'.size, ?_, ?_, e'.sub⟩, fun j => if j = i then bo' 0 else if (it j).isSome then bo j else none, ?_, ?_, ?_⟩
  ·intro k hk hX
   rw [e'.block k (Nat.lt_of_lt_of_le hk e.size), e.block k hk hX]
   intro hb
   have hb : bo i = some k := by rw [hb]; exact hbo
   rcases (h2 i k hb).1 with h | h
   ·omega
   ·exact hX h
  ·intro k hk
   rw [e'.old k (Nat.lt_of_lt_of_le hk e.size), e.old k hk]
  ·have key : ∀ j b, j ≠ i → (it j).isSome → bo j = some b → bo' 0 = some b → False := by
    intro j b hj hs hb hb'
    have hlt' := hlt j b hb hs
    rcases (g2 0 b hb').1 with h | h
    ·omega
    ·exact hj (h1 _ _ _ hb (by rw [h]; exact hbo))
   intro j k b hj hk
   simp only at hj hk
   by_cases ji : j = i
   ·by_cases ki : k = i
    ·rw [ji, ki]
    ·rw [if_pos ji] at hj
     rw [if_neg ki] at hk
     split at hk
     ·exact (key k b ki (by assumption) hk hj).elim
     ·cases hk
   ·rw [if_neg ji] at hj
    split at hj
    ·by_cases ki : k = i
     ·rw [if_pos ki] at hk
      exact (key j b ji (by assumption) hj hk).elim
     ·rw [if_neg ki] at hk
      split at hk
      ·exact h1 _ _ _ hj hk
      ·cases hk
    ·cases hj
  ·intro j b hj
   simp only at hj
   by_cases ji : j = i
   ·rw [if_pos ji] at hj
    obtain ⟨g, gM⟩ := g2 0 b hj
    refine ⟨?_, gM⟩
    rcases g with g | g
    ·exact .inl (Nat.le_trans e.size g)
    ·exact (h2 i b (by rw [g]; exact hbo)).1
   ·rw [if_neg ji] at hj
    split at hj
    ·rename_i hs
     refine ⟨(h2 _ _ hj).1, ?_⟩
     rw [e'.old b (hlt j b hj hs)]; exact (h2 _ _ hj).2
    ·cases hj
  ·intro j y hy
   simp only at hy ⊢
   by_cases ji : j = i
   ·rw [if_pos ji] at hy ⊢
    injection hy with hy
    subst hy
    exact hx'
   ·rw [if_neg ji] at hy ⊢
    have hs : (it j).isSome = true := by simp [hy]
    rw [if_pos hs]
    refine Item.sat_of_same (h3 j y hy) fun b hb => e'.block b (hlt j b hb hs) ?_
    intro hb'
    exact ji (h1 _ _ _ hb (by rw [show b = b0 from hb']; exact hbo))
section st
variable {X : Nat → Prop} {M0 M : Heap} {w0 w : World}
end st
section rules
variable {c : Cx} {Q : Exit → Act → World → Prop} {l : List (Nat × Value)} {M : Heap} {L : List Item}
variable {ops : Array Oper} {rest : List Oper} {d : Nat} {ty : TypeId} {pos : String} {af : Array Edge} {gd : Option (Nat × Bool)}
theorem w_callJ {b0 : Nat} {o0 : Obj} {f : FuncId} {xs : List Operand} {ts : Array TypeId} {vs : List Value} {x : Item} {Φ : Heap → Item → Value → Prop} (i : Nat) (hcf : CF c.P f) (hg : Wnt ops l gd) (hd : Nat.blt d c.n = true) (hx : evs l xs = some vs)
  (hi : L[i]? = some x) (hxb : x = .blk b0 o0) (hc : ∀ w, St (fun k => k = b0) M w M (lt [x]) w → Calls c.P f vs.toArray w (PostI (fun k => k = b0) M w Φ))
  (h : ∀ v M' x', HLe M M' → Φ M' x' v → c.W ops rest Q ((d, v) :: l) M' (L.set i x')) :
  c.W ops (⟨some d, .call ⟨.value (.func f), xs.toArray, ts⟩, ty, pos, af, gd⟩ :: rest) Q l M L := by
 refine w_op hg hd (Φ := fun v w' => ∃ M' x', HLe M M' ∧ Φ M' x' v ∧ St c.X c.M0 c.w0 M' (lt (L.set i x')) w') ?_ ?_
 ·intro a w hf hs
  obtain ⟨hx1, hx2⟩ := hs.lendB (i := i) (x := x) hi hxb
  have hcall := hc w hx1
  refine OpOK.enter (f := f) (args := vs.toArray) (w' := w) ?_ ?_
  ·simp [execOp, resolve, Act.eval, Deferred.ofValue, invoke, hf.evs hx]
   exact hcf _ _
  ·refine hcall.mono ?_
   rintro e w'' ⟨v, M', x', rfl, hst, hv⟩
   refine ⟨v, rfl, M', x', hst.ext.le hs.sub, hv, ?_⟩
   rw [← lt_set L i _ _ hi]
   exact hx2 M' x' w'' hst
 ·rintro v w' ⟨M', x', h1, h2, h3⟩ a' hf
  exact h v M' x' h1 h2 a' w' hf h3
theorem w_callVJ {b0 : Nat} {o0 : Obj} {y : Operand} {f : FuncId} {xs : List Operand} {ts : Array TypeId} {vs : List Value} {cap : List Value} {x : Item} {Φ : Heap → Item → Value → Prop} (i : Nat) (hcf : CF c.P f) (hg : Wnt ops l gd) (hd : Nat.blt d c.n = true) (hx : evs l xs = some vs)
  (hy : ev l y = some (.func (.func f) #[] cap.toArray)) (hne : ∀ f, y ≠ .func f) (hi : L[i]? = some x) (hxb : x = .blk b0 o0) (hc : ∀ w, St (fun k => k = b0) M w M (lt [x]) w → Calls c.P f (vs ++ cap).toArray w (PostI (fun k => k = b0) M w Φ))
  (h : ∀ v M' x', HLe M M' → Φ M' x' v → c.W ops rest Q ((d, v) :: l) M' (L.set i x')) :
  c.W ops (⟨some d, .call ⟨.value y, xs.toArray, ts⟩, ty, pos, af, gd⟩ :: rest) Q l M L := by
 refine w_op hg hd (Φ := fun v w' => ∃ M' x', HLe M M' ∧ Φ M' x' v ∧ St c.X c.M0 c.w0 M' (lt (L.set i x')) w') ?_ ?_
 ·intro a w hf hs
  obtain ⟨hx1, hx2⟩ := hs.lendB (i := i) (x := x) hi hxb
  have hcall := hc w hx1
  refine OpOK.enter (f := f) (args := (vs ++ cap).toArray) (w' := w) ?_ ?_
  ·simp [execOp, resolve, hf.ev hy, Deferred.ofValue, invoke, hf.evs hx]
   have := hcf (vs ++ cap).toArray w
   simpa using this
  ·refine hcall.mono ?_
   rintro e w'' ⟨v, M', x', rfl, hst, hv⟩
   refine ⟨v, rfl, M', x', hst.ext.le hs.sub, hv, ?_⟩
   rw [← lt_set L i _ _ hi]
   exact hx2 M' x' w'' hst
 ·rintro v w' ⟨M', x', h1, h2, h3⟩ a' hf
  exact h v M' x' h1 h2 a' w' hf h3
end rules
end Go.Cu


namespace Go.Cu
theorem rs_nil {α : Type} {F : Fl α} {M : Heap} {l : List α} (h : RS F M (.slice none 0 0) l) : l = [] := by
 rcases h with ⟨_, h⟩ | ⟨b, cap, pre, post, T, fr, h, _⟩
 ·exact h
 ·cases h
theorem rs_of_nil {α : Type} {F : Fl α} {M : Heap} {l : List α} (h : l = []) : RS F M (.slice none 0 0) l := .inl ⟨rfl, h⟩
end Go.Cu


namespace Go.Cu
theorem lk_head (d : Nat) (v : Value) (l : List (Nat × Value)) : lk d ((d, v) :: l) = some v := by
 unfold lk
 rw [Nat.beq_refl]
def Pk (l : List (Nat × Value)) : List (Nat × Value) → Prop
 | [] => True
 | (t, v) :: r => Pk l r ∧ lk t l = some v
theorem Fr.pick {n : Nat} {l : List (Nat × Value)} {a : Act} (h : Fr n l a) : ∀ {l' : List (Nat × Value)}, Pk l l' → Fr n l' a
 | [], _ => h.nil
 | (t, v) :: r, hp => (Fr.pick h hp.1).add (h.get t v hp.2)
theorem pk {l : List (Nat × Value)} {t : Nat} {v : Value} {r : List (Nat × Value)} (h : Pk l r) (e : lk t l = some v) : Pk l ((t, v) :: r) := ⟨h, e⟩
section
variable {c : Cx} {Q : Exit → Act → World → Prop} {l : List (Nat × Value)} {M : Heap} {L : List Item}
variable {ops : Array Oper} {rest : List Oper} {d : Nat} {ty : TypeId} {pos : String} {af : Array Edge}
theorem vm {x : Operand} {v : Value} (hd : Nat.blt d c.n = true) (hx : ev l x = some v) (h : c.W ops rest Q ((d, v) :: l) M L) :
  c.W ops (⟨some d, .move x, ty, pos, af, none⟩ :: rest) Q l M L := w_val trivial hd (fun a w hf hs => r_move (hf.ev hx)) h
theorem va {x : Operand} {v : Value} (hd : Nat.blt d c.n = true) (hx : ev l x = some v) (h : c.W ops rest Q ((d, v) :: l) M L) :
  c.W ops (⟨some d, .assign x, ty, pos, af, none⟩ :: rest) Q l M L := w_val trivial hd (fun a w hf hs => r_assign (hf.ev hx)) h
theorem v_extract {x : Operand} {i : Nat} {vs : Array Value} {v : Value} (hd : Nat.blt d c.n = true) (hx : ev l x = some (.tuple vs)) (hv : vs[i]? = some v) (h : c.W ops rest Q ((d, v) :: l) M L) :
  c.W ops (⟨some d, .extract x i, ty, pos, af, none⟩ :: rest) Q l M L := w_val trivial hd (fun a w hf hs => r_extract (hf.ev hx) hv) h
theorem v_add {x y : Operand} {t t' : TypeId} {k : IntKind} {i j : Int} (hd : Nat.blt d c.n = true) (hx : ev l x = some (.int k i)) (hy : ev l y = some (.int k j)) (h : c.W ops rest Q ((d, .int k (k.wrap (i + j))) :: l) M L) :
  c.W ops (⟨some d, .binOp .add t x y t', ty, pos, af, none⟩ :: rest) Q l M L := w_val trivial hd (fun a w hf hs => r_add (hf.ev hx) (hf.ev hy)) h
theorem v_lss {x y : Operand} {t t' : TypeId} {k : IntKind} {i j : Int} (hd : Nat.blt d c.n = true) (hx : ev l x = some (.int k i)) (hy : ev l y = some (.int k j)) (h : c.W ops rest Q ((d, .bool (decide (i < j))) :: l) M L) :
  c.W ops (⟨some d, .binOp .lss t x y t', ty, pos, af, none⟩ :: rest) Q l M L := w_val trivial hd (fun a w hf hs => r_lss (hf.ev hx) (hf.ev hy)) h
theorem wv {op : Op} {v : Value} (hd : Nat.blt d c.n = true)
  (hr : ∀ {a w}, Fr c.n l a → St c.X c.M0 c.w0 M (lt L) w → (execOp a.eval ⟨some d, op, ty, pos, af, none⟩).run c.P w = .ok (.value v) w)
  (h : c.W ops rest Q ((d, v) :: l) M L) : c.W ops (⟨some d, op, ty, pos, af, none⟩ :: rest) Q l M L := w_val trivial hd (fun _ _ => hr) h
theorem wg {op : Op} {v : Value} {j t : Nat} {b x : Bool} (h3 : x = b) (h1 : (ops[j]?).bind (·.dst) = some t) (h2 : lk t l = some (.bool x)) (hd : Nat.blt d c.n = true)
  (hr : ∀ {a w}, Fr c.n l a → St c.X c.M0 c.w0 M (lt L) w → (execOp a.eval ⟨some d, op, ty, pos, af, some (j, b)⟩).run c.P w = .ok (.value v) w)
  (h : c.W ops rest Q ((d, v) :: l) M L) : c.W ops (⟨some d, op, ty, pos, af, some (j, b)⟩ :: rest) Q l M L := w_val (Wnt.of h1 h2 h3) hd (fun _ _ => hr) h
theorem v_fa {t : TypeId} {i k b o : Nat} {x : Operand} (hF : FA c.P t i k) (hd : Nat.blt d c.n = true) (hx : ev l x = some (ptr b o)) (h : c.W ops rest Q ((d, ptr b (o + k)) :: l) M L) :
  c.W ops (⟨some d, .fieldAddr t x i, ty, pos, af, none⟩ :: rest) Q l M L := w_val trivial hd (fun a w hf hs => r_fa hF (hf.ev hx)) h
theorem pv {op : Op} {v : Value} {a : Act} {w : World} (hf : Fr c.n l a) (hs : St c.X c.M0 c.w0 M (lt L) w) (hd : Nat.blt d c.n = true)
  (hr : ∀ {a w}, Fr c.n l a → St c.X c.M0 c.w0 M (lt L) w → (execOp a.eval ⟨some d, op, ty, pos, af, none⟩).run c.P w = .ok (.value v) w) {A : Value → Heap → Prop} (hA : A v M) :
  OP c ops ⟨some d, op, ty, pos, af, none⟩ a w fun v' w' => ∃ M', HLe M M' ∧ St c.X c.M0 c.w0 M' (lt L) w' ∧ A v' M' :=
 OP.ofW hf hs hd (w_val trivial hd (fun _ _ => hr) (w_nil fun a w' hf hs => ⟨rfl, hf.df, _, HLe.refl _, hs, (show back ⟨some d, op, ty, pos, af, none⟩ a = v from hf.get _ _ (lk_head d v l)) ▸ hA⟩))
theorem pg {op : Op} {v : Value} {a : Act} {w : World} {gd : Option (Nat × Bool)} (hf : Fr c.n l a) (hs : St c.X c.M0 c.w0 M (lt L) w) (hg : Wnt ops l gd) (hd : Nat.blt d c.n = true) {A : Value → Heap → Prop} (hA : A v M)
  (hr : ∀ {a w}, Fr c.n l a → St c.X c.M0 c.w0 M (lt L) w → (execOp a.eval ⟨some d, op, ty, pos, af, gd⟩).run c.P w = .ok (.value v) w) :
  OP c ops ⟨some d, op, ty, pos, af, gd⟩ a w fun v' w' => ∃ M', HLe M M' ∧ St c.X c.M0 c.w0 M' (lt L) w' ∧ A v' M' :=
 OP.ofW hf hs hd (w_val hg hd (fun _ _ => hr) (w_nil fun a w' hf hs => ⟨rfl, hf.df, _, HLe.refl _, hs, (show back ⟨some d, op, ty, pos, af, gd⟩ a = v from hf.get _ _ (lk_head d v l)) ▸ hA⟩))
theorem pu {op : Op} {v : Value} {a : Act} {w : World} (hf : Fr c.n l a) (hs : St c.X c.M0 c.w0 M (lt L) w) (hd : Nat.blt d c.n = true) {A : Value → Heap → Prop} (hA : A v M)
  (hr : ∀ {a w}, Fr c.n l a → St c.X c.M0 c.w0 M (lt L) w → (execOp a.eval ⟨some d, op, ty, pos, af, none⟩).run c.P w = .ok (.value v) w) :
  OP c ops ⟨some d, op, ty, pos, af, none⟩ a w fun v' w' => ∃ M', HLe M M' ∧ St c.X c.M0 c.w0 M' (lt L) w' ∧ A v' M' := pv hf hs hd hr hA
theorem pw {op : Op} {v : Value} {a : Act} {w : World} (hf : Fr c.n l a) (hs : St c.X c.M0 c.w0 M (lt L) w) (hd : Nat.blt d c.n = true)
  (hr : ∀ {a w}, Fr c.n l a → St c.X c.M0 c.w0 M (lt L) w → (execOp a.eval ⟨some d, op, ty, pos, af, none⟩).run c.P w = .ok (.value v) w) {A : Value → Heap → Prop} {B : Heap → List Item → Prop} (hA : A v M) (hB : B M L) :
  OP c ops ⟨some d, op, ty, pos, af, none⟩ a w fun v' w' => ∃ M' L', HLe M M' ∧ St c.X c.M0 c.w0 M' (lt L') w' ∧ A v' M' ∧ B M' L' :=
 OP.ofW hf hs hd (w_val trivial hd (fun _ _ => hr) (w_nil fun a w' hf hs => ⟨rfl, hf.df, _, _, HLe.refl _, hs, (show back ⟨some d, op, ty, pos, af, none⟩ a = v from hf.get _ _ (lk_head d v l)) ▸ hA, hB⟩))
theorem wn {y : Code} {K : Act → World → Prop} (hK : ∀ l M L, c.C y Q l M L → c.N K l M L) (h : c.C y Q l M L) : c.W ops [] (Exit.then K Q) l M L := w_nil (hK _ _ _ h)
theorem c_sr {id : Nat} {os : List Oper} {y : Code} (h : ∀ K, (∀ l M L, c.C y Q l M L → c.N K l M L) → c.W os.toArray os (Exit.then K Q) l M L) : c.C (.seq (.region id os.toArray false) y) Q l M L := c_seq fun K hK => c_reg (h K hK)
theorem wq {op : Op} {j t : Nat} {b x : Bool} (h3 : x = !b) (h1 : (ops[j]?).bind (·.dst) = some t) (h2 : lk t l = some (.bool x)) (hd : Nat.blt d c.n = true) (h : c.W ops rest Q ((d, undef) :: l) M L) : c.W ops (⟨some d, op, ty, pos, af, some (j, b)⟩ :: rest) Q l M L := w_not (Nwt.of h1 h2 h3) hd h
end
abbrev vq (x : Value) : Value → Heap → Prop := fun v _ => v = x
theorem aT {f : Nat → (List (Nat × Nat) × List Nat) → Oper → Prop} {i : Nat} {e : List (Nat × Nat) × List Nat} {T : Tab} {o : Oper} {ops : List Oper} (h : f i e o) (t : AllT f (i + 1) T ops) : AllT f i (e :: T) (o :: ops) := ⟨h, t⟩
theorem mC {p : Value → Prop} {ps : List (Value → Heap → Prop)} (h : MonoA ps) : MonoA ((fun v _ => p v) :: ps) := MonoA.cons (fun _ _ _ _ h => h) h
theorem ln1 {α : Type} {l : List α} (h : l.length = 1) : ∃ a, l = [a] := List.length_eq_one_iff.1 h
theorem ln2 {α : Type} {l : List α} (h : l.length = 2) : ∃ a b, l = [a, b] := by
 obtain ⟨a, m, rfl, k⟩ := lenS h; obtain ⟨b, rfl⟩ := ln1 k; exact ⟨a, b, rfl⟩
theorem ln3 {α : Type} {l : List α} (h : l.length = 3) : ∃ a b c, l = [a, b, c] := by
 obtain ⟨a, m, rfl, k⟩ := lenS h; obtain ⟨b, c, rfl⟩ := ln2 k; exact ⟨a, b, c, rfl⟩
theorem ln4 {α : Type} {l : List α} (h : l.length = 4) : ∃ a b c d, l = [a, b, c, d] := by
 obtain ⟨a, m, rfl, k⟩ := lenS h; obtain ⟨b, c, d, rfl⟩ := ln3 k; exact ⟨a, b, c, d, rfl⟩
theorem ln5 {α : Type} {l : List α} (h : l.length = 5) : ∃ a b c d e, l = [a, b, c, d, e] := by
 obtain ⟨a, m, rfl, k⟩ := lenS h; obtain ⟨b, c, d, e, rfl⟩ := ln4 k; exact ⟨a, b, c, d, e, rfl⟩
end Go.Cu


namespace Go.Cu
def depsL (l : List (Nat × Value)) (vs : List Value) (e : List (Nat × Nat) × List Nat) : List (Nat × Value) :=
 e.1.map (fun p => (p.2, vs.getD p.1 undef)) ++ e.2.map (fun t => (t, (lk t l).getD undef))
def okV (l : List (Nat × Value)) (n : Nat) (T : Tab) : Bool := T.all fun e => (e.1.all fun p => Nat.blt p.1 n) && (e.2.all fun t => (lk t l).isSome)
theorem frOf {n : Nat} {a : Act} (h1 : a.defers = []) (h2 : a.tmps.size = n) : ∀ L : List (Nat × Value), (∀ p ∈ L, a.tmps.getD p.1 undef = p.2) → Fr n L a
 | [], _ => Fr.start h1 h2
 | (t, v) :: L, h => (frOf h1 h2 L fun p hp => h p (by simp [hp])).add (h (t, v) (by simp))
theorem DPre.deps {c : Cx} {l : List (Nat × Value)} {vs : List Value} {e : List (Nat × Nat) × List Nat} {a : Act} {M' : Heap} (h : DPre c l (vs.map vq) e a M')
  (h1 : (e.1.all fun p => Nat.blt p.1 vs.length) = true) (h2 : (e.2.all fun t => (lk t l).isSome) = true) : Fr c.n (depsL l vs e) a := by
 refine frOf h.df h.sz _ ?_
 intro p hp
 unfold depsL at hp
 rcases List.mem_append.1 hp with hp | hp
 ·obtain ⟨q, hq, rfl⟩ := List.mem_map.1 hp
  have hlt : q.1 < vs.length := by
   have := List.all_eq_true.1 h1 q hq
   exact Nat.blt_eq.mp this
  have := h.val q.1 q.2 (vq (vs.getD q.1 undef)) (List.contains_iff_mem.2 hq) (by simp [hlt])
  exact this
 ·obtain ⟨t, ht, rfl⟩ := List.mem_map.1 hp
  have := List.all_eq_true.1 h2 t ht
  obtain ⟨v, hv⟩ := Option.isSome_iff_exists.1 this
  have := h.base t v hv (List.contains_iff_mem.2 ht)
  rw [hv]; exact this
def AllV (f : (List (Nat × Nat) × List Nat) → Oper → Value → Prop) : Tab → List Oper → List Value → Prop
 | [], [], [] => True
 | e :: T, o :: ops, v :: vs => f e o v ∧ AllV f T ops vs
 | _, _, _ => False
section
variable {f : (List (Nat × Nat) × List Nat) → Oper → Value → Prop}
theorem aV {e : List (Nat × Nat) × List Nat} {T : Tab} {o : Oper} {ops : List Oper} {v : Value} {vs : List Value} (h : f e o v) (t : AllV f T ops vs) : AllV f (e :: T) (o :: ops) (v :: vs) := ⟨h, t⟩
theorem aV0 : AllV f [] [] [] := trivial
theorem AllV.len : ∀ {T : Tab} {ops : List Oper} {vs : List Value}, AllV f T ops vs → ops.length = vs.length
 | [], [], [], _ => rfl
 | e :: T, o :: ops, v :: vs, h => by simp [AllV.len h.2]
 | [], _ :: _, _, h => by cases h
 | [], [], _ :: _, h => by cases h
 | _ :: _, [], _, h => by cases h
 | _ :: _, _ :: _, [], h => by cases h
theorem AllV.toT {g : Nat → (List (Nat × Nat) × List Nat) → Oper → Prop} : ∀ {T : Tab} {ops : List Oper} {vs pre : List Value} (k : Nat), AllV f T ops vs → pre.length = k → (∀ i e o v, e ∈ T → (pre ++ vs)[i]? = some v → f e o v → g i e o) → AllT g k T ops
 | [], [], [], pre, k, _, _, _ => trivial
 | e :: T, o :: ops, v :: vs, pre, k, h, hk, hg => by
  refine ⟨hg k e o v (by simp) (by subst hk; simp) h.1, ?_⟩
  refine AllV.toT (pre := pre ++ [v]) (k + 1) h.2 (by simp [hk]) ?_
  intro i e' o' v' he' hv' hf
  exact hg i e' o' v' (by simp [he']) (by simpa using hv') hf
 | [], _ :: _, _, _, _, h, _, _ => by cases h
 | [], [], _ :: _, _, _, h, _, _ => by cases h
 | _ :: _, [], _, _, _, h, _, _ => by cases h
 | _ :: _, _ :: _, [], _, _, h, _, _ => by cases h
end
def endV : List Oper → List Value → List (Nat × Value)
 | o :: ops, v :: vs => match o.dst with | some d => (d, v) :: endV ops vs | none => endV ops vs
 | _, _ => []
def keepV (ops : List Oper) (t : Nat) : Bool := ops.all fun o => match o.dst with | some t' => !Nat.beq t t' | none => true
def endL (l : List (Nat × Value)) (ops : List Oper) (vs : List Value) : List (Nat × Value) := endV ops vs ++ l.filter fun p => keepV ops p.1
theorem lk_filter (p : Nat → Bool) (t : Nat) (v : Value) : ∀ l : List (Nat × Value), lk t (l.filter fun q => p q.1) = some v → lk t l = some v ∧ p t = true
 | [], h => by cases h
 | (k, u) :: l, h => by
  by_cases hp : p k = true
  ·rw [List.filter_cons_of_pos (by simpa using hp)] at h
   unfold lk at h ⊢
   cases hb : Nat.beq t k with
   | true =>
    rw [hb] at h
    have : t = k := Nat.eq_of_beq_eq_true hb
    subst this
    exact ⟨h, hp⟩
   | false => rw [hb] at h; exact lk_filter p t v l h
  ·rw [List.filter_cons_of_neg (by simpa using hp)] at h
   obtain ⟨h1, h2⟩ := lk_filter p t v l h
   refine ⟨?_, h2⟩
   unfold lk
   cases hb : Nat.beq t k with
   | true =>
    have : t = k := Nat.eq_of_beq_eq_true hb
    subst this
    exact absurd h2 hp
   | false => exact h1
theorem lk_app {t : Nat} {v : Value} : ∀ {a b : List (Nat × Value)}, lk t (a ++ b) = some v → (∃ u, (t, u) ∈ a ∧ lk t a = some u ∧ u = v) ∨ lk t b = some v
 | [], b, h => .inr h
 | (k, u) :: a, b, h => by
  rw [List.cons_append] at h
  unfold lk at h
  cases hb : Nat.beq t k with
  | true =>
   rw [hb] at h
   have : t = k := Nat.eq_of_beq_eq_true hb
   subst this
   left
   exact ⟨u, by simp, by unfold lk; rw [hb], Option.some.inj h⟩
  | false =>
   rw [hb] at h
   rcases lk_app h with ⟨u', h1, h2, h3⟩ | h1
   ·left; exact ⟨u', by simp [h1], by unfold lk; rw [hb]; exact h2, h3⟩
   ·exact .inr h1
theorem endV_mem {t : Nat} {v : Value} : ∀ {ops : List Oper} {vs : List Value}, (t, v) ∈ endV ops vs → ∃ i : Nat, (ops[i]?).bind (fun o : Oper => o.dst) = some t ∧ vs[i]? = some v
 | [], _, h => by simp [endV] at h
 | o :: ops, [], h => by simp [endV] at h
 | o :: ops, u :: vs, h => by
  unfold endV at h
  cases hd : o.dst with
  | none =>
   rw [hd] at h
   obtain ⟨i, h1, h2⟩ := endV_mem h
   exact ⟨i + 1, by simpa using h1, by simpa using h2⟩
  | some d =>
   rw [hd] at h
   rcases List.mem_cons.1 h with h | h
   ·obtain ⟨rfl, rfl⟩ := Prod.mk.inj h
    exact ⟨0, by simp [hd], by simp⟩
   ·obtain ⟨i, h1, h2⟩ := endV_mem h
    exact ⟨i + 1, by simpa using h1, by simpa using h2⟩
theorem frEnd {n : Nat} {a : Act} {l : List (Nat × Value)} {ops : List Oper} {vs : List Value} (h1 : a.defers = []) (h2 : a.tmps.size = n)
  (hb : ∀ t v, lk t l = some v → keepV ops t = true → a.tmps.getD t undef = v)
  (hv : ∀ (i t : Nat) (v : Value), (ops[i]?).bind (fun o : Oper => o.dst) = some t → vs[i]? = some v → a.tmps.getD t undef = v) : Fr n (endL l ops vs) a := by
 refine ⟨h1, h2, ?_⟩
 intro t v ht
 unfold endL at ht
 rcases lk_app ht with ⟨u, hm, _, rfl⟩ | ht
 ·obtain ⟨i, e1, e2⟩ := endV_mem hm
  exact hv i t u e1 e2
 ·obtain ⟨e1, e2⟩ := lk_filter (keepV ops) t v l ht
  exact hb t v e1 e2
section
variable {c : Cx} {ops : List Oper} {l : List (Nat × Value)} {M : Heap} {L : List Item} {Q : Exit → Act → World → Prop}
theorem vq_mono : ∀ vs : List Value, MonoA (vs.map vq)
 | [] => MonoA.nil
 | v :: vs => MonoA.cons (fun _ _ _ _ h => h) (vq_mono vs)
def FV' (c : Cx) (ops : List Oper) (l : List (Nat × Value)) (M : Heap) (L : List Item) (vs : List Value) (e : List (Nat × Nat) × List Nat) (o : Oper) (v : Value) : Prop :=
 ∀ a w M', HLe M M' → Fr c.n (depsL l vs e) a → St c.X c.M0 c.w0 M' (lt L) w → OP c ops.toArray o a w fun v' w' => ∃ M'', HLe M' M'' ∧ St c.X c.M0 c.w0 M'' (lt L) w' ∧ v' = v
theorem tA_vq {vs : List Value} {i : Nat} {v v' : Value} {M : Heap} (h : vs[i]? = some v) (e : v' = v) : tA (vs.map vq) i v' M := by
 unfold tA
 have : (vs.map vq)[i]? = some (vq v) := by simp [h]
 rw [this]; exact e
theorem hopV {T : Tab} {vs : List Value} (ok : okV l vs.length T = true) (hop : AllV (FV' c ops l M L vs) T ops vs) :
  AllT (fun i e o => ∀ a w M', HLe M M' → DPre c l (vs.map vq) e a M' → St c.X c.M0 c.w0 M' (lt L) w →
   OP c ops.toArray o a w fun v w' => ∃ M'', HLe M' M'' ∧ St c.X c.M0 c.w0 M'' (lt L) w' ∧ tA (vs.map vq) i v M'') 0 T ops := by
 refine AllV.toT (pre := []) 0 hop rfl ?_
 intro i e o v he hv hf a w M' hl hd hs
 have h := List.all_eq_true.1 ok e he
 simp only [Bool.and_eq_true] at h
 have := hf a w M' hl (hd.deps h.1 h.2) hs
 have key : (fun v' w' => ∃ M'', HLe M' M'' ∧ St c.X c.M0 c.w0 M'' (lt L) w' ∧ v' = v) = fun v' w' => ∃ M'', HLe M' M'' ∧ St c.X c.M0 c.w0 M'' (lt L) w' ∧ tA (vs.map vq) i v' M'' := by
  funext v' w'
  have hv : vs[i]? = some v := by simpa using hv
  apply propext
  constructor
  ·rintro ⟨M'', x1, x2, x3⟩; exact ⟨M'', x1, x2, tA_vq hv x3⟩
  ·rintro ⟨M'', x1, x2, x3⟩
   refine ⟨M'', x1, x2, ?_⟩
   unfold tA at x3
   have : (vs.map vq)[i]? = some (vq v) := by simp [hv]
   rw [this] at x3; exact x3
 rw [← key]; exact this
theorem d_drawV (T : Tab) (vs : List Value) (hm : c.P.follows .mixedOrders = true) (hck : chk c.n ops T = true) (ok : okV l vs.length T = true)
  (hop : AllV (FV' c ops l M L vs) T ops vs) (hend : ∀ M', HLe M M' → c.N (Q .normal) (endL l ops vs) M' L) : c.D ops Q l M L :=
 d_drawP T (vs.map vq) hm hck (vq_mono vs) (hopV ok hop) fun a w M' hl hdf hsz hb hv hs => hend M' hl a w (frEnd hdf hsz hb (fun i t v h1 h2 => hv i t (vq v) h1 (by simp [h2]))) hs
theorem c_drawV {id : Nat} (T : Tab) (vs : List Value) (hm : c.P.follows .mixedOrders = true) (hck : chk c.n ops T = true) (ok : okV l vs.length T = true)
  (hop : AllV (FV' c ops l M L vs) T ops vs) (hend : ∀ M', HLe M M' → c.N (Q .normal) (endL l ops vs) M' L) : c.C (.region id ops.toArray true) Q l M L :=
 c_open hm (d_drawV T vs hm hck ok hop hend)
variable {d : Nat} {op : Op} {ty : TypeId} {pos : String} {af : Array Edge} {vs : List Value} {e : List (Nat × Nat) × List Nat} {v : Value}
theorem pz (hd : Nat.blt d c.n = true)
  (hr : ∀ {a w M'}, HLe M M' → Fr c.n (depsL l vs e) a → St c.X c.M0 c.w0 M' (lt L) w → (execOp a.eval ⟨some d, op, ty, pos, af, none⟩).run c.P w = .ok (.value v) w) :
  FV' c ops l M L vs e ⟨some d, op, ty, pos, af, none⟩ v := fun a w M' hl hf hs => pv hf hs hd (fun hf hs => hr hl hf hs) rfl
theorem pzg {j t : Nat} {b x : Bool} (h3 : x = b) (h1 : (ops.toArray[j]?).bind (·.dst) = some t) (h2 : lk t (depsL l vs e) = some (.bool x)) (hd : Nat.blt d c.n = true)
  (hr : ∀ {a w M'}, HLe M M' → Fr c.n (depsL l vs e) a → St c.X c.M0 c.w0 M' (lt L) w → (execOp a.eval ⟨some d, op, ty, pos, af, some (j, b)⟩).run c.P w = .ok (.value v) w) :
  FV' c ops l M L vs e ⟨some d, op, ty, pos, af, some (j, b)⟩ v := fun a w M' hl hf hs => pg hf hs (Wnt.of h1 h2 h3) hd rfl (fun hf hs => hr hl hf hs)
end
end Go.Cu


namespace Go.Cu
theorem Y {α : Sort _} {a : α} : a = a := rfl
abbrev bk (b : Nat) (A : List Value) (T : TypeId) : Item := .blk b (.cells A.toArray T (0, 0))
theorem pk_of {l : List (Nat × Value)} : ∀ {l' : List (Nat × Value)}, l'.map (fun p => lk p.1 l) = l'.map (fun p => some p.2) → Pk l l'
 | [], _ => trivial
 | (t, v) :: r, e => by
  injection e with e1 e2
  exact ⟨pk_of e2, e1⟩
theorem Fr.pk {n : Nat} {l l' : List (Nat × Value)} {a : Act} (h : Fr n l a) (e : l'.map (fun p => lk p.1 l) = l'.map fun p => some p.2) : Fr n l' a := h.pick (pk_of e)
def nwB (v : Option Value) (b : Bool) : Bool :=
 match v with
 | some (.bool x) => xor x b
 | some (.tuple a) => Nat.beq a.size 0
 | _ => false
def nwO (n : Nat) (ops : Array Oper) (l : List (Nat × Value)) (d j : Nat) (b : Bool) : Bool :=
 match (ops[j]?).bind (·.dst) with
 | some t => nwB (lk t l) b && Nat.blt d n
 | none => false
def qs (n : Nat) (ops : Array Oper) : Nat → List Oper → List (Nat × Value) → Option (List Oper × List (Nat × Value))
 | 0, r, l => some (r, l)
 | k + 1, ⟨some d, _, _, _, _, some (j, b)⟩ :: r, l => cond (nwO n ops l d j b) (qs n ops k r ((d, undef) :: l)) none
 | _ + 1, _, _ => none
theorem nwO.of {n : Nat} {ops : Array Oper} {l : List (Nat × Value)} {d j : Nat} {b : Bool} (h : nwO n ops l d j b = true) : Nwt ops l (some (j, b)) ∧ Nat.blt d n = true := by
 unfold nwO at h
 split at h
 ·rename_i t ht
  obtain ⟨h1, h2⟩ := Bool.and_eq_true_iff.1 h
  refine ⟨?_, h2⟩
  unfold nwB at h1
  split at h1
  ·rename_i x hx; refine Nwt.of ht hx ?_
   cases x <;> cases b <;> first | rfl | cases h1
  ·rename_i a ha
   have : a = #[] := Array.eq_empty_of_size_eq_zero (Nat.eq_of_beq_eq_true h1)
   subst this
   exact Nwt.un ht ha
  ·cases h1
 ·cases h
section
variable {c : Cx} {Q : Exit → Act → World → Prop} {l l' : List (Nat × Value)} {M : Heap} {L : List Item} {x y : Code} {r r' : List Oper} {ops : Array Oper}
theorem wqs : ∀ (k : Nat) {r : List Oper} {l : List (Nat × Value)}, qs c.n ops k r l = some (r', l') → c.W ops r' Q l' M L → c.W ops r Q l M L
 | 0, r, l, e, h => by
  obtain ⟨rfl, rfl⟩ := Prod.mk.inj (Option.some.inj e); exact h
 | k + 1, [], l, e, h => by cases e
 | k + 1, ⟨none, op, ty, pos, af, gd⟩ :: r, l, e, h => by cases e
 | k + 1, ⟨some d, op, ty, pos, af, none⟩ :: r, l, e, h => by cases e
 | k + 1, ⟨some d, op, ty, pos, af, some (j, b)⟩ :: r, l, e, h => by
  unfold qs at e
  cases hn : nwO c.n ops l d j b with
  | false => rw [hn] at e; cases e
  | true =>
   rw [hn] at e
   obtain ⟨h1, h2⟩ := nwO.of hn
   exact w_not h1 h2 (wqs k e h)
theorem cs {K : Exit → Act → World → Prop} {p : List (Nat × Value) → Heap → List Item → Prop} (hK : ∀ l M L, p l M L → c.N (K .normal) l M L) (h : p l M L) : c.C .skip K l M L := c_skip (hK _ _ _ h)
theorem ni {K : Act → World → Prop} {p : List (Nat × Value) → Heap → List Item → Prop} (hK : ∀ l M L, p l M L → c.N K l M L) (h : p l M L) : c.N K l M L := hK _ _ _ h
theorem wk {o : Array Oper} {K : Exit → Act → World → Prop} {p : List (Nat × Value) → Heap → List Item → Prop} (hK : ∀ l M L, p l M L → c.N (K .normal) l M L) (h : p l M L) : c.W o [] K l M L := w_nil (hK _ _ _ h)
theorem csp {id : Nat} (k : Nat) {ops : List Oper} (e : (c.P.follows .mixedOrders && splitOk k ops && backward (ops.take k) && guardOk k (ops.take k) && Nat.ble k ops.length) = true) (h : ∀ K : Act → World → Prop, (∀ l M L, c.W ops.toArray (ops.drop k) Q l M L → c.N K l M L) → c.D (ops.take k) (thenK K Q) l M L) :
  c.C (.region id ops.toArray true) Q l M L := by
 simp only [Bool.and_eq_true] at e
 exact c_split2 k e.1.1.1.1 e.1.1.1.2 e.1.1.2 e.1.2 e.2 h
theorem dV {ops : List Oper} {vs : List Value} (T : Tab) (e : (c.P.follows .mixedOrders && chk c.n ops T) = true) (hop : AllV (FV' c ops l M L vs) T ops vs) (ok : okV l vs.length T = true) (hend : ∀ M', HLe M M' → c.N (Q .normal) (endL l ops vs) M' L) :
  c.D ops Q l M L := d_drawV T vs (Bool.and_eq_true_iff.1 e).1 (Bool.and_eq_true_iff.1 e).2 ok hop hend
theorem cV {id : Nat} {ops : List Oper} {vs : List Value} (T : Tab) (e : (c.P.follows .mixedOrders && chk c.n ops T) = true) (hop : AllV (FV' c ops l M L vs) T ops vs) (ok : okV l vs.length T = true) (hend : ∀ M', HLe M M' → c.N (Q .normal) (endL l ops vs) M' L) :
  c.C (.region id ops.toArray true) Q l M L := c_open (Bool.and_eq_true_iff.1 e).1 (dV T e hop ok hend)
variable {d : Nat} {op : Op} {ty : TypeId} {pos : String} {af : Array Edge} {os : List Oper} {vs : List Value} {e : List (Nat × Nat) × List Nat} {v : Value} {f : FuncId} {xs : List Operand} {ts : Array TypeId} {us : List Value}
theorem pzc (hcf : CF c.P f) (hd : Nat.blt d c.n = true) (hx : evs (depsL l vs e) xs = some us) (hc : ∀ M', HLe M M' → ∀ w, Sub M' w → Calls c.P f us.toArray w (Post M' w fun _ v' => v' = v)) :
  FV' c os l M L vs e ⟨some d, .call ⟨.value (.func f), xs.toArray, ts⟩, ty, pos, af, none⟩ v := fun a w M' hl hf hs =>
 OP.ofW hf hs hd (w_call hcf trivial hd hx (hc M' hl) fun v' M'' l'' hh => w_nil fun a w' hf hs => ⟨rfl, hf.df, _, l'', hs, (show back ⟨some d, .call ⟨.value (.func f), xs.toArray, ts⟩, ty, pos, af, none⟩ a = v' from hf.get _ _ (lk_head d v' _)).trans hh⟩)
theorem pzcg {j t : Nat} {b x : Bool} (h3 : x = b) (h1 : (os.toArray[j]?).bind (·.dst) = some t) (h2 : lk t (depsL l vs e) = some (.bool x)) (hcf : CF c.P f) (hd : Nat.blt d c.n = true) (hx : evs (depsL l vs e) xs = some us) (hc : ∀ M', HLe M M' → ∀ w, Sub M' w → Calls c.P f us.toArray w (Post M' w fun _ v' => v' = v)) :
  FV' c os l M L vs e ⟨some d, .call ⟨.value (.func f), xs.toArray, ts⟩, ty, pos, af, some (j, b)⟩ v := fun a w M' hl hf hs =>
 OP.ofW hf hs hd (w_call hcf (Wnt.of h1 h2 h3) hd hx (hc M' hl) fun v' M'' l'' hh => w_nil fun a w' hf hs => ⟨rfl, hf.df, _, l'', hs, (show back ⟨some d, .call ⟨.value (.func f), xs.toArray, ts⟩, ty, pos, af, some (j, b)⟩ a = v' from hf.get _ _ (lk_head d v' _)).trans hh⟩)
theorem pzq {j t : Nat} {b x : Bool} (h3 : x = !b) (h1 : (os.toArray[j]?).bind (·.dst) = some t) (h2 : lk t (depsL l vs e) = some (.bool x)) (hd : Nat.blt d c.n = true) :
  FV' c os l M L vs e ⟨some d, op, ty, pos, af, some (j, b)⟩ undef := fun a w M' hl hf hs =>
 OP.ofW hf hs hd (wq h3 h1 h2 hd (w_nil fun a w' hf hs => ⟨rfl, hf.df, _, HLe.refl _, hs, (show back ⟨some d, op, ty, pos, af, some (j, b)⟩ a = undef from hf.get _ _ (lk_head d undef _))⟩))
variable {P : Program} {n : Nat} {X : Nat → Prop} {M0 : Heap} {w0 : World} {fn : Func} {G : Act → World → Prop}
theorem cof {a : Act} {w : World} (hf : Fr n l a) (hs : St X M0 w0 M (lt L) w) (h : (Cx.mk P n X M0 w0).C x Q l M L) : x.wp P Q a w := h a w hf hs
variable {Q' : Exit → Act → World → Prop}
theorem cx (hr : ∀ e, e = .ret ∨ e = .normal → ∀ a w', a.defers = [] → G a w' → Q' e a w') (he : Q' .ret = Q .ret) (h : ∀ {a w'}, Fr c.n l a → St c.X c.M0 c.w0 M (lt L) w' → G a w') : c.C .ret Q l M L := c_ret fun a w' hf hs => he ▸ hr _ (.inl rfl) a w' hf.df (h hf hs)
variable {Φ : Heap → Value → Prop} {t t1 t2 : Nat} {v1 v2 : Value}
theorem cx1 (hr : ∀ e, e = .ret ∨ e = .normal → ∀ a w', a.defers = [] → (∃ v M', Res P fn a w' v ∧ Ext none' M0 w0 M' w' ∧ Φ M' v) → Q' e a w') (he : Q' .ret = Q .ret) (h : fn.results = #[.tmp t]) (hv : lk t l = some v) (hΦ : Φ M v) : (Cx.mk P n none' M0 w0).C .ret Q l M L :=
 cx hr he fun hf hs => ⟨_, _, Res.of1 h (RV.t hf hv), hs.ext, hΦ⟩
theorem cx2 (hr : ∀ e, e = .ret ∨ e = .normal → ∀ a w', a.defers = [] → (∃ v M', Res P fn a w' v ∧ Ext none' M0 w0 M' w' ∧ Φ M' v) → Q' e a w') (he : Q' .ret = Q .ret) (h : fn.results = #[.tmp t, .tmp t1]) (hv : lk t l = some v) (hv1 : lk t1 l = some v1) (hΦ : Φ M (.tuple #[v, v1])) : (Cx.mk P n none' M0 w0).C .ret Q l M L :=
 cx hr he fun hf hs => ⟨_, _, Res.of2 h (RV.t hf hv) (RV.t hf hv1), hs.ext, hΦ⟩
theorem cx3 (hr : ∀ e, e = .ret ∨ e = .normal → ∀ a w', a.defers = [] → (∃ v M', Res P fn a w' v ∧ Ext none' M0 w0 M' w' ∧ Φ M' v) → Q' e a w') (he : Q' .ret = Q .ret) (h : fn.results = #[.tmp t, .tmp t1, .tmp t2]) (hv : lk t l = some v) (hv1 : lk t1 l = some v1) (hv2 : lk t2 l = some v2) (hΦ : Φ M (.tuple #[v, v1, v2])) : (Cx.mk P n none' M0 w0).C .ret Q l M L :=
 cx hr he fun hf hs => ⟨_, _, Res.of3 h (RV.t hf hv) (RV.t hf hv1) (RV.t hf hv2), hs.ext, hΦ⟩
end
end Go.Cu

/-! The functions, as pure functions. -/
namespace Go.Cu
set_option maxHeartbeats 4000000
open IntKind
open Vector (replicate)
noncomputable section
structure Key where
 Id : Int
 Type_ : Int
 Value : (List UInt8)
 Uses : Int
 Start : Int
 End : Int
 Version : Int
 Parent : Int
 Raw : Bool
deriving DecidableEq, Inhabited
def Key.C (x : Key) : List Go.Value := [.int .i64 x.Id, .int .i64 x.Type_, str x.Value, .int .i64 x.Uses, .int .i64 x.Start, .int .i64 x.End, .int .i64 x.Version, .int .i64 x.Parent, .bool x.Raw]
theorem Key.len (x : Key) : (Key.C x).length = 9 := rfl
theorem Key.C_one (x : Key) : ∀ u ∈ Key.C x, u.oneCell' = true := by
 unfold Key.C
 exact (one_cons rfl (one_cons rfl (one_cons rfl (one_cons rfl (one_cons rfl (one_cons rfl (one_cons rfl (one_cons rfl (one_cons rfl one_nil)))))))))
def Key.F : Fl Key := ⟨Key.C, 9, fun x => Key.len x⟩
theorem Key.F_one : Key.F.One := fun x => Key.C_one x
structure Backup where
 Domain : (Vector Int 16)
 Epoch : Int
 Number : Int
 Firmware : Int
 Time : Int
 Policy : (Vector Int 16)
 Module : (List UInt8)
 Keys : (List Key)
deriving DecidableEq, Inhabited
def Backup.C (x : Backup) (v0 : Go.Value) : List Go.Value := vI .u8 x.Domain ++ ([.int .i64 x.Epoch, .int .i64 x.Number, .int .i64 x.Firmware, .int .i64 x.Time] ++ (vI .u8 x.Policy ++ ([str x.Module, v0])))
theorem Backup.len (x : Backup) (v0 : Go.Value) : (Backup.C x v0).length = 38 := by simp [Backup.C]
theorem Backup.C_one (x : Backup) {v0 : Go.Value} (h0 : v0.oneCell' = true) : ∀ u ∈ Backup.C x v0, u.oneCell' = true := by
 unfold Backup.C
 exact (one_app (FV.one _ _ _) (one_app (one_cons rfl (one_cons rfl (one_cons rfl (one_cons rfl one_nil)))) (one_app (FV.one _ _ _) (one_cons rfl (one_cons h0 one_nil)))))
theorem Backup.d0_16 (x : Backup) (v0 : Go.Value) : ((Backup.C x v0).drop 0).take 16 = vI .u8 x.Domain := by simp [Backup.C, List.getElem?_append, List.take_append, List.drop_append, List.take_of_length_le, List.drop_of_length_le, splice]
theorem Backup.s0_16 (x : Backup) (v0 : Go.Value) {y : (Vector Int 16)} : splice (Backup.C x v0) 0 (vI .u8 y) = Backup.C { x with Domain := y } v0 := by simp [Backup.C, List.getElem?_append, List.take_append, List.drop_append, List.take_of_length_le, List.drop_of_length_le, splice]
theorem Backup.g16 (x : Backup) (v0 : Go.Value) : (Backup.C x v0)[16]? = some (.int .i64 x.Epoch) := by simp [Backup.C, List.getElem?_append, List.take_append, List.drop_append, List.take_of_length_le, List.drop_of_length_le, splice]
theorem Backup.s16_1 (x : Backup) (v0 : Go.Value) {y : Int} : splice (Backup.C x v0) 16 [.int .i64 y] = Backup.C { x with Epoch := y } v0 := by simp [Backup.C, List.getElem?_append, List.take_append, List.drop_append, List.take_of_length_le, List.drop_of_length_le, splice]
theorem Backup.g17 (x : Backup) (v0 : Go.Value) : (Backup.C x v0)[17]? = some (.int .i64 x.Number) := by simp [Backup.C, List.getElem?_append, List.take_append, List.drop_append, List.take_of_length_le, List.drop_of_length_le, splice]
theorem Backup.s17_1 (x : Backup) (v0 : Go.Value) {y : Int} : splice (Backup.C x v0) 17 [.int .i64 y] = Backup.C { x with Number := y } v0 := by simp [Backup.C, List.getElem?_append, List.take_append, List.drop_append, List.take_of_length_le, List.drop_of_length_le, splice]
theorem Backup.g18 (x : Backup) (v0 : Go.Value) : (Backup.C x v0)[18]? = some (.int .i64 x.Firmware) := by simp [Backup.C, List.getElem?_append, List.take_append, List.drop_append, List.take_of_length_le, List.drop_of_length_le, splice]
theorem Backup.s18_1 (x : Backup) (v0 : Go.Value) {y : Int} : splice (Backup.C x v0) 18 [.int .i64 y] = Backup.C { x with Firmware := y } v0 := by simp [Backup.C, List.getElem?_append, List.take_append, List.drop_append, List.take_of_length_le, List.drop_of_length_le, splice]
theorem Backup.g19 (x : Backup) (v0 : Go.Value) : (Backup.C x v0)[19]? = some (.int .i64 x.Time) := by simp [Backup.C, List.getElem?_append, List.take_append, List.drop_append, List.take_of_length_le, List.drop_of_length_le, splice]
theorem Backup.s19_1 (x : Backup) (v0 : Go.Value) {y : Int} : splice (Backup.C x v0) 19 [.int .i64 y] = Backup.C { x with Time := y } v0 := by simp [Backup.C, List.getElem?_append, List.take_append, List.drop_append, List.take_of_length_le, List.drop_of_length_le, splice]
theorem Backup.d20_16 (x : Backup) (v0 : Go.Value) : ((Backup.C x v0).drop 20).take 16 = vI .u8 x.Policy := by simp [Backup.C, List.getElem?_append, List.take_append, List.drop_append, List.take_of_length_le, List.drop_of_length_le, splice]
theorem Backup.s20_16 (x : Backup) (v0 : Go.Value) {y : (Vector Int 16)} : splice (Backup.C x v0) 20 (vI .u8 y) = Backup.C { x with Policy := y } v0 := by simp [Backup.C, List.getElem?_append, List.take_append, List.drop_append, List.take_of_length_le, List.drop_of_length_le, splice]
theorem Backup.g36 (x : Backup) (v0 : Go.Value) : (Backup.C x v0)[36]? = some (str x.Module) := by simp [Backup.C, List.getElem?_append, List.take_append, List.drop_append, List.take_of_length_le, List.drop_of_length_le, splice]
theorem Backup.s36_1 (x : Backup) (v0 : Go.Value) {y : (List UInt8)} : splice (Backup.C x v0) 36 [str y] = Backup.C { x with Module := y } v0 := by simp [Backup.C, List.getElem?_append, List.take_append, List.drop_append, List.take_of_length_le, List.drop_of_length_le, splice]
theorem Backup.g37 (x : Backup) (v0 : Go.Value) : (Backup.C x v0)[37]? = some (v0) := by simp [Backup.C, List.getElem?_append, List.take_append, List.drop_append, List.take_of_length_le, List.drop_of_length_le, splice]
theorem Backup.s37_1 (x : Backup) (v0 : Go.Value) {y : (List Key)} {u0 : Go.Value} : splice (Backup.C x v0) 37 [u0] = Backup.C { x with Keys := y } u0 := by simp [Backup.C, List.getElem?_append, List.take_append, List.drop_append, List.take_of_length_le, List.drop_of_length_le, splice]
theorem Backup.d0_38 (x : Backup) (v0 : Go.Value) : ((Backup.C x v0).drop 0).take 38 = Backup.C x v0 := by rw [List.drop_zero, List.take_of_length_le]; rw [Backup.len]; exact Nat.le_refl _
structure Table where
 Next : Int
 Keys : (List Key)
deriving DecidableEq, Inhabited
def Table.C (x : Table) (v0 : Go.Value) : List Go.Value := [.int .i64 x.Next, v0]
theorem Table.len (x : Table) (v0 : Go.Value) : (Table.C x v0).length = 2 := rfl
theorem Table.C_one (x : Table) {v0 : Go.Value} (h0 : v0.oneCell' = true) : ∀ u ∈ Table.C x v0, u.oneCell' = true := by
 unfold Table.C
 exact (one_cons rfl (one_cons h0 one_nil))
structure backup_reader where
 rest_ : (List Int)
 e : Int
deriving DecidableEq, Inhabited
def backup_reader.C (x : backup_reader) (v0 : Go.Value) : List Go.Value := [v0, .int .i64 x.e]
theorem backup_reader.len (x : backup_reader) (v0 : Go.Value) : (backup_reader.C x v0).length = 2 := rfl
theorem backup_reader.C_one (x : backup_reader) {v0 : Go.Value} (h0 : v0.oneCell' = true) : ∀ u ∈ backup_reader.C x v0, u.oneCell' = true := by
 unfold backup_reader.C
 exact (one_cons h0 (one_cons rfl one_nil))
structure backup_blobReader where
 reader : backup_reader
 header : (List UInt8)
deriving DecidableEq, Inhabited
def backup_blobReader.C (x : backup_blobReader) (v0 : Go.Value) : List Go.Value := backup_reader.C x.reader v0 ++ ([str x.header])
theorem backup_blobReader.len (x : backup_blobReader) (v0 : Go.Value) : (backup_blobReader.C x v0).length = 3 := rfl
theorem backup_blobReader.C_one (x : backup_blobReader) {v0 : Go.Value} (h0 : v0.oneCell' = true) : ∀ u ∈ backup_blobReader.C x v0, u.oneCell' = true := by
 unfold backup_blobReader.C
 exact (one_app (backup_reader.C_one _ h0) (one_cons rfl one_nil))
structure hash_Stream where
 state : (Vector Int 8)
 block : (Vector Int 64)
 n : Int
deriving DecidableEq, Inhabited
def hash_Stream.C (x : hash_Stream) : List Go.Value := vI .u32 x.state ++ (vI .u8 x.block ++ ([.int .u64 x.n]))
theorem hash_Stream.len (x : hash_Stream) : (hash_Stream.C x).length = 73 := by simp [hash_Stream.C]
theorem hash_Stream.C_one (x : hash_Stream) : ∀ u ∈ hash_Stream.C x, u.oneCell' = true := by
 unfold hash_Stream.C
 exact (one_app (FV.one _ _ _) (one_app (FV.one _ _ _) (one_cons rfl one_nil)))
def hash_Stream.F : Fl hash_Stream := ⟨hash_Stream.C, 73, fun x => hash_Stream.len x⟩
theorem hash_Stream.F_one : hash_Stream.F.One := fun x => hash_Stream.C_one x
theorem hash_Stream.d0_8 (x : hash_Stream) : ((hash_Stream.C x).drop 0).take 8 = vI .u32 x.state := by simp [hash_Stream.C, List.getElem?_append, List.take_append, List.drop_append, List.take_of_length_le, List.drop_of_length_le, splice]
theorem hash_Stream.s0_8 (x : hash_Stream) {y : (Vector Int 8)} : splice (hash_Stream.C x) 0 (vI .u32 y) = hash_Stream.C { x with state := y } := by simp [hash_Stream.C, List.getElem?_append, List.take_append, List.drop_append, List.take_of_length_le, List.drop_of_length_le, splice]
theorem hash_Stream.d8_64 (x : hash_Stream) : ((hash_Stream.C x).drop 8).take 64 = vI .u8 x.block := by simp [hash_Stream.C, List.getElem?_append, List.take_append, List.drop_append, List.take_of_length_le, List.drop_of_length_le, splice]
theorem hash_Stream.s8_64 (x : hash_Stream) {y : (Vector Int 64)} : splice (hash_Stream.C x) 8 (vI .u8 y) = hash_Stream.C { x with block := y } := by simp [hash_Stream.C, List.getElem?_append, List.take_append, List.drop_append, List.take_of_length_le, List.drop_of_length_le, splice]
theorem hash_Stream.g72 (x : hash_Stream) : (hash_Stream.C x)[72]? = some (.int .u64 x.n) := by simp [hash_Stream.C, List.getElem?_append, List.take_append, List.drop_append, List.take_of_length_le, List.drop_of_length_le, splice]
theorem hash_Stream.s72_1 (x : hash_Stream) {y : Int} : splice (hash_Stream.C x) 72 [.int .u64 y] = hash_Stream.C { x with n := y } := by simp [hash_Stream.C, List.getElem?_append, List.take_append, List.drop_append, List.take_of_length_le, List.drop_of_length_le, splice]
theorem hash_Stream.d0_73 (x : hash_Stream) : ((hash_Stream.C x).drop 0).take 73 = hash_Stream.C x := by rw [List.drop_zero, List.take_of_length_le]; rw [hash_Stream.len]; exact Nat.le_refl _
/-- The constants of the hash. -/
def ref02_constants : Vector Int 64 := #v[1116352408, 1899447441, 3049323471, 3921009573, 961987163, 1508970993, 2453635748, 2870763221, 3624381080, 310598401, 607225278, 1426881987, 1925078388, 2162078206, 2614888103, 3248222580, 3835390401, 4022224774, 264347078, 604807628, 770255983, 1249150122, 1555081692, 1996064986, 2554220882, 2821834349, 2952996808, 3210313671, 3336571891, 3584528711, 113926993, 338241895, 666307205, 773529912, 1294757372, 1396182291, 1695183700, 1986661051, 2177026350, 2456956037, 2730485921, 2820302411, 3259730800, 3345764771, 3516065817, 3600352804, 4094571909, 275423344, 430227734, 506948616, 659060556, 883997877, 958139571, 1322822218, 1537002063, 1747873779, 1955562222, 2024104815, 2227730452, 2361852424, 2428436474, 2756734187, 3204031479, 3329325298]
/-- The constants of the hash. -/
def hash_constants : Vector Int 64 := #v[1116352408, 1899447441, 3049323471, 3921009573, 961987163, 1508970993, 2453635748, 2870763221, 3624381080, 310598401, 607225278, 1426881987, 1925078388, 2162078206, 2614888103, 3248222580, 3835390401, 4022224774, 264347078, 604807628, 770255983, 1249150122, 1555081692, 1996064986, 2554220882, 2821834349, 2952996808, 3210313671, 3336571891, 3584528711, 113926993, 338241895, 666307205, 773529912, 1294757372, 1396182291, 1695183700, 1986661051, 2177026350, 2456956037, 2730485921, 2820302411, 3259730800, 3345764771, 3516065817, 3600352804, 4094571909, 275423344, 430227734, 506948616, 659060556, 883997877, 958139571, 1322822218, 1537002063, 1747873779, 1955562222, 2024104815, 2227730452, 2361852424, 2428436474, 2756734187, 3204031479, 3329325298]
def law36_few.j1 (p0 : Backup) : Option Bool :=
 (
  if (decide ((p0.Keys.length : Int) ≤ 40)) then
   some (decide ((p0.Module.length : Int) ≤ 50))
  else
   some false).bind fun t10 =>
 some (t10)
def law36_few.l2 (p0 : Backup) (s15 : Int) : Option (Int ⊕ Bool) :=
 if (decide (s15 < (p0.Keys.length : Int))) then
  (grd (0 ≤ s15 ∧ s15 < (p0.Keys.length : Int))).bind fun _ =>
  if (decide ((100 : Int) < (((rd p0.Keys s15).Value).length : Int))) then
   some (.inr (false))
  else
   some (.inl (i64.wrap (s15 + 1)))
 else
  (law36_few.j1 p0).map Sum.inr
def law36_few (p0 : Backup) : Option Bool :=
 loopF (law36_few.l2 p0) 0
def law36_value.j1 (x5 : (List Int)) : Option (List UInt8) :=
 some (intsB x5)
def law36_value.l2 (p0 : Int) (s14 : ((List Int) × Int)) : Option (((List Int) × Int) ⊕ (List UInt8)) :=
 if (decide (s14.2 < 32)) then
  (grd (0 ≤ s14.2 ∧ s14.2 < (s14.1.length : Int))).bind fun _ =>
  some (.inl (wr s14.1 s14.2 p0, i64.wrap (s14.2 + 1)))
 else
  (law36_value.j1 s14.1).map Sum.inr
def law36_value (p0 : Int) : Option (List UInt8) :=
 (grd (0 ≤ (32 : Int) ∧ (32 : Int) ≤ 32 ∧ (32 : Int) < 68719476736)).bind fun _ =>
 loopF (law36_value.l2 p0) (List.replicate ((32 : Int)).toNat 0, 0)
def keys_within (p0 : Int) (p1 : Int) (p2 : Int) : Option Bool :=
 (
  if (decide (p1 ≤ p0)) then
   some (decide (p0 ≤ p2))
  else
   some false).bind fun t2 =>
 some (t2)
def keys_Valid (p0 : Key) : Option Bool :=
 (
  (keys_within p0.Type_ 0 (31 : Int)).bind fun t9 =>
  if t9 then
   if ((p0.Value.length : Int) == 32) then
    if ((bits .andNot .i64 p0.Uses 956) == 0) then
     (keys_within p0.Start 0 p0.End).bind fun t18 =>
     if t18 then
      (keys_within p0.End 0 (1099511627776 : Int)).bind fun t25 =>
      if t25 then
       (keys_within p0.Version 1 (2147483647 : Int)).bind fun t32 =>
       if t32 then
        (keys_within p0.Parent 0 (2147483647 : Int)).bind fun t39 =>
        some t39
       else
        some false
      else
       some false
     else
      some false
    else
     some false
   else
    some false
  else
   some false).bind fun t6 =>
 some (t6)
def backup_within_1 (p0 : Int) (c0_ : Int) : Option Bool :=
 (
  if (decide (p0 < 0)) then
   some true
  else
   some (decide (c0_ < p0))).bind fun t2 =>
 some (t2)
def slices_IndexFunc_int.j1  : Option Int :=
 some ((-1 : Int))
def slices_IndexFunc_int.l2 (p0 : (List Int)) (p1 : (Int → Option Bool)) (s8 : Int) : Option (Int ⊕ Int) :=
 if (decide (s8 < (p0.length : Int))) then
  (grd (0 ≤ s8 ∧ s8 < (p0.length : Int))).bind fun _ =>
  (p1 (rd p0 s8)).bind fun t20 =>
  if t20 then
   some (.inr (s8))
  else
   some (.inl (i64.wrap (s8 + 1)))
 else
  (slices_IndexFunc_int.j1 ).map Sum.inr
def slices_IndexFunc_int (p0 : (List Int)) (p1 : (Int → Option Bool)) : Option Int :=
 loopF (slices_IndexFunc_int.l2 p0 p1) 0
def slices_ContainsFunc_int (p0 : (List Int)) (p1 : (Int → Option Bool)) : Option Bool :=
 (slices_IndexFunc_int p0 p1).bind fun t5 =>
 some (decide ((0 : Int) ≤ t5))
def backup_within (p0 : Int) (p1 : (List Int)) : Option Bool :=
 (slices_ContainsFunc_int p1 (fun x => backup_within_1 x p0)).bind fun t9 =>
 some (!t9)
def backup_Valid.j1 (p0 : Backup) : Option Bool :=
 (
  (backup_within 2147483647 ([p0.Epoch, p0.Number, p0.Firmware] : List Int)).bind fun t19 =>
  if t19 then
   (backup_within 1099511627776 ([p0.Time] : List Int)).bind fun t31 =>
   if t31 then
    (backup_within 11 ([i64.wrap ((p0.Module.length : Int) - 1)] : List Int)).bind fun t43 =>
    if t43 then
     some (decide ((p0.Keys.length : Int) ≤ 4096))
    else
     some false
   else
    some false
  else
   some false).bind fun t11 =>
 some (t11)
def backup_Valid.l2 (p0 : Backup) (s51 : (Int × Int)) : Option ((Int × Int) ⊕ Bool) :=
 if (decide (s51.2 < (p0.Keys.length : Int))) then
  (grd (0 ≤ s51.2 ∧ s51.2 < (p0.Keys.length : Int))).bind fun _ =>
  (
   (keys_Valid (rd p0.Keys s51.2)).bind fun t67 =>
   if (!t67) then
    some true
   else
    if (decide (((rd p0.Keys s51.2).Id) ≤ s51.1)) then
     some true
    else
     some (decide ((2147483647 : Int) < ((rd p0.Keys s51.2).Id)))).bind fun t64 =>
  if t64 then
   some (.inr (false))
  else
   some (.inl ((rd p0.Keys s51.2).Id, i64.wrap (s51.2 + 1)))
 else
  (backup_Valid.j1 p0).map Sum.inr
def backup_Valid (p0 : Backup) : Option Bool :=
 loopF (backup_Valid.l2 p0) (0, 0)
def wire_Int.j1 (x14 : (List Int)) : Option (List Int) :=
 some x14
def wire_Int.l2 (x3 : Int) (x4 : Int) (s20 : ((List Int) × Int)) : Option (((List Int) × Int) ⊕ (List Int)) :=
 if (decide ((0 : Int) ≤ s20.2)) then
  (grd (¬ (i64.wrap (8 * s20.2)) < 0)).bind fun _ =>
  (grd (s20.1.length + ([bits .xor .u8 (u8.wrap (shrI .u64 x3 (i64.wrap (8 * s20.2)))) x4] : List Int).length < 68719476736)).bind fun _ =>
  some (.inl (s20.1 ++ ([bits .xor .u8 (u8.wrap (shrI .u64 x3 (i64.wrap (8 * s20.2)))) x4] : List Int), i64.wrap (s20.2 - 1)))
 else
  (wire_Int.j1 s20.1).map Sum.inr
def wire_Int.j3 (x3 : Int) (x4 : Int) (x9 : Int) : Option (List Int) :=
 loopF (wire_Int.l2 x3 x4) (([bits .xor .u8 (u8.wrap (i64.wrap (128 + x9))) x4] : List Int), i64.wrap (x9 - 1))
def wire_Int.l4 (x3 : Int) (x4 : Int) (s38 : Int) : Option (Int ⊕ (List Int)) :=
 if (decide ((0 : Int) < s38)) then
  (grd (¬ (i64.wrap (8 * (i64.wrap (s38 - 1)))) < 0)).bind fun _ =>
  if (decide ((0 : Int) < (shrI .u64 x3 (i64.wrap (8 * (i64.wrap (s38 - 1))))))) then
   (wire_Int.j3 x3 x4 s38).map Sum.inr
  else
   some (.inl (i64.wrap (s38 - 1)))
 else
  (wire_Int.j3 x3 x4 s38).map Sum.inr
def wire_Int.j5 (x3 : Int) (x4 : Int) : Option (List Int) :=
 loopF (wire_Int.l4 x3 x4) 8
def wire_Int (p0 : Int) : Option (List Int) :=
 if (decide (p0 < 0)) then
  wire_Int.j5 (bits .xor .u64 u64.max (u64.wrap p0)) 255
 else
  wire_Int.j5 (u64.wrap p0) 0
def wire_Ints.j1 (x10 : (List Int)) : Option (List Int) :=
 some x10
def wire_Ints.l2 (p0 : (List Int)) (s16 : ((List Int) × Int)) : Option (((List Int) × Int) ⊕ (List Int)) :=
 if (decide (s16.2 < (p0.length : Int))) then
  (grd (0 ≤ s16.2 ∧ s16.2 < (p0.length : Int))).bind fun _ =>
  (wire_Int (rd p0 s16.2)).bind fun t28 =>
  (grd (s16.1.length + t28.length < 68719476736)).bind fun _ =>
  some (.inl (s16.1 ++ t28, i64.wrap (s16.2 + 1)))
 else
  (wire_Ints.j1 s16.1).map Sum.inr
def wire_Ints (p0 : (List Int)) : Option (List Int) :=
 (wire_Int (p0.length : Int)).bind fun t5 =>
 loopF (wire_Ints.l2 p0) (t5, 0)
def wire_Bytes (p0 : (List UInt8)) : Option (List Int) :=
 (wire_Int (p0.length : Int)).bind fun t3 =>
 (grd (t3.length + (bytesI p0).length < 68719476736)).bind fun _ =>
 some (t3 ++ (bytesI p0))
/-- Room for some bytes, in a slice that is not there yet. -/
def slices_Grow_byte (p1 : Int) : Option (List Int) :=
 (grd (0 ≤ p1 ∧ p1 ≤ 140737488355328)).bind fun _ =>
 some []
def slices_Concat_byte.j1 (x14 : (List Int)) : Option (List Int) :=
 some (x14)
def slices_Concat_byte.l2 (p0 : (List (List Int))) (s23 : ((List Int) × Int)) : Option (((List Int) × Int) ⊕ (List Int)) :=
 if (decide (s23.2 < (p0.length : Int))) then
  (grd (0 ≤ s23.2 ∧ s23.2 < (p0.length : Int))).bind fun _ =>
  (grd (s23.1.length + (rd p0 s23.2).length < 68719476736)).bind fun _ =>
  some (.inl (s23.1 ++ (rd p0 s23.2), i64.wrap (s23.2 + 1)))
 else
  (slices_Concat_byte.j1 s23.1).map Sum.inr
def slices_Concat_byte.j3 (x5 : Int) (p0 : (List (List Int))) : Option (List Int) :=
 (slices_Grow_byte x5).bind fun t9 =>
 loopF (slices_Concat_byte.l2 p0) (t9, 0)
def slices_Concat_byte.l4 (p0 : (List (List Int))) (s40 : (Int × Int)) : Option ((Int × Int) ⊕ (List Int)) :=
 if (decide (s40.2 < (p0.length : Int))) then
  (grd (0 ≤ s40.2 ∧ s40.2 < (p0.length : Int))).bind fun _ =>
  if (decide ((i64.wrap (s40.1 + ((rd p0 s40.2).length : Int))) < 0)) then
   none
  else
   some (.inl (i64.wrap (s40.1 + ((rd p0 s40.2).length : Int)), i64.wrap (s40.2 + 1)))
 else
  (slices_Concat_byte.j3 s40.1 p0).map Sum.inr
def slices_Concat_byte (p0 : (List (List Int))) : Option (List Int) :=
 loopF (slices_Concat_byte.l4 p0) (0, 0)
def backup_Header (p0 : Backup) : Option (List UInt8) :=
 (wire_Ints ([p0.Epoch, p0.Number, p0.Firmware, p0.Time] : List Int)).bind fun t52 =>
 (wire_Bytes p0.Module).bind fun t74 =>
 (slices_Concat_byte ([(p0.Domain.toList.take ((16 : Int)).toNat).drop ((0 : Int)).toNat, t52, (p0.Policy.toList.take ((16 : Int)).toNat).drop ((0 : Int)).toNat, t74] : (List (List Int)))).bind fun t104 =>
 some (intsB t104)
def hash_Begin  : Option hash_Stream :=
 (some (⟨(#v[1779033703, 3144134277, 1013904242, 2773480762, 1359893119, 2600822924, 528734635, 1541459225] : Vector Int 8), replicate 64 0, 0⟩ : hash_Stream)).bind fun z4 =>
 some (z4)
def bits_RotateLeft32 (p0 : Int) (p1 : Int) : Option Int :=
 (grd (¬ (bits .and .u64 (u64.wrap p1) 31) < 0)).bind fun _ =>
 (grd (¬ (u64.wrap (32 - (bits .and .u64 (u64.wrap p1) 31))) < 0)).bind fun _ =>
 some (bits .or .u32 (shlI .u32 p0 (bits .and .u64 (u64.wrap p1) 31)) (shrI .u32 p0 (u64.wrap (32 - (bits .and .u64 (u64.wrap p1) 31)))))
def hash_schedule.j1 (x7 : (Vector Int 64)) : Option (Vector Int 64) :=
 some (x7)
def hash_schedule.j2 (x20 : (Vector Int 64)) (s12 : ((Vector Int 64) × Int)) : Option (((Vector Int 64) × Int) ⊕ (Vector Int 64)) :=
 some (.inl (x20, i64.wrap (s12.2 + 1)))
def hash_schedule.j3 (s12 : ((Vector Int 64) × Int)) : Option (((Vector Int 64) × Int) ⊕ (Vector Int 64)) :=
 (grd (0 ≤ (i64.wrap (s12.2 - 15)) ∧ (i64.wrap (s12.2 - 15)) < (64 : Int))).bind fun _ =>
 (grd (0 ≤ (i64.wrap (s12.2 - 2)) ∧ (i64.wrap (s12.2 - 2)) < (64 : Int))).bind fun _ =>
 (bits_RotateLeft32 (rd s12.1.toList (i64.wrap (s12.2 - 15))) (-7 : Int)).bind fun t62 =>
 (bits_RotateLeft32 (rd s12.1.toList (i64.wrap (s12.2 - 15))) (-18 : Int)).bind fun t68 =>
 (bits_RotateLeft32 (rd s12.1.toList (i64.wrap (s12.2 - 2))) (-17 : Int)).bind fun t75 =>
 (bits_RotateLeft32 (rd s12.1.toList (i64.wrap (s12.2 - 2))) (-19 : Int)).bind fun t81 =>
 (grd (0 ≤ (i64.wrap (s12.2 - 16)) ∧ (i64.wrap (s12.2 - 16)) < (64 : Int))).bind fun _ =>
 (grd (0 ≤ (i64.wrap (s12.2 - 7)) ∧ (i64.wrap (s12.2 - 7)) < (64 : Int))).bind fun _ =>
 (grd (0 ≤ s12.2 ∧ s12.2 < (64 : Int))).bind fun _ =>
 (some (vs s12.1 s12.2 (u32.wrap ((u32.wrap ((u32.wrap ((rd s12.1.toList (i64.wrap (s12.2 - 16))) + (bits .xor .u32 (bits .xor .u32 t62 t68) (shrI .u32 (rd s12.1.toList (i64.wrap (s12.2 - 15))) 3)))) + (rd s12.1.toList (i64.wrap (s12.2 - 7))))) + (bits .xor .u32 (bits .xor .u32 t75 t81) (shrI .u32 (rd s12.1.toList (i64.wrap (s12.2 - 2))) (10 : Int))))))).bind fun z135 =>
 hash_schedule.j2 z135 s12
def hash_schedule.j4 (x140 : (Vector Int 64)) (s12 : ((Vector Int 64) × Int)) : Option (((Vector Int 64) × Int) ⊕ (Vector Int 64)) :=
 hash_schedule.j2 x140 s12
def hash_schedule.l5 (p0 : (List Int)) (s12 : ((Vector Int 64) × Int)) (s147 : ((Vector Int 64) × Int)) : Option (((Vector Int 64) × Int) ⊕ (((Vector Int 64) × Int) ⊕ (Vector Int 64))) :=
 if (decide (s147.2 < (((p0.take (i64.wrap ((i64.wrap (4 * s12.2)) + (4 : Int))).toNat).drop (i64.wrap (4 * s12.2)).toNat).length : Int))) then
  (grd (0 ≤ s147.2 ∧ s147.2 < (((p0.take (i64.wrap ((i64.wrap (4 * s12.2)) + (4 : Int))).toNat).drop (i64.wrap (4 * s12.2)).toNat).length : Int))).bind fun _ =>
  (grd (0 ≤ s12.2 ∧ s12.2 < (64 : Int))).bind fun _ =>
  (grd (0 ≤ s12.2 ∧ s12.2 < (64 : Int))).bind fun _ =>
  (some (vs s147.1 s12.2 (bits .or .u32 (shlI .u32 (rd s147.1.toList s12.2) 8) (u32.wrap (rd ((p0.take (i64.wrap ((i64.wrap (4 * s12.2)) + (4 : Int))).toNat).drop (i64.wrap (4 * s12.2)).toNat) s147.2))))).bind fun z160 =>
  some (.inl (z160, i64.wrap (s147.2 + 1)))
 else
  (hash_schedule.j4 s147.1 s12).map Sum.inr
def hash_schedule.l6 (p0 : (List Int)) (s12 : ((Vector Int 64) × Int)) : Option (((Vector Int 64) × Int) ⊕ (Vector Int 64)) :=
 if (decide (s12.2 < 64)) then
  if (decide (s12.2 < 16)) then
   (grd (0 ≤ (i64.wrap (4 * s12.2)) ∧ (i64.wrap (4 * s12.2)) ≤ (i64.wrap ((i64.wrap (4 * s12.2)) + 4)) ∧ (i64.wrap ((i64.wrap (4 * s12.2)) + 4)) ≤ (p0.length : Int))).bind fun _ =>
   loopF (hash_schedule.l5 p0 s12) (s12.1, 0)
  else
   hash_schedule.j3 s12
 else
  (hash_schedule.j1 s12.1).map Sum.inr
def hash_schedule (p0 : (List Int)) : Option (Vector Int 64) :=
 loopF (hash_schedule.l6 p0) (replicate 64 0, 0)
def hash_mix (p0 : Int) (p1 : Int) (p2 : Int) (p3 : Int) : Option Int :=
 (bits_RotateLeft32 p0 (i64.wrap (0 - p1))).bind fun t3 =>
 (bits_RotateLeft32 p0 (i64.wrap (0 - p2))).bind fun t9 =>
 (bits_RotateLeft32 p0 (i64.wrap (0 - p3))).bind fun t15 =>
 some (bits .xor .u32 (bits .xor .u32 t3 t9) t15)
def hash_compress.j1 (x54 : (Vector Int 8)) : Option (Vector Int 8) :=
 some (x54)
def hash_compress.l2 (x50 : (Vector Int 4)) (x51 : (Vector Int 4)) (s59 : ((Vector Int 8) × Int)) : Option (((Vector Int 8) × Int) ⊕ (Vector Int 8)) :=
 if (decide (s59.2 < 4)) then
  (grd (0 ≤ s59.2 ∧ s59.2 < (8 : Int))).bind fun _ =>
  (grd (0 ≤ s59.2 ∧ s59.2 < (4 : Int))).bind fun _ =>
  (grd (0 ≤ s59.2 ∧ s59.2 < (8 : Int))).bind fun _ =>
  (grd (0 ≤ (i64.wrap (s59.2 + 4)) ∧ (i64.wrap (s59.2 + 4)) < (8 : Int))).bind fun _ =>
  (grd (0 ≤ s59.2 ∧ s59.2 < (4 : Int))).bind fun _ =>
  (grd (0 ≤ (i64.wrap (s59.2 + 4)) ∧ (i64.wrap (s59.2 + 4)) < (8 : Int))).bind fun _ =>
  (some (vs (vs s59.1 s59.2 (u32.wrap ((rd s59.1.toList s59.2) + (rd x50.toList s59.2)))) (i64.wrap (s59.2 + 4)) (u32.wrap ((rd (vs s59.1 s59.2 (u32.wrap ((rd s59.1.toList s59.2) + (rd x50.toList s59.2)))).toList (i64.wrap (s59.2 + 4))) + (rd x51.toList s59.2))))).bind fun z123 =>
  some (.inl (z123, i64.wrap (s59.2 + 1)))
 else
  (hash_compress.j1 s59.1).map Sum.inr
def hash_compress.j3 (x50 : (Vector Int 4)) (x51 : (Vector Int 4)) (p0 : (Vector Int 8)) : Option (Vector Int 8) :=
 loopF (hash_compress.l2 x50 x51) (p0, 0)
def hash_compress.l4 (t7 : (Vector Int 64)) (p0 : (Vector Int 8)) (s127 : ((Vector Int 4) × (Vector Int 4) × Int)) : Option (((Vector Int 4) × (Vector Int 4) × Int) ⊕ (Vector Int 8)) :=
 if (decide (s127.2.2 < 64)) then
  (grd (0 ≤ s127.2.2 ∧ s127.2.2 < (64 : Int))).bind fun _ =>
  (hash_mix (rd s127.2.1.toList 0) 6 11 (25 : Int)).bind fun t152 =>
  (grd (0 ≤ s127.2.2 ∧ s127.2.2 < (64 : Int))).bind fun _ =>
  (hash_mix (rd s127.1.toList 0) 2 13 (22 : Int)).bind fun t235 =>
  some (.inl ((#v[u32.wrap ((u32.wrap ((u32.wrap ((u32.wrap ((u32.wrap ((rd s127.2.1.toList 3) + t152)) + (bits .xor .u32 (bits .and .u32 (rd s127.2.1.toList 0) (rd s127.2.1.toList 1)) (bits .and .u32 (bits .xor .u32 u32.max (rd s127.2.1.toList 0)) (rd s127.2.1.toList 2))))) + (rd hash_constants.toList s127.2.2))) + (rd t7.toList s127.2.2))) + (u32.wrap (t235 + (bits .xor .u32 (bits .xor .u32 (bits .and .u32 (rd s127.1.toList 0) (rd s127.1.toList 1)) (bits .and .u32 (rd s127.1.toList 0) (rd s127.1.toList 2))) (bits .and .u32 (rd s127.1.toList 1) (rd s127.1.toList 2)))))), rd s127.1.toList 0, rd s127.1.toList 1, rd s127.1.toList 2] : Vector Int 4), (#v[u32.wrap ((rd s127.1.toList 3) + (u32.wrap ((u32.wrap ((u32.wrap ((u32.wrap ((rd s127.2.1.toList 3) + t152)) + (bits .xor .u32 (bits .and .u32 (rd s127.2.1.toList 0) (rd s127.2.1.toList 1)) (bits .and .u32 (bits .xor .u32 u32.max (rd s127.2.1.toList 0)) (rd s127.2.1.toList 2))))) + (rd hash_constants.toList s127.2.2))) + (rd t7.toList s127.2.2)))), rd s127.2.1.toList 0, rd s127.2.1.toList 1, rd s127.2.1.toList 2] : Vector Int 4), i64.wrap (s127.2.2 + 1)))
 else
  (hash_compress.j3 s127.1 s127.2.1 p0).map Sum.inr
def hash_compress (p0 : (Vector Int 8)) (p1 : (List Int)) : Option (Vector Int 8) :=
 (hash_schedule p1).bind fun t7 =>
 loopF (hash_compress.l4 t7 p0) (lv p0.toList ((0 : Int)).toNat 4, lv p0.toList ((4 : Int)).toNat 4, 0)
def hash_Stream_Add.j1 (x4 : hash_Stream) : Option hash_Stream :=
 some (x4)
def hash_Stream_Add.l2  (s8 : (hash_Stream × (List UInt8))) : Option ((hash_Stream × (List UInt8)) ⊕ hash_Stream) :=
 if (!(s8.2 == ([] : List UInt8))) then
  (grd (0 ≤ (i64.wrap (Int.tmod s8.1.n 64)) ∧ (i64.wrap (Int.tmod s8.1.n 64)) < 64 ∧ (i64.wrap (Int.tmod s8.1.n 64)) ≤ 64 ∧ (64 : Int) ≤ (64 : Int))).bind fun _ =>
  (grd (0 ≤ (((bytesI s8.2).take (((64 : Int)).toNat - (i64.wrap (Int.tmod s8.1.n (64 : Int))).toNat)).length : Int) ∧ (((bytesI s8.2).take (((64 : Int)).toNat - (i64.wrap (Int.tmod s8.1.n (64 : Int))).toNat)).length : Int) ≤ (s8.2.length : Int) ∧ (s8.2.length : Int) ≤ (s8.2.length : Int))).bind fun _ =>
  if ((i64.wrap ((i64.wrap (Int.tmod s8.1.n 64)) + (((bytesI s8.2).take (((64 : Int)).toNat - (i64.wrap (Int.tmod s8.1.n (64 : Int))).toNat)).length : Int))) == 64) then
   (hash_compress s8.1.state (((vcp s8.1.block (i64.wrap (Int.tmod s8.1.n (64 : Int))).toNat ((bytesI s8.2).take (((64 : Int)).toNat - (i64.wrap (Int.tmod s8.1.n (64 : Int))).toNat))).toList.take ((64 : Int)).toNat).drop ((0 : Int)).toNat)).bind fun t39 =>
   some (.inl ((⟨t39, vcp s8.1.block (i64.wrap (Int.tmod s8.1.n (64 : Int))).toNat ((bytesI s8.2).take (((64 : Int)).toNat - (i64.wrap (Int.tmod s8.1.n (64 : Int))).toNat)), u64.wrap (s8.1.n + (u64.wrap (((bytesI s8.2).take (((64 : Int)).toNat - (i64.wrap (Int.tmod s8.1.n (64 : Int))).toNat)).length : Int)))⟩ : hash_Stream), (s8.2.take ((s8.2.length : Int)).toNat).drop ((((bytesI s8.2).take (((64 : Int)).toNat - (i64.wrap (Int.tmod s8.1.n (64 : Int))).toNat)).length : Int)).toNat))
  else
   some (.inl (({ ({ s8.1 with block := (vcp s8.1.block (i64.wrap (Int.tmod s8.1.n (64 : Int))).toNat ((bytesI s8.2).take (((64 : Int)).toNat - (i64.wrap (Int.tmod s8.1.n (64 : Int))).toNat))) } : hash_Stream) with n := (u64.wrap (s8.1.n + (u64.wrap (((bytesI s8.2).take (((64 : Int)).toNat - (i64.wrap (Int.tmod s8.1.n (64 : Int))).toNat)).length : Int)))) } : hash_Stream), (s8.2.take ((s8.2.length : Int)).toNat).drop ((((bytesI s8.2).take (((64 : Int)).toNat - (i64.wrap (Int.tmod s8.1.n (64 : Int))).toNat)).length : Int)).toNat))
 else
  (hash_Stream_Add.j1 s8.1).map Sum.inr
def hash_Stream_Add (p0 : hash_Stream) (p1 : (List UInt8)) : Option hash_Stream :=
 loopF (hash_Stream_Add.l2) (p0, p1)
def hash_Stream_Sum.j1 (x27 : (Vector Int 32)) : Option (Vector Int 32) :=
 some (x27)
def hash_Stream_Sum.l2 (t19 : hash_Stream) (s32 : ((Vector Int 32) × Int)) : Option (((Vector Int 32) × Int) ⊕ (Vector Int 32)) :=
 if (decide (s32.2 < 32)) then
  (grd (0 ≤ (i64.wrap (Int.tdiv s32.2 4)) ∧ (i64.wrap (Int.tdiv s32.2 4)) < (8 : Int))).bind fun _ =>
  (grd (¬ (i64.wrap (24 - (i64.wrap (8 * (Int.tmod s32.2 4))))) < 0)).bind fun _ =>
  (grd (0 ≤ s32.2 ∧ s32.2 < (32 : Int))).bind fun _ =>
  (some (vs s32.1 s32.2 (u8.wrap (shrI .u32 (rd t19.state.toList (i64.wrap (Int.tdiv s32.2 4))) (i64.wrap (24 - (i64.wrap (8 * (Int.tmod s32.2 (4 : Int)))))))))).bind fun z45 =>
  some (.inl (z45, i64.wrap (s32.2 + 1)))
 else
  (hash_Stream_Sum.j1 s32.1).map Sum.inr
def hash_Stream_Sum.j3 (p0 : hash_Stream) (x11 : (List Int)) : Option (Vector Int 32) :=
 (hash_Stream_Add p0 (intsB x11)).bind fun t19 =>
 loopF (hash_Stream_Sum.l2 t19) (replicate 32 0, 0)
def hash_Stream_Sum.l4 (p0 : hash_Stream) (s49 : ((List Int) × Int)) : Option (((List Int) × Int) ⊕ (Vector Int 32)) :=
 if (decide (s49.2 < 8)) then
  (grd (¬ (i64.wrap (56 - (i64.wrap (8 * s49.2)))) < 0)).bind fun _ =>
  (grd (s49.1.length + ([u8.wrap (shrI .u64 (u64.wrap (8 * p0.n)) (i64.wrap (56 - (i64.wrap (8 * s49.2)))))] : List Int).length < 68719476736)).bind fun _ =>
  some (.inl (s49.1 ++ ([u8.wrap (shrI .u64 (u64.wrap (8 * p0.n)) (i64.wrap (56 - (i64.wrap (8 * s49.2)))))] : List Int), i64.wrap (s49.2 + 1)))
 else
  (hash_Stream_Sum.j3 p0 s49.1).map Sum.inr
def hash_Stream_Sum.j5 (p0 : hash_Stream) (x7 : (List Int)) : Option (Vector Int 32) :=
 loopF (hash_Stream_Sum.l4 p0) (x7, 0)
def hash_Stream_Sum.l6 (p0 : hash_Stream) (s68 : (List Int)) : Option ((List Int) ⊕ (Vector Int 32)) :=
 if ((Int.tmod (i64.wrap ((i64.wrap p0.n) + (s68.length : Int))) 64) != 56) then
  (grd (s68.length + ([0] : List Int).length < 68719476736)).bind fun _ =>
  some (.inl (s68 ++ ([0] : List Int)))
 else
  (hash_Stream_Sum.j5 p0 s68).map Sum.inr
def hash_Stream_Sum (p0 : hash_Stream) : Option (Vector Int 32) :=
 loopF (hash_Stream_Sum.l6 p0) ([128] : List Int)
def hash_Sum (p0 : (List Int)) : Option (Vector Int 32) :=
 (hash_Begin).bind fun t9 =>
 (hash_Stream_Add t9 (intsB p0)).bind fun t24 =>
 (hash_Stream_Sum t24).bind fun t30 =>
 some (t30)
def hash_Mac_1.j1 (x14 : (Vector Int 64)) : Option (List UInt8) :=
 some (intsB ((x14.toList.take ((64 : Int)).toNat).drop ((0 : Int)).toNat))
def hash_Mac_1.l2 (p0 : Int) (s19 : ((Vector Int 64) × Int)) : Option (((Vector Int 64) × Int) ⊕ (List UInt8)) :=
 if (decide (s19.2 < 64)) then
  (grd (0 ≤ s19.2 ∧ s19.2 < (64 : Int))).bind fun _ =>
  (grd (0 ≤ s19.2 ∧ s19.2 < (64 : Int))).bind fun _ =>
  some (.inl (vs s19.1 s19.2 (bits .xor .u8 (rd s19.1.toList s19.2) p0), i64.wrap (s19.2 + 1)))
 else
  (hash_Mac_1.j1 s19.1).map Sum.inr
def hash_Mac_1 (p0 : Int) (c0_ : (List UInt8)) : Option (List UInt8) :=
 loopF (hash_Mac_1.l2 p0) (vcp (replicate 64 0) ((0 : Int)).toNat ((bytesI c0_).take (((64 : Int)).toNat - ((0 : Int)).toNat)), 0)
def hash_Mac.j1 (x3 : (List UInt8)) (p1 : (List UInt8)) : Option (List UInt8) :=
 (hash_Begin).bind fun t11 =>
 (hash_Mac_1 54 x3).bind fun t17 =>
 (hash_Stream_Add t11 t17).bind fun t23 =>
 (hash_Stream_Add t23 p1).bind fun t29 =>
 (hash_Stream_Sum t29).bind fun t35 =>
 (hash_Begin).bind fun t46 =>
 (hash_Mac_1 92 x3).bind fun t57 =>
 (hash_Stream_Add t46 t57).bind fun t67 =>
 (hash_Stream_Add t67 (intsB ((t35.toList.take ((32 : Int)).toNat).drop ((0 : Int)).toNat))).bind fun t82 =>
 (hash_Stream_Sum t82).bind fun t91 =>
 some (intsB ((t91.toList.take ((32 : Int)).toNat).drop ((0 : Int)).toNat))
def hash_Mac (p0 : (List UInt8)) (p1 : (List UInt8)) : Option (List UInt8) :=
 if (decide ((64 : Int) < (p0.length : Int))) then
  (hash_Sum (bytesI p0)).bind fun t113 =>
  hash_Mac.j1 (intsB ((t113.toList.take ((32 : Int)).toNat).drop ((0 : Int)).toNat)) p1
 else
  hash_Mac.j1 p0 p1
def kdf_Derive.j1 (p0 : (List UInt8)) (x10 : (List Int)) : Option (List UInt8) :=
 (hash_Mac p0 (intsB x10)).bind fun t18 =>
 some (t18)
def kdf_Derive.l2 (p2 : (List (List UInt8))) (p0 : (List UInt8)) (s25 : ((List Int) × Int)) : Option (((List Int) × Int) ⊕ (List UInt8)) :=
 if (decide (s25.2 < (p2.length : Int))) then
  (grd (0 ≤ s25.2 ∧ s25.2 < (p2.length : Int))).bind fun _ =>
  (wire_Bytes (rd p2 s25.2)).bind fun t37 =>
  (grd (s25.1.length + t37.length < 68719476736)).bind fun _ =>
  some (.inl (s25.1 ++ t37, i64.wrap (s25.2 + 1)))
 else
  (kdf_Derive.j1 p0 s25.1).map Sum.inr
def kdf_Derive (p0 : (List UInt8)) (p1 : (List UInt8)) (p2 : (List (List UInt8))) : Option (List UInt8) :=
 (wire_Bytes p1).bind fun t5 =>
 loopF (kdf_Derive.l2 p2 p0) (t5, 0)
def wire_Strings.j1 (x10 : (List Int)) : Option (List Int) :=
 some x10
def wire_Strings.l2 (p0 : (List (List UInt8))) (s16 : ((List Int) × Int)) : Option (((List Int) × Int) ⊕ (List Int)) :=
 if (decide (s16.2 < (p0.length : Int))) then
  (grd (0 ≤ s16.2 ∧ s16.2 < (p0.length : Int))).bind fun _ =>
  (wire_Bytes (rd p0 s16.2)).bind fun t28 =>
  (grd (s16.1.length + t28.length < 68719476736)).bind fun _ =>
  some (.inl (s16.1 ++ t28, i64.wrap (s16.2 + 1)))
 else
  (wire_Strings.j1 s16.1).map Sum.inr
def wire_Strings (p0 : (List (List UInt8))) : Option (List Int) :=
 (wire_Int (p0.length : Int)).bind fun t5 =>
 loopF (wire_Strings.l2 p0) (t5, 0)
def backup_content.j1 (x7 : (List (List UInt8))) : Option (List UInt8) :=
 (wire_Strings x7).bind fun t15 =>
 some (intsB t15)
def backup_content.j2 (p0 : (List Key)) (s25 : ((List (List UInt8)) × Int)) (x39 : Int) : Option (((List (List UInt8)) × Int) ⊕ (List UInt8)) :=
 (wire_Ints ([(rd p0 s25.2).Id, (rd p0 s25.2).Type_, (rd p0 s25.2).Uses, (rd p0 s25.2).Start, (rd p0 s25.2).End, (rd p0 s25.2).Version, (rd p0 s25.2).Parent, x39] : List Int)).bind fun t48 =>
 (wire_Strings ([intsB t48, (rd p0 s25.2).Value] : List (List UInt8))).bind fun t61 =>
 (grd (0 ≤ s25.2 ∧ s25.2 < (s25.1.length : Int))).bind fun _ =>
 some (.inl (wr s25.1 s25.2 (intsB t61), i64.wrap (s25.2 + 1)))
def backup_content.l3 (p0 : (List Key)) (s25 : ((List (List UInt8)) × Int)) : Option (((List (List UInt8)) × Int) ⊕ (List UInt8)) :=
 if (decide (s25.2 < (p0.length : Int))) then
  (grd (0 ≤ s25.2 ∧ s25.2 < (p0.length : Int))).bind fun _ =>
  if (rd p0 s25.2).Raw then
   backup_content.j2 p0 s25 1
  else
   backup_content.j2 p0 s25 0
 else
  (backup_content.j1 s25.1).map Sum.inr
def backup_content (p0 : (List Key)) : Option (List UInt8) :=
 (grd (0 ≤ (p0.length : Int) ∧ (p0.length : Int) ≤ (p0.length : Int) ∧ (p0.length : Int) < 68719476736)).bind fun _ =>
 loopF (backup_content.l3 p0) (List.replicate ((p0.length : Int)).toNat ([] : List UInt8), 0)
def seal_Keys (p0 : (List UInt8)) : Option ((List UInt8) × (List UInt8) × Int) :=
 if ((p0.length : Int) != 32) then
  some ((([] : List UInt8), ([] : List UInt8), 1))
 else
  (hash_Mac p0 ([101, 110, 99] : List UInt8)).bind fun t7 =>
  (hash_Mac p0 ([109, 97, 99] : List UInt8)).bind fun t13 =>
  some ((t7, t13, 0))
/-- The strings one after the other, with the separator between. -/
def strings_Join (p0 : List (List UInt8)) (p1 : List UInt8) : Option (List UInt8) :=
 (grd (p0.length ≤ 140737488355328 ∧ (p1.intercalate p0).length ≤ 140737488355328)).bind fun _ =>
 some (p1.intercalate p0)
def seal_code (p0 : (List UInt8)) (p1 : Int) (p2 : (List (List UInt8))) : Option (List UInt8) :=
 (strings_Join p2 ([] : List UInt8)).bind fun t5 =>
 (hash_Mac p0 t5).bind fun t11 =>
 (grd (0 ≤ (0 : Int) ∧ (0 : Int) ≤ p1 ∧ p1 ≤ (t11.length : Int))).bind fun _ =>
 some ((t11.take (p1).toNat).drop ((0 : Int)).toNat)
def cipher_get (p0 : (List UInt8)) : Option Int :=
 (grd (0 ≤ (0 : Int) ∧ (0 : Int) < (p0.length : Int))).bind fun _ =>
 (grd (0 ≤ (1 : Int) ∧ (1 : Int) < (p0.length : Int))).bind fun _ =>
 (grd (0 ≤ (2 : Int) ∧ (2 : Int) < (p0.length : Int))).bind fun _ =>
 (grd (0 ≤ (3 : Int) ∧ (3 : Int) < (p0.length : Int))).bind fun _ =>
 some (bits .or .u32 (bits .or .u32 (bits .or .u32 (u32.wrap (sbyte p0 0)) (shlI .u32 (u32.wrap (sbyte p0 1)) 8)) (shlI .u32 (u32.wrap (sbyte p0 2)) 16)) (shlI .u32 (u32.wrap (sbyte p0 3)) 24))
def cipher_State.j1 (x14 : (Vector Int 16)) : Option ((Vector Int 16) × Int) :=
 some ((x14, 0))
def cipher_State.l2 (p2 : (List UInt8)) (s19 : ((Vector Int 16) × Int)) : Option (((Vector Int 16) × Int) ⊕ ((Vector Int 16) × Int)) :=
 if (decide (s19.2 < 3)) then
  (grd (0 ≤ (i64.wrap (4 * s19.2)) ∧ (i64.wrap (4 * s19.2)) ≤ (p2.length : Int) ∧ (p2.length : Int) ≤ (p2.length : Int))).bind fun _ =>
  (cipher_get ((p2.take ((p2.length : Int)).toNat).drop (i64.wrap (4 * s19.2)).toNat)).bind fun t30 =>
  (grd (0 ≤ (i64.wrap (13 + s19.2)) ∧ (i64.wrap (13 + s19.2)) < (16 : Int))).bind fun _ =>
  some (.inl (vs s19.1 (i64.wrap (13 + s19.2)) t30, i64.wrap (s19.2 + 1)))
 else
  (cipher_State.j1 s19.1).map Sum.inr
def cipher_State.j3 (p2 : (List UInt8)) (x11 : (Vector Int 16)) : Option ((Vector Int 16) × Int) :=
 loopF (cipher_State.l2 p2) (x11, 0)
def cipher_State.l4 (p0 : (List UInt8)) (p2 : (List UInt8)) (s38 : ((Vector Int 16) × Int)) : Option (((Vector Int 16) × Int) ⊕ ((Vector Int 16) × Int)) :=
 if (decide (s38.2 < 8)) then
  (grd (0 ≤ (i64.wrap (4 * s38.2)) ∧ (i64.wrap (4 * s38.2)) ≤ (p0.length : Int) ∧ (p0.length : Int) ≤ (p0.length : Int))).bind fun _ =>
  (cipher_get ((p0.take ((p0.length : Int)).toNat).drop (i64.wrap (4 * s38.2)).toNat)).bind fun t49 =>
  (grd (0 ≤ (i64.wrap (4 + s38.2)) ∧ (i64.wrap (4 + s38.2)) < (16 : Int))).bind fun _ =>
  some (.inl (vs s38.1 (i64.wrap (4 + s38.2)) t49, i64.wrap (s38.2 + 1)))
 else
  (cipher_State.j3 p2 s38.1).map Sum.inr
def cipher_State (p0 : (List UInt8)) (p1 : Int) (p2 : (List UInt8)) : Option ((Vector Int 16) × Int) :=
 (
  if ((p0.length : Int) != 32) then
   some true
  else
   some ((p2.length : Int) != (12 : Int))).bind fun t4 =>
 if t4 then
  some ((replicate 16 0, 1))
 else
  loopF (cipher_State.l4 p0 p2) ((#v[1634760805, 857760878, 2036477234, 1797285236, 0, 0, 0, 0, 0, 0, 0, 0, p1, 0, 0, 0] : Vector Int 16), 0)
def cipher_quarter (p : (Vector Int 16)) (i0 : Int) (i1 : Int) (i2 : Int) (i3 : Int) : Option (Vector Int 16) :=
 (bits_RotateLeft32 (bits .xor .u32 (rd (vs p i0 (u32.wrap ((rd p.toList i0) + (rd p.toList i1)))).toList i3) (rd (vs p i0 (u32.wrap ((rd p.toList i0) + (rd p.toList i1)))).toList i0)) (16 : Int)).bind fun t51 =>
 (some (vs (vs (vs p i0 (u32.wrap ((rd p.toList i0) + (rd p.toList i1)))) i3 t51) i2 (u32.wrap ((rd (vs (vs p i0 (u32.wrap ((rd p.toList i0) + (rd p.toList i1)))) i3 t51).toList i2) + (rd (vs (vs p i0 (u32.wrap ((rd p.toList i0) + (rd p.toList i1)))) i3 t51).toList i3))))).bind fun z84 =>
 (bits_RotateLeft32 (bits .xor .u32 (rd z84.toList i1) (rd z84.toList i2)) (12 : Int)).bind fun t114 =>
 (bits_RotateLeft32 (bits .xor .u32 (rd (vs (vs z84 i1 t114) i0 (u32.wrap ((rd (vs z84 i1 t114).toList i0) + (rd (vs z84 i1 t114).toList i1)))).toList i3) (rd (vs (vs z84 i1 t114) i0 (u32.wrap ((rd (vs z84 i1 t114).toList i0) + (rd (vs z84 i1 t114).toList i1)))).toList i0)) (8 : Int)).bind fun t174 =>
 (some (vs (vs (vs (vs z84 i1 t114) i0 (u32.wrap ((rd (vs z84 i1 t114).toList i0) + (rd (vs z84 i1 t114).toList i1)))) i3 t174) i2 (u32.wrap ((rd (vs (vs (vs z84 i1 t114) i0 (u32.wrap ((rd (vs z84 i1 t114).toList i0) + (rd (vs z84 i1 t114).toList i1)))) i3 t174).toList i2) + (rd (vs (vs (vs z84 i1 t114) i0 (u32.wrap ((rd (vs z84 i1 t114).toList i0) + (rd (vs z84 i1 t114).toList i1)))) i3 t174).toList i3))))).bind fun z207 =>
 (bits_RotateLeft32 (bits .xor .u32 (rd z207.toList i1) (rd z207.toList i2)) (7 : Int)).bind fun t236 =>
 some (vs z207 i1 t236)
def cipher_Rounds.j1 (x4 : (Vector Int 16)) : Option (Vector Int 16) :=
 some (x4)
def cipher_Rounds.j2 (x17 : (Vector Int 16)) (s9 : ((Vector Int 16) × Int)) : Option (((Vector Int 16) × Int) ⊕ (Vector Int 16)) :=
 some (.inl (x17, i64.wrap (s9.2 + 1)))
def cipher_Rounds.l3 (s9 : ((Vector Int 16) × Int)) (s24 : ((Vector Int 16) × Int)) : Option (((Vector Int 16) × Int) ⊕ (((Vector Int 16) × Int) ⊕ (Vector Int 16))) :=
 if (decide (s24.2 < 4)) then
  (grd (0 ≤ s24.2 ∧ s24.2 < (16 : Int))).bind fun _ =>
  (grd (0 ≤ (i64.wrap (4 + (Int.tmod (i64.wrap (s24.2 + 1)) 4))) ∧ (i64.wrap (4 + (Int.tmod (i64.wrap (s24.2 + 1)) 4))) < (16 : Int))).bind fun _ =>
  (grd (0 ≤ (i64.wrap (8 + (Int.tmod (i64.wrap (s24.2 + 2)) 4))) ∧ (i64.wrap (8 + (Int.tmod (i64.wrap (s24.2 + 2)) 4))) < (16 : Int))).bind fun _ =>
  (grd (0 ≤ (i64.wrap (12 + (Int.tmod (i64.wrap (s24.2 + 3)) 4))) ∧ (i64.wrap (12 + (Int.tmod (i64.wrap (s24.2 + 3)) 4))) < (16 : Int))).bind fun _ =>
  (cipher_quarter s24.1 s24.2 (i64.wrap (4 + (Int.tmod (i64.wrap (s24.2 + 1)) 4))) (i64.wrap (8 + (Int.tmod (i64.wrap (s24.2 + 2)) 4))) (i64.wrap (12 + (Int.tmod (i64.wrap (s24.2 + 3)) (4 : Int))))).bind fun t92 =>
  some (.inl (t92, i64.wrap (s24.2 + 1)))
 else
  (cipher_Rounds.j2 s24.1 s9).map Sum.inr
def cipher_Rounds.j4 (s9 : ((Vector Int 16) × Int)) (x20 : (Vector Int 16)) : Option (((Vector Int 16) × Int) ⊕ (Vector Int 16)) :=
 loopF (cipher_Rounds.l3 s9) (x20, 0)
def cipher_Rounds.l5 (s9 : ((Vector Int 16) × Int)) (s97 : ((Vector Int 16) × Int)) : Option (((Vector Int 16) × Int) ⊕ (((Vector Int 16) × Int) ⊕ (Vector Int 16))) :=
 if (decide (s97.2 < 4)) then
  (grd (0 ≤ s97.2 ∧ s97.2 < (16 : Int))).bind fun _ =>
  (grd (0 ≤ (i64.wrap (4 + s97.2)) ∧ (i64.wrap (4 + s97.2)) < (16 : Int))).bind fun _ =>
  (grd (0 ≤ (i64.wrap (8 + s97.2)) ∧ (i64.wrap (8 + s97.2)) < (16 : Int))).bind fun _ =>
  (grd (0 ≤ (i64.wrap (12 + s97.2)) ∧ (i64.wrap (12 + s97.2)) < (16 : Int))).bind fun _ =>
  (cipher_quarter s97.1 s97.2 (i64.wrap (4 + s97.2)) (i64.wrap (8 + s97.2)) (i64.wrap (12 + s97.2))).bind fun t147 =>
  some (.inl (t147, i64.wrap (s97.2 + 1)))
 else
  (cipher_Rounds.j4 s9 s97.1).map Sum.inr
def cipher_Rounds.l6  (s9 : ((Vector Int 16) × Int)) : Option (((Vector Int 16) × Int) ⊕ (Vector Int 16)) :=
 if (decide (s9.2 < 10)) then
  loopF (cipher_Rounds.l5 s9) (s9.1, 0)
 else
  (cipher_Rounds.j1 s9.1).map Sum.inr
def cipher_Rounds (p0 : (Vector Int 16)) : Option (Vector Int 16) :=
 loopF (cipher_Rounds.l6) (p0, 0)
def cipher_put (p0 : (List Int)) (p1 : Int) : Option (List Int) :=
 (grd (p0.length + ([u8.wrap p1, u8.wrap (shrI .u32 p1 8), u8.wrap (shrI .u32 p1 16), u8.wrap (shrI .u32 p1 24)] : List Int).length < 68719476736)).bind fun _ =>
 some (p0 ++ ([u8.wrap p1, u8.wrap (shrI .u32 p1 8), u8.wrap (shrI .u32 p1 16), u8.wrap (shrI .u32 p1 24)] : List Int))
def cipher_Block.j1 (x17 : (List Int)) : Option ((List UInt8) × Int) :=
 some ((intsB x17, 0))
def cipher_Block.l2 (t26 : (Vector Int 16)) (t3 : ((Vector Int 16) × Int)) (s32 : ((List Int) × Int)) : Option (((List Int) × Int) ⊕ ((List UInt8) × Int)) :=
 if (decide (s32.2 < 16)) then
  (grd (0 ≤ s32.2 ∧ s32.2 < (16 : Int))).bind fun _ =>
  (grd (0 ≤ s32.2 ∧ s32.2 < (16 : Int))).bind fun _ =>
  (cipher_put s32.1 (u32.wrap ((rd t26.toList s32.2) + (rd t3.1.toList s32.2)))).bind fun t45 =>
  some (.inl (t45, i64.wrap (s32.2 + 1)))
 else
  (cipher_Block.j1 s32.1).map Sum.inr
def cipher_Block (p0 : (List UInt8)) (p1 : Int) (p2 : (List UInt8)) : Option ((List UInt8) × Int) :=
 (cipher_State p0 p1 p2).bind fun t3 =>
 if (t3.2 != 0) then
  some ((([] : List UInt8), t3.2))
 else
  (grd (0 ≤ (0 : Int) ∧ (0 : Int) ≤ 64 ∧ (64 : Int) < 68719476736)).bind fun _ =>
  (cipher_Rounds t3.1).bind fun t26 =>
  loopF (cipher_Block.l2 t26 t3) (List.replicate ((0 : Int)).toNat 0, 0)
def cipher_Xor.j1 (x16 : (List Int)) : Option ((List UInt8) × Int) :=
 some ((intsB x16, 0))
def cipher_Xor.j2 (s25 : ((List Int) × Int × (List UInt8) × Int)) (x37 : (List UInt8)) (x36 : Int) : Option (((List Int) × Int × (List UInt8) × Int) ⊕ ((List UInt8) × Int)) :=
 (grd (0 ≤ s25.2.2.2 ∧ s25.2.2.2 < (s25.1.length : Int))).bind fun _ =>
 (grd (0 ≤ (Int.tmod s25.2.2.2 64) ∧ (Int.tmod s25.2.2.2 64) < (x37.length : Int))).bind fun _ =>
 (grd (0 ≤ s25.2.2.2 ∧ s25.2.2.2 < (s25.1.length : Int))).bind fun _ =>
 some (.inl (wr s25.1 s25.2.2.2 (bits .xor .u8 (rd s25.1 s25.2.2.2) (sbyte x37 (Int.tmod s25.2.2.2 64))), x36, x37, i64.wrap (s25.2.2.2 + 1)))
def cipher_Xor.l3 (p3 : (List UInt8)) (p0 : (List UInt8)) (p2 : (List UInt8)) (s25 : ((List Int) × Int × (List UInt8) × Int)) : Option (((List Int) × Int × (List UInt8) × Int) ⊕ ((List UInt8) × Int)) :=
 if (decide (s25.2.2.2 < ((bytesI p3).length : Int))) then
  if ((Int.tmod s25.2.2.2 64) == 0) then
   (cipher_Block p0 s25.2.1 p2).bind fun t75 =>
   cipher_Xor.j2 s25 t75.1 (u32.wrap (s25.2.1 + 1))
  else
   cipher_Xor.j2 s25 s25.2.2.1 s25.2.1
 else
  (cipher_Xor.j1 s25.1).map Sum.inr
def cipher_Xor (p0 : (List UInt8)) (p1 : Int) (p2 : (List UInt8)) (p3 : (List UInt8)) : Option ((List UInt8) × Int) :=
 (cipher_State p0 p1 p2).bind fun t4 =>
 if (t4.2 != 0) then
  some ((([] : List UInt8), t4.2))
 else
  loopF (cipher_Xor.l3 p3 p0 p2) (bytesI p3, p1, ([] : List UInt8), 0)
def seal_Seal (p0 : (List UInt8)) (p1 : (List UInt8)) (p2 : (List UInt8)) : Option ((List UInt8) × Int) :=
 (seal_Keys p0).bind fun t3 =>
 if (t3.2.2 != 0) then
  some ((([] : List UInt8), t3.2.2))
 else
  (
   if (decide ((1048576 : Int) < (p1.length : Int))) then
    some true
   else
    some (decide ((1048576 : Int) < (p2.length : Int)))).bind fun t13 =>
  if t13 then
   some ((([] : List UInt8), 2))
  else
   (wire_Bytes p1).bind fun t20 =>
   (seal_code t3.2.1 12 ([([110, 111, 110, 99, 101] : List UInt8), intsB t20, p2] : List (List UInt8))).bind fun t34 =>
   (cipher_Xor t3.1 1 t34 p2).bind fun t41 =>
   (grd (t34.length + t41.1.length ≤ 9223372036854775807)).bind fun _ =>
   (seal_code t3.2.1 16 ([([116, 97, 103] : List UInt8), t34, intsB t20, t41.1] : List (List UInt8))).bind fun t54 =>
   (grd ((t34 ++ t41.1).length + t54.length ≤ 9223372036854775807)).bind fun _ =>
   some (((t34 ++ t41.1) ++ t54, 0))
def backup_Make (p0 : (List UInt8)) (p1 : Backup) : Option ((List UInt8) × Int) :=
 (
  if ((p0.length : Int) != 32) then
   some true
  else
   (backup_Valid p1).bind fun t13 =>
   some (!t13)).bind fun t9 =>
 if t9 then
  some ((([] : List UInt8), 1))
 else
  (backup_Header p1).bind fun t22 =>
  (kdf_Derive p0 ([98, 97, 99, 107, 117, 112] : List UInt8) ([] : (List (List UInt8)))).bind fun t34 =>
  (backup_content p1.Keys).bind fun t50 =>
  (seal_Seal t34 t22 t50).bind fun t61 =>
  if (t61.2 != 0) then
   some ((([] : List UInt8), t61.2))
  else
   (wire_Bytes t22).bind fun t91 =>
   (grd ((intsB t91).length + t61.1.length ≤ 9223372036854775807)).bind fun _ =>
   some (((intsB t91) ++ t61.1, 0))
def backup_reader_check.j1 (x4 : backup_reader) : Option (Bool × backup_reader) :=
 some (x4.e == 0, x4)
def backup_reader_check (x_ : backup_reader) (p1 : Bool) (p2 : Int) : Option (Bool × backup_reader) :=
 (
  if (x_.e == 0) then
   some (!p1)
  else
   some false).bind fun t10 =>
 if t10 then
  backup_reader_check.j1 ({ x_ with e := p2 } : backup_reader)
 else
  backup_reader_check.j1 x_
def wire_GetInt.j1 (x36 : Int) (p0 : (List Int)) (x9 : Int) : Option (Int × Int × Int) :=
 some ((i64.wrap x36, i64.wrap ((i64.wrap ((i64.wrap (bits .xor .u8 (rd p0 0) x9)) - 128)) + 1), 0))
def wire_GetInt.j2 (x29 : Int) (x9 : Int) (p0 : (List Int)) : Option (Int × Int × Int) :=
 if (decide ((0 : Int) < (shrI .u64 x29 63))) then
  some ((0, 0, 6))
 else
  if (decide ((0 : Int) < x9)) then
   wire_GetInt.j1 (bits .xor .u64 u64.max x29) p0 x9
  else
   wire_GetInt.j1 x29 p0 x9
def wire_GetInt.l3 (p0 : (List Int)) (x9 : Int) (s46 : (Int × Int)) : Option ((Int × Int) ⊕ (Int × Int × Int)) :=
 if (decide (s46.2 < (((p0.take (i64.wrap ((i64.wrap ((i64.wrap (bits .xor .u8 (rd p0 0) x9)) - 128)) + (1 : Int))).toNat).drop ((1 : Int)).toNat).length : Int))) then
  (grd (0 ≤ s46.2 ∧ s46.2 < (((p0.take (i64.wrap ((i64.wrap ((i64.wrap (bits .xor .u8 (rd p0 0) x9)) - 128)) + (1 : Int))).toNat).drop ((1 : Int)).toNat).length : Int))).bind fun _ =>
  some (.inl (bits .or .u64 (shlI .u64 s46.1 8) (u64.wrap (bits .xor .u8 (rd ((p0.take (i64.wrap ((i64.wrap ((i64.wrap (bits .xor .u8 (rd p0 0) x9)) - 128)) + (1 : Int))).toNat).drop ((1 : Int)).toNat) s46.2) x9)), i64.wrap (s46.2 + 1)))
 else
  (wire_GetInt.j2 s46.1 x9 p0).map Sum.inr
def wire_GetInt.j4 (p0 : (List Int)) (x9 : Int) : Option (Int × Int × Int) :=
 (grd (0 ≤ (0 : Int) ∧ (0 : Int) < (p0.length : Int))).bind fun _ =>
 if (decide ((8 : Int) < (i64.wrap ((i64.wrap (bits .xor .u8 (rd p0 0) x9)) - 128)))) then
  some ((0, 0, 6))
 else
  if (decide ((p0.length : Int) ≤ (i64.wrap ((i64.wrap (bits .xor .u8 (rd p0 0) x9)) - 128)))) then
   some ((0, 0, 5))
  else
   (
    if (decide ((0 : Int) < (i64.wrap ((i64.wrap (bits .xor .u8 (rd p0 0) x9)) - 128)))) then
     (grd (0 ≤ (1 : Int) ∧ (1 : Int) < (p0.length : Int))).bind fun _ =>
     some ((bits .xor .u8 (rd p0 1) x9) == 0)
    else
     some false).bind fun t21 =>
   if t21 then
    some ((0, 0, 6))
   else
    (grd (0 ≤ (1 : Int) ∧ (1 : Int) ≤ (i64.wrap ((i64.wrap ((i64.wrap (bits .xor .u8 (rd p0 0) x9)) - 128)) + 1)) ∧ (i64.wrap ((i64.wrap ((i64.wrap (bits .xor .u8 (rd p0 0) x9)) - 128)) + 1)) ≤ (p0.length : Int))).bind fun _ =>
    loopF (wire_GetInt.l3 p0 x9) (0, 0)
def wire_GetInt (p0 : (List Int)) : Option (Int × Int × Int) :=
 if ((p0.length : Int) == 0) then
  some ((0, 0, 5))
 else
  (grd (0 ≤ (0 : Int) ∧ (0 : Int) < (p0.length : Int))).bind fun _ =>
  if (decide ((rd p0 0) < 128)) then
   wire_GetInt.j4 p0 255
  else
   wire_GetInt.j4 p0 0
def wire_count.j1 (t5 : (Int × Int × Int)) (x11 : Int) : Option (Int × Int × Int) :=
 some ((t5.1, t5.2.1, x11))
def wire_count (p0 : (List Int)) (p1 : Int) : Option (Int × Int × Int) :=
 (wire_GetInt p0).bind fun t5 =>
 if (t5.2.2 != 0) then
  wire_count.j1 t5 t5.2.2
 else
  if (decide (t5.1 < 0)) then
   wire_count.j1 t5 6
  else
   (grd (p1 ≠ 0)).bind fun _ =>
   if (decide ((i64.wrap (Int.tdiv (i64.wrap ((p0.length : Int) - t5.2.1)) p1)) < t5.1)) then
    wire_count.j1 t5 5
   else
    wire_count.j1 t5 t5.2.2
def wire_GetBytes (p0 : (List Int)) : Option ((List UInt8) × Int × Int) :=
 (wire_count p0 (1 : Int)).bind fun t5 =>
 if (t5.2.2 != 0) then
  some ((([] : List UInt8), 0, t5.2.2))
 else
  (grd (0 ≤ t5.2.1 ∧ t5.2.1 ≤ (i64.wrap (t5.2.1 + t5.1)) ∧ (i64.wrap (t5.2.1 + t5.1)) ≤ (p0.length : Int))).bind fun _ =>
  some ((intsB ((p0.take (i64.wrap (t5.2.1 + t5.1)).toNat).drop (t5.2.1).toNat), i64.wrap (t5.2.1 + t5.1), 0))
def backup_read_string (x_ : backup_reader) : Option ((List UInt8) × backup_reader) :=
 if (x_.e != 0) then
  some (([] : List UInt8), x_)
 else
  (wire_GetBytes x_.rest_).bind fun t9 =>
  (backup_reader_check x_ (t9.2.2 == 0) t9.2.2).bind fun t17 =>
  if (!t17.1) then
   some (([] : List UInt8), t17.2)
  else
   (grd (0 ≤ t9.2.1 ∧ t9.2.1 ≤ (t17.2.rest_.length : Int) ∧ (t17.2.rest_.length : Int) ≤ (t17.2.rest_.length : Int))).bind fun _ =>
   some (t9.1, ({ t17.2 with rest_ := ((t17.2.rest_.take ((t17.2.rest_.length : Int)).toNat).drop (t9.2.1).toNat) } : backup_reader))
def backup_digest (p0 : (List Int)) : Option ((Vector Int 16) × Int × Int) :=
 if (decide ((p0.length : Int) < 16)) then
  some ((replicate 16 0, 0, 5))
 else
  (grd (0 ≤ (0 : Int) ∧ (0 : Int) ≤ 16 ∧ (16 : Int) ≤ (p0.length : Int))).bind fun _ =>
  (grd (16 ≤ ((p0.take ((16 : Int)).toNat).drop ((0 : Int)).toNat).length)).bind fun _ =>
  some ((lv ((p0.take ((16 : Int)).toNat).drop ((0 : Int)).toNat) 0 16, 16, 0))
def backup_read_Digest (x_ : backup_reader) : Option ((Vector Int 16) × backup_reader) :=
 if (x_.e != 0) then
  some (replicate 16 0, x_)
 else
  (backup_digest x_.rest_).bind fun t10 =>
  (backup_reader_check x_ (t10.2.2 == 0) t10.2.2).bind fun t19 =>
  if (!t19.1) then
   some (replicate 16 0, t19.2)
  else
   (grd (0 ≤ t10.2.1 ∧ t10.2.1 ≤ (t19.2.rest_.length : Int) ∧ (t19.2.rest_.length : Int) ≤ (t19.2.rest_.length : Int))).bind fun _ =>
   some (t10.1, ({ t19.2 with rest_ := ((t19.2.rest_.take ((t19.2.rest_.length : Int)).toNat).drop (t10.2.1).toNat) } : backup_reader))
def wire_reader_1 (c0_ : (List Int)) (x_ : Int) : Option ((Int × Int × Int) × Int) :=
 (grd (0 ≤ x_ ∧ x_ ≤ (c0_.length : Int) ∧ (c0_.length : Int) ≤ (c0_.length : Int))).bind fun _ =>
 (wire_GetInt ((c0_.take ((c0_.length : Int)).toNat).drop (x_).toNat)).bind fun t8 =>
 some ((t8.1, i64.wrap (x_ + t8.2.1), t8.2.2), i64.wrap (x_ + t8.2.1))
def wire_GetInts.j1 (x23 : (List Int)) (x25 : Int) : Option ((List Int) × Int × Int) :=
 some ((x23, x25, 0))
def wire_GetInts.l2 (t5 : (Int × Int × Int)) (p0 : (List Int)) (s33 : (Int × (List Int) × Int × Int)) : Option ((Int × (List Int) × Int × Int) ⊕ ((List Int) × Int × Int)) :=
 if (decide (s33.2.2.2 < t5.1)) then
  (wire_reader_1 p0 s33.1).bind fun t44 =>
  if (t44.1.2.2 != 0) then
   some (.inr ((([] : (List Int)), 0, t44.1.2.2)))
  else
   (grd (s33.2.1.length + ([t44.1.1] : List Int).length < 68719476736)).bind fun _ =>
   some (.inl (t44.2, s33.2.1 ++ ([t44.1.1] : List Int), t44.1.2.1, i64.wrap (s33.2.2.2 + 1)))
 else
  (wire_GetInts.j1 s33.2.1 s33.2.2.1).map Sum.inr
def wire_GetInts (p0 : (List Int)) : Option ((List Int) × Int × Int) :=
 (wire_count p0 (1 : Int)).bind fun t5 =>
 if (t5.2.2 != 0) then
  some ((([] : (List Int)), 0, t5.2.2))
 else
  loopF (wire_GetInts.l2 t5 p0) (t5.2.1, ([] : (List Int)), t5.2.1, 0)
def backup_read_LLint (x_ : backup_reader) : Option ((List Int) × backup_reader) :=
 if (x_.e != 0) then
  some (([] : (List Int)), x_)
 else
  (wire_GetInts x_.rest_).bind fun t9 =>
  (backup_reader_check x_ (t9.2.2 == 0) t9.2.2).bind fun t19 =>
  if (!t19.1) then
   some (([] : (List Int)), t19.2)
  else
   (grd (0 ≤ t9.2.1 ∧ t9.2.1 ≤ (t19.2.rest_.length : Int) ∧ (t19.2.rest_.length : Int) ≤ (t19.2.rest_.length : Int))).bind fun _ =>
   some (t9.1, ({ t19.2 with rest_ := ((t19.2.rest_.take ((t19.2.rest_.length : Int)).toNat).drop (t9.2.1).toNat) } : backup_reader))
def backup_whole_string (x_ : backup_reader) : Option ((List UInt8) × backup_reader) :=
 (backup_read_string x_).bind fun t5 =>
 (backup_reader_check t5.2 ((t5.2.rest_.length : Int) == 0) (6 : Int)).bind fun t13 =>
 some (t5.1, t13.2)
def backup_blobReader_peek (x_ : backup_blobReader) : Option (Backup × backup_blobReader) :=
 (backup_read_string x_.reader).bind fun t6 =>
 (backup_read_Digest (⟨bytesI t6.1, t6.2.e⟩ : backup_reader)).bind fun t55 =>
 (backup_read_LLint t55.2).bind fun t64 =>
 (backup_reader_check t64.2 ((t64.1.length : Int) == 4) (6 : Int)).bind fun t74 =>
 if t74.1 then
  (grd (0 ≤ (0 : Int) ∧ (0 : Int) < (t64.1.length : Int))).bind fun _ =>
  (grd (0 ≤ (1 : Int) ∧ (1 : Int) < (t64.1.length : Int))).bind fun _ =>
  (grd (0 ≤ (2 : Int) ∧ (2 : Int) < (t64.1.length : Int))).bind fun _ =>
  (grd (0 ≤ (3 : Int) ∧ (3 : Int) < (t64.1.length : Int))).bind fun _ =>
  (backup_read_Digest t74.2).bind fun t141 =>
  (backup_whole_string t141.2).bind fun t149 =>
  (backup_Valid (⟨t55.1, rd t64.1 0, rd t64.1 1, rd t64.1 2, rd t64.1 3, t141.1, t149.1, []⟩ : Backup)).bind fun t157 =>
  (backup_reader_check t149.2 t157 (6 : Int)).bind fun t163 =>
  (some (⟨t55.1, rd t64.1 0, rd t64.1 1, rd t64.1 2, rd t64.1 3, t141.1, t149.1, []⟩ : Backup)).bind fun z172 =>
  some (z172, (⟨({ t6.2 with e := t163.2.e } : backup_reader), t6.1⟩ : backup_blobReader))
 else
  (backup_read_Digest t74.2).bind fun t177 =>
  (backup_whole_string t177.2).bind fun t185 =>
  (backup_Valid (⟨t55.1, 0, 0, 0, 0, t177.1, t185.1, []⟩ : Backup)).bind fun t193 =>
  (backup_reader_check t185.2 t193 (6 : Int)).bind fun t199 =>
  (some (⟨t55.1, 0, 0, 0, 0, t177.1, t185.1, []⟩ : Backup)).bind fun z208 =>
  some (z208, (⟨({ t6.2 with e := t199.2.e } : backup_reader), t6.1⟩ : backup_blobReader))
def seal_Open (p0 : (List UInt8)) (p1 : (List UInt8)) (p2 : (List UInt8)) : Option ((List UInt8) × Int) :=
 (seal_Keys p0).bind fun t3 =>
 if (t3.2.2 != 0) then
  some ((([] : List UInt8), t3.2.2))
 else
  (
   if (decide ((1048576 : Int) < (p1.length : Int))) then
    some true
   else
    some (decide ((1048604 : Int) < (p2.length : Int)))).bind fun t13 =>
  if t13 then
   some ((([] : List UInt8), 2))
  else
   if (decide ((p2.length : Int) < 28)) then
    some ((([] : List UInt8), 5))
   else
    (wire_Bytes p1).bind fun t23 =>
    (grd (0 ≤ (0 : Int) ∧ (0 : Int) ≤ 12 ∧ (12 : Int) ≤ (p2.length : Int))).bind fun _ =>
    (grd (0 ≤ (12 : Int) ∧ (12 : Int) ≤ (i64.wrap ((p2.length : Int) - 16)) ∧ (i64.wrap ((p2.length : Int) - 16)) ≤ (p2.length : Int))).bind fun _ =>
    (seal_code t3.2.1 16 ([([116, 97, 103] : List UInt8), (p2.take ((12 : Int)).toNat).drop ((0 : Int)).toNat, intsB t23, (p2.take (i64.wrap ((p2.length : Int) - (16 : Int))).toNat).drop ((12 : Int)).toNat] : List (List UInt8))).bind fun t85 =>
    (grd (0 ≤ (i64.wrap ((p2.length : Int) - 16)) ∧ (i64.wrap ((p2.length : Int) - 16)) ≤ (p2.length : Int) ∧ (p2.length : Int) ≤ (p2.length : Int))).bind fun _ =>
    if (!(t85 == ((p2.take ((p2.length : Int)).toNat).drop (i64.wrap ((p2.length : Int) - (16 : Int))).toNat))) then
     some ((([] : List UInt8), 8))
    else
     (cipher_Xor t3.1 1 ((p2.take ((12 : Int)).toNat).drop ((0 : Int)).toNat) ((p2.take (i64.wrap ((p2.length : Int) - (16 : Int))).toNat).drop ((12 : Int)).toNat)).bind fun t110 =>
     (seal_code t3.2.1 12 ([([110, 111, 110, 99, 101] : List UInt8), intsB t23, t110.1] : List (List UInt8))).bind fun t123 =>
     if (!(t123 == ((p2.take ((12 : Int)).toNat).drop ((0 : Int)).toNat))) then
      some ((([] : List UInt8), 8))
     else
      some ((t110.1, 0))
def wire_GetStrings.j1 (x16 : (List (List UInt8))) (x18 : Int) : Option ((List (List UInt8)) × Int × Int) :=
 some ((x16, x18, 0))
def wire_GetStrings.l2 (t5 : (Int × Int × Int)) (p0 : (List Int)) (s26 : ((List (List UInt8)) × Int × Int)) : Option (((List (List UInt8)) × Int × Int) ⊕ ((List (List UInt8)) × Int × Int)) :=
 if (decide (s26.2.2 < t5.1)) then
  (grd (0 ≤ s26.2.1 ∧ s26.2.1 ≤ (p0.length : Int) ∧ (p0.length : Int) ≤ (p0.length : Int))).bind fun _ =>
  (wire_GetBytes ((p0.take ((p0.length : Int)).toNat).drop (s26.2.1).toNat)).bind fun t40 =>
  if (t40.2.2 != 0) then
   some (.inr ((([] : (List (List UInt8))), 0, t40.2.2)))
  else
   (grd (s26.1.length + ([t40.1] : List (List UInt8)).length < 68719476736)).bind fun _ =>
   some (.inl (s26.1 ++ ([t40.1] : List (List UInt8)), i64.wrap (s26.2.1 + t40.2.1), i64.wrap (s26.2.2 + 1)))
 else
  (wire_GetStrings.j1 s26.1 s26.2.1).map Sum.inr
def wire_GetStrings (p0 : (List Int)) : Option ((List (List UInt8)) × Int × Int) :=
 (wire_count p0 (1 : Int)).bind fun t5 =>
 if (t5.2.2 != 0) then
  some ((([] : (List (List UInt8))), 0, t5.2.2))
 else
  loopF (wire_GetStrings.l2 t5 p0) (([] : (List (List UInt8))), t5.2.1, 0)
def backup_read_LLstring (x_ : backup_reader) : Option ((List (List UInt8)) × backup_reader) :=
 if (x_.e != 0) then
  some (([] : (List (List UInt8))), x_)
 else
  (wire_GetStrings x_.rest_).bind fun t9 =>
  (backup_reader_check x_ (t9.2.2 == 0) t9.2.2).bind fun t19 =>
  if (!t19.1) then
   some (([] : (List (List UInt8))), t19.2)
  else
   (grd (0 ≤ t9.2.1 ∧ t9.2.1 ≤ (t19.2.rest_.length : Int) ∧ (t19.2.rest_.length : Int) ≤ (t19.2.rest_.length : Int))).bind fun _ =>
   some (t9.1, ({ t19.2 with rest_ := ((t19.2.rest_.take ((t19.2.rest_.length : Int)).toNat).drop (t9.2.1).toNat) } : backup_reader))
def backup_whole_LLstring (x_ : backup_reader) : Option ((List (List UInt8)) × backup_reader) :=
 (backup_read_LLstring x_).bind fun t5 =>
 (backup_reader_check t5.2 ((t5.2.rest_.length : Int) == 0) (6 : Int)).bind fun t15 =>
 some (t5.1, t15.2)
def backup_whole_LLint (x_ : backup_reader) : Option ((List Int) × backup_reader) :=
 (backup_read_LLint x_).bind fun t5 =>
 (backup_reader_check t5.2 ((t5.2.rest_.length : Int) == 0) (6 : Int)).bind fun t15 =>
 some (t5.1, t15.2)
def backup_reader_key.j1 (x21 : Key) (x_ : backup_reader) (x22 : backup_reader) : Option (Key × backup_reader) :=
 some (x21, ({ x_ with e := x22.e } : backup_reader))
def backup_reader_key.j2 (x55 : Key) (x_ : backup_reader) (t30 : (Bool × backup_reader)) (x56 : backup_reader) : Option (Key × backup_reader) :=
 backup_reader_key.j1 x55 x_ ({ t30.2 with e := x56.e } : backup_reader)
def backup_reader_key (x_ : backup_reader) (p1 : (List UInt8)) : Option (Key × backup_reader) :=
 (backup_whole_LLstring (⟨bytesI p1, x_.e⟩ : backup_reader)).bind fun t12 =>
 (backup_reader_check t12.2 ((t12.1.length : Int) == 2) (6 : Int)).bind fun t30 =>
 if t30.1 then
  (grd (0 ≤ (0 : Int) ∧ (0 : Int) < (t12.1.length : Int))).bind fun _ =>
  (backup_whole_LLint (⟨bytesI (rd t12.1 0), 0⟩ : backup_reader)).bind fun t46 =>
  (backup_reader_check t46.2 ((t46.1.length : Int) == 8) (6 : Int)).bind fun t62 =>
  if t62.1 then
   (grd (0 ≤ (7 : Int) ∧ (7 : Int) < (t46.1.length : Int))).bind fun _ =>
   (backup_within 1 ([rd t46.1 7] : List Int)).bind fun t76 =>
   (backup_reader_check t62.2 t76 (6 : Int)).bind fun t82 =>
   if t82.1 then
    (grd (0 ≤ (0 : Int) ∧ (0 : Int) < (t46.1.length : Int))).bind fun _ =>
    (grd (0 ≤ (1 : Int) ∧ (1 : Int) < (t46.1.length : Int))).bind fun _ =>
    (grd (0 ≤ (1 : Int) ∧ (1 : Int) < (t12.1.length : Int))).bind fun _ =>
    (grd (0 ≤ (2 : Int) ∧ (2 : Int) < (t46.1.length : Int))).bind fun _ =>
    (grd (0 ≤ (3 : Int) ∧ (3 : Int) < (t46.1.length : Int))).bind fun _ =>
    (grd (0 ≤ (4 : Int) ∧ (4 : Int) < (t46.1.length : Int))).bind fun _ =>
    (grd (0 ≤ (5 : Int) ∧ (5 : Int) < (t46.1.length : Int))).bind fun _ =>
    (grd (0 ≤ (6 : Int) ∧ (6 : Int) < (t46.1.length : Int))).bind fun _ =>
    (grd (0 ≤ (7 : Int) ∧ (7 : Int) < (t46.1.length : Int))).bind fun _ =>
    (some (⟨rd t46.1 0, rd t46.1 1, rd t12.1 1, rd t46.1 2, rd t46.1 3, rd t46.1 4, rd t46.1 5, rd t46.1 6, (rd t46.1 7) == 1⟩ : Key)).bind fun z186 =>
    backup_reader_key.j2 z186 x_ t30 t82.2
   else
    backup_reader_key.j2 (⟨0, 0, [], 0, 0, 0, 0, 0, false⟩ : Key) x_ t30 t82.2
  else
   backup_reader_key.j2 (⟨0, 0, [], 0, 0, 0, 0, 0, false⟩ : Key) x_ t30 t62.2
 else
  backup_reader_key.j1 (⟨0, 0, [], 0, 0, 0, 0, 0, false⟩ : Key) x_ t30.2
def backup_Open.j1 (x142 : Backup) (x144 : backup_reader) : Option (Backup × Int) :=
 (backup_Valid x142).bind fun t154 =>
 (backup_reader_check x144 t154 (6 : Int)).bind fun t160 =>
 if (!t160.1) then
  some (((⟨replicate 16 0, 0, 0, 0, 0, replicate 16 0, [], []⟩ : Backup), t160.2.e))
 else
  some ((x142, 0))
def backup_Open.l2 (t193 : ((List (List UInt8)) × backup_reader)) (s202 : (Backup × backup_reader × Int)) : Option ((Backup × backup_reader × Int) ⊕ (Backup × Int)) :=
 if (decide (s202.2.2 < (t193.1.length : Int))) then
  (grd (0 ≤ s202.2.2 ∧ s202.2.2 < (t193.1.length : Int))).bind fun _ =>
  (backup_reader_key s202.2.1 (rd t193.1 s202.2.2)).bind fun t230 =>
  (grd (s202.1.Keys.length + ([t230.1] : List Key).length < 68719476736)).bind fun _ =>
  some (.inl (({ s202.1 with Keys := (s202.1.Keys ++ ([t230.1] : List Key)) } : Backup), t230.2, i64.wrap (s202.2.2 + 1)))
 else
  (backup_Open.j1 s202.1 s202.2.1).map Sum.inr
def backup_Open (p0 : (List UInt8)) (p1 : (List UInt8)) : Option (Backup × Int) :=
 if ((p0.length : Int) != 32) then
  (some (⟨replicate 16 0, 0, 0, 0, 0, replicate 16 0, [], []⟩ : Backup)).bind fun z7 =>
  some ((z7, 1))
 else
  (backup_blobReader_peek (⟨(⟨bytesI p1, 0⟩ : backup_reader), []⟩ : backup_blobReader)).bind fun t18 =>
  if (t18.2.reader.e != 0) then
   some (((⟨replicate 16 0, 0, 0, 0, 0, replicate 16 0, [], []⟩ : Backup), t18.2.reader.e))
  else
   (kdf_Derive p0 ([98, 97, 99, 107, 117, 112] : List UInt8) ([] : (List (List UInt8)))).bind fun t64 =>
   (seal_Open t64 t18.2.header (intsB t18.2.reader.rest_)).bind fun t103 =>
   if (t103.2 != 0) then
    (some (⟨replicate 16 0, 0, 0, 0, 0, replicate 16 0, [], []⟩ : Backup)).bind fun z132 =>
    some ((z132, t103.2))
   else
    (backup_whole_LLstring (⟨bytesI t103.1, 0⟩ : backup_reader)).bind fun t193 =>
    loopF (backup_Open.l2 t193) (t18.1, t193.2, 0)
def backup_Peek (p0 : (List UInt8)) : Option (Backup × Int) :=
 (backup_blobReader_peek (⟨(⟨bytesI p0, 0⟩ : backup_reader), []⟩ : backup_blobReader)).bind fun t10 =>
 if (t10.2.reader.e != 0) then
  some (((⟨replicate 16 0, 0, 0, 0, 0, replicate 16 0, [], []⟩ : Backup), t10.2.reader.e))
 else
  some ((t10.1, 0))
def ref36_Same.j1  : Option Bool :=
 some (true)
def ref36_Same.l2 (p0 : Backup) (p1 : Backup) (s31 : Int) : Option (Int ⊕ Bool) :=
 if (decide (s31 < (p0.Keys.length : Int))) then
  (grd (0 ≤ s31 ∧ s31 < (p0.Keys.length : Int))).bind fun _ =>
  (grd (0 ≤ s31 ∧ s31 < (p1.Keys.length : Int))).bind fun _ =>
  if (!(decide ((rd p0.Keys s31) = (rd p1.Keys s31)))) then
   some (.inr (false))
  else
   some (.inl (i64.wrap (s31 + 1)))
 else
  (ref36_Same.j1 ).map Sum.inr
def ref36_Same (p0 : Backup) (p1 : Backup) : Option Bool :=
 (
  if (!(decide (p0.Domain = p1.Domain))) then
   some true
  else
   if (p0.Epoch != p1.Epoch) then
    some true
   else
    if (p0.Number != p1.Number) then
     some true
    else
     if (p0.Firmware != p1.Firmware) then
      some true
     else
      if (p0.Time != p1.Time) then
       some true
      else
       if (!(decide (p0.Policy = p1.Policy))) then
        some true
       else
        if (!(p0.Module == p1.Module)) then
         some true
        else
         some ((p0.Keys.length : Int) != (p1.Keys.length : Int))).bind fun t15 =>
 if t15 then
  some (false)
 else
  loopF (ref36_Same.l2 p0 p1) 0
def slices_Equal_Key.j1  : Option Bool :=
 some (true)
def slices_Equal_Key.l2 (p0 : (List Key)) (p1 : (List Key)) (s14 : Int) : Option (Int ⊕ Bool) :=
 if (decide (s14 < (p0.length : Int))) then
  (grd (0 ≤ s14 ∧ s14 < (p0.length : Int))).bind fun _ =>
  (grd (0 ≤ s14 ∧ s14 < (p1.length : Int))).bind fun _ =>
  if (!(decide ((rd p0 s14) = (rd p1 s14)))) then
   some (.inr (false))
  else
   some (.inl (i64.wrap (s14 + 1)))
 else
  (slices_Equal_Key.j1 ).map Sum.inr
def slices_Equal_Key (p0 : (List Key)) (p1 : (List Key)) : Option Bool :=
 if ((p0.length : Int) != (p1.length : Int)) then
  some (false)
 else
  loopF (slices_Equal_Key.l2 p0 p1) 0
def backup_Same (p0 : Backup) (p1 : Backup) : Option Bool :=
 (
  (backup_Header p0).bind fun t22 =>
  (backup_Header p1).bind fun t33 =>
  if (t22 == t33) then
   (slices_Equal_Key p0.Keys p1.Keys).bind fun t66 =>
   some t66
  else
   some false).bind fun t14 =>
 some (t14)
def keys_Live (p0 : Key) (p1 : Int) : Option Bool :=
 (
  if (decide (p0.Start ≤ p1)) then
   some (decide (p1 < p0.End))
  else
   some false).bind fun t6 =>
 some (t6)
def backup_Select.j1 (x8 : (List Key)) : Option (List Key) :=
 some (x8)
def backup_Select.j2 (x26 : (List Key)) (s17 : ((List Key) × Int)) : Option (((List Key) × Int) ⊕ (List Key)) :=
 some (.inl (x26, i64.wrap (s17.2 + 1)))
def backup_Select.l3 (p0 : Table) (p1 : Int) (s17 : ((List Key) × Int)) : Option (((List Key) × Int) ⊕ (List Key)) :=
 if (decide (s17.2 < (p0.Keys.length : Int))) then
  (grd (0 ≤ s17.2 ∧ s17.2 < (p0.Keys.length : Int))).bind fun _ =>
  (keys_Live (rd p0.Keys s17.2) p1).bind fun t34 =>
  if t34 then
   (grd (s17.1.length + ([rd p0.Keys s17.2] : List Key).length < 68719476736)).bind fun _ =>
   backup_Select.j2 (s17.1 ++ ([rd p0.Keys s17.2] : List Key)) s17
  else
   backup_Select.j2 s17.1 s17
 else
  (backup_Select.j1 s17.1).map Sum.inr
def backup_Select (p0 : Table) (p1 : Int) : Option (List Key) :=
 loopF (backup_Select.l3 p0 p1) (([] : (List Key)), 0)
def slices_Index_Key.j1  : Option Int :=
 some ((-1 : Int))
def slices_Index_Key.l2 (p0 : (List Key)) (p1 : Key) (s12 : Int) : Option (Int ⊕ Int) :=
 if (decide (s12 < (p0.length : Int))) then
  (grd (0 ≤ s12 ∧ s12 < (p0.length : Int))).bind fun _ =>
  if (decide (p1 = (rd p0 s12))) then
   some (.inr (s12))
  else
   some (.inl (i64.wrap (s12 + 1)))
 else
  (slices_Index_Key.j1 ).map Sum.inr
def slices_Index_Key (p0 : (List Key)) (p1 : Key) : Option Int :=
 loopF (slices_Index_Key.l2 p0 p1) 0
def slices_Contains_Key (p0 : (List Key)) (p1 : Key) : Option Bool :=
 (slices_Index_Key p0 p1).bind fun t9 =>
 some (decide ((0 : Int) ≤ t9))
def backup_Complete_1 (p0 : Key) (c0_ : Backup) : Option Bool :=
 (slices_Contains_Key c0_.Keys p0).bind fun t9 =>
 some (!t9)
def slices_IndexFunc_Key.j1  : Option Int :=
 some ((-1 : Int))
def slices_IndexFunc_Key.l2 (p0 : (List Key)) (p1 : (Key → Option Bool)) (s8 : Int) : Option (Int ⊕ Int) :=
 if (decide (s8 < (p0.length : Int))) then
  (grd (0 ≤ s8 ∧ s8 < (p0.length : Int))).bind fun _ =>
  (p1 (rd p0 s8)).bind fun t20 =>
  if t20 then
   some (.inr (s8))
  else
   some (.inl (i64.wrap (s8 + 1)))
 else
  (slices_IndexFunc_Key.j1 ).map Sum.inr
def slices_IndexFunc_Key (p0 : (List Key)) (p1 : (Key → Option Bool)) : Option Int :=
 loopF (slices_IndexFunc_Key.l2 p0 p1) 0
def slices_ContainsFunc_Key (p0 : (List Key)) (p1 : (Key → Option Bool)) : Option Bool :=
 (slices_IndexFunc_Key p0 p1).bind fun t5 =>
 some (decide ((0 : Int) ≤ t5))
def backup_Complete (p0 : Backup) (p1 : Table) (p2 : Int) : Option Bool :=
 (backup_Select p1 p2).bind fun t15 =>
 (slices_ContainsFunc_Key t15 (fun x => backup_Complete_1 x p0)).bind fun t23 =>
 some (!t23)
def law36_sanity  : Option Bool :=
 (law36_value (118 : Int)).bind fun t3 =>
 (some (⟨(#v[1, 0, 0, 0, 0, 0, 0, 0, 0, 0, 0, 0, 0, 0, 0, 0] : Vector Int 16), 2, 3, 4, 5, (#v[6, 0, 0, 0, 0, 0, 0, 0, 0, 0, 0, 0, 0, 0, 0, 0] : Vector Int 16), ([109] : List UInt8), ([(⟨3, 1, t3, 8, 0, 9, 2, 0, true⟩ : Key)] : List Key)⟩ : Backup)).bind fun z17 =>
 (law36_value (100 : Int)).bind fun t24 =>
 (backup_Make t24 z17).bind fun t36 =>
 (law36_value (100 : Int)).bind fun t62 =>
 (backup_Open t62 t36.1).bind fun t68 =>
 (backup_Peek t36.1).bind fun t78 =>
 (law36_value (120 : Int)).bind fun t88 =>
 (backup_Open t88 t36.1).bind fun t94 =>
 (backup_Make ([115, 104, 111, 114, 116] : List UInt8) z17).bind fun t104 =>
 (
  if (t36.2 == 0) then
   if (t68.2 == 0) then
    (ref36_Same z17 t68.1).bind fun t202 =>
    if t202 then
     if (t78.2 == 0) then
      (ref36_Same t78.1 ({ z17 with Keys := ([] : (List Key)) } : Backup)).bind fun t210 =>
      if t210 then
       if (t94.2 == 8) then
        if (t104.2 == 1) then
         (backup_Valid z17).bind fun t219 =>
         if t219 then
          (backup_Same z17 t68.1).bind fun t226 =>
          if t226 then
           (backup_Same z17 ({ z17 with Keys := ([] : (List Key)) } : Backup)).bind fun t233 =>
           if (!t233) then
            (backup_Complete z17 (⟨9, ([(⟨3, 1, t3, 8, 0, 9, 2, 0, true⟩ : Key)] : List Key)⟩ : Table) (5 : Int)).bind fun t240 =>
            if t240 then
             (backup_Complete ({ z17 with Keys := ([] : (List Key)) } : Backup) (⟨9, ([(⟨3, 1, t3, 8, 0, 9, 2, 0, true⟩ : Key)] : List Key)⟩ : Table) (5 : Int)).bind fun t247 =>
             if (!t247) then
              (backup_Complete ({ z17 with Keys := ([] : (List Key)) } : Backup) (⟨9, ([(⟨3, 1, t3, 8, 0, 9, 2, 0, true⟩ : Key)] : List Key)⟩ : Table) (9 : Int)).bind fun t254 =>
              if t254 then
               (backup_Select (⟨9, ([(⟨3, 1, t3, 8, 0, 9, 2, 0, true⟩ : Key)] : List Key)⟩ : Table) (5 : Int)).bind fun t261 =>
               if ((t261.length : Int) == 1) then
                (backup_Header z17).bind fun t270 =>
                some (decide ((32 : Int) < (t270.length : Int)))
               else
                some false
              else
               some false
             else
              some false
            else
             some false
           else
            some false
          else
           some false
         else
          some false
        else
         some false
       else
        some false
      else
       some false
     else
      some false
    else
     some false
   else
    some false
  else
   some false).bind fun t120 =>
 some (t120)
def ref36_within (p0 : Int) (p1 : Int) : Option Bool :=
 (
  if (decide ((0 : Int) ≤ p0)) then
   some (decide (p0 ≤ p1))
  else
   some false).bind fun t2 =>
 some (t2)
def ref27_within (p0 : Int) (p1 : Int) (p2 : Int) : Option Bool :=
 (
  if (decide (p1 ≤ p0)) then
   some (decide (p0 ≤ p2))
  else
   some false).bind fun t2 =>
 some (t2)
def ref27_Valid (p0 : Key) : Option Bool :=
 (
  (ref27_within p0.Type_ 0 (31 : Int)).bind fun t9 =>
  if t9 then
   if ((p0.Value.length : Int) == 32) then
    if ((bits .and .i64 p0.Uses 956) == p0.Uses) then
     (ref27_within p0.Start 0 (1099511627776 : Int)).bind fun t18 =>
     if t18 then
      (ref27_within p0.End p0.Start (1099511627776 : Int)).bind fun t25 =>
      if t25 then
       (ref27_within p0.Version 1 (2147483647 : Int)).bind fun t32 =>
       if t32 then
        (ref27_within p0.Parent 0 (2147483647 : Int)).bind fun t39 =>
        some t39
       else
        some false
      else
       some false
     else
      some false
    else
     some false
   else
    some false
  else
   some false).bind fun t6 =>
 some (t6)
def ref36_Valid.j1  : Option Bool :=
 some (true)
def ref36_Valid.l2 (p0 : Backup) (s49 : (Int × Int)) : Option ((Int × Int) ⊕ Bool) :=
 if (decide (s49.2 < (p0.Keys.length : Int))) then
  (grd (0 ≤ s49.2 ∧ s49.2 < (p0.Keys.length : Int))).bind fun _ =>
  (ref27_Valid (rd p0.Keys s49.2)).bind fun t60 =>
  (
   if (!t60) then
    some true
   else
    (grd (0 ≤ s49.2 ∧ s49.2 < (p0.Keys.length : Int))).bind fun _ =>
    if (decide (((rd p0.Keys s49.2).Id) ≤ s49.1)) then
     some true
    else
     (grd (0 ≤ s49.2 ∧ s49.2 < (p0.Keys.length : Int))).bind fun _ =>
     some (decide ((2147483647 : Int) < ((rd p0.Keys s49.2).Id)))).bind fun t67 =>
  if t67 then
   some (.inr (false))
  else
   (grd (0 ≤ s49.2 ∧ s49.2 < (p0.Keys.length : Int))).bind fun _ =>
   some (.inl ((rd p0.Keys s49.2).Id, i64.wrap (s49.2 + 1)))
 else
  (ref36_Valid.j1 ).map Sum.inr
def ref36_Valid (p0 : Backup) : Option Bool :=
 (
  (ref36_within p0.Epoch (2147483647 : Int)).bind fun t12 =>
  if (!t12) then
   some true
  else
   (ref36_within p0.Number (2147483647 : Int)).bind fun t19 =>
   if (!t19) then
    some true
   else
    (ref36_within p0.Firmware (2147483647 : Int)).bind fun t26 =>
    if (!t26) then
     some true
    else
     (ref36_within p0.Time (1099511627776 : Int)).bind fun t33 =>
     if (!t33) then
      some true
     else
      if (decide ((p0.Module.length : Int) < 1)) then
       some true
      else
       if (decide ((12 : Int) < (p0.Module.length : Int))) then
        some true
       else
        some (decide ((4096 : Int) < (p0.Keys.length : Int)))).bind fun t9 =>
 if t9 then
  some (false)
 else
  loopF (ref36_Valid.l2 p0) (0, 0)
def ref01_Int.j1 (x17 : (List Int)) : Option (List Int) :=
 some x17
def ref01_Int.j2 (s23 : ((List Int) × Int)) (x35 : Int) : Option (((List Int) × Int) ⊕ (List Int)) :=
 (grd (s23.1.length + ([x35] : List Int).length < 68719476736)).bind fun _ =>
 some (.inl (s23.1 ++ ([x35] : List Int), i64.wrap (s23.2 - 1)))
def ref01_Int.l3 (x7 : (List Int)) (p0 : Int) (s23 : ((List Int) × Int)) : Option (((List Int) × Int) ⊕ (List Int)) :=
 if (decide ((0 : Int) ≤ s23.2)) then
  (grd (0 ≤ s23.2 ∧ s23.2 < (x7.length : Int))).bind fun _ =>
  if (decide (p0 < 0)) then
   ref01_Int.j2 s23 (u8.wrap (255 - (rd x7 s23.2)))
  else
   ref01_Int.j2 s23 (rd x7 s23.2)
 else
  (ref01_Int.j1 s23.1).map Sum.inr
def ref01_Int.j4 (x7 : (List Int)) (p0 : Int) (x13 : (List Int)) : Option (List Int) :=
 loopF (ref01_Int.l3 x7 p0) (x13, i64.wrap ((x7.length : Int) - 1))
def ref01_Int.j5 (p0 : Int) (x7 : (List Int)) : Option (List Int) :=
 if (decide ((0 : Int) ≤ p0)) then
  (grd (([] : (List Int)).length + ([u8.wrap (i64.wrap (128 + (x7.length : Int)))] : List Int).length < 68719476736)).bind fun _ =>
  ref01_Int.j4 x7 p0 (([] : (List Int)) ++ ([u8.wrap (i64.wrap (128 + (x7.length : Int)))] : List Int))
 else
  (grd (([] : (List Int)).length + ([u8.wrap (i64.wrap (127 - (x7.length : Int)))] : List Int).length < 68719476736)).bind fun _ =>
  ref01_Int.j4 x7 p0 (([] : (List Int)) ++ ([u8.wrap (i64.wrap (127 - (x7.length : Int)))] : List Int))
def ref01_Int.l6 (p0 : Int) (s63 : ((List Int) × Int)) : Option (((List Int) × Int) ⊕ (List Int)) :=
 if (decide ((0 : Int) < s63.2)) then
  (grd (s63.1.length + ([u8.wrap (Int.tmod s63.2 256)] : List Int).length < 68719476736)).bind fun _ =>
  some (.inl (s63.1 ++ ([u8.wrap (Int.tmod s63.2 256)] : List Int), i64.wrap (Int.tdiv s63.2 256)))
 else
  (ref01_Int.j5 p0 s63.1).map Sum.inr
def ref01_Int.j7 (p0 : Int) (x3 : Int) : Option (List Int) :=
 loopF (ref01_Int.l6 p0) (([] : (List Int)), x3)
def ref01_Int (p0 : Int) : Option (List Int) :=
 if (decide (p0 < 0)) then
  ref01_Int.j7 p0 (i64.wrap ((-1 : Int) - p0))
 else
  ref01_Int.j7 p0 p0
def ref01_Bytes (p0 : (List UInt8)) : Option (List Int) :=
 (ref01_Int (p0.length : Int)).bind fun t3 =>
 (grd (t3.length + (bytesI p0).length < 68719476736)).bind fun _ =>
 some (t3 ++ (bytesI p0))
def ref05_Input.j1 (x16 : (List Int)) : Option (List UInt8) :=
 some (intsB x16)
def ref05_Input.l2 (p1 : (List (List UInt8))) (s25 : ((List Int) × Int)) : Option (((List Int) × Int) ⊕ (List UInt8)) :=
 if (decide (s25.2 < (p1.length : Int))) then
  (grd (0 ≤ s25.2 ∧ s25.2 < (p1.length : Int))).bind fun _ =>
  (ref01_Bytes (rd p1 s25.2)).bind fun t36 =>
  (grd (s25.1.length + t36.length < 68719476736)).bind fun _ =>
  some (.inl (s25.1 ++ t36, i64.wrap (s25.2 + 1)))
 else
  (ref05_Input.j1 s25.1).map Sum.inr
def ref05_Input (p0 : (List UInt8)) (p1 : (List (List UInt8))) : Option (List UInt8) :=
 (ref01_Bytes p0).bind fun t6 =>
 (grd (([] : List Int).length + t6.length < 68719476736)).bind fun _ =>
 loopF (ref05_Input.l2 p1) (([] : List Int) ++ t6, 0)
def ref02_padded.j1 (x21 : (List Int)) : Option (List Int) :=
 some (x21)
def ref02_padded.l2 (p0 : (List Int)) (s30 : ((List Int) × Int)) : Option (((List Int) × Int) ⊕ (List Int)) :=
 if (decide (s30.2 < 8)) then
  (grd (¬ (i64.wrap (56 - (i64.wrap (8 * s30.2)))) < 0)).bind fun _ =>
  (grd (s30.1.length + ([u8.wrap (shrI .u64 (u64.wrap (8 * (u64.wrap (p0.length : Int)))) (i64.wrap (56 - (i64.wrap (8 * s30.2)))))] : List Int).length < 68719476736)).bind fun _ =>
  some (.inl (s30.1 ++ ([u8.wrap (shrI .u64 (u64.wrap (8 * (u64.wrap (p0.length : Int)))) (i64.wrap (56 - (i64.wrap (8 * s30.2)))))] : List Int), i64.wrap (s30.2 + 1)))
 else
  (ref02_padded.j1 s30.1).map Sum.inr
def ref02_padded.j3 (p0 : (List Int)) (x16 : (List Int)) : Option (List Int) :=
 loopF (ref02_padded.l2 p0) (x16, 0)
def ref02_padded.l4 (p0 : (List Int)) (s48 : (List Int)) : Option ((List Int) ⊕ (List Int)) :=
 if ((Int.tmod (s48.length : Int) 64) != 56) then
  (grd (s48.length + ([0] : List Int).length < 68719476736)).bind fun _ =>
  some (.inl (s48 ++ ([0] : List Int)))
 else
  (ref02_padded.j3 p0 s48).map Sum.inr
def ref02_padded (p0 : (List Int)) : Option (List Int) :=
 (grd (([] : List Int).length + p0.length < 68719476736)).bind fun _ =>
 (grd ((([] : List Int) ++ p0).length + ([128] : List Int).length < 68719476736)).bind fun _ =>
 loopF (ref02_padded.l4 p0) ((([] : List Int) ++ p0) ++ ([128] : List Int))
def ref02_rotr (p0 : Int) (p1 : Int) : Option Int :=
 (grd (¬ p1 < 0)).bind fun _ =>
 (grd (¬ (i64.wrap (32 - p1)) < 0)).bind fun _ =>
 some (bits .or .u32 (shrI .u32 p0 p1) (shlI .u32 p0 (i64.wrap (32 - p1))))
def ref02_words.j1 (x10 : (Vector Int 64)) : Option (Vector Int 64) :=
 some (x10)
def ref02_words.l2  (s15 : ((Vector Int 64) × Int)) : Option (((Vector Int 64) × Int) ⊕ (Vector Int 64)) :=
 if (decide (s15.2 < 64)) then
  (grd (0 ≤ (i64.wrap (s15.2 - 15)) ∧ (i64.wrap (s15.2 - 15)) < (64 : Int))).bind fun _ =>
  (ref02_rotr (rd s15.1.toList (i64.wrap (s15.2 - 15))) (7 : Int)).bind fun t40 =>
  (grd (0 ≤ (i64.wrap (s15.2 - 15)) ∧ (i64.wrap (s15.2 - 15)) < (64 : Int))).bind fun _ =>
  (ref02_rotr (rd s15.1.toList (i64.wrap (s15.2 - 15))) (18 : Int)).bind fun t61 =>
  (grd (0 ≤ (i64.wrap (s15.2 - 15)) ∧ (i64.wrap (s15.2 - 15)) < (64 : Int))).bind fun _ =>
  (grd (0 ≤ (i64.wrap (s15.2 - 2)) ∧ (i64.wrap (s15.2 - 2)) < (64 : Int))).bind fun _ =>
  (ref02_rotr (rd s15.1.toList (i64.wrap (s15.2 - 2))) (17 : Int)).bind fun t112 =>
  (grd (0 ≤ (i64.wrap (s15.2 - 2)) ∧ (i64.wrap (s15.2 - 2)) < (64 : Int))).bind fun _ =>
  (ref02_rotr (rd s15.1.toList (i64.wrap (s15.2 - 2))) (19 : Int)).bind fun t133 =>
  (grd (0 ≤ (i64.wrap (s15.2 - 2)) ∧ (i64.wrap (s15.2 - 2)) < (64 : Int))).bind fun _ =>
  (grd (0 ≤ (i64.wrap (s15.2 - 16)) ∧ (i64.wrap (s15.2 - 16)) < (64 : Int))).bind fun _ =>
  (grd (0 ≤ (i64.wrap (s15.2 - 7)) ∧ (i64.wrap (s15.2 - 7)) < (64 : Int))).bind fun _ =>
  (grd (0 ≤ s15.2 ∧ s15.2 < (64 : Int))).bind fun _ =>
  (some (vs s15.1 s15.2 (u32.wrap ((u32.wrap ((u32.wrap ((rd s15.1.toList (i64.wrap (s15.2 - 16))) + (bits .xor .u32 (bits .xor .u32 t40 t61) (shrI .u32 (rd s15.1.toList (i64.wrap (s15.2 - 15))) 3)))) + (rd s15.1.toList (i64.wrap (s15.2 - 7))))) + (bits .xor .u32 (bits .xor .u32 t112 t133) (shrI .u32 (rd s15.1.toList (i64.wrap (s15.2 - 2))) (10 : Int))))))).bind fun z216 =>
  some (.inl (z216, i64.wrap (s15.2 + 1)))
 else
  (ref02_words.j1 s15.1).map Sum.inr
def ref02_words.j3 (x7 : (Vector Int 64)) : Option (Vector Int 64) :=
 loopF (ref02_words.l2) (x7, 16)
def ref02_words.l4 (p0 : (List Int)) (s220 : ((Vector Int 64) × Int)) : Option (((Vector Int 64) × Int) ⊕ (Vector Int 64)) :=
 if (decide (s220.2 < 16)) then
  (grd (0 ≤ (i64.wrap (4 * s220.2)) ∧ (i64.wrap (4 * s220.2)) < (p0.length : Int))).bind fun _ =>
  (grd (0 ≤ (i64.wrap ((i64.wrap (4 * s220.2)) + 1)) ∧ (i64.wrap ((i64.wrap (4 * s220.2)) + 1)) < (p0.length : Int))).bind fun _ =>
  (grd (0 ≤ (i64.wrap ((i64.wrap (4 * s220.2)) + 2)) ∧ (i64.wrap ((i64.wrap (4 * s220.2)) + 2)) < (p0.length : Int))).bind fun _ =>
  (grd (0 ≤ (i64.wrap ((i64.wrap (4 * s220.2)) + 3)) ∧ (i64.wrap ((i64.wrap (4 * s220.2)) + 3)) < (p0.length : Int))).bind fun _ =>
  (grd (0 ≤ s220.2 ∧ s220.2 < (64 : Int))).bind fun _ =>
  (some (vs s220.1 s220.2 (bits .or .u32 (bits .or .u32 (bits .or .u32 (shlI .u32 (u32.wrap (rd p0 (i64.wrap (4 * s220.2)))) 24) (shlI .u32 (u32.wrap (rd p0 (i64.wrap ((i64.wrap (4 * s220.2)) + 1)))) 16)) (shlI .u32 (u32.wrap (rd p0 (i64.wrap ((i64.wrap (4 * s220.2)) + 2)))) 8)) (u32.wrap (rd p0 (i64.wrap ((i64.wrap (4 * s220.2)) + (3 : Int)))))))).bind fun z339 =>
  some (.inl (z339, i64.wrap (s220.2 + 1)))
 else
  (ref02_words.j3 s220.1).map Sum.inr
def ref02_words (p0 : (List Int)) : Option (Vector Int 64) :=
 loopF (ref02_words.l4 p0) (replicate 64 0, 0)
def ref02_Sum.j1 (x21 : (Vector Int 32)) : Option (Vector Int 32) :=
 some (x21)
def ref02_Sum.l2 (x16 : (Vector Int 8)) (s26 : ((Vector Int 32) × Int)) : Option (((Vector Int 32) × Int) ⊕ (Vector Int 32)) :=
 if (decide (s26.2 < 32)) then
  (grd (0 ≤ (i64.wrap (Int.tdiv s26.2 4)) ∧ (i64.wrap (Int.tdiv s26.2 4)) < (8 : Int))).bind fun _ =>
  (grd (¬ (i64.wrap (24 - (i64.wrap (8 * (Int.tmod s26.2 4))))) < 0)).bind fun _ =>
  (grd (0 ≤ s26.2 ∧ s26.2 < (32 : Int))).bind fun _ =>
  (some (vs s26.1 s26.2 (u8.wrap (shrI .u32 (rd x16.toList (i64.wrap (Int.tdiv s26.2 4))) (i64.wrap (24 - (i64.wrap (8 * (Int.tmod s26.2 (4 : Int)))))))))).bind fun z38 =>
  some (.inl (z38, i64.wrap (s26.2 + 1)))
 else
  (ref02_Sum.j1 s26.1).map Sum.inr
def ref02_Sum.j3 (x16 : (Vector Int 8)) : Option (Vector Int 32) :=
 loopF (ref02_Sum.l2 x16) (replicate 32 0, 0)
def ref02_Sum.j4 (x50 : (Vector Int 8)) (s42 : ((Vector Int 8) × Int)) : Option (((Vector Int 8) × Int) ⊕ (Vector Int 32)) :=
 some (.inl (x50, i64.wrap (s42.2 + 64)))
def ref02_Sum.l5 (x66 : (Vector Int 8)) (s42 : ((Vector Int 8) × Int)) (s70 : ((Vector Int 8) × Int)) : Option (((Vector Int 8) × Int) ⊕ (((Vector Int 8) × Int) ⊕ (Vector Int 32))) :=
 if (decide (s70.2 < 8)) then
  (grd (0 ≤ s70.2 ∧ s70.2 < (8 : Int))).bind fun _ =>
  (grd (0 ≤ s70.2 ∧ s70.2 < (8 : Int))).bind fun _ =>
  (grd (0 ≤ s70.2 ∧ s70.2 < (8 : Int))).bind fun _ =>
  some (.inl (vs s70.1 s70.2 (u32.wrap ((rd s70.1.toList s70.2) + (rd x66.toList s70.2))), i64.wrap (s70.2 + 1)))
 else
  (ref02_Sum.j4 s70.1 s42).map Sum.inr
def ref02_Sum.j6 (x66 : (Vector Int 8)) (s42 : ((Vector Int 8) × Int)) : Option (((Vector Int 8) × Int) ⊕ (Vector Int 32)) :=
 loopF (ref02_Sum.l5 x66 s42) (s42.1, 0)
def ref02_Sum.l7 (t57 : (Vector Int 64)) (s42 : ((Vector Int 8) × Int)) (s110 : ((Vector Int 8) × Int)) : Option (((Vector Int 8) × Int) ⊕ (((Vector Int 8) × Int) ⊕ (Vector Int 32))) :=
 if (decide (s110.2 < 64)) then
  (ref02_rotr (rd s110.1.toList 4) (6 : Int)).bind fun t133 =>
  (ref02_rotr (rd s110.1.toList 4) (11 : Int)).bind fun t147 =>
  (ref02_rotr (rd s110.1.toList 4) (25 : Int)).bind fun t165 =>
  (grd (0 ≤ s110.2 ∧ s110.2 < (64 : Int))).bind fun _ =>
  (grd (0 ≤ s110.2 ∧ s110.2 < (64 : Int))).bind fun _ =>
  (ref02_rotr (rd s110.1.toList 0) (2 : Int)).bind fun t259 =>
  (ref02_rotr (rd s110.1.toList 0) (13 : Int)).bind fun t273 =>
  (ref02_rotr (rd s110.1.toList 0) (22 : Int)).bind fun t291 =>
  some (.inl ((#v[u32.wrap ((u32.wrap ((u32.wrap ((u32.wrap ((u32.wrap ((rd s110.1.toList 7) + (bits .xor .u32 (bits .xor .u32 t133 t147) t165))) + (bits .xor .u32 (bits .and .u32 (rd s110.1.toList 4) (rd s110.1.toList 5)) (bits .and .u32 (bits .xor .u32 (rd s110.1.toList 4) 4294967295) (rd s110.1.toList 6))))) + (rd ref02_constants.toList s110.2))) + (rd t57.toList s110.2))) + (u32.wrap ((bits .xor .u32 (bits .xor .u32 t259 t273) t291) + (bits .xor .u32 (bits .xor .u32 (bits .and .u32 (rd s110.1.toList 0) (rd s110.1.toList 1)) (bits .and .u32 (rd s110.1.toList 0) (rd s110.1.toList 2))) (bits .and .u32 (rd s110.1.toList 1) (rd s110.1.toList 2)))))), rd s110.1.toList 0, rd s110.1.toList 1, rd s110.1.toList 2, u32.wrap ((rd s110.1.toList 3) + (u32.wrap ((u32.wrap ((u32.wrap ((u32.wrap ((rd s110.1.toList 7) + (bits .xor .u32 (bits .xor .u32 t133 t147) t165))) + (bits .xor .u32 (bits .and .u32 (rd s110.1.toList 4) (rd s110.1.toList 5)) (bits .and .u32 (bits .xor .u32 (rd s110.1.toList 4) 4294967295) (rd s110.1.toList 6))))) + (rd ref02_constants.toList s110.2))) + (rd t57.toList s110.2)))), rd s110.1.toList 4, rd s110.1.toList 5, rd s110.1.toList 6] : Vector Int 8), i64.wrap (s110.2 + 1)))
 else
  (ref02_Sum.j6 s110.1 s42).map Sum.inr
def ref02_Sum.l8 (t8 : (List Int)) (s42 : ((Vector Int 8) × Int)) : Option (((Vector Int 8) × Int) ⊕ (Vector Int 32)) :=
 if (decide (s42.2 < (t8.length : Int))) then
  (grd (0 ≤ s42.2 ∧ s42.2 ≤ (i64.wrap (s42.2 + 64)) ∧ (i64.wrap (s42.2 + 64)) ≤ (t8.length : Int))).bind fun _ =>
  (ref02_words ((t8.take (i64.wrap (s42.2 + (64 : Int))).toNat).drop (s42.2).toNat)).bind fun t57 =>
  loopF (ref02_Sum.l7 t57 s42) (s42.1, 0)
 else
  (ref02_Sum.j3 s42.1).map Sum.inr
def ref02_Sum (p0 : (List Int)) : Option (Vector Int 32) :=
 (ref02_padded p0).bind fun t8 =>
 loopF (ref02_Sum.l8 t8) ((#v[1779033703, 3144134277, 1013904242, 2773480762, 1359893119, 2600822924, 528734635, 1541459225] : Vector Int 8), 0)
def ref02_Bytes32.j1 (x7 : (List Int)) : Option (List UInt8) :=
 some (intsB x7)
def ref02_Bytes32.l2 (p0 : (Vector Int 32)) (s16 : ((List Int) × Int)) : Option (((List Int) × Int) ⊕ (List UInt8)) :=
 if (decide (s16.2 < 32)) then
  (grd (0 ≤ s16.2 ∧ s16.2 < (32 : Int))).bind fun _ =>
  (grd (s16.1.length + ([rd p0.toList s16.2] : List Int).length < 68719476736)).bind fun _ =>
  some (.inl (s16.1 ++ ([rd p0.toList s16.2] : List Int), i64.wrap (s16.2 + 1)))
 else
  (ref02_Bytes32.j1 s16.1).map Sum.inr
def ref02_Bytes32 (p0 : (Vector Int 32)) : Option (List UInt8) :=
 loopF (ref02_Bytes32.l2 p0) (([] : (List Int)), 0)
def ref02_padKey.j1 (x7 : (List Int)) : Option (List Int) :=
 some x7
def ref02_padKey.j2 (s13 : ((List Int) × Int)) (x24 : Int) (p1 : Int) : Option (((List Int) × Int) ⊕ (List Int)) :=
 (grd (s13.1.length + ([bits .xor .u8 x24 p1] : List Int).length < 68719476736)).bind fun _ =>
 some (.inl (s13.1 ++ ([bits .xor .u8 x24 p1] : List Int), i64.wrap (s13.2 + 1)))
def ref02_padKey.l3 (x3 : (List UInt8)) (p1 : Int) (s13 : ((List Int) × Int)) : Option (((List Int) × Int) ⊕ (List Int)) :=
 if (decide (s13.2 < 64)) then
  if (decide (s13.2 < (x3.length : Int))) then
   (grd (0 ≤ s13.2 ∧ s13.2 < (x3.length : Int))).bind fun _ =>
   ref02_padKey.j2 s13 (sbyte x3 s13.2) p1
  else
   ref02_padKey.j2 s13 0 p1
 else
  (ref02_padKey.j1 s13.1).map Sum.inr
def ref02_padKey.j4 (x3 : (List UInt8)) (p1 : Int) : Option (List Int) :=
 loopF (ref02_padKey.l3 x3 p1) (([] : (List Int)), 0)
def ref02_padKey (p0 : (List UInt8)) (p1 : Int) : Option (List Int) :=
 if (decide ((64 : Int) < (p0.length : Int))) then
  (ref02_Sum (bytesI p0)).bind fun t43 =>
  (ref02_Bytes32 t43).bind fun t49 =>
  ref02_padKey.j4 t49 p1
 else
  ref02_padKey.j4 p0 p1
def ref02_Mac (p0 : (List UInt8)) (p1 : (List UInt8)) : Option (List UInt8) :=
 (ref02_padKey p0 (54 : Int)).bind fun t3 =>
 (grd (t3.length + (bytesI p1).length < 68719476736)).bind fun _ =>
 (ref02_padKey p0 (92 : Int)).bind fun t12 =>
 (ref02_Sum (t3 ++ (bytesI p1))).bind fun t21 =>
 (ref02_Bytes32 t21).bind fun t27 =>
 (grd (t12.length + (bytesI t27).length < 68719476736)).bind fun _ =>
 (ref02_Sum (t12 ++ (bytesI t27))).bind fun t39 =>
 (ref02_Bytes32 t39).bind fun t45 =>
 some (t45)
def ref05_Derive (p0 : (List UInt8)) (p1 : (List UInt8)) (p2 : (List (List UInt8))) : Option (List UInt8) :=
 (ref05_Input p1 p2).bind fun t5 =>
 (ref02_Mac p0 t5).bind fun t11 =>
 some (t11)
def ref04_Keys (p0 : (List UInt8)) : Option ((List UInt8) × (List UInt8) × Int) :=
 if ((p0.length : Int) != 32) then
  some ((([] : List UInt8), ([] : List UInt8), 1))
 else
  (ref02_Mac p0 ([101, 110, 99] : List UInt8)).bind fun t7 =>
  (ref02_Mac p0 ([109, 97, 99] : List UInt8)).bind fun t13 =>
  some ((t7, t13, 0))
def ref04_nonce (p0 : (List UInt8)) (p1 : (List UInt8)) (p2 : (List UInt8)) : Option (List UInt8) :=
 (ref01_Bytes p1).bind fun t3 =>
 (grd (([110, 111, 110, 99, 101] : List UInt8).length + (intsB t3).length ≤ 9223372036854775807)).bind fun _ =>
 (grd ((([110, 111, 110, 99, 101] : List UInt8) ++ (intsB t3)).length + p2.length ≤ 9223372036854775807)).bind fun _ =>
 (ref02_Mac p0 ((([110, 111, 110, 99, 101] : List UInt8) ++ (intsB t3)) ++ p2)).bind fun t13 =>
 (grd (0 ≤ (0 : Int) ∧ (0 : Int) ≤ 12 ∧ (12 : Int) ≤ (t13.length : Int))).bind fun _ =>
 some ((t13.take ((12 : Int)).toNat).drop ((0 : Int)).toNat)
def ref03_word (p0 : (List UInt8)) : Option Int :=
 (grd (0 ≤ (0 : Int) ∧ (0 : Int) < (p0.length : Int))).bind fun _ =>
 (grd (0 ≤ (1 : Int) ∧ (1 : Int) < (p0.length : Int))).bind fun _ =>
 (grd (0 ≤ (2 : Int) ∧ (2 : Int) < (p0.length : Int))).bind fun _ =>
 (grd (0 ≤ (3 : Int) ∧ (3 : Int) < (p0.length : Int))).bind fun _ =>
 some (u32.wrap ((u32.wrap ((u32.wrap ((u32.wrap (sbyte p0 0)) + (shlI .u32 (u32.wrap (sbyte p0 1)) 8))) + (shlI .u32 (u32.wrap (sbyte p0 2)) 16))) + (shlI .u32 (u32.wrap (sbyte p0 3)) 24)))
def ref03_State.j1 (x23 : (Vector Int 16)) : Option ((Vector Int 16) × Int) :=
 some ((x23, 0))
def ref03_State.l2 (p2 : (List UInt8)) (s28 : ((Vector Int 16) × Int)) : Option (((Vector Int 16) × Int) ⊕ ((Vector Int 16) × Int)) :=
 if (decide (s28.2 < 3)) then
  (grd (0 ≤ (i64.wrap (4 * s28.2)) ∧ (i64.wrap (4 * s28.2)) ≤ (p2.length : Int) ∧ (p2.length : Int) ≤ (p2.length : Int))).bind fun _ =>
  (ref03_word ((p2.take ((p2.length : Int)).toNat).drop (i64.wrap (4 * s28.2)).toNat)).bind fun t38 =>
  (grd (0 ≤ (i64.wrap (13 + s28.2)) ∧ (i64.wrap (13 + s28.2)) < (16 : Int))).bind fun _ =>
  some (.inl (vs s28.1 (i64.wrap (13 + s28.2)) t38, i64.wrap (s28.2 + 1)))
 else
  (ref03_State.j1 s28.1).map Sum.inr
def ref03_State.j3 (p2 : (List UInt8)) (x19 : (Vector Int 16)) (p1 : Int) : Option ((Vector Int 16) × Int) :=
 loopF (ref03_State.l2 p2) (vs x19 12 p1, 0)
def ref03_State.l4 (p0 : (List UInt8)) (p2 : (List UInt8)) (p1 : Int) (s46 : ((Vector Int 16) × Int)) : Option (((Vector Int 16) × Int) ⊕ ((Vector Int 16) × Int)) :=
 if (decide (s46.2 < 8)) then
  (grd (0 ≤ (i64.wrap (4 * s46.2)) ∧ (i64.wrap (4 * s46.2)) ≤ (p0.length : Int) ∧ (p0.length : Int) ≤ (p0.length : Int))).bind fun _ =>
  (ref03_word ((p0.take ((p0.length : Int)).toNat).drop (i64.wrap (4 * s46.2)).toNat)).bind fun t56 =>
  (grd (0 ≤ (i64.wrap (4 + s46.2)) ∧ (i64.wrap (4 + s46.2)) < (16 : Int))).bind fun _ =>
  some (.inl (vs s46.1 (i64.wrap (4 + s46.2)) t56, i64.wrap (s46.2 + 1)))
 else
  (ref03_State.j3 p2 s46.1 p1).map Sum.inr
def ref03_State (p0 : (List UInt8)) (p1 : Int) (p2 : (List UInt8)) : Option ((Vector Int 16) × Int) :=
 (
  if ((p0.length : Int) != 32) then
   some true
  else
   some ((p2.length : Int) != (12 : Int))).bind fun t6 =>
 if t6 then
  some ((replicate 16 0, 1))
 else
  (some (vs (vs (vs (vs (replicate 16 0) 0 1634760805) 1 857760878) 2 2036477234) 3 (1797285236 : Int))).bind fun z16 =>
  loopF (ref03_State.l4 p0 p2 p1) (z16, 0)
def ref03_Order  : Option (List (List Int)) :=
 some (([([0, 4, 8, 12] : List Int), ([1, 5, 9, 13] : List Int), ([2, 6, 10, 14] : List Int), ([3, 7, 11, 15] : List Int), ([0, 5, 10, 15] : List Int), ([1, 6, 11, 12] : List Int), ([2, 7, 8, 13] : List Int), ([3, 4, 9, 14] : List Int)] : (List (List Int))))
def ref03_rotl (p0 : Int) (p1 : Int) : Option Int :=
 (grd (¬ p1 < 0)).bind fun _ =>
 (grd (¬ (i64.wrap (32 - p1)) < 0)).bind fun _ =>
 some (bits .or .u32 (shlI .u32 p0 p1) (shrI .u32 p0 (i64.wrap (32 - p1))))
def ref03_quarter (p0 : (Vector Int 16)) (p1 : Int) (p2 : Int) (p3 : Int) (p4 : Int) : Option (Vector Int 16) :=
 (grd (0 ≤ p1 ∧ p1 < (16 : Int))).bind fun _ =>
 (grd (0 ≤ p2 ∧ p2 < (16 : Int))).bind fun _ =>
 (grd (0 ≤ p1 ∧ p1 < (16 : Int))).bind fun _ =>
 (grd (0 ≤ p4 ∧ p4 < (16 : Int))).bind fun _ =>
 (grd (0 ≤ p1 ∧ p1 < (16 : Int))).bind fun _ =>
 (ref03_rotl (bits .xor .u32 (rd (vs p0 p1 (u32.wrap ((rd p0.toList p1) + (rd p0.toList p2)))).toList p4) (rd (vs p0 p1 (u32.wrap ((rd p0.toList p1) + (rd p0.toList p2)))).toList p1)) (16 : Int)).bind fun t64 =>
 (grd (0 ≤ p4 ∧ p4 < (16 : Int))).bind fun _ =>
 (grd (0 ≤ p3 ∧ p3 < (16 : Int))).bind fun _ =>
 (grd (0 ≤ p4 ∧ p4 < (16 : Int))).bind fun _ =>
 (grd (0 ≤ p3 ∧ p3 < (16 : Int))).bind fun _ =>
 (some (vs (vs (vs p0 p1 (u32.wrap ((rd p0.toList p1) + (rd p0.toList p2)))) p4 t64) p3 (u32.wrap ((rd (vs (vs p0 p1 (u32.wrap ((rd p0.toList p1) + (rd p0.toList p2)))) p4 t64).toList p3) + (rd (vs (vs p0 p1 (u32.wrap ((rd p0.toList p1) + (rd p0.toList p2)))) p4 t64).toList p4))))).bind fun z106 =>
 (grd (0 ≤ p2 ∧ p2 < (16 : Int))).bind fun _ =>
 (grd (0 ≤ p3 ∧ p3 < (16 : Int))).bind fun _ =>
 (ref03_rotl (bits .xor .u32 (rd z106.toList p2) (rd z106.toList p3)) (12 : Int)).bind fun t138 =>
 (grd (0 ≤ p2 ∧ p2 < (16 : Int))).bind fun _ =>
 (grd (0 ≤ p1 ∧ p1 < (16 : Int))).bind fun _ =>
 (grd (0 ≤ p2 ∧ p2 < (16 : Int))).bind fun _ =>
 (grd (0 ≤ p1 ∧ p1 < (16 : Int))).bind fun _ =>
 (grd (0 ≤ p4 ∧ p4 < (16 : Int))).bind fun _ =>
 (grd (0 ≤ p1 ∧ p1 < (16 : Int))).bind fun _ =>
 (ref03_rotl (bits .xor .u32 (rd (vs (vs z106 p2 t138) p1 (u32.wrap ((rd (vs z106 p2 t138).toList p1) + (rd (vs z106 p2 t138).toList p2)))).toList p4) (rd (vs (vs z106 p2 t138) p1 (u32.wrap ((rd (vs z106 p2 t138).toList p1) + (rd (vs z106 p2 t138).toList p2)))).toList p1)) (8 : Int)).bind fun t209 =>
 (grd (0 ≤ p4 ∧ p4 < (16 : Int))).bind fun _ =>
 (grd (0 ≤ p3 ∧ p3 < (16 : Int))).bind fun _ =>
 (grd (0 ≤ p4 ∧ p4 < (16 : Int))).bind fun _ =>
 (grd (0 ≤ p3 ∧ p3 < (16 : Int))).bind fun _ =>
 (some (vs (vs (vs (vs z106 p2 t138) p1 (u32.wrap ((rd (vs z106 p2 t138).toList p1) + (rd (vs z106 p2 t138).toList p2)))) p4 t209) p3 (u32.wrap ((rd (vs (vs (vs z106 p2 t138) p1 (u32.wrap ((rd (vs z106 p2 t138).toList p1) + (rd (vs z106 p2 t138).toList p2)))) p4 t209).toList p3) + (rd (vs (vs (vs z106 p2 t138) p1 (u32.wrap ((rd (vs z106 p2 t138).toList p1) + (rd (vs z106 p2 t138).toList p2)))) p4 t209).toList p4))))).bind fun z251 =>
 (grd (0 ≤ p2 ∧ p2 < (16 : Int))).bind fun _ =>
 (grd (0 ≤ p3 ∧ p3 < (16 : Int))).bind fun _ =>
 (ref03_rotl (bits .xor .u32 (rd z251.toList p2) (rd z251.toList p3)) (7 : Int)).bind fun t283 =>
 (grd (0 ≤ p2 ∧ p2 < (16 : Int))).bind fun _ =>
 some (vs z251 p2 t283)
def ref03_Rounds.j1 (x13 : (Vector Int 16)) : Option (Vector Int 16) :=
 some (x13)
def ref03_Rounds.j2 (x26 : (Vector Int 16)) (s18 : ((Vector Int 16) × Int)) : Option (((Vector Int 16) × Int) ⊕ (Vector Int 16)) :=
 some (.inl (x26, i64.wrap (s18.2 + 1)))
def ref03_Rounds.l3 (t5 : (List (List Int))) (s18 : ((Vector Int 16) × Int)) (s30 : ((Vector Int 16) × Int)) : Option (((Vector Int 16) × Int) ⊕ (((Vector Int 16) × Int) ⊕ (Vector Int 16))) :=
 if (decide (s30.2 < (t5.length : Int))) then
  (grd (0 ≤ s30.2 ∧ s30.2 < (t5.length : Int))).bind fun _ =>
  (grd (0 ≤ (0 : Int) ∧ (0 : Int) < ((rd t5 s30.2).length : Int))).bind fun _ =>
  (grd (0 ≤ s30.2 ∧ s30.2 < (t5.length : Int))).bind fun _ =>
  (grd (0 ≤ (1 : Int) ∧ (1 : Int) < ((rd t5 s30.2).length : Int))).bind fun _ =>
  (grd (0 ≤ s30.2 ∧ s30.2 < (t5.length : Int))).bind fun _ =>
  (grd (0 ≤ (2 : Int) ∧ (2 : Int) < ((rd t5 s30.2).length : Int))).bind fun _ =>
  (grd (0 ≤ s30.2 ∧ s30.2 < (t5.length : Int))).bind fun _ =>
  (grd (0 ≤ (3 : Int) ∧ (3 : Int) < ((rd t5 s30.2).length : Int))).bind fun _ =>
  (ref03_quarter s30.1 (rd (rd t5 s30.2) 0) (rd (rd t5 s30.2) 1) (rd (rd t5 s30.2) 2) (rd (rd t5 s30.2) (3 : Int))).bind fun t149 =>
  some (.inl (t149, i64.wrap (s30.2 + 1)))
 else
  (ref03_Rounds.j2 s30.1 s18).map Sum.inr
def ref03_Rounds.l4 (t5 : (List (List Int))) (s18 : ((Vector Int 16) × Int)) : Option (((Vector Int 16) × Int) ⊕ (Vector Int 16)) :=
 if (decide (s18.2 < 10)) then
  loopF (ref03_Rounds.l3 t5 s18) (s18.1, 0)
 else
  (ref03_Rounds.j1 s18.1).map Sum.inr
def ref03_Rounds (p0 : (Vector Int 16)) : Option (Vector Int 16) :=
 (ref03_Order).bind fun t5 =>
 loopF (ref03_Rounds.l4 t5) (p0, 0)
def ref03_Block.j1 (x23 : (List Int)) : Option ((List UInt8) × Int) :=
 some ((intsB x23, 0))
def ref03_Block.l2 (t3 : ((Vector Int 16) × Int)) (t15 : (Vector Int 16)) (s32 : ((List Int) × Int)) : Option (((List Int) × Int) ⊕ ((List UInt8) × Int)) :=
 if (decide (s32.2 < 16)) then
  (grd (0 ≤ s32.2 ∧ s32.2 < (16 : Int))).bind fun _ =>
  (grd (0 ≤ s32.2 ∧ s32.2 < (16 : Int))).bind fun _ =>
  (grd (s32.1.length + ([u8.wrap (u32.wrap ((rd t3.1.toList s32.2) + (rd t15.toList s32.2))), u8.wrap (shrI .u32 (u32.wrap ((rd t3.1.toList s32.2) + (rd t15.toList s32.2))) 8), u8.wrap (shrI .u32 (u32.wrap ((rd t3.1.toList s32.2) + (rd t15.toList s32.2))) 16), u8.wrap (shrI .u32 (u32.wrap ((rd t3.1.toList s32.2) + (rd t15.toList s32.2))) 24)] : List Int).length < 68719476736)).bind fun _ =>
  some (.inl (s32.1 ++ ([u8.wrap (u32.wrap ((rd t3.1.toList s32.2) + (rd t15.toList s32.2))), u8.wrap (shrI .u32 (u32.wrap ((rd t3.1.toList s32.2) + (rd t15.toList s32.2))) 8), u8.wrap (shrI .u32 (u32.wrap ((rd t3.1.toList s32.2) + (rd t15.toList s32.2))) 16), u8.wrap (shrI .u32 (u32.wrap ((rd t3.1.toList s32.2) + (rd t15.toList s32.2))) 24)] : List Int), i64.wrap (s32.2 + 1)))
 else
  (ref03_Block.j1 s32.1).map Sum.inr
def ref03_Block (p0 : (List UInt8)) (p1 : Int) (p2 : (List UInt8)) : Option ((List UInt8) × Int) :=
 (ref03_State p0 p1 p2).bind fun t3 =>
 if (t3.2 != 0) then
  some ((([] : List UInt8), t3.2))
 else
  (ref03_Rounds t3.1).bind fun t15 =>
  loopF (ref03_Block.l2 t3 t15) (([] : (List Int)), 0)
def ref03_Xor.j1 (x15 : (List Int)) : Option ((List UInt8) × Int) :=
 some ((intsB x15, 0))
def ref03_Xor.j2 (s23 : ((List Int) × Int × (List UInt8))) (x40 : (List Int)) : Option (((List Int) × Int × (List UInt8)) ⊕ ((List UInt8) × Int)) :=
 (grd (0 ≤ (if (s23.2.2.length : Int) < 64 then (s23.2.2.length : Int) else 64) ∧ (if (s23.2.2.length : Int) < 64 then (s23.2.2.length : Int) else 64) ≤ (s23.2.2.length : Int) ∧ (s23.2.2.length : Int) ≤ (s23.2.2.length : Int))).bind fun _ =>
 some (.inl (x40, u32.wrap (s23.2.1 + 1), (s23.2.2.take ((s23.2.2.length : Int)).toNat).drop ((if (s23.2.2.length : Int) < 64 then (s23.2.2.length : Int) else (64 : Int))).toNat))
def ref03_Xor.l3 (s23 : ((List Int) × Int × (List UInt8))) (t33 : ((List UInt8) × Int)) (s47 : ((List Int) × Int)) : Option (((List Int) × Int) ⊕ (((List Int) × Int × (List UInt8)) ⊕ ((List UInt8) × Int))) :=
 if (decide (s47.2 < (if (s23.2.2.length : Int) < 64 then (s23.2.2.length : Int) else 64))) then
  (grd (0 ≤ s47.2 ∧ s47.2 < (s23.2.2.length : Int))).bind fun _ =>
  (grd (0 ≤ s47.2 ∧ s47.2 < (t33.1.length : Int))).bind fun _ =>
  (grd (s47.1.length + ([bits .xor .u8 (sbyte s23.2.2 s47.2) (sbyte t33.1 s47.2)] : List Int).length < 68719476736)).bind fun _ =>
  some (.inl (s47.1 ++ ([bits .xor .u8 (sbyte s23.2.2 s47.2) (sbyte t33.1 s47.2)] : List Int), i64.wrap (s47.2 + 1)))
 else
  (ref03_Xor.j2 s23 s47.1).map Sum.inr
def ref03_Xor.l4 (p0 : (List UInt8)) (p2 : (List UInt8)) (s23 : ((List Int) × Int × (List UInt8))) : Option (((List Int) × Int × (List UInt8)) ⊕ ((List UInt8) × Int)) :=
 if (decide ((0 : Int) < (s23.2.2.length : Int))) then
  (ref03_Block p0 s23.2.1 p2).bind fun t33 =>
  loopF (ref03_Xor.l3 s23 t33) (s23.1, 0)
 else
  (ref03_Xor.j1 s23.1).map Sum.inr
def ref03_Xor (p0 : (List UInt8)) (p1 : Int) (p2 : (List UInt8)) (p3 : (List UInt8)) : Option ((List UInt8) × Int) :=
 (ref03_State p0 p1 p2).bind fun t3 =>
 if (t3.2 != 0) then
  some ((([] : List UInt8), t3.2))
 else
  loopF (ref03_Xor.l4 p0 p2) (([] : (List Int)), p1, p3)
def ref04_tag (p0 : (List UInt8)) (p1 : (List UInt8)) (p2 : (List UInt8)) (p3 : (List UInt8)) : Option (List UInt8) :=
 (grd (([116, 97, 103] : List UInt8).length + p1.length ≤ 9223372036854775807)).bind fun _ =>
 (ref01_Bytes p2).bind fun t4 =>
 (grd ((([116, 97, 103] : List UInt8) ++ p1).length + (intsB t4).length ≤ 9223372036854775807)).bind fun _ =>
 (grd (((([116, 97, 103] : List UInt8) ++ p1) ++ (intsB t4)).length + p3.length ≤ 9223372036854775807)).bind fun _ =>
 (ref02_Mac p0 (((([116, 97, 103] : List UInt8) ++ p1) ++ (intsB t4)) ++ p3)).bind fun t14 =>
 (grd (0 ≤ (0 : Int) ∧ (0 : Int) ≤ 16 ∧ (16 : Int) ≤ (t14.length : Int))).bind fun _ =>
 some ((t14.take ((16 : Int)).toNat).drop ((0 : Int)).toNat)
def ref01_Same.j1  : Option Bool :=
 some (true)
def ref01_Same.l2 (p0 : (List Int)) (p1 : (List Int)) (s14 : Int) : Option (Int ⊕ Bool) :=
 if (decide (s14 < (p0.length : Int))) then
  (grd (0 ≤ s14 ∧ s14 < (p0.length : Int))).bind fun _ =>
  (grd (0 ≤ s14 ∧ s14 < (p1.length : Int))).bind fun _ =>
  if ((rd p0 s14) != (rd p1 s14)) then
   some (.inr (false))
  else
   some (.inl (i64.wrap (s14 + 1)))
 else
  (ref01_Same.j1 ).map Sum.inr
def ref01_Same (p0 : (List Int)) (p1 : (List Int)) : Option Bool :=
 if ((p0.length : Int) != (p1.length : Int)) then
  some (false)
 else
  loopF (ref01_Same.l2 p0 p1) 0
def ref01_GetInt.j1 (x30 : Int) (x18 : Int) (p0 : (List Int)) : Option (Int × Int × Int) :=
 (ref01_Int x30).bind fun t40 =>
 (grd (0 ≤ (0 : Int) ∧ (0 : Int) ≤ (i64.wrap (x18 + 1)) ∧ (i64.wrap (x18 + 1)) ≤ (p0.length : Int))).bind fun _ =>
 (ref01_Same t40 ((p0.take (i64.wrap (x18 + (1 : Int))).toNat).drop ((0 : Int)).toNat)).bind fun t71 =>
 if (!t71) then
  some ((0, 0, 6))
 else
  some ((x30, i64.wrap (x18 + 1), 0))
def ref01_GetInt.j2 (p0 : (List Int)) (x26 : Int) (x18 : Int) : Option (Int × Int × Int) :=
 if (decide ((i64.wrap (rd p0 0)) < 128)) then
  ref01_GetInt.j1 (i64.wrap ((-1 : Int) - x26)) x18 p0
 else
  ref01_GetInt.j1 x26 x18 p0
def ref01_GetInt.j3 (s89 : (Int × Int)) (x100 : Int) : Option ((Int × Int) ⊕ (Int × Int × Int)) :=
 if (decide ((36028797018963967 : Int) < s89.1)) then
  some (.inr ((0, 0, 6)))
 else
  some (.inl (i64.wrap ((i64.wrap (256 * s89.1)) + x100), i64.wrap (s89.2 + 1)))
def ref01_GetInt.l4 (x18 : Int) (p0 : (List Int)) (s89 : (Int × Int)) : Option ((Int × Int) ⊕ (Int × Int × Int)) :=
 if (decide (s89.2 ≤ x18)) then
  (grd (0 ≤ s89.2 ∧ s89.2 < (p0.length : Int))).bind fun _ =>
  if (decide ((i64.wrap (rd p0 0)) < 128)) then
   ref01_GetInt.j3 s89 (i64.wrap (255 - (i64.wrap (rd p0 s89.2))))
  else
   ref01_GetInt.j3 s89 (i64.wrap (rd p0 s89.2))
 else
  (ref01_GetInt.j2 p0 s89.1 x18).map Sum.inr
def ref01_GetInt.j5 (p0 : (List Int)) (x18 : Int) : Option (Int × Int × Int) :=
 if (decide ((p0.length : Int) < (i64.wrap (x18 + 1)))) then
  some ((0, 0, 5))
 else
  loopF (ref01_GetInt.l4 x18 p0) (0, 1)
def ref01_GetInt (p0 : (List Int)) : Option (Int × Int × Int) :=
 if ((p0.length : Int) == 0) then
  some ((0, 0, 5))
 else
  (grd (0 ≤ (0 : Int) ∧ (0 : Int) < (p0.length : Int))).bind fun _ =>
  (
   if (decide ((i64.wrap (rd p0 0)) < 119)) then
    some true
   else
    some (decide ((136 : Int) < (i64.wrap (rd p0 0))))).bind fun t11 =>
  if t11 then
   some ((0, 0, 6))
  else
   if (decide ((i64.wrap (rd p0 0)) < 128)) then
    ref01_GetInt.j5 p0 (i64.wrap (127 - (i64.wrap (rd p0 0))))
   else
    ref01_GetInt.j5 p0 (i64.wrap ((i64.wrap (rd p0 0)) - 128))
def ref01_count (p0 : (List Int)) (p1 : Int) : Option (Int × Int × Int) :=
 (ref01_GetInt p0).bind fun t5 =>
 if (t5.2.2 != 0) then
  some ((0, 0, t5.2.2))
 else
  if (decide (t5.1 < 0)) then
   some ((0, 0, 6))
  else
   (
    if (decide ((p0.length : Int) < t5.1)) then
     some true
    else
     some (decide ((i64.wrap ((p0.length : Int) - t5.2.1)) < (i64.wrap (t5.1 * p1))))).bind fun t20 =>
   if t20 then
    some ((0, 0, 5))
   else
    some ((t5.1, t5.2.1, 0))
def ref01_GetBytes (p0 : (List Int)) : Option ((List UInt8) × Int × Int) :=
 (ref01_count p0 (1 : Int)).bind fun t5 =>
 if (t5.2.2 != 0) then
  some ((([] : List UInt8), 0, t5.2.2))
 else
  (grd (0 ≤ t5.2.1 ∧ t5.2.1 ≤ (i64.wrap (t5.2.1 + t5.1)) ∧ (i64.wrap (t5.2.1 + t5.1)) ≤ (p0.length : Int))).bind fun _ =>
  some ((intsB ((p0.take (i64.wrap (t5.2.1 + t5.1)).toNat).drop (t5.2.1).toNat), i64.wrap (t5.2.1 + t5.1), 0))
def ref01_GetInts.j1 (x16 : (List Int)) (x18 : Int) : Option ((List Int) × Int × Int) :=
 some ((x16, x18, 0))
def ref01_GetInts.l2 (t5 : (Int × Int × Int)) (p0 : (List Int)) (s26 : ((List Int) × Int × Int)) : Option (((List Int) × Int × Int) ⊕ ((List Int) × Int × Int)) :=
 if (decide (s26.2.2 < t5.1)) then
  (grd (0 ≤ s26.2.1 ∧ s26.2.1 ≤ (p0.length : Int) ∧ (p0.length : Int) ≤ (p0.length : Int))).bind fun _ =>
  (ref01_GetInt ((p0.take ((p0.length : Int)).toNat).drop (s26.2.1).toNat)).bind fun t40 =>
  if (t40.2.2 != 0) then
   some (.inr ((([] : (List Int)), 0, t40.2.2)))
  else
   (grd (s26.1.length + ([t40.1] : List Int).length < 68719476736)).bind fun _ =>
   some (.inl (s26.1 ++ ([t40.1] : List Int), i64.wrap (s26.2.1 + t40.2.1), i64.wrap (s26.2.2 + 1)))
 else
  (ref01_GetInts.j1 s26.1 s26.2.1).map Sum.inr
def ref01_GetInts (p0 : (List Int)) : Option ((List Int) × Int × Int) :=
 (ref01_count p0 (1 : Int)).bind fun t5 =>
 if (t5.2.2 != 0) then
  some ((([] : (List Int)), 0, t5.2.2))
 else
  loopF (ref01_GetInts.l2 t5 p0) (([] : (List Int)), t5.2.1, 0)
def ref36_digest.j1 (x5 : (Vector Int 16)) : Option (Vector Int 16) :=
 some (x5)
def ref36_digest.l2 (p0 : (List UInt8)) (s10 : ((Vector Int 16) × Int)) : Option (((Vector Int 16) × Int) ⊕ (Vector Int 16)) :=
 if (decide (s10.2 < 16)) then
  (grd (0 ≤ s10.2 ∧ s10.2 < (p0.length : Int))).bind fun _ =>
  (grd (0 ≤ s10.2 ∧ s10.2 < (16 : Int))).bind fun _ =>
  some (.inl (vs s10.1 s10.2 (sbyte p0 s10.2), i64.wrap (s10.2 + 1)))
 else
  (ref36_digest.j1 s10.1).map Sum.inr
def ref36_digest (p0 : (List UInt8)) : Option (Vector Int 16) :=
 loopF (ref36_digest.l2 p0) (replicate 16 0, 0)
def ref36_Peek (p0 : (List UInt8)) : Option (Backup × Int) :=
 (ref01_GetBytes (bytesI p0)).bind fun t8 =>
 if (t8.2.2 != 0) then
  (some (⟨replicate 16 0, 0, 0, 0, 0, replicate 16 0, [], []⟩ : Backup)).bind fun z18 =>
  some ((z18, t8.2.2))
 else
  if (decide ((t8.1.length : Int) < 16)) then
   (some (⟨replicate 16 0, 0, 0, 0, 0, replicate 16 0, [], []⟩ : Backup)).bind fun z26 =>
   some ((z26, 5))
  else
   (grd (0 ≤ (16 : Int) ∧ (16 : Int) ≤ (t8.1.length : Int) ∧ (t8.1.length : Int) ≤ (t8.1.length : Int))).bind fun _ =>
   (ref01_GetInts (bytesI ((t8.1.take ((t8.1.length : Int)).toNat).drop ((16 : Int)).toNat))).bind fun t36 =>
   if (t36.2.2 != 0) then
    (some (⟨replicate 16 0, 0, 0, 0, 0, replicate 16 0, [], []⟩ : Backup)).bind fun z48 =>
    some ((z48, t36.2.2))
   else
    if ((t36.1.length : Int) != 4) then
     (some (⟨replicate 16 0, 0, 0, 0, 0, replicate 16 0, [], []⟩ : Backup)).bind fun z56 =>
     some ((z56, 6))
    else
     (grd (0 ≤ (i64.wrap (16 + t36.2.1)) ∧ (i64.wrap (16 + t36.2.1)) ≤ (t8.1.length : Int) ∧ (t8.1.length : Int) ≤ (t8.1.length : Int))).bind fun _ =>
     if (decide ((((t8.1.take ((t8.1.length : Int)).toNat).drop (i64.wrap (16 + t36.2.1)).toNat).length : Int) < 16)) then
      (some (⟨replicate 16 0, 0, 0, 0, 0, replicate 16 0, [], []⟩ : Backup)).bind fun z66 =>
      some ((z66, 5))
     else
      (grd (0 ≤ (16 : Int) ∧ (16 : Int) ≤ (((t8.1.take ((t8.1.length : Int)).toNat).drop (i64.wrap (16 + t36.2.1)).toNat).length : Int) ∧ (((t8.1.take ((t8.1.length : Int)).toNat).drop (i64.wrap (16 + t36.2.1)).toNat).length : Int) ≤ (((t8.1.take ((t8.1.length : Int)).toNat).drop (i64.wrap (16 + t36.2.1)).toNat).length : Int))).bind fun _ =>
      (ref01_GetBytes (bytesI ((((t8.1.take ((t8.1.length : Int)).toNat).drop (i64.wrap (16 + t36.2.1)).toNat).take ((((t8.1.take ((t8.1.length : Int)).toNat).drop (i64.wrap (16 + t36.2.1)).toNat).length : Int)).toNat).drop ((16 : Int)).toNat))).bind fun t76 =>
      if (t76.2.2 != 0) then
       (some (⟨replicate 16 0, 0, 0, 0, 0, replicate 16 0, [], []⟩ : Backup)).bind fun z86 =>
       some ((z86, t76.2.2))
      else
       (ref36_digest t8.1).bind fun t97 =>
       (grd (0 ≤ (0 : Int) ∧ (0 : Int) < (t36.1.length : Int))).bind fun _ =>
       (grd (0 ≤ (1 : Int) ∧ (1 : Int) < (t36.1.length : Int))).bind fun _ =>
       (grd (0 ≤ (2 : Int) ∧ (2 : Int) < (t36.1.length : Int))).bind fun _ =>
       (grd (0 ≤ (3 : Int) ∧ (3 : Int) < (t36.1.length : Int))).bind fun _ =>
       (ref36_digest ((t8.1.take ((t8.1.length : Int)).toNat).drop (i64.wrap (16 + t36.2.1)).toNat)).bind fun t144 =>
       (some (⟨t97, rd t36.1 0, rd t36.1 1, rd t36.1 2, rd t36.1 3, t144, t76.1, []⟩ : Backup)).bind fun z169 =>
       (ref36_Valid z169).bind fun t174 =>
       (
        if (t76.2.1 != (i64.wrap ((((t8.1.take ((t8.1.length : Int)).toNat).drop (i64.wrap (16 + t36.2.1)).toNat).length : Int) - 16))) then
         some true
        else
         some (!t174)).bind fun t181 =>
       if t181 then
        (some (⟨replicate 16 0, 0, 0, 0, 0, replicate 16 0, [], []⟩ : Backup)).bind fun z187 =>
        some ((z187, 6))
       else
        some ((z169, 0))
def ref04_Open (p0 : (List UInt8)) (p1 : (List UInt8)) (p2 : (List UInt8)) : Option ((List UInt8) × Int) :=
 (ref04_Keys p0).bind fun t3 =>
 if (t3.2.2 != 0) then
  some ((([] : List UInt8), t3.2.2))
 else
  (
   if (decide ((1048576 : Int) < (p1.length : Int))) then
    some true
   else
    some (decide ((1048604 : Int) < (p2.length : Int)))).bind fun t14 =>
  if t14 then
   some ((([] : List UInt8), 2))
  else
   if (decide ((p2.length : Int) < 28)) then
    some ((([] : List UInt8), 5))
   else
    (grd (0 ≤ (0 : Int) ∧ (0 : Int) ≤ 12 ∧ (12 : Int) ≤ (p2.length : Int))).bind fun _ =>
    (grd (0 ≤ (12 : Int) ∧ (12 : Int) ≤ (i64.wrap ((p2.length : Int) - 16)) ∧ (i64.wrap ((p2.length : Int) - 16)) ≤ (p2.length : Int))).bind fun _ =>
    (grd (0 ≤ (i64.wrap ((p2.length : Int) - 16)) ∧ (i64.wrap ((p2.length : Int) - 16)) ≤ (p2.length : Int) ∧ (p2.length : Int) ≤ (p2.length : Int))).bind fun _ =>
    (ref04_tag t3.2.1 ((p2.take ((12 : Int)).toNat).drop ((0 : Int)).toNat) p1 ((p2.take (i64.wrap ((p2.length : Int) - (16 : Int))).toNat).drop ((12 : Int)).toNat)).bind fun t59 =>
    if (!(((p2.take ((p2.length : Int)).toNat).drop (i64.wrap ((p2.length : Int) - (16 : Int))).toNat) == t59)) then
     some ((([] : List UInt8), 8))
    else
     (ref03_Xor t3.1 1 ((p2.take ((12 : Int)).toNat).drop ((0 : Int)).toNat) ((p2.take (i64.wrap ((p2.length : Int) - (16 : Int))).toNat).drop ((12 : Int)).toNat)).bind fun t75 =>
     (ref04_nonce t3.2.1 p1 t75.1).bind fun t83 =>
     if (!(t83 == ((p2.take ((12 : Int)).toNat).drop ((0 : Int)).toNat))) then
      some ((([] : List UInt8), 8))
     else
      some ((t75.1, 0))
def ref01_GetStrings.j1 (x16 : (List (List UInt8))) (x18 : Int) : Option ((List (List UInt8)) × Int × Int) :=
 some ((x16, x18, 0))
def ref01_GetStrings.l2 (t5 : (Int × Int × Int)) (p0 : (List Int)) (s26 : ((List (List UInt8)) × Int × Int)) : Option (((List (List UInt8)) × Int × Int) ⊕ ((List (List UInt8)) × Int × Int)) :=
 if (decide (s26.2.2 < t5.1)) then
  (grd (0 ≤ s26.2.1 ∧ s26.2.1 ≤ (p0.length : Int) ∧ (p0.length : Int) ≤ (p0.length : Int))).bind fun _ =>
  (ref01_GetBytes ((p0.take ((p0.length : Int)).toNat).drop (s26.2.1).toNat)).bind fun t40 =>
  if (t40.2.2 != 0) then
   some (.inr ((([] : (List (List UInt8))), 0, t40.2.2)))
  else
   (grd (s26.1.length + ([t40.1] : List (List UInt8)).length < 68719476736)).bind fun _ =>
   some (.inl (s26.1 ++ ([t40.1] : List (List UInt8)), i64.wrap (s26.2.1 + t40.2.1), i64.wrap (s26.2.2 + 1)))
 else
  (ref01_GetStrings.j1 s26.1 s26.2.1).map Sum.inr
def ref01_GetStrings (p0 : (List Int)) : Option ((List (List UInt8)) × Int × Int) :=
 (ref01_count p0 (1 : Int)).bind fun t5 =>
 if (t5.2.2 != 0) then
  some ((([] : (List (List UInt8))), 0, t5.2.2))
 else
  loopF (ref01_GetStrings.l2 t5 p0) (([] : (List (List UInt8))), t5.2.1, 0)
def ref36_one (p0 : (List UInt8)) : Option (Key × Int) :=
 (ref01_GetStrings (bytesI p0)).bind fun t8 =>
 if (t8.2.2 != 0) then
  some (((⟨0, 0, [], 0, 0, 0, 0, 0, false⟩ : Key), t8.2.2))
 else
  (
   if (t8.2.1 != (p0.length : Int)) then
    some true
   else
    some ((t8.1.length : Int) != (2 : Int))).bind fun t21 =>
  if t21 then
   some (((⟨0, 0, [], 0, 0, 0, 0, 0, false⟩ : Key), 6))
  else
   (grd (0 ≤ (0 : Int) ∧ (0 : Int) < (t8.1.length : Int))).bind fun _ =>
   (ref01_GetInts (bytesI (rd t8.1 0))).bind fun t33 =>
   if (t33.2.2 != 0) then
    some (((⟨0, 0, [], 0, 0, 0, 0, 0, false⟩ : Key), t33.2.2))
   else
    (
     (grd (0 ≤ (0 : Int) ∧ (0 : Int) < (t8.1.length : Int))).bind fun _ =>
     if (t33.2.1 != ((rd t8.1 0).length : Int)) then
      some true
     else
      some ((t33.1.length : Int) != (8 : Int))).bind fun t46 =>
    if t46 then
     some (((⟨0, 0, [], 0, 0, 0, 0, 0, false⟩ : Key), 6))
    else
     (
      (grd (0 ≤ (7 : Int) ∧ (7 : Int) < (t33.1.length : Int))).bind fun _ =>
      if ((rd t33.1 7) != 0) then
       (grd (0 ≤ (7 : Int) ∧ (7 : Int) < (t33.1.length : Int))).bind fun _ =>
       some ((rd t33.1 7) != 1)
      else
       some false).bind fun t54 =>
     if t54 then
      some (((⟨0, 0, [], 0, 0, 0, 0, 0, false⟩ : Key), 6))
     else
      (grd (0 ≤ (0 : Int) ∧ (0 : Int) < (t33.1.length : Int))).bind fun _ =>
      (grd (0 ≤ (1 : Int) ∧ (1 : Int) < (t33.1.length : Int))).bind fun _ =>
      (grd (0 ≤ (1 : Int) ∧ (1 : Int) < (t8.1.length : Int))).bind fun _ =>
      (grd (0 ≤ (2 : Int) ∧ (2 : Int) < (t33.1.length : Int))).bind fun _ =>
      (grd (0 ≤ (3 : Int) ∧ (3 : Int) < (t33.1.length : Int))).bind fun _ =>
      (grd (0 ≤ (4 : Int) ∧ (4 : Int) < (t33.1.length : Int))).bind fun _ =>
      (grd (0 ≤ (5 : Int) ∧ (5 : Int) < (t33.1.length : Int))).bind fun _ =>
      (grd (0 ≤ (6 : Int) ∧ (6 : Int) < (t33.1.length : Int))).bind fun _ =>
      (grd (0 ≤ (7 : Int) ∧ (7 : Int) < (t33.1.length : Int))).bind fun _ =>
      (some (⟨rd t33.1 0, rd t33.1 1, rd t8.1 1, rd t33.1 2, rd t33.1 3, rd t33.1 4, rd t33.1 5, rd t33.1 6, (rd t33.1 7) == 1⟩ : Key)).bind fun z159 =>
      some ((z159, 0))
def ref36_Open.j1 (x131 : Backup) : Option (Backup × Int) :=
 (ref36_Valid x131).bind fun t139 =>
 if (!t139) then
  (some (⟨replicate 16 0, 0, 0, 0, 0, replicate 16 0, [], []⟩ : Backup)).bind fun z149 =>
  some ((z149, 6))
 else
  some ((x131, 0))
def ref36_Open.l2 (t107 : ((List (List UInt8)) × Int × Int)) (s155 : (Backup × Int)) : Option ((Backup × Int) ⊕ (Backup × Int)) :=
 if (decide (s155.2 < (t107.1.length : Int))) then
  (grd (0 ≤ s155.2 ∧ s155.2 < (t107.1.length : Int))).bind fun _ =>
  (ref36_one (rd t107.1 s155.2)).bind fun t167 =>
  if (t167.2 != 0) then
   (some (⟨replicate 16 0, 0, 0, 0, 0, replicate 16 0, [], []⟩ : Backup)).bind fun z178 =>
   some (.inr ((z178, t167.2)))
  else
   (grd (s155.1.Keys.length + ([t167.1] : List Key).length < 68719476736)).bind fun _ =>
   some (.inl (({ s155.1 with Keys := (s155.1.Keys ++ ([t167.1] : List Key)) } : Backup), i64.wrap (s155.2 + 1)))
 else
  (ref36_Open.j1 s155.1).map Sum.inr
def ref36_Open (p0 : (List UInt8)) (p1 : (List UInt8)) : Option (Backup × Int) :=
 if ((p0.length : Int) != 32) then
  (some (⟨replicate 16 0, 0, 0, 0, 0, replicate 16 0, [], []⟩ : Backup)).bind fun z7 =>
  some ((z7, 1))
 else
  (ref36_Peek p1).bind fun t12 =>
  if (t12.2 != 0) then
   (some (⟨replicate 16 0, 0, 0, 0, 0, replicate 16 0, [], []⟩ : Backup)).bind fun z26 =>
   some ((z26, t12.2))
  else
   (ref01_GetBytes (bytesI p1)).bind fun t35 =>
   (ref05_Derive p0 ([98, 97, 99, 107, 117, 112] : List UInt8) ([] : (List (List UInt8)))).bind fun t47 =>
   (grd (0 ≤ t35.2.1 ∧ t35.2.1 ≤ (p1.length : Int) ∧ (p1.length : Int) ≤ (p1.length : Int))).bind fun _ =>
   (ref04_Open t47 t35.1 ((p1.take ((p1.length : Int)).toNat).drop (t35.2.1).toNat)).bind fun t69 =>
   if (t69.2 != 0) then
    (some (⟨replicate 16 0, 0, 0, 0, 0, replicate 16 0, [], []⟩ : Backup)).bind fun z98 =>
    some ((z98, t69.2))
   else
    (ref01_GetStrings (bytesI t69.1)).bind fun t107 =>
    if (t107.2.2 != 0) then
     (some (⟨replicate 16 0, 0, 0, 0, 0, replicate 16 0, [], []⟩ : Backup)).bind fun z119 =>
     some ((z119, t107.2.2))
    else
     if (t107.2.1 != (t69.1.length : Int)) then
      (some (⟨replicate 16 0, 0, 0, 0, 0, replicate 16 0, [], []⟩ : Backup)).bind fun z127 =>
      some ((z127, 6))
     else
      loopF (ref36_Open.l2 t107) (t12.1, 0)
def law36_BackupNeedsItsKey (p0 : (List UInt8)) (p1 : (List UInt8)) (p2 : Backup) : Option Bool :=
 (
  (law36_few p2).bind fun t9 =>
  if (!t9) then
   some true
  else
   if (decide ((100 : Int) < (p0.length : Int))) then
    some true
   else
    some (decide ((100 : Int) < (p1.length : Int)))).bind fun t6 =>
 if t6 then
  (law36_sanity).bind fun t19 =>
  some (t19)
 else
  (backup_Make p0 p2).bind fun t26 =>
  if (t26.2 != 0) then
   (law36_sanity).bind fun t36 =>
   some (t36)
  else
   (backup_Peek t26.1).bind fun t43 =>
   (backup_Open p1 t26.1).bind fun t53 =>
   (ref36_Open p1 t26.1).bind fun t63 =>
   (ref36_Same t43.1 ({ p2 with Keys := ([] : (List Key)) } : Backup)).bind fun t74 =>
   (
    (law36_sanity).bind fun t99 =>
    if t99 then
     if (t43.2 == 0) then
      if t74 then
       if (t53.2 == t63.2) then
        (ref36_Same t53.1 t63.1).bind fun t109 =>
        some t109
       else
        some false
      else
       some false
     else
      some false
    else
     some false).bind fun t80 =>
   some (t80)
end
end Go.Cu


namespace Go.Proofs
open Go.Shelf
def Tryz.laysJoin_ren : Go.Shelf.Ren := ⟨fun | 156 => 157 | 165 => 181 | 166 => 182 | 169 => 183 | 240 => 200 | 241 => 201 | 276 => 211 | 277 => 212 | n => n, fun | 31 => 127 | 9 => 9 | 3 => 3 | 4 => 4 | 0 => 0 | 20 => 20 | 72 => 228 | 76 => 232 | 70 => 226 | 37 => 91 | 75 => 231 | 127 => 251 | 164 => 261 | 5 => 5 | 80 => 234 | n => n, fun | n => n⟩
theorem Tryz.laysJoin : Go.Proofs.Lays.n156 Tryz.prog Tryz.laysJoin_ren := {
 mixed := by kernel_rfl
 f156 := Tryz.func157.trans (congrArg some (by kernel_rfl))
 f165 := Tryz.func181.trans (congrArg some (by kernel_rfl))
 f166 := Tryz.func182.trans (congrArg some (by kernel_rfl))
 f169 := Tryz.func183.trans (congrArg some (by kernel_rfl))
 f240 := Tryz.func200.trans (congrArg some (by kernel_rfl))
 f241 := Tryz.func201.trans (congrArg some (by kernel_rfl))
 f276 := Tryz.func211.trans (congrArg some (by kernel_rfl))
 f277 := Tryz.func212.trans (congrArg some (by kernel_rfl))
 t0 := Tryz.underlying0
 a0 := Tryz.isAgg0
 z0 := Tryz.sizeOf0
 v0 := Tryz.zeroValue0
 t3 := Tryz.underlying3
 a3 := Tryz.isAgg3
 z3 := Tryz.sizeOf3
 v3 := Tryz.zeroValue3
 t4 := Tryz.underlying4
 a4 := Tryz.isAgg4
 z4 := Tryz.sizeOf4
 v4 := Tryz.zeroValue4
 t9 := Tryz.underlying9
 a9 := Tryz.isAgg9
 z9 := Tryz.sizeOf9
 v9 := Tryz.zeroValue9
 t20 := Tryz.underlying20
 a20 := Tryz.isAgg20
 z20 := Tryz.sizeOf20
 v20 := Tryz.zeroValue20
 t31 := Tryz.underlying127
 a31 := Tryz.isAgg127
 z31 := Tryz.sizeOf127
 v31 := Tryz.zeroValue127
 t37 := Tryz.underlying91
 a37 := Tryz.isAgg91
 z37 := Tryz.sizeOf91
 v37 := Tryz.zeroValue91
 t70 := Tryz.underlying226
 a70 := Tryz.isAgg226
 z70 := Tryz.sizeOf226
 v70 := Tryz.zeroValue226
 t72 := Tryz.underlying228
 a72 := Tryz.isAgg228
 z72 := Tryz.sizeOf228
 v72 := Tryz.zeroValue228
 t75 := Tryz.underlying231
 a75 := Tryz.isAgg231
 z75 := Tryz.sizeOf231
 v75 := Tryz.zeroValue231
 t76 := Tryz.underlying232
 a76 := Tryz.isAgg232
 z76 := Tryz.sizeOf232
 v76 := Tryz.zeroValue232
 t127 := Tryz.underlying251
 a127 := Tryz.isAgg251
 z127 := Tryz.sizeOf251
 v127 := Tryz.zeroValue251
 t164 := Tryz.underlying261
 a164 := Tryz.isAgg261
 z164 := Tryz.sizeOf261
 v164 := Tryz.zeroValue261 }
end Go.Proofs


namespace Go.Proofs
open Go.Shelf
def Tryz.laysGrow_ren : Go.Shelf.Ren := ⟨fun | 4 => 128 | n => n, fun | 22 => 91 | 25 => 5 | 3 => 3 | 4 => 4 | 9 => 9 | 20 => 20 | 0 => 0 | n => n, fun | n => n⟩
theorem Tryz.laysGrow : Go.Proofs.Lays8.n4 Tryz.prog Tryz.laysGrow_ren := {
 mixed := by kernel_rfl
 f4 := ⟨Tryz.f128.name, by decide, Tryz.func128.trans (congrArg some (by kernel_rfl))⟩
 t0 := Tryz.underlying0
 a0 := Tryz.isAgg0
 z0 := Tryz.sizeOf0
 v0 := Tryz.zeroValue0
 t3 := Tryz.underlying3
 a3 := Tryz.isAgg3
 z3 := Tryz.sizeOf3
 v3 := Tryz.zeroValue3
 t4 := Tryz.underlying4
 a4 := Tryz.isAgg4
 z4 := Tryz.sizeOf4
 v4 := Tryz.zeroValue4
 t9 := Tryz.underlying9
 a9 := Tryz.isAgg9
 z9 := Tryz.sizeOf9
 v9 := Tryz.zeroValue9
 t20 := Tryz.underlying20
 a20 := Tryz.isAgg20
 z20 := Tryz.sizeOf20
 v20 := Tryz.zeroValue20
 t22 := Tryz.underlying91
 a22 := Tryz.isAgg91
 z22 := Tryz.sizeOf91
 v22 := Tryz.zeroValue91 }
end Go.Proofs
