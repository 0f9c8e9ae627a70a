/- Rules for walks over facts, for any program; no condition. -/
import Derived.Test.YtakfalfggmgcfaaDoorCu19
import Derived.Laws.IdiomStrings
set_option linter.unusedVariables false
set_option linter.unusedSimpArgs false
/-! Bytes of a string; items that are lent to a callee; scopes. -/
namespace Go.Cu
theorem bytesRow_eq (s : List UInt8) (c : Nat) : bytesRow ⟨s.toArray⟩ c = (flat (FI .u8) (bytesI s) ++ List.replicate (c - s.length) (Value.int .u8 0)).toArray := by
  unfold bytesRow
  rw [flat_bytes]
  apply Array.ext'
  simp [ByteArray.size]
section
variable {c : Cx} {Q : Exit → Act → World → Prop} {ops : Array Oper} {rest : List Oper} {l : List (Nat × Value)} {M : Heap} {L : List Item} {d : Nat} {ty : TypeId} {pos : String} {af : Array Edge} {gd : Option (Nat × Bool)}
/-- []byte(s), as memory of the call's own. -/
theorem w_s2bW {x : Operand} {S D e : TypeId} {s : List UInt8} (hs : c.P.underlying S = some .string) (hD : c.P.underlying D = some (.slice e)) (he : c.P.underlying e = some (.int .u8)) (hg : Wnt ops l gd) (hd : Nat.blt d c.n = true)
    (hx : ev l x = some (str s)) (h : ∀ v, c.W ops rest Q ((d, v) :: l) M (L ++ [rowI (FI .u8) v e (bytesI s)])) : c.W ops (⟨some d, .convert S D x, ty, pos, af, gd⟩ :: rest) Q l M L := by
  refine w_op hg hd (Φ := fun v w' => St c.X c.M0 c.w0 M (lt (L ++ [rowI (FI .u8) v e (bytesI s)])) w') ?_ ?_
  · intro a w hf hst
    have hr := run_bytes_of_string (P := c.P) w S D e ⟨s.toArray⟩ hs hD he
    rw [bytesRow_eq] at hr
    simp only [size_str] at hr
    have hge : s.length ≤ grownCap w s.length 0 e := grownCap_ge w s.length 0 e
    generalize grownCap w s.length 0 e = cap at hr hge
    have hl : (bytesI s).length = s.length := by simp [bytesI]
    have hfl : (flat (FI .u8) (bytesI s)).length = s.length := by rw [flat_length, hl]; simp [FI]
    generalize hC : (flat (FI .u8) (bytesI s) ++ List.replicate (cap - s.length) (Value.int .u8 0)).toArray = C at hr
    have hCs : C.size = cap := by rw [← hC]; simp [hfl]; omega
    rw [hCs] at hr
    have hst2 : St c.X c.M0 c.w0 M (lt (L ++ [rowI (FI .u8) (.slice (some ⟨w.heap.size, 0, none⟩) s.length cap) e (bytesI s)])) (w.drew.alloc (.cells C e (cap, cap + 1))) := by
      refine (hst.drew).newL ⟨cap, List.replicate (cap - s.length) (.int .u8 0), (cap, cap + 1), by rw [hl], flat_length _ _, by rw [hl]; exact hge, ?_, ?_, ?_⟩
      · rw [hfl]; simp [FI]; omega
      · intro i hi
        simp [FI] at hi ⊢
        omega
      · rw [hC]; exact alloc_get w.drew _
    refine OpOK.val (v := .slice (some ⟨w.heap.size, 0, none⟩) s.length cap) ?_ hst2
    simp only [execOp, hf.ev hx, Sem.run_bind, str, hr]; rfl
  · intro v w' hs' a' hf
    exact h v a' w' hf hs'
/-- []byte(s), as a datum. -/
theorem w_s2b {x : Operand} {S D e : TypeId} {s : List UInt8} (hs : c.P.underlying S = some .string) (hD : c.P.underlying D = some (.slice e)) (he : c.P.underlying e = some (.int .u8)) (hg : Wnt ops l gd) (hd : Nat.blt d c.n = true)
    (hx : ev l x = some (str s)) (h : ∀ v M', HLe M M' → RS (FI .u8) M' v (bytesI s) → c.W ops rest Q ((d, v) :: l) M' L) : c.W ops (⟨some d, .convert S D x, ty, pos, af, gd⟩ :: rest) Q l M L := by
  refine w_op hg hd (Φ := fun v w' => ∃ M', HLe M M' ∧ RS (FI .u8) M' v (bytesI s) ∧ St c.X c.M0 c.w0 M' (lt L) w') ?_ ?_
  · intro a w hf hst
    have hr := run_bytes_of_string (P := c.P) w S D e ⟨s.toArray⟩ hs hD he
    rw [bytesRow_eq] at hr
    simp only [size_str] at hr
    have hge : s.length ≤ grownCap w s.length 0 e := grownCap_ge w s.length 0 e
    generalize grownCap w s.length 0 e = cap at hr hge
    have hl : (bytesI s).length = s.length := by simp [bytesI]
    have hfl : (flat (FI .u8) (bytesI s)).length = s.length := by rw [flat_length, hl]; simp [FI]
    generalize hC : (flat (FI .u8) (bytesI s) ++ List.replicate (cap - s.length) (Value.int .u8 0)).toArray = C at hr
    have hCs : C.size = cap := by rw [← hC]; simp [hfl]; omega
    rw [hCs] at hr
    have hn := hst.drew.newM (.cells C e (cap, cap + 1))
    refine OpOK.val (v := .slice (some ⟨w.heap.size, 0, none⟩) s.length cap) ?_ ⟨_, hn.2, .inr ⟨w.heap.size, cap, [], List.replicate (cap - s.length) (.int .u8 0), e, (cap, cap + 1), by rw [hl]; rfl, ?_, by rw [hl]; exact hge, ?_⟩, hn.1⟩
    · simp only [execOp, hf.ev hx, Sem.run_bind, str, hr]; rfl
    · rw [List.nil_append, hC]
      exact if_pos rfl
    · rw [List.length_append, hfl, List.length_replicate]
      show cap * 1 ≤ _
      omega
  · rintro v w' ⟨M', h1, h2, h3⟩ a' hf
    exact h v M' h1 h2 a' w' hf h3
end
/-! ### What is lent -/
theorem St.lend {X : Nat → Prop} {M0 M : Heap} {w0 w : World} {it : Nat → Option Item} (h : St X M0 w0 M it w) {i : Nat} {x : Item} (hi : it i = some x) :
    ∃ X' : Nat → Prop, St X' M w M (lt [x]) w ∧ ∀ M' x' w', St X' M w M' (lt [x']) w' → St X M0 w0 M' (fun j => if j = i then some x' else it j) w' := by
  obtain ⟨e, bo, h1, h2, h3⟩ := h
  refine ⟨fun b => bo i = some b, ⟨⟨rfl, rfl, rfl, Nat.le_refl _, fun _ _ _ => rfl, fun _ _ => rfl, e.sub⟩, fun j => if j = 0 then bo i else none, ?_, ?_, ?_⟩, ?_⟩
  · intro j k b hj hk
    simp only at hj hk
    split at hj <;> split at hk <;> first | omega | contradiction
  · intro j b hj
    simp only at hj
    split at hj
    · exact ⟨.inr hj, (h2 _ _ hj).2⟩
    · cases hj
  · intro j y hj
    cases j with
    | zero => simp [lt] at hj; subst hj; simpa using h3 i _ hi
    | succ j => simp [lt] at hj
  · rintro M' x' w' ⟨e', bo', g1, g2, g3⟩
    have hlt : ∀ j b, bo j = some b → (it j).isSome → b < w.heap.size := by
      intro j b hb hj
      obtain ⟨y, hy⟩ := Option.isSome_iff_exists.1 hj
      have := h3 j y hy
      rw [hb] at this
      exact Item.sat_lt this
    have hx' := g3 0 x' (by simp [lt])
    refine ⟨⟨e'.os.trans e.os, e'.tape.trans e.tape, e'.output.trans e.output, Nat.le_trans e.size e'.size, ?_, ?_, e'.sub⟩, fun j => if j = i then bo' 0 else if (it j).isSome then bo j else none, ?_, ?_, ?_⟩
    · intro k hk hX
      rw [e'.block k (Nat.lt_of_lt_of_le hk e.size), e.block k hk hX]
      intro hb
      rcases (h2 i k hb).1 with h | h
      · omega
      · exact hX h
    · intro k hk
      rw [e'.old k (Nat.lt_of_lt_of_le hk e.size), e.old k hk]
    · have key : ∀ j b, j ≠ i → (it j).isSome → bo j = some b → bo' 0 = some b → False := by
        intro j b hj hs hb hb'
        have hlt' := hlt j b hb hs
        rcases (g2 0 b hb').1 with h | h
        · omega
        · exact hj (h1 _ _ _ hb h)
      intro j k b hj hk
      simp only at hj hk
      by_cases ji : j = i
      · by_cases ki : k = i
        · rw [ji, ki]
        · rw [if_pos ji] at hj
          rw [if_neg ki] at hk
          split at hk
          · exact (key k b ki (by assumption) hk hj).elim
          · cases hk
      · rw [if_neg ji] at hj
        split at hj
        · by_cases ki : k = i
          · rw [if_pos ki] at hk
            exact (key j b ji (by assumption) hj hk).elim
          · rw [if_neg ki] at hk
            split at hk
            · exact h1 _ _ _ hj hk
            · cases hk
        · cases hj
    · intro j b hj
      simp only at hj
      by_cases ji : j = i
      · rw [if_pos ji] at hj
        obtain ⟨g, gM⟩ := g2 0 b hj
        refine ⟨?_, gM⟩
        rcases g with g | g
        · exact .inl (Nat.le_trans e.size g)
        · exact (h2 i b g).1
      · rw [if_neg ji] at hj
        split at hj
        · rename_i hs
          refine ⟨(h2 _ _ hj).1, ?_⟩
          rw [e'.old b (hlt j b hj hs)]; exact (h2 _ _ hj).2
        · cases hj
    · intro j y hy
      simp only at hy ⊢
      by_cases ji : j = i
      · rw [if_pos ji] at hy ⊢
        injection hy with hy
        subst hy
        exact hx'
      · rw [if_neg ji] at hy ⊢
        have hs : (it j).isSome = true := by simp [hy]
        rw [if_pos hs]
        refine Item.sat_of_same (h3 j y hy) fun b hb => e'.block b (hlt j b hb hs) ?_
        intro hb'
        exact ji (h1 _ _ _ hb hb')
/-- A call that is handed an item, and hands it back. -/
def PostI (X : Nat → Prop) (M : Heap) (w : World) (Φ : Heap → Item → Value → Prop) (e : Ending) (w' : World) : Prop :=
  ∃ v M' x', e = .returned v ∧ St X M w M' (lt [x']) w' ∧ Φ M' x' v
theorem enterI {P : Program} {f : FuncId} {fn : Func} {body : Code} {args : List Value} {X : Nat → Prop} {M : Heap} {w : World} {x : Item} {Φ : Heap → Item → Value → Prop} (n : Nat) (l : List (Nat × Value))
    (hf : P.funcs[f]? = some fn) (hb : fn.body = some body) (hn : args.length + (fn.ntmps - args.length) = n) (hl : frame0 0 args = l) (hs : St X M w M (lt [x]) w)
    (h : ∀ Q : Exit → Act → World → Prop,
      (∀ e, e = .ret ∨ e = .normal → ∀ a w', a.defers = [] → (∃ v M' x', Res P fn a w' v ∧ St X M w M' (lt [x']) w' ∧ Φ M' x' v) → Q e a w') →
      (Cx.mk P n X M w).C body Q l M [x]) : Calls P f args.toArray w (PostI X M w Φ) := by
  subst hn hl
  refine calls_of_wp hf hb ?_
  refine h _ ?_ _ _ ?_ hs
  · rintro e he a w' hd ⟨v, M', x', hr, hx, hv⟩
    rcases he with rfl | rfl
    · exact ⟨hd, v, hr, v, M', x', rfl, hx, hv⟩
    · exact ⟨hd, v, hr, v, M', x', rfl, hx, hv⟩
  · refine ⟨rfl, by simp, ?_⟩
    intro t v hv
    obtain ⟨_, h2⟩ := lk_frame0 _ _ _ _ hv
    simp only [Nat.sub_zero] at h2
    rw [Array.getD_eq_getD_getElem?, Array.getElem?_append_left]
    · simp [h2]
    · have := (List.getElem?_eq_some_iff.1 h2).1; simpa using this
section
variable {c : Cx} {Q : Exit → Act → World → Prop} {ops : Array Oper} {rest : List Oper} {l : List (Nat × Value)} {M : Heap} {L : List Item} {d : Nat} {ty : TypeId} {pos : String} {af : Array Edge} {gd : Option (Nat × Bool)}
/-- A call to which item i is lent. -/
theorem w_callI {f : FuncId} {xs : List Operand} {ts : Array TypeId} {vs : List Value} {x : Item} {Φ : Heap → Item → Value → Prop} (i : Nat) (hcf : CF c.P f) (hg : Wnt ops l gd) (hd : Nat.blt d c.n = true) (hx : evs l xs = some vs)
    (hi : L[i]? = some x) (hc : ∀ X' w, St X' M w M (lt [x]) w → Calls c.P f vs.toArray w (PostI X' M w Φ))
    (h : ∀ v M' x', HLe M M' → Φ M' x' v → c.W ops rest Q ((d, v) :: l) M' (L.set i x')) :
    c.W ops (⟨some d, .call ⟨.value (.func f), xs.toArray, ts⟩, ty, pos, af, gd⟩ :: rest) Q l M L := by
  refine w_op hg hd (Φ := fun v w' => ∃ M' x', HLe M M' ∧ Φ M' x' v ∧ St c.X c.M0 c.w0 M' (lt (L.set i x')) w') ?_ ?_
  · intro a w hf hs
    obtain ⟨X', hx1, hx2⟩ := hs.lend (i := i) (x := x) hi
    have hcall := hc X' w hx1
    refine OpOK.enter (f := f) (args := vs.toArray) (w' := w) ?_ ?_
    · simp [execOp, resolve, Act.eval, Deferred.ofValue, invoke, hf.evs hx]
      exact hcf _ _
    · refine hcall.mono ?_
      rintro e w'' ⟨v, M', x', rfl, hst, hv⟩
      refine ⟨v, rfl, M', x', hst.ext.le hs.sub, hv, ?_⟩
      rw [← lt_set L i _ _ hi]
      exact hx2 M' x' w'' hst
  · rintro v w' ⟨M', x', h1, h2, h3⟩ a' hf
    exact h v M' x' h1 h2 a' w' hf h3
end
/-- An item shown to a callee that only reads it. -/
theorem St.show' {X : Nat → Prop} {M0 M : Heap} {w0 w : World} {it : Nat → Option Item} (h : St X M0 w0 M it w) {i b : Nat} {o : Obj} (hi : it i = some (.blk b o)) :
    Sub (Heap.upd M b o) w ∧ ∀ M' w', Ext none' (Heap.upd M b o) w M' w' → ∃ M'', HLe M M'' ∧ HLe M'' M' ∧ St X M0 w0 M'' it w' := by
  have h0 := h
  obtain ⟨e, bo, h1, h2, h3⟩ := h
  obtain ⟨hb, hh⟩ := h3 i _ hi
  have hbo := h2 i b hb
  have hbl : b < w.heap.size := lt_of_get hh
  refine ⟨?_, ?_⟩
  · intro k o' hk
    unfold Heap.upd at hk
    split at hk
    · rename_i p; subst p; injection hk with hk; subst hk; exact hh
    · exact e.sub k o' hk
  · intro M' w' he
    refine ⟨fun k => if k = b then none else M' k, ?_, ?_, h0.step ⟨he.os, he.tape, he.output, he.size, he.block, ?_, ?_⟩⟩
    · intro k o' hk
      have hkb : k ≠ b := by rintro rfl; rw [hbo.2] at hk; cases hk
      show (if k = b then none else M' k) = _
      rw [if_neg hkb, he.old k (lt_of_get (e.sub k o' hk))]
      show (if k = b then some o else M k) = _
      rw [if_neg hkb]; exact hk
    · intro k o' hk
      simp only at hk
      split at hk
      · cases hk
      · exact hk
    · intro k hk
      show (if k = b then none else M' k) = M k
      by_cases hkb : k = b
      · subst hkb; rw [if_pos rfl]; exact hbo.2.symm
      · rw [if_neg hkb, he.old k hk]
        show (if k = b then some o else M k) = _
        rw [if_neg hkb]
    · intro k o' hk
      simp only at hk
      split at hk
      · cases hk
      · exact he.sub k o' hk
theorem hle_upd {X : Nat → Prop} {M0 M : Heap} {w0 w : World} {it : Nat → Option Item} (h : St X M0 w0 M it w) {i b : Nat} {o : Obj} (hi : it i = some (.blk b o)) : HLe M (Heap.upd M b o) := by
  obtain ⟨e, bo, h1, h2, h3⟩ := h
  have hbo := h2 i b (h3 i _ hi).1
  intro k o' hk
  show (if k = b then some o else M k) = _
  rw [if_neg]
  · exact hk
  · rintro rfl; rw [hbo.2] at hk; cases hk
section
variable {c : Cx} {Q : Exit → Act → World → Prop} {ops : Array Oper} {rest : List Oper} {l : List (Nat × Value)} {M : Heap} {L : List Item} {d : Nat} {ty : TypeId} {pos : String} {af : Array Edge} {gd : Option (Nat × Bool)}
/-- A call to which an item is shown; of its result no fact on memory is kept. -/
theorem w_callS {f : FuncId} {xs : List Operand} {ts : Array TypeId} {vs : List Value} {b : Nat} {o : Obj} {Φ : Value → Prop} (i : Nat) (hcf : CF c.P f) (hg : Wnt ops l gd) (hd : Nat.blt d c.n = true) (hx : evs l xs = some vs)
    (hi : L[i]? = some (.blk b o)) (hc : ∀ M' w, HLe M M' → M' b = some o → Sub M' w → Calls c.P f vs.toArray w (Post M' w fun _ v => Φ v))
    (h : ∀ v M', HLe M M' → Φ v → c.W ops rest Q ((d, v) :: l) M' L) :
    c.W ops (⟨some d, .call ⟨.value (.func f), xs.toArray, ts⟩, ty, pos, af, gd⟩ :: rest) Q l M L := by
  refine w_op hg hd (Φ := fun v w' => ∃ M', HLe M M' ∧ Φ v ∧ St c.X c.M0 c.w0 M' (lt L) w') ?_ ?_
  · intro a w hf hs
    obtain ⟨s1, s2⟩ := hs.show' (i := i) hi
    refine OpOK.enter (f := f) (args := vs.toArray) (w' := w) ?_ ?_
    · simp [execOp, resolve, Act.eval, Deferred.ofValue, invoke, hf.evs hx]
      exact hcf _ _
    · refine (hc _ w (hle_upd hs hi) (if_pos rfl) s1).mono ?_
      rintro e w'' ⟨v, M', rfl, hx', hv⟩
      obtain ⟨M'', g1, _, g3⟩ := s2 M' w'' hx'
      exact ⟨v, rfl, M'', g1, hv, g3⟩
  · rintro v w' ⟨M', h1, h2, h3⟩ a' hf
    exact h v M' h1 h2 a' w' hf h3
theorem c_scope {x : Code} (h : c.C x (Exit.noGoto Q) l M L) : c.C (.scope x) Q l M L := fun a w hf hs => wp_scope_straight (h a w hf hs)
theorem c_label {k : Nat} (h : c.N (Q .normal) l M L) : c.C (.label k) Q l M L := fun a w hf hs => wp_label (h a w hf hs)
end
/-- An array's cells, seen as a slice's. -/
theorem RS.view {M : Heap} {b off n lo h : Nat} {A : List Value} {k : IntKind} {v : Vector Int n} {T : TypeId} {fr : Nat × Nat} (hb : M b = some (.cells A.toArray T fr)) (hV : (A.drop off).take n = vI k v) (h1 : lo ≤ h) (h2 : h ≤ n) (h3 : lo < n) :
    RS (FI k) M (vw b off n lo h) ((v.toList.take h).drop lo) := by
  have hA : off + n ≤ A.length := by
    have := congrArg List.length hV
    rw [vI_len] at this
    simp at this
    omega
  have hl : h - lo = ((v.toList.take h).drop lo).length := by simp; omega
  refine .inr ⟨b, n - lo, A.take (off + lo), A.drop (off + h), T, fr, ?_, ?_, ?_, ?_⟩
  · unfold vw
    rw [if_neg (by omega), hl, show (A.take (off + lo)).length = off + lo by simp; omega]
  · rw [hb]
    congr 3
    have e : flat (FI k) ((v.toList.take h).drop lo) = (A.drop (off + lo)).take (h - lo) := by
      rw [flat_ints, List.map_drop, List.map_take, show v.toList.map (Value.int k) = vI k v from rfl, ← hV, List.take_take, Nat.min_eq_left h2, List.drop_take, List.drop_drop]
    rw [e]
    have e2 : A.drop (off + h) = (A.drop (off + lo)).drop (h - lo) := by rw [List.drop_drop]; congr 1; omega
    rw [e2, List.take_append_drop, List.take_append_drop]
  · omega
  · simp [flat_length, FI]
    omega
end Go.Cu
