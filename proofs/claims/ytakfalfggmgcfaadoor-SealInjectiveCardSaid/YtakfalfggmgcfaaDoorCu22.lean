/- Rules for walks over facts, for any program; no condition. -/
import Derived.Test.YtakfalfggmgcfaaDoorCu21
set_option linter.unusedVariables false
set_option linter.unusedSimpArgs false
/-! Small laws that the printed walks use. -/
namespace Go.Cu
theorem vI_get0 {k : IntKind} {n : Nat} {v : Vector Int n} {i : Int} (h0 : 0 ≤ i) (h1 : i < n) : (vI k v)[0 + i.toNat]? = some (.int k (rd v.toList i)) := by rw [Nat.zero_add]; exact vI_get h0 h1
theorem vI_set0 {k : IntKind} {n : Nat} {v : Vector Int n} {i x : Int} (h0 : 0 ≤ i) (h1 : i < n) : splice (vI k v) (0 + i.toNat) [.int k x] = vI k (vs v i x) := by rw [Nat.zero_add]; exact vI_set h0 h1
theorem vI_all {k : IntKind} {n : Nat} (v : Vector Int n) : ((vI k v).drop 0).take n = vI k v := by rw [List.drop_zero, List.take_of_length_le]; rw [vI_len]; exact Nat.le_refl _
theorem idx_lt {i : Int} {n : Nat} (h0 : 0 ≤ i) (h1 : i < n) : i.toNat < n := by omega
theorem toNat_le {a b : Int} (h : a ≤ b) : a.toNat ≤ b.toNat := by omega
theorem toNat_le' {a : Int} {n : Nat} (h : a ≤ n) : a.toNat ≤ n := by omega
theorem idx_le {A : List Value} {o n m : Nat} {i : Int} (h0 : 0 ≤ i) (h1 : i < n) (hl : A.length = m) (hm : o + n ≤ m) : o + i.toNat + 1 ≤ A.length := by omega
theorem vI_sub {k : IntKind} {n lo m : Nat} {v : Vector Int n} (h : lo + m ≤ n) : ((vI k v).drop (0 + lo)).take m = vI k (lv v.toList lo m) := by
  rw [Nat.zero_add]
  exact (lv_map (by simpa using h)).symm
theorem vI_whole {k : IntKind} {n : Nat} (v y : Vector Int n) : splice (vI k v) 0 (vI k y) = vI k y := by
  unfold splice
  rw [List.drop_of_length_le (by rw [vI_len, vI_len]; omega)]
  simp
section
variable {P : Program} {w : World} {ρ : Operand → Value} {dst : Option Tmp} {ty : TypeId} {pos : String} {af : Array Edge} {gd : Option (Nat × Bool)}
end
/-- What is copied: some cells of which the first can be read. -/
def SrcC (P : Program) (M : Heap) (v : Value) (k : IntKind) (m : List Int) : Prop :=
  ∀ w, Sub M w → (Builtin.lenOf v).run P w = .ok m.length w ∧ ∀ n, n ≤ m.length → (Builtin.firstCells 1 n v).run P w = .ok ((m.take n).map (Value.int k)).toArray w
theorem SrcC.str {P : Program} {M : Heap} (s : List UInt8) : SrcC P M (str s) .u8 (bytesI s) := by
  intro w hs
  refine ⟨by simp [Builtin.lenOf, Cu.str, size_str, bytesI], fun n hn => ?_⟩
  have hn' : n ≤ s.length := by simpa [bytesI] using hn
  have e : ((ByteArray.mk s.toArray).extract 0 n).data.map (fun b => Value.int .u8 (b.toNat : Int)) = ((bytesI s).take n |>.map (Value.int .u8)).toArray := by
    apply Array.ext'
    simp [bytesI, List.map_take, List.extract_toArray, List.extract_eq_take_drop]
    rfl
  simp [Builtin.firstCells, Cu.str, bytesI]
  rfl
theorem SrcC.rs {P : Program} {M : Heap} {k : IntKind} {v : Value} {l : List Int} (h : RS (FI k) M v l) : SrcC P M v k l := by
  intro w hs
  rcases h with ⟨rfl, rfl⟩ | ⟨b, cap, pre, post, T, fr, rfl, hM, h1, h2⟩
  · refine ⟨rfl, fun n hn => ?_⟩
    obtain rfl : n = 0 := by simpa using hn
    rfl
  · refine ⟨rfl, fun n hn => ?_⟩
    have := run_loadCells_blk (P := P) (T := T) (fr := fr) (hs _ _ hM) (o := pre.length) (n := n) (cs := (l.take n).map (Value.int k)) (by
      rw [List.drop_left, flat_ints, List.take_append_of_le_length (by simpa using hn), List.map_take]) (by simp; omega)
    simpa [Builtin.firstCells] using this
section
variable {c : Cx} {Q : Exit → Act → World → Prop} {ops : Array Oper} {rest : List Oper} {l : List (Nat × Value)} {M : Heap} {L : List Item} {d : Nat} {ty : TypeId} {pos : String} {af : Array Edge} {gd : Option (Nat × Bool)}
theorem run_copyV {P : Program} {w w0 : World} {M M0 : Heap} {X : Nat → Prop} {it : Nat → Option Item} {i : Nat} {S E T t2 : TypeId} {b off n lo h : Nat} {A : List Value} {k : IntKind} {v : Vector Int n} {m : List Int} {v2 : Value} (hst : St X M0 w0 M it w)
    (hS : P.underlying S = some (.slice E)) (hE : TSize P E 1) (hi : it i = some (.blk b (.cells A.toArray T (0, 0)))) (hV : (A.drop off).take n = vI k v) (hA : off + n ≤ A.length) (h1 : lo ≤ h) (h2 : h ≤ n) (hsrc : SrcC P M v2 k m) {A' : List Value}
    (hW : splice A off (vI k (vcp v lo (m.take (h - lo)))) = A') :
    ∃ w', (Builtin.copy_ #[S, t2] ty #[vw b off n lo h, v2]).run P w = .ok (goInt ((m.take (h - lo)).length)) w' ∧ St X M0 w0 M (fun j => if j = i then some (.blk b (.cells A'.toArray T (0, 0))) else it j) w' := by
  obtain ⟨q1, q2⟩ := hsrc w hst.sub
  have hB : Blk w b A T (0, 0) := hst.blk hi
  have hmin : Nat.min m.length (h - lo) = (m.take (h - lo)).length := by simp [Nat.min_comm]
  have q3 := q2 (Nat.min m.length (h - lo)) (Nat.min_le_left _ _)
  have htk : m.take (Nat.min m.length (h - lo)) = m.take (h - lo) := by
    show m.take (min m.length (h - lo)) = _
    rcases Nat.le_total m.length (h - lo) with hle | hle
    · rw [Nat.min_eq_left hle, List.take_of_length_le (Nat.le_refl _), List.take_of_length_le hle]
    · rw [Nat.min_eq_right hle]
  rw [htk] at q3
  rw [hmin] at q3
  generalize hc : m.take (h - lo) = c at *
  have hcl : c.length ≤ h - lo := by rw [← hc]; simp; omega
  have hcl2 : lo + c.length ≤ n := by omega
  have hsp : splice A (off + lo) (c.map (Value.int k)) = A' := by
    rw [← hW]
    have e : A = A.take off ++ (vI k v ++ A.drop (off + n)) := by
      rw [← hV, ← List.drop_drop, List.take_append_drop, List.take_append_drop]
    have ho : (A.take off).length = off := by simp; omega
    generalize A.take off = Y at e ho
    generalize A.drop (off + n) = Z at e
    subst e ho
    rw [splice_whole (by rw [vI_len, vI_len])]
    have hvc : vI k (vcp v lo c) = (v.toList.take lo).map (Value.int k) ++ (c.map (Value.int k) ++ (v.toList.drop (lo + c.length)).map (Value.int k)) := by
      unfold vI vcp
      rw [lv_map (by simp; omega)]
      rw [List.drop_zero, List.take_of_length_le (by simp; omega)]
      simp
    rw [hvc]
    unfold splice vI
    rw [Nat.add_comm Y.length lo, List.take_append, List.take_of_length_le (l := Y) (by omega), Nat.add_sub_cancel, List.take_append_of_le_length (by simp; omega)]
    rw [List.drop_append, List.drop_of_length_le (l := Y) (by simp; omega), List.length_map, show lo + Y.length + c.length - Y.length = lo + c.length by omega, List.drop_append_of_le_length (by simp; omega)]
    simp [List.map_take, List.map_drop]
  have hwr : ∃ w', (storeCells ⟨b, off + lo, none⟩ (c.map (Value.int k))).run P w = .ok () w' ∧ w'.os = w.os ∧ w'.tape = w.tape ∧ w'.output = w.output ∧ w'.heap.size = w.heap.size ∧ (∀ j, j ≠ b → w'.heap[j]? = w.heap[j]?) ∧ Blk w' b A' T (0, 0) := by
    obtain ⟨w', g0, g1, g2, g3, g4, g5, g6⟩ := run_storeCells (P := P) (c.map (Value.int k)) w A (off + lo) 0 hB (by simp; omega) (by simp) (by
      intro u hu
      simp only [List.mem_map] at hu
      obtain ⟨z, _, rfl⟩ := hu
      rfl)
    exact ⟨w', g0, g1, g2, g3, g4, g5, by rw [← hsp]; simpa using g6⟩
  obtain ⟨w', g0, g1, g2, g3, g4, g5, g6⟩ := hwr
  have hfin := hst.wr hi g1 g2 g3 g4 g5 g6
  by_cases hn : n = lo
  · -- an empty view at the end: nothing is written
    have hc0 : c = [] := by
      apply List.eq_nil_of_length_eq_zero; omega
    subst hc0
    have hAA : A' = A := by rw [← hsp]; simp [splice]
    subst hAA
    refine ⟨w, ?_, ?_⟩
    · have hst0 : (storeCells (⟨b, off, none⟩ : Addr) ([] : List Value)).run P w = .ok () w := rfl
      have q3' : (Builtin.firstCells 1 0 v2).run P w = .ok (#[] : Array Value) w := q3
      simp [Builtin.copy_, run_underlying hS, vw, hn, q1, hE.run, q3', hst0, hmin]
    · have : (fun j => if j = i then some (Item.blk b (.cells A'.toArray T (0, 0))) else it j) = it := by
        funext j
        by_cases e : j = i
        · subst e; simp [hi]
        · simp [e]
      rw [this]; exact hst
  · refine ⟨w', ?_, hfin⟩
    simp [Builtin.copy_, run_underlying hS, vw, hn, q1, hE.run, q3, g0, hmin]
theorem w_copy {x y : Operand} {S E T t2 : TypeId} {b off n lo h i : Nat} {A A' : List Value} {k : IntKind} {v : Vector Int n} {m : List Int} {v2 : Value} (hS : c.P.underlying S = some (.slice E)) (hE : TSize c.P E 1) (hg : Wnt ops l gd) (hd : Nat.blt d c.n = true)
    (hx : ev l x = some (vw b off n lo h)) (hy : ev l y = some v2) (hi : L[i]? = some (.blk b (.cells A.toArray T (0, 0)))) (hV : (A.drop off).take n = vI k v) (hA : off + n ≤ A.length) (h1 : lo ≤ h) (h2 : h ≤ n) (hsrc : SrcC c.P M v2 k m)
    (hW : splice A off (vI k (vcp v lo (m.take (h - lo)))) = A')
    (hh : c.W ops rest Q ((d, .int .i64 ((m.take (h - lo)).length : Int)) :: l) M (L.set i (.blk b (.cells A'.toArray T (0, 0))))) : c.W ops (⟨some d, .call ⟨.builtin .copy, #[x, y], #[S, t2]⟩, ty, pos, af, gd⟩ :: rest) Q l M L := by
  refine w_op hg hd (Φ := fun v' w' => v' = .int .i64 ((m.take (h - lo)).length : Int) ∧ St c.X c.M0 c.w0 M (lt (L.set i (.blk b (.cells A'.toArray T (0, 0))))) w') ?_ ?_
  · intro a w hf hs
    obtain ⟨w', hr, hst⟩ := run_copyV (P := c.P) (t2 := t2) (ty := ty) hs hS hE hi hV hA h1 h2 hsrc hW
    refine OpOK.val (v := goInt ((m.take (h - lo)).length)) (w' := w') ?_ ⟨rfl, ?_⟩
    · simp [execOp, hf.ev hx, hf.ev hy, resolve, invoke, builtin, hr]
    · rw [lt_set _ _ _ _ hi] at hst; exact hst
  · rintro v' w' ⟨rfl, hs⟩ a' hf
    exact hh a' w' hf hs
theorem w_giveB {b : Nat} {o : Obj} (i : Nat) (hi : L[i]? = some (.blk b o)) (hX : ¬ c.X b) (h : ∀ M', HLe M M' → M' b = some o → c.W ops rest Q l M' (L.set i dead)) : c.W ops rest Q l M L := by
  intro a w hf hs
  obtain ⟨h1, h2⟩ := hs.give (i := i) hi hX
  refine h _ h2 (if_pos rfl) a w hf ?_
  refine h1.pad (fun j => j) (fun _ _ _ _ e => e) ?_
  intro j x hx
  have hx : (L.set i dead)[j]? = some x := hx
  by_cases hj : j = i
  · subst hj
    rw [List.getElem?_set_self (List.getElem?_eq_some_iff.1 hi).1] at hx
    injection hx with hx
    exact .inr ⟨if_pos rfl, hx.symm⟩
  · rw [List.getElem?_set_ne (fun e => hj e.symm)] at hx
    exact .inl (by rw [if_neg hj]; exact hx)
end
/-! ### A slice that a callee hands over as the caller's own -/
theorem enterR {P : Program} {f : FuncId} {fn : Func} {body : Code} {args : List Value} {M : Heap} {w : World} {Φ : Heap → Item → Value → Prop} (n : Nat) (l : List (Nat × Value))
    (hf : P.funcs[f]? = some fn) (hb : fn.body = some body) (hn : args.length + (fn.ntmps - args.length) = n) (hl : frame0 0 args = l) (hs : Sub M w)
    (h : ∀ Q : Exit → Act → World → Prop,
      (∀ e, e = .ret ∨ e = .normal → ∀ a w', a.defers = [] → (∃ v M' x', Res P fn a w' v ∧ St none' M w M' (lt [x']) w' ∧ Φ M' x' v) → Q e a w') →
      (Cx.mk P n none' M w).C body Q l M []) : Calls P f args.toArray w (PostI none' M w Φ) := by
  subst hn hl
  refine calls_of_wp hf hb ?_
  refine h _ ?_ _ _ ?_ (St.start hs)
  · rintro e he a w' hd ⟨v, M', x', hr, hx, hv⟩
    rcases he with rfl | rfl
    · exact ⟨hd, v, hr, v, M', x', rfl, hx, hv⟩
    · exact ⟨hd, v, hr, v, M', x', rfl, hx, hv⟩
  · refine ⟨rfl, by simp, ?_⟩
    intro t v hv
    obtain ⟨_, h2⟩ := lk_frame0 _ _ _ _ hv
    simp only [Nat.sub_zero] at h2
    rw [Array.getD_eq_getD_getElem?, Array.getElem?_append_left]
    · simp [h2]
    · have := (List.getElem?_eq_some_iff.1 h2).1; simpa using this
theorem St.join {X : Nat → Prop} {M0 M M' : Heap} {w0 w w' : World} {L : List Item} {x : Item} (h : St X M0 w0 M (lt L) w) (h' : St none' M w M' (lt [x]) w') : St X M0 w0 M' (lt (L ++ [x])) w' := by
  have hext : Ext none' M w M' w' := h'.ext
  obtain ⟨e', bo', g1, g2, g3⟩ := h'
  have h2 := h.step hext
  obtain ⟨e, bo, h1, h3, h4⟩ := h
  obtain ⟨f1, _⟩ := h2
  have hlt : ∀ j b, bo j = some b → (lt L j).isSome → b < w.heap.size := by
    intro j b hb hj
    obtain ⟨y, hy⟩ := Option.isSome_iff_exists.1 hj
    have := h4 j y hy
    rw [hb] at this
    exact Item.sat_lt this
  have hge : ∀ b, bo' 0 = some b → w.heap.size ≤ b ∧ M' b = none := by
    intro b hb
    obtain ⟨p, q⟩ := g2 0 b hb
    exact ⟨p.resolve_right (fun h => h), q⟩
  have hx := g3 0 x (by simp [lt])
  refine ⟨f1, fun j => if j = L.length then bo' 0 else if (lt L j).isSome then bo j else none, ?_, ?_, ?_⟩
  · intro j k b hj hk
    simp only at hj hk
    by_cases ej : j = L.length
    · by_cases ek : k = L.length
      · rw [ej, ek]
      · rw [if_pos ej] at hj
        rw [if_neg ek] at hk
        split at hk
        · have := hlt k b hk (by assumption); have := (hge b hj).1; omega
        · cases hk
    · rw [if_neg ej] at hj
      split at hj
      · by_cases ek : k = L.length
        · rw [if_pos ek] at hk
          have := hlt j b hj (by assumption); have := (hge b hk).1; omega
        · rw [if_neg ek] at hk
          split at hk
          · exact h1 _ _ _ hj hk
          · cases hk
      · cases hj
  · intro j b hj
    simp only at hj
    by_cases ej : j = L.length
    · rw [if_pos ej] at hj
      exact ⟨.inl (Nat.le_trans e.size (hge b hj).1), (hge b hj).2⟩
    · rw [if_neg ej] at hj
      split at hj
      · refine ⟨(h3 _ _ hj).1, ?_⟩
        rw [hext.old b (hlt j b hj (by assumption))]; exact (h3 _ _ hj).2
      · cases hj
  · intro j y hy
    by_cases ej : j = L.length
    · subst ej
      have : y = x := by
        have : (L ++ [x])[L.length]? = some y := hy
        simpa using this.symm
      subst this
      simp only [if_true]
      exact hx
    · have hy' : lt L j = some y := by
        unfold lt at hy ⊢
        rcases Nat.lt_or_ge j L.length with hj | hj
        · rwa [List.getElem?_append_left hj] at hy
        · rw [List.getElem?_append_right hj, List.getElem?_eq_none (by simp; omega)] at hy; cases hy
      simp only [ej, if_false, hy', Option.isSome_some, if_true]
      exact Item.sat_of_same (h4 j y hy') fun b hb => hext.block b (hlt j b hb (by simp [hy'])) id
section
variable {c : Cx} {Q : Exit → Act → World → Prop} {ops : Array Oper} {rest : List Oper} {l : List (Nat × Value)} {M : Heap} {L : List Item} {d : Nat} {ty : TypeId} {pos : String} {af : Array Edge} {gd : Option (Nat × Bool)}
theorem w_callR {f : FuncId} {xs : List Operand} {ts : Array TypeId} {vs : List Value} {Φ : Heap → Item → Value → Prop} (hcf : CF c.P f) (hg : Wnt ops l gd) (hd : Nat.blt d c.n = true) (hx : evs l xs = some vs)
    (hc : ∀ w, Sub M w → Calls c.P f vs.toArray w (PostI none' M w Φ)) (h : ∀ v M' x', HLe M M' → Φ M' x' v → c.W ops rest Q ((d, v) :: l) M' (L ++ [x'])) :
    c.W ops (⟨some d, .call ⟨.value (.func f), xs.toArray, ts⟩, ty, pos, af, gd⟩ :: rest) Q l M L := by
  refine w_op hg hd (Φ := fun v w' => ∃ M' x', HLe M M' ∧ Φ M' x' v ∧ St c.X c.M0 c.w0 M' (lt (L ++ [x'])) w') ?_ ?_
  · intro a w hf hs
    refine OpOK.enter (f := f) (args := vs.toArray) (w' := w) ?_ ?_
    · simp [execOp, resolve, Act.eval, Deferred.ofValue, invoke, hf.evs hx]
      exact hcf _ _
    · refine (hc w hs.sub).mono ?_
      rintro e w'' ⟨v, M', x', rfl, hst, hv⟩
      exact ⟨v, rfl, M', x', hst.ext.le hs.sub, hv, hs.join hst⟩
  · rintro v w' ⟨M', x', h1, h2, h3⟩ a' hf
    exact h v M' x' h1 h2 a' w' hf h3
end
theorem postR {P : Program} {f : FuncId} {args : Array Value} {M : Heap} {w : World} {α : Type} {F : Fl α} {E : TypeId} {r : List α} (h : Calls P f args w (PostI none' M w fun M' x v => x = rowI F v E r)) :
    Calls P f args w (Post M w fun M' v => ∃ v0, v = v0 ∧ RS F M' v0 r) := by
  refine h.mono ?_
  rintro e w' ⟨v, M', x, rfl, hst, rfl⟩
  obtain ⟨M'', h1, h2, h3⟩ := hst.giveRow (F := F) (T := E) (l := r) (i := 0) rfl (fun _ h => h)
  exact ⟨v, M'', rfl, h1.ext, v, rfl, h3⟩
end Go.Cu
