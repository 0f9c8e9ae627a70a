/- Rules for walks over facts, for any program; no condition. -/
import Derived.Test.YtakfalfggmgcfaaDoorCu8
set_option linter.unusedSimpArgs false
set_option linter.unusedVariables false
/-! Rows in a walk. -/
namespace Go.Cu

/-- What must be known of the elements' type for append and make. -/
structure TEl (P : Program) (E : TypeId) (sz : Nat) : Prop where
  size : TSize P E sz
  bytes : ∃ n, TBytes P E n ∧ n ≤ 1024
  zero : ∃ z, TZero P E z ∧ z.cells.size = sz

section rules
variable {c : Cx} {Q : Exit → Act → World → Prop} {l : List (Nat × Value)} {M : Heap} {L : List Item} {x : Code}
variable {ops : Array Oper} {rest : List Oper} {d : Nat} {ty : TypeId} {pos : String} {af : Array Edge} {gd : Option (Nat × Bool)}
variable {α : Type} {F : Fl α}

theorem w_app {x1 x2 : Operand} {S E t2 : TypeId} {d2 : TypeDesc} {v v2 : Value} {m m2 : List α} {i : Nat} (hS : c.P.underlying S = some (.slice E)) (hE : TEl c.P E F.sz)
    (ht2 : c.P.underlying t2 = some d2) (hd2 : (∃ e, d2 = .slice e) ∨ d2 = .string) (hg : Wnt ops l gd) (hd : Nat.blt d c.n = true) (h1 : ev l x1 = some v) (h2 : ev l x2 = some v2)
    (hi : L[i]? = some (rowI F v E m)) (hsrc : Src c.P M F.sz v2 m2.length (flat F m2)) (hb : m.length + m2.length < 68719476736)
    (h : ∀ v', c.W ops rest Q ((d, v') :: l) M (L.set i (rowI F v' E (m ++ m2)))) :
    c.W ops (⟨some d, .call ⟨.builtin .append, #[x1, x2], #[S, t2]⟩, ty, pos, af, gd⟩ :: rest) Q l M L := by
  obtain ⟨nb, hb1, hb2⟩ := hE.bytes
  obtain ⟨z, hz1, hz2⟩ := hE.zero
  refine w_op hg hd (Φ := fun v' w' => St c.X c.M0 c.w0 M (lt (L.set i (rowI F v' E (m ++ m2)))) w') ?_ ?_
  · intro a w hf hs
    obtain ⟨v', w', hr, hst⟩ := run_append (t2 := t2) (ty := ty) hs hS hE.size hb1 hb2 hz1 hz2 ht2 hd2 hi hsrc hb
    refine OpOK.val (v := v') (w' := w') ?_ ?_
    · simp [execOp, hf.ev h1, hf.ev h2, resolve, invoke, builtin, hr]
    · rw [lt_set _ _ _ _ hi] at hst
      simpa [rowI] using hst
  · intro v' w' hs a' hf
    exact h v' a' w' hf hs

theorem r_lenW {P : Program} {X : Nat → Prop} {M0 M : Heap} {w0 w : World} {it : Nat → Option Item} {ρ : Operand → Value} {dst : Option Tmp} {t e : TypeId} {y : Operand} {v : Value} {T : TypeId} {m : List α} (i : Nat)
    (hs : St X M0 w0 M it w) (hi : it i = some (rowI F v T m)) (ht : P.underlying t = some (.slice e)) (hx : ρ y = v) :
    (execOp ρ ⟨dst, .call ⟨.builtin .len, #[y], #[t]⟩, ty, pos, af, gd⟩).run P w = .ok (.value (.int .i64 m.length)) w := by
  obtain ⟨_, bo, _, _, h3⟩ := hs
  have := h3 i _ hi
  cases hb : bo i with
  | none => rw [hb] at this; obtain ⟨e1, _, e3⟩ := this; rw [r_llen (a := none) (n := 0) (c := 0) ht (by rw [hx, e1])]; rw [e3]
  | some b => rw [hb] at this; obtain ⟨cap, sp, fr, e1, _⟩ := this; exact r_llen ht (by rw [hx, e1])
theorem row_blk {X : Nat → Prop} {M0 M : Heap} {w0 w : World} {it : Nat → Option Item} {v : Value} {T : TypeId} {m : List α} {i : Nat} (hs : St X M0 w0 M it w) (hi : it i = some (rowI F v T m)) (hne : 0 < m.length) :
    ∃ b cap sp fr, v = .slice (some ⟨b, 0, none⟩) m.length cap ∧ Blk w b (flat F m ++ sp) T fr ∧ (∀ j, j < (flat F m ++ sp).length → ¬ (fr.1 ≤ j ∧ j < fr.2)) := by
  obtain ⟨_, bo, _, _, h3⟩ := hs
  have := h3 i _ hi
  cases hb : bo i with
  | none => rw [hb] at this; obtain ⟨e1, _, e3⟩ := this; omega
  | some b =>
    rw [hb] at this
    obtain ⟨cap, sp, fr, e1, e2, e3, e4, e5, e6⟩ := this
    refine ⟨b, cap, sp, fr, e1, e6, ?_⟩
    intro j hj
    apply e5; simp at hj; omega
theorem r_iW {P : Program} {X : Nat → Prop} {M0 M : Heap} {w0 w : World} {it : Nat → Option Item} {ρ : Operand → Value} {dst : Option Tmp} {t e : TypeId} {y z : Operand} {v : Value} {T : TypeId} {m : List α} {k : IntKind} {j : Int} (i : Nat)
    (hs : St X M0 w0 M it w) (hi : it i = some (rowI F v T m)) (ht : P.underlying t = some (.slice e)) (hsz : TSize P e F.sz) (hx : ρ y = v) (hz : ρ z = .int k j) (h0 : 0 ≤ j) (h1 : j < m.length) :
    (execOp ρ ⟨dst, .indexAddr t y z, ty, pos, af, gd⟩).run P w = .ok (.value (eP v j F.sz 0)) w := by
  obtain ⟨b, cap, sp, fr, rfl, _⟩ := row_blk hs hi (by omega)
  rw [r_is ht hsz hx hz h0 h1]; simp [eP]
theorem r_loadW1 [Inhabited α] {P : Program} {X : Nat → Prop} {M0 M : Heap} {w0 w : World} {it : Nat → Option Item} {ρ : Operand → Value} {dst : Option Tmp} {y : Operand} {t : TypeId} {v u : Value} {T off : Nat} {m : List α} {j : Int} (i : Nat)
    (ht : TAgg P t false) (hs : St X M0 w0 M it w) (hi : it i = some (rowI F v T m)) (h0 : 0 ≤ j) (h1 : j < m.length) (hx : ρ y = eP v j F.sz off) (hu : (F.f (rd m j))[off]? = some u) :
    (execOp ρ ⟨dst, .load t y, ty, pos, af, gd⟩).run P w = .ok (.value u) w := by
  obtain ⟨b, cap, sp, fr, rfl, hB, _⟩ := row_blk hs hi (by omega)
  refine r_load1 ht (b := b) (o := 0 + (j.toNat * F.sz + off)) hx hB ?_
  have hlt : off < F.sz := by have := (List.getElem?_eq_some_iff.1 hu).1; rwa [F.len] at this
  have hat := flat_at F m j.toNat _ (rd_get h0 h1)
  have : (flat F m)[j.toNat * F.sz + off]? = some u := by
    rw [← hu, ← hat, List.getElem?_take, if_pos hlt, List.getElem?_drop]
  rw [Nat.zero_add, List.getElem?_append_left (List.getElem?_eq_some_iff.1 this).1]
  exact this
/-- xs[i] = x. -/
def wr {α : Type} (m : List α) (j : Int) (x : α) : List α := m.set j.toNat x
theorem flat_set (F : Fl α) : ∀ (m : List α) (k : Nat) (x : α), k < m.length → splice (flat F m) (k * F.sz) (F.f x) = flat F (m.set k x)
  | [], k, x, h => by simp at h
  | y :: m, 0, x, h => by
    simp only [splice, flat_cons, List.set_cons_zero, Nat.zero_mul, List.take_zero, List.nil_append, Nat.zero_add]
    rw [List.drop_append, F.len, List.drop_of_length_le (by rw [F.len]; exact Nat.le_refl _), F.len]
    simp
  | y :: m, k + 1, x, h => by
    have ih := flat_set F m k x (by simpa using h)
    simp only [flat_cons, List.set_cons_succ]
    rw [← ih]
    simp only [splice, Nat.succ_mul]
    have e : k * F.sz + F.sz = (F.f y).length + k * F.sz := by rw [F.len]; omega
    rw [e, List.take_append, List.take_of_length_le (by omega)]
    rw [show (F.f y).length + k * F.sz + (F.f x).length = (F.f y).length + (k * F.sz + (F.f x).length) from by omega]
    rw [List.drop_append, List.drop_of_length_le (by omega)]
    simp
theorem splice_append (A B : List Value) (o : Nat) (vs : List Value) (h : o + vs.length ≤ A.length) : splice (A ++ B) o vs = splice A o vs ++ B := by
  simp only [splice]
  rw [List.take_append_of_le_length (by omega), List.drop_append_of_le_length (by omega)]
  simp
theorem w_storeW {T : TypeId} {p y : Operand} {v u : Value} {E : TypeId} {m : List α} {j : Int} {e : α} (i : Nat) (hF : F.One) (hg : Wnt ops l gd) (hp : ev l p = some (eP v j F.sz 0)) (hy : ev l y = some u)
    (hi : L[i]? = some (rowI F v E m)) (hu : u.cells = (F.f e).toArray) (hT : TSize c.P T F.sz) (h0 : 0 ≤ j) (h1 : j < m.length)
    (h : c.W ops rest Q l M (L.set i (rowI F v E (wr m j e)))) : c.W ops (⟨none, .store T p y, ty, pos, af, gd⟩ :: rest) Q l M L := by
  refine w_op0 hg (Φ := fun _ w' => St c.X c.M0 c.w0 M (lt (L.set i (rowI F v E (wr m j e)))) w') ?_ ?_
  · intro a w hf hs
    obtain ⟨b, cap, sp, fr, rfl, hB, hfr⟩ := row_blk (i := i) hs hi (by omega)
    have hk : j.toNat < m.length := by omega
    have hlen : j.toNat * F.sz + F.sz ≤ (flat F m).length := by
      rw [flat_length]
      calc j.toNat * F.sz + F.sz = (j.toNat + 1) * F.sz := by rw [Nat.succ_mul]
        _ ≤ _ := Nat.mul_le_mul_right _ hk
    obtain ⟨w', hr, e1, e2, e3, e4, e5, e6⟩ := run_storeCells (P := c.P) (F.f e) w (flat F m ++ sp) (j.toNat * F.sz) 0 hB (by simp [F.len]; omega) hfr (hF e)
    refine OpOK.skip (w' := w') ?_ ?_
    · have hev := hf.ev hp
      simp only [eP, Nat.zero_add, Nat.add_zero] at hev
      simp [execOp, hev, hf.ev hy, Instr.storeAt, Instr.sureAddr, storeVar, hu, hT.run, F.len, hr]
    · rw [← lt_set L i _ _ hi]
      have hsp : splice (flat F m ++ sp) (j.toNat * F.sz + 0) (F.f e) = flat F (wr m j e) ++ sp := by
        rw [Nat.add_zero, splice_append _ _ _ _ (by rw [F.len]; exact hlen), flat_set F m _ e hk]; rfl
      rw [hsp] at e6
      refine hs.write hi e1 e2 e3 e4 ?_ ?_
      · rintro b' ⟨cap', sp', fr', g1, g2, g3, g4, g5, g6⟩
        injection g1 with g1 _ g1'
        injection g1 with g1
        injection g1 with g1
        subst g1 g1'
        have hBB : (flat F m ++ sp).toArray = (flat F m ++ sp').toArray ∧ fr = fr' := by
          have := hB.symm.trans g6
          injection this with this
          injection this with h1 _ h3
          exact ⟨h1, h3⟩
        have hsp' : sp = sp' := by
          have := congrArg Array.toList hBB.1
          simpa using this
        subst hsp'
        obtain ⟨_, rfl⟩ := hBB
        refine ⟨e5, cap, sp, fr, ?_, ?_, ?_, ?_, g5, e6⟩
        · simp [wr]
        · simp [wr, flat_length]
        · simpa [wr] using g3
        · simpa [wr, flat_length] using g4
      · intro v'' T'' sz'' n'' cs'' heq hn
        cases heq
        obtain ⟨_, _, g3⟩ := hn
        omega
  · intro _ w' hs a' hf
    exact h a' w' hf hs
end rules

/-! ### Slice literals -/
theorem foldl_fill : ∀ (A pre : List Value) (vs : List Value), vs.length ≤ A.length → (vs.zipIdx.foldl (fun (cs : Array Value) (p : Value × Nat) => cs.setIfInBounds (pre.length + p.2) p.1) (pre ++ A).toArray) = (pre ++ (vs ++ A.drop vs.length)).toArray := by
  intro A pre vs
  have gen : ∀ (vs : List Value) (k : Nat) (A pre : List Value), vs.length ≤ A.length → ((vs.zipIdx k).foldl (fun (cs : Array Value) (p : Value × Nat) => cs.setIfInBounds (pre.length + p.2 - k) p.1) (pre ++ A).toArray) = (pre ++ (vs ++ A.drop vs.length)).toArray := by
    intro vs
    induction vs with
    | nil => intro k A pre h; simp
    | cons v vs ih =>
      intro k A pre h
      cases A with
      | nil => simp at h
      | cons y A =>
        have := ih (k + 1) A (pre ++ [v]) (by simpa using h)
        simp only [List.zipIdx_cons, List.foldl_cons]
        have e : (pre ++ y :: A).toArray.setIfInBounds (pre.length + k - k) v = ((pre ++ [v]) ++ A).toArray := by
          apply Array.ext'
          simp
        rw [e]
        have e2 : (fun (cs : Array Value) (p : Value × Nat) => cs.setIfInBounds ((pre ++ [v]).length + p.2 - (k + 1)) p.1) = fun cs p => cs.setIfInBounds (pre.length + p.2 - k) p.1 := by
          funext cs p
          congr 1
          simp; omega
        rw [← e2, this]
        simp
  intro h
  have := gen vs 0 A pre h
  simpa using this

theorem fill_all {sz : Nat} : ∀ (vs : List Value) (k : Nat) (pre A : List Value), (∀ v ∈ vs, v.cells.size = sz) → pre.length = k * sz → A.length = vs.length * sz →
    Instr.fill (fun i => some (i * sz, sz)) (pre ++ A).toArray ((vs.zipIdx k).map fun p => (p.2, p.1)) = some (pre ++ vs.flatMap fun v => v.cells.toList).toArray
  | [], k, pre, A, _, _, hA => by
    have : A = [] := by simpa using hA
    subst this; simp [Instr.fill]
  | v :: vs, k, pre, A, hv, hp, hA => by
    have hsz := hv v (by simp)
    have hle : sz ≤ A.length := by rw [hA]; simp [Nat.add_mul]
    have h1 : ¬ (v.cells.size ≠ sz) := by simpa using hsz
    have h2 : ¬ (k * sz + v.cells.size > (pre ++ A).toArray.size) := by rw [hsz]; simp [hp]; omega
    simp only [List.zipIdx_cons, List.map_cons, Instr.fill]
    have hcond : (v.cells.size ≠ sz || k * sz + v.cells.size > (pre ++ A).toArray.size) = false := by simp [hsz, hp, hle]
    rw [if_neg (by simpa using hcond)]
    have hf : (v.cells.zipIdx.foldl (fun cs (p : Value × Nat) => cs.setIfInBounds (k * sz + p.2) p.1) (pre ++ A).toArray) = ((pre ++ v.cells.toList) ++ A.drop sz).toArray := by
      have hl : v.cells.toList.length = sz := by simpa using hsz
      have := foldl_fill A pre v.cells.toList (by rw [hl]; exact hle)
      rw [hl, hp] at this
      rw [← Array.foldl_toList]
      simp only [Array.toList_zipIdx]
      rw [this, List.append_assoc]
    have ih := fill_all vs (k + 1) (pre ++ v.cells.toList) (A.drop sz) (fun u hu => hv u (by simp [hu])) (by simp [hp, hsz, Nat.add_mul]) (by simp [hA, Nat.add_mul])
    refine Eq.trans ?_ (ih.trans ?_)
    · congr 1
    · simp

theorem run_buildSlice {P : Program} {w : World} {S E : TypeId} {sz : Nat} {z : Value} {vs : List Value} (hS : P.underlying S = some (.slice E)) (hs : TSize P E sz) (hz : TZero P E z) (hzs : z.cells.size = sz)
    (hv : ∀ v ∈ vs, v.cells.size = sz) (hb : vs.length * sz ≤ 16777216) :
    (Instr.buildSlice S vs.length ((vs.zipIdx.map fun p => (p.2, p.1)).toArray)).run P w = .ok (.slice (some ⟨w.heap.size, 0, none⟩) vs.length vs.length) (w.alloc (.cells (vs.flatMap fun v => v.cells.toList).toArray E)) := by
  have hn : ¬ (vs.length * sz > 2 ^ 24) := by omega
  have hf := fill_all (sz := sz) vs 0 [] ((Array.range (vs.length * sz)).map (z.cells[· % z.cells.size]!)).toList hv (by simp) (by simp)
  rw [List.nil_append, List.nil_append, Array.toArray_toList] at hf
  by_cases h0 : vs.length * sz = 0
  · have e0 : ∀ f : Nat → Value, (Array.range (vs.length * sz)).map f = #[] := by intro f; rw [h0]; simp
    rw [e0] at hf
    simp only [Instr.buildSlice, Sem.run_bind, run_underlying hS, Result.andThen_ok, hs.run, Sem.run_ite]
    rw [if_neg hn]
    simp only [Sem.run_pure, Result.andThen_ok, if_pos h0, e0, hf]
    simp [run_newRow]
  · simp only [Instr.buildSlice, Sem.run_bind, run_underlying hS, Result.andThen_ok, hs.run, Sem.run_ite]
    rw [if_neg hn]
    simp only [Sem.run_pure, Result.andThen_ok, if_neg h0, Sem.run_bind, hz.run, hf]
    simp [run_newRow]

theorem lit_cells {α : Type} {F : Fl α} {vs : List Value} {es : List α} (h : vs.map (fun v => v.cells.toList) = es.map F.f) :
    vs.length = es.length ∧ (∀ v ∈ vs, v.cells.size = F.sz) ∧ (vs.flatMap fun v => v.cells.toList) = flat F es := by
  refine ⟨by simpa using congrArg List.length h, ?_, ?_⟩
  · intro v hv
    have : v.cells.toList ∈ es.map F.f := by rw [← h]; exact List.mem_map.2 ⟨v, hv, rfl⟩
    obtain ⟨e, _, he⟩ := List.mem_map.1 this
    have := F.len e
    rw [he] at this; simpa using this
  · unfold flat List.flatMap; rw [h]

section rules
variable {c : Cx} {Q : Exit → Act → World → Prop} {l : List (Nat × Value)} {M : Heap} {L : List Item} {x : Code}
variable {ops : Array Oper} {rest : List Oper} {d : Nat} {ty : TypeId} {pos : String} {af : Array Edge} {gd : Option (Nat × Bool)}
variable {α : Type} {F : Fl α}

theorem exec_bsl {P : Program} {w : World} {ρ : Operand → Value} {dst : Option Tmp} {S E : TypeId} {xs : List Operand} {vs : List Value} {es : List α} (hS : P.underlying S = some (.slice E)) (hE : TEl P E F.sz)
    (hx : xs.map ρ = vs) (he : vs.map (fun v => v.cells.toList) = es.map F.f) (hn : xs.length * F.sz ≤ 16777216) :
    (execOp ρ ⟨dst, .buildSlice S xs.length (xs.zipIdx.map fun p => (p.2, p.1)).toArray, ty, pos, af, gd⟩).run P w = .ok (.value (.slice (some ⟨w.heap.size, 0, none⟩) es.length es.length)) (w.alloc (.cells (flat F es).toArray E)) := by
  obtain ⟨z, hz1, hz2⟩ := hE.zero
  obtain ⟨h1, h2, h3⟩ := lit_cells he
  have hl : xs.length = vs.length := by rw [← hx]; simp
  have := run_buildSlice (w := w) hS hE.size hz1 hz2 h2 (by rw [← hl]; exact hn)
  rw [h3] at this
  have hp : ((xs.zipIdx.map fun p => (p.2, p.1)).toArray.map fun (p : Nat × Operand) => (p.1, ρ p.2)) = (vs.zipIdx.map fun p => (p.2, p.1)).toArray := by
    subst hx
    simp [List.zipIdx_map, Function.comp_def]
  simp only [execOp, Sem.run_bind]
  rw [hp, hl, this, h1]
  rfl
/-- A slice literal that is not written any more. -/
theorem w_bsl {S E : TypeId} {xs : List Operand} {vs : List Value} {es : List α} {n : Nat} {parts : Array (Nat × Operand)} (hS : c.P.underlying S = some (.slice E)) (hE : TEl c.P E F.sz) (hg : Wnt ops l gd) (hd : Nat.blt d c.n = true)
    (hp : parts = (xs.zipIdx.map fun p => (p.2, p.1)).toArray) (hn : n = xs.length) (hx : evs l xs = some vs) (he : vs.map (fun v => v.cells.toList) = es.map F.f) (hb : xs.length * F.sz ≤ 16777216)
    (h : ∀ v M', HLe M M' → RS F M' v es → (∃ A, v = .slice A es.length es.length) → c.W ops rest Q ((d, v) :: l) M' L) : c.W ops (⟨some d, .buildSlice S n parts, ty, pos, af, gd⟩ :: rest) Q l M L := by
  subst hp hn
  refine w_newM (val := fun b => .slice (some ⟨b, 0, none⟩) es.length es.length) (o := .cells (flat F es).toArray E) hg hd (fun a w hf => exec_bsl hS hE (hf.evs hx) he hb) ?_
  intro b M' h1 h2
  refine h _ M' h1 (.inr ⟨b, es.length, [], [], E, (0, 0), rfl, by simpa using h2, Nat.le_refl _, by simp [flat_length]⟩) ⟨_, rfl⟩
/-- A slice literal that goes on as a row. -/
theorem w_bslW {S E : TypeId} {xs : List Operand} {vs : List Value} {es : List α} {n : Nat} {parts : Array (Nat × Operand)} (hS : c.P.underlying S = some (.slice E)) (hE : TEl c.P E F.sz) (hg : Wnt ops l gd) (hd : Nat.blt d c.n = true)
    (hp : parts = (xs.zipIdx.map fun p => (p.2, p.1)).toArray) (hn : n = xs.length) (hx : evs l xs = some vs) (he : vs.map (fun v => v.cells.toList) = es.map F.f) (hb : xs.length * F.sz ≤ 16777216)
    (h : ∀ v, c.W ops rest Q ((d, v) :: l) M (L ++ [rowI F v E es])) : c.W ops (⟨some d, .buildSlice S n parts, ty, pos, af, gd⟩ :: rest) Q l M L := by
  subst hp hn
  refine w_op hg hd (Φ := fun v w' => St c.X c.M0 c.w0 M (lt (L ++ [rowI F v E es])) w') ?_ ?_
  · intro a w hf hs
    refine OpOK.val (exec_bsl hS hE (hf.evs hx) he hb) ?_
    refine hs.newL ⟨es.length, [], (0, 0), rfl, flat_length F es, Nat.le_refl _, by simp [flat_length], by simp, ?_⟩
    rw [alloc_get]; simp
  · intro v w' hs a' hf
    exact h v a' w' hf hs

/-! ### make -/
theorem run_makeSlice {P : Program} {w : World} {S E : TypeId} {sz nb : Nat} {z : Value} {k k' : IntKind} {n m : Int} (hS : P.underlying S = some (.slice E)) (hs : TSize P E sz) (hb : TBytes P E nb) (hnb : nb ≤ 1024) (hz : TZero P E z) (hzs : z.cells.size = sz)
    (h0 : 0 ≤ n) (h1 : n ≤ m) (h2 : m < 68719476736) :
    (Instr.makeSlice S (.int k n) (.int k' m)).run P w = .ok (.slice (some ⟨w.heap.size, 0, none⟩) n.toNat m.toNat) (w.alloc (.cells ((Array.range (m.toNat * sz)).map (z.cells[· % z.cells.size]!)) E)) := by
  obtain ⟨info, hinfo, hnbi⟩ := hb.info
  have hw : ∀ x : Int, 0 ≤ x → x < 68719476736 → IntKind.i64.wrap x = x := by
    intro x hx hx'
    simp [IntKind.wrap, IntKind.bits, IntKind.signed]
    omega
  have e1 := hw n h0 (by omega)
  have e2 := hw m (by omega) h2
  have t1 : ∀ x : Int, 0 ≤ x → x < 68719476736 → (decide (x < 0) || decide ((info.bytes : Int) * x > 2 ^ 48)) = false := by
    intro x hx hx'
    have : (info.bytes : Int) * x ≤ 1024 * 68719476736 := by
      refine Int.le_trans (Int.mul_le_mul_of_nonneg_right (show (info.bytes : Int) ≤ 1024 by omega) hx) ?_
      omega
    simp; omega
  have c0 : ¬ m < 0 := by omega
  have c1 := t1 m (by omega) h2
  have c2 : ¬ n < 0 := by omega
  have c3 : ¬ n > m := by omega
  by_cases hz0 : m.toNat * sz = 0
  · have e0 : ∀ f : Nat → Value, (Array.range (m.toNat * sz)).map f = #[] := by intro f; rw [hz0]; simp
    simp only [Instr.makeSlice, Sem.run_bind, run_underlying hS, Result.andThen_ok, asInt, asIntOf, Sem.run_pure, run_typeInfo hinfo, e1, e2, c1, Sem.run_ite]
    simp [c2, c3, hs.run, hz0, run_newRow]
    have r : ∀ f : Nat → Value, (Array.range 0).map f = #[] := by intro f; simp
    rw [r, r]
  · simp only [Instr.makeSlice, Sem.run_bind, run_underlying hS, Result.andThen_ok, asInt, asIntOf, Sem.run_pure, run_typeInfo hinfo, e1, e2, c1, Sem.run_ite]
    simp [c2, c3, hs.run, hz0, hz.run, run_newRow]
/-- The zero of the elements. -/
structure FZ {α : Type} (P : Program) (E : TypeId) (F : Fl α) (e0 : α) : Prop where
  size : TSize P E F.sz
  bytes : ∃ n, TBytes P E n ∧ n ≤ 1024
  zero : ∃ z, TZero P E z ∧ z.cells = (F.f e0).toArray
theorem range_flat {α : Type} (F : Fl α) (e0 : α) (n : Nat) : ((Array.range (n * F.sz)).map ((F.f e0).toArray[· % (F.f e0).toArray.size]!)).toList = flat F (List.replicate n e0) := by
  have hl := F.len e0
  apply List.ext_getElem
  · simp [flat_length]
  · intro i h1 h2
    simp only [Array.toList_map, Array.toList_range, List.getElem_map, List.getElem_range]
    have hi : i < n * F.sz := by simpa using h1
    have hpos : 0 < F.sz := by rcases Nat.eq_zero_or_pos F.sz with h | h <;> simp_all
    have hq : i / F.sz < n := Nat.div_lt_of_lt_mul (by rw [Nat.mul_comm]; exact hi)
    have hr : i % F.sz < F.sz := Nat.mod_lt _ hpos
    have hat := flat_at F (List.replicate n e0) (i / F.sz) e0 (by simp [hq])
    have e1 : (F.f e0)[i % F.sz]? = (flat F (List.replicate n e0))[i]? := by
      rw [← hat, List.getElem?_take, if_pos hr, List.getElem?_drop]
      congr 1
      rw [Nat.mul_comm]; exact Nat.div_add_mod i F.sz
    have e2 : (F.f e0)[i % F.sz]? = some (F.f e0)[i % F.sz] := List.getElem?_eq_getElem (by omega)
    have e3 : (flat F (List.replicate n e0))[i]? = some (flat F (List.replicate n e0))[i] := List.getElem?_eq_getElem h2
    have e4 : (F.f e0)[i % F.sz] = (flat F (List.replicate n e0))[i] := by
      rw [e2, e3] at e1; injection e1
    rw [← e4]
    simp only [List.size_toArray, hl]
    simp [hl, hr]
theorem w_mk {S E : TypeId} {y y' : Operand} {k k' : IntKind} {n m : Int} {e0 : α} (hS : c.P.underlying S = some (.slice E)) (hE : FZ c.P E F e0) (hg : Wnt ops l gd) (hd : Nat.blt d c.n = true)
    (hy : ev l y = some (.int k n)) (hy' : ev l y' = some (.int k' m)) (h0 : 0 ≤ n) (h1 : n ≤ m) (h2 : m < 68719476736)
    (h : ∀ v, c.W ops rest Q ((d, v) :: l) M (L ++ [rowI F v E (List.replicate n.toNat e0)])) : c.W ops (⟨some d, .makeSlice S y y', ty, pos, af, gd⟩ :: rest) Q l M L := by
  obtain ⟨nb, hb1, hb2⟩ := hE.bytes
  obtain ⟨z, hz1, hz2⟩ := hE.zero
  refine w_op hg hd (Φ := fun v w' => St c.X c.M0 c.w0 M (lt (L ++ [rowI F v E (List.replicate n.toNat e0)])) w') ?_ ?_
  · intro a w hf hs
    have hr := run_makeSlice (P := c.P) (w := w) (k := k) (k' := k') hS hE.size hb1 hb2 hz1 (by rw [hz2]; simp [F.len]) h0 h1 h2
    refine OpOK.val (v := .slice (some ⟨w.heap.size, 0, none⟩) n.toNat m.toNat) (w' := w.alloc (.cells ((Array.range (m.toNat * F.sz)).map (z.cells[· % z.cells.size]!)) E)) ?_ ?_
    · simp only [execOp, hf.ev hy, hf.ev hy', Sem.run_bind, hr]; rfl
    · refine hs.newL ⟨m.toNat, flat F (List.replicate (m.toNat - n.toNat) e0), (0, 0), by simp, flat_length F _, by simp; omega, ?_, by simp, ?_⟩
      · simp only [flat_length, List.length_replicate]; rw [← Nat.add_mul]; congr 1; omega
      · rw [alloc_get]
        congr 2
        apply Array.ext'
        rw [hz2, range_flat]
        simp only [← flat_append, List.replicate_append_replicate]
        congr 2; omega
  · intro v w' hs a' hf
    exact h v a' w' hf hs
end rules
end Go.Cu
