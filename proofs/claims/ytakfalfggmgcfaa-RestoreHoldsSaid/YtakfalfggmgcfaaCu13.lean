/- Rules for walks over facts, for any program; no condition. -/
import Derived.Test.YtakfalfggmgcfaaCu12
import Derived.Laws.Tables
set_option linter.unusedSimpArgs false
set_option linter.unusedVariables false
/-! Struct literals, slices of slices, append to a clipped slice. -/
namespace Go.Cu
section pure
variable {P : Program} {w : World} {ρ : Operand → Value} {dst : Option Tmp} {ty : TypeId} {pos : String} {af : Array Edge} {gd : Option (Nat × Bool)}
theorem r_build {t : TypeId} {parts : Array (Nat × Operand)} {A : List Value} {is : List Nat} {xs : List Operand} {vs : List Value} (hp : parts = (is.zip xs).toArray) (hx : xs.map ρ = vs)
    (h : P.built t (is.zip vs) = some A.toArray) : (execOp ρ ⟨dst, .build t parts, ty, pos, af, gd⟩).run P w = .ok (.value (.agg A.toArray)) w := by
  subst hp hx
  have : (((is.zip xs).toArray.map fun (p : Nat × Operand) => (p.1, ρ p.2)).toList) = is.zip (xs.map ρ) := by
    simp [List.zip_map_right]
  have := run_build w t ((is.zip xs).toArray.map fun (p : Nat × Operand) => (p.1, ρ p.2)) A.toArray (by rw [this]; exact h)
  simp only [execOp, Sem.run_bind, this]
  rfl

variable {α : Type} {F : Fl α} {M : Heap} {v : Value} {l : List α}
/-- s[lo:hi] of a slice that stays as it is. -/
theorem r_slR {x : Operand} {lo hi : Option Operand} {S E : TypeId} {a b : Int} (hS : P.underlying S = some (.slice E)) (hE : TSize P E F.sz) (hx : ρ x = v) (hR : RS F M v l)
    (ha : match lo with | none => a = 0 | some o => ∃ k, ρ o = .int k a) (hb : match hi with | none => b = l.length | some o => ∃ k, ρ o = .int k b)
    (h0 : 0 ≤ a) (h1 : a ≤ b) (h2 : b ≤ l.length) :
    ∃ v', (execOp ρ ⟨dst, .slice S x lo hi none, ty, pos, af, gd⟩).run P w = .ok (.value v') w ∧ RS F M v' ((l.take b.toNat).drop a.toNat) := by
  obtain ⟨bn, rfl⟩ := Int.eq_ofNat_of_zero_le (show 0 ≤ b by omega)
  obtain ⟨an, rfl⟩ := Int.eq_ofNat_of_zero_le h0
  have hab : an ≤ bn := by omega
  have hbl : bn ≤ l.length := by omega
  have m : ∀ {o : Option Operand} {z d : Int}, (match o with | none => z = d | some o => ∃ k, ρ o = .int k z) → (o = none ∧ z = d) ∨ ∃ p k, o = some p ∧ ρ p = .int k z := by
    intro o z d h
    cases o with
    | none => exact .inl ⟨rfl, h⟩
    | some p => obtain ⟨k, hk⟩ := h; exact .inr ⟨p, k, rfl, hk⟩
  have go : ∀ (base : Option Addr) (cap : Nat), v = .slice base l.length cap → l.length ≤ cap →
      (execOp ρ ⟨dst, .slice S x lo hi none, ty, pos, af, gd⟩).run P w = .ok (.value (.slice (if cap = an then base else base.map (·.add (an * F.sz))) (bn - an) (cap - an))) w := by
    intro base cap hv hc
    subst hv
    have hbc : ((bn : Int) ≤ (cap : Int)) := by omega
    rcases m ha with ⟨rfl, el⟩ | ⟨p, kp, rfl, hp⟩ <;> rcases m hb with ⟨rfl, eh⟩ | ⟨q, kq, rfl, hq⟩ <;>
      (simp_all [execOp, Instr.sliceAt, Instr.slice, run_underlying hS, Instr.sliceBounds, Instr.sliceBound, asIntOf, hE.run] <;> omega)
  rcases hR with ⟨rfl, rfl⟩ | ⟨blk, cap, pre, post, T, fr, rfl, hM, hc, hf⟩
  · simp at hbl
    have : an = 0 := by omega
    subst hbl this
    refine ⟨_, go none 0 rfl (Nat.le_refl _), .inl ⟨?_, by simp⟩⟩
    simp
  · refine ⟨_, go _ cap rfl hc, ?_⟩
    have hlen : ((l.take bn).drop an).length = bn - an := by simp [List.length_take]; omega
    by_cases e : cap = an
    · subst e
      have : bn = cap := by omega
      subst this
      refine .inr ⟨blk, 0, pre, flat F l ++ post, T, fr, ?_, ?_, ?_, by simp⟩
      · simp
      · rw [hM]; simp
      · simp
    · refine .inr ⟨blk, cap - an, pre ++ flat F (l.take an), flat F (l.drop bn) ++ post, T, fr, ?_, ?_, ?_, ?_⟩
      · rw [if_neg e]
        have : an ≤ l.length := by omega
        simp [Addr.add, flat_length, List.length_take, Nat.min_eq_left this, Nat.min_eq_left hbl]
      · rw [hM]
        congr 3
        have e1 : l = l.take an ++ ((l.take bn).drop an ++ l.drop bn) := by
          have h1 : l.take bn = (l.take bn).take an ++ (l.take bn).drop an := (List.take_append_drop _ _).symm
          have h2 : (l.take bn).take an = l.take an := by rw [List.take_take, Nat.min_eq_left hab]
          rw [← List.append_assoc, ← h2, ← h1, List.take_append_drop]
        conv => lhs; rw [e1]
        simp only [flat_append, List.append_assoc]
        rfl
      · show ((l.take bn).drop an).length ≤ cap - an
        rw [hlen]; omega
      · show (cap - an) * F.sz ≤ (flat F ((l.take bn).drop an) ++ (flat F (l.drop bn) ++ post)).length
        simp only [List.length_append, flat_length] at hf ⊢
        rw [hlen]
        simp only [List.length_drop]
        have h1 : (cap - an) * F.sz = cap * F.sz - an * F.sz := Nat.sub_mul _ _ _
        have h2 : (bn - an) * F.sz = bn * F.sz - an * F.sz := Nat.sub_mul _ _ _
        have h3 : (l.length - bn) * F.sz = l.length * F.sz - bn * F.sz := Nat.sub_mul _ _ _
        have h4 : an * F.sz ≤ bn * F.sz := Nat.mul_le_mul_right _ hab
        have h5 : bn * F.sz ≤ l.length * F.sz := Nat.mul_le_mul_right _ hbl
        omega
/-- slices.Clip's s[:len:len]. -/
theorem r_clipR {x y z : Operand} {S E : TypeId} {k k' : IntKind} (hS : P.underlying S = some (.slice E)) (hE : TSize P E F.sz) (hx : ρ x = v) (hR : RS F M v l)
    (hy : ρ y = .int k l.length) (hz : ρ z = .int k' l.length) :
    ∃ v', (execOp ρ ⟨dst, .slice S x none (some y) (some z), ty, pos, af, gd⟩).run P w = .ok (.value v') w ∧ RS F M v' l ∧ ∃ A, v' = .slice A l.length l.length := by
  have go : ∀ (base : Option Addr) (cap : Nat), v = .slice base l.length cap → l.length ≤ cap →
      (execOp ρ ⟨dst, .slice S x none (some y) (some z), ty, pos, af, gd⟩).run P w = .ok (.value (.slice (if l.length = 0 then base else base.map (·.add (0 * F.sz))) l.length l.length)) w := by
    intro base cap hv hc
    subst hv
    have hbc : ((l.length : Int) ≤ (cap : Int)) := by omega
    simp_all [execOp, Instr.sliceAt, Instr.slice, run_underlying hS, Instr.sliceBounds, Instr.sliceBound, asIntOf, hE.run]
  rcases hR with ⟨rfl, rfl⟩ | ⟨blk, cap, pre, post, T, fr, rfl, hM, hc, hf⟩
  · exact ⟨_, go none 0 rfl (Nat.le_refl _), .inl ⟨rfl, rfl⟩, _, rfl⟩
  · refine ⟨_, go _ cap rfl hc, .inr ⟨blk, l.length, pre, post, T, fr, ?_, hM, Nat.le_refl _, by simp [flat_length]⟩, _, rfl⟩
    split <;> simp [Addr.add]
end pure

section grow
variable {X : Nat → Prop} {M0 M : Heap} {w0 w : World} {L : List Item}
theorem run_grow {P : Program} {S E : TypeId} {t2 ty : TypeId} {sz nb : Nat} {z : Value} {d2 : TypeDesc} {v v2 : Value} {n m cap : Nat} {base : Option Addr} {cells cs : List Value}
    (hst : St X M0 w0 M (lt L) w) (hS : P.underlying S = some (.slice E)) (hs : TSize P E sz) (hb : TBytes P E nb) (hnb : nb ≤ 1024) (hz : TZero P E z) (hzs : z.cells.size = sz)
    (ht2 : P.underlying t2 = some d2) (hd2 : (∃ e, d2 = .slice e) ∨ d2 = .string) (hsrc : Src P M sz v2 m cs) (hbound : n + m < 68719476736)
    (hv : v = .slice base n cap) (hcap : cap < n + m) (hcl : cells.length = n * sz) (hold : ∀ w, Sub M w → (Builtin.firstCells sz n v).run P w = .ok cells.toArray w) :
    ∃ v' w', (Builtin.append_ #[S, t2] ty #[v, v2]).run P w = .ok v' w' ∧ St X M0 w0 M (lt (L ++ [.row v' E sz (n + m) (cells ++ cs)])) w' := by
  obtain ⟨hcs, hone, hrun⟩ := hsrc
  obtain ⟨hl, hc⟩ := hrun w hst.sub
  obtain ⟨info, hinfo, hnbi⟩ := hb.info
  obtain ⟨k, hk⟩ : ∃ k, k = w.tape w.drawn (.appendCap (n + m) cap E) % (9223372036854775808 - (n + m)) := ⟨_, rfl⟩
  have hsub1 : Sub M w.drew := hst.drew.sub
  have hc1 := (hrun _ hsub1).2
  have hold := hold _ hsub1
  have hn1 : ¬ n + m ≤ cap := by omega
  have hn2 : ¬ ((9223372036854775807 : Int) < (n : Int) + (m : Int)) := by omega
  have hmax : IntKind.i64.max = 9223372036854775807 := by decide
  have hn3 : ¬ (Builtin.nextslicecap (n + m) cap * info.bytes > 2 ^ 48) := by
    have h1 := nextcap_le (n + m) cap hcap
    have h2 : Builtin.nextslicecap (n + m) cap * info.bytes ≤ (2 * (n + m) + 1024) * 1024 := Nat.mul_le_mul h1 (by omega)
    omega
  refine ⟨.slice (some ⟨w.heap.size, 0, none⟩) (n + m) (n + m + k), (w.drew).alloc (.cells (cells.toArray ++ cs.toArray ++ Builtin.zeroCells z.cells (n + m + k - (n + m))) E), ?_, ?_⟩
  · subst hv
    have harr : ∀ zc : Array Value, cells.toArray ++ (cs.toArray ++ zc) = (cells ++ cs).toArray ++ zc := fun zc => by apply Array.ext'; simp
    rcases hd2 with ⟨e2, rfl⟩ | rfl <;>
      simp [harr, Builtin.append_, run_underlying hS, run_underlying ht2, hs.run, hl, hn1, hmax, hn2, hn3, run_typeInfo hinfo, ← hk, hold, hc1, hz.run, run_newRow, Question.forced, Question.cut]
  · refine hst.drew.newL (x := .row (.slice (some ⟨w.heap.size, 0, none⟩) (n + m) (n + m + k)) E sz (n + m) (cells ++ cs)) ?_
    refine ⟨n + m + k, (Builtin.zeroCells z.cells (n + m + k - (n + m))).toList, (0, 0), rfl, ?_, by omega, ?_, by simp, ?_⟩
    · simp [hcl, hcs, Nat.add_mul]
    · rw [zeroCells_length, hzs]; simp [hcl, hcs, Nat.add_mul]
    · refine (alloc_get w.drew _).trans ?_
      congr 2
      apply Array.ext'
      simp
end grow
section rules
variable {c : Cx} {ops : Array Oper} {rest : List Oper} {d : Nat} {ty : TypeId} {pos : String} {af : Array Edge} {gd : Option (Nat × Bool)} {Q : Exit → Act → World → Prop} {l : List (Nat × Value)} {M : Heap} {L : List Item} {α : Type} {F : Fl α}
/-- append to a slice without room: a new row. -/
theorem w_appC {x1 x2 : Operand} {S E t2 : TypeId} {d2 : TypeDesc} {v v2 : Value} {m m2 : List α} (hS : c.P.underlying S = some (.slice E)) (hE : TEl c.P E F.sz)
    (ht2 : c.P.underlying t2 = some d2) (hd2 : (∃ e, d2 = .slice e) ∨ d2 = .string) (hg : Wnt ops l gd) (hd : Nat.blt d c.n = true) (h1 : ev l x1 = some v) (h2 : ev l x2 = some v2)
    (hR : RS F M v m) (hC : ∃ A, v = .slice A m.length m.length) (hsrc : Src c.P M F.sz v2 m2.length (flat F m2)) (hm : 0 < m2.length) (hb : m.length + m2.length < 68719476736)
    (h : ∀ v', c.W ops rest Q ((d, v') :: l) M (L ++ [rowI F v' E (m ++ m2)])) :
    c.W ops (⟨some d, .call ⟨.builtin .append, #[x1, x2], #[S, t2]⟩, ty, pos, af, gd⟩ :: rest) Q l M L := by
  obtain ⟨nb, hb1, hb2⟩ := hE.bytes
  obtain ⟨z, hz1, hz2⟩ := hE.zero
  obtain ⟨A, hA⟩ := hC
  refine w_op hg hd (Φ := fun v' w' => St c.X c.M0 c.w0 M (lt (L ++ [rowI F v' E (m ++ m2)])) w') ?_ ?_
  · intro a w hf hs
    obtain ⟨v', w', hr, hst⟩ := run_grow (t2 := t2) (ty := ty) hs hS hE.size hb1 hb2 hz1 hz2 ht2 hd2 hsrc hb hA (by omega) (flat_length F m) (fun w hs => run_firstCells_RS hR hs)
    refine OpOK.val (v := v') (w' := w') ?_ ?_
    · simp [execOp, hf.ev h1, hf.ev h2, resolve, invoke, builtin, hr]
    · simpa [rowI] using hst
  · intro v' w' hs a' hf
    exact h v' a' w' hf hs
/-- An operation that yields some value with these facts and leaves the world alone. -/
theorem w_ex {op : Op} {Φ : Value → Prop} (hg : Wnt ops l gd) (hd : Nat.blt d c.n = true)
    (hr : ∀ a w, Fr c.n l a → St c.X c.M0 c.w0 M (lt L) w → ∃ v, (execOp a.eval ⟨some d, op, ty, pos, af, gd⟩).run c.P w = .ok (.value v) w ∧ Φ v)
    (h : ∀ v, Φ v → c.W ops rest Q ((d, v) :: l) M L) : c.W ops (⟨some d, op, ty, pos, af, gd⟩ :: rest) Q l M L := by
  refine w_op hg hd (Φ := fun v w' => Φ v ∧ St c.X c.M0 c.w0 M (lt L) w') ?_ ?_
  · intro a w hf hs
    obtain ⟨v, h1, h2⟩ := hr a w hf hs
    exact OpOK.val h1 ⟨h2, hs⟩
  · intro v w' hv a' hf
    exact h v hv.1 a' w' hf hv.2
end rules
section
variable {P : Program} {w : World} {ρ : Operand → Value} {dst : Option Tmp} {ty : TypeId} {pos : String} {af : Array Edge} {gd : Option (Nat × Bool)}
theorem r_nilT {x y : Operand} {S E t' : TypeId} (hS : P.underlying S = some (.slice E)) (hx : ρ x = .slice none 0 0) (hy : ρ y = .slice none 0 0) :
    (execOp ρ ⟨dst, .binOp .eql S x y t', ty, pos, af, gd⟩).run P w = .ok (.value (.bool true)) w := by
  have e : (Op.equal S (.slice none 0 0) (.slice none 0 0)).run P w = .ok true w := by
    rw [equal_succ]; generalize 9999 = d; simp [Op.equalIn, run_underlying hS]
  simp [execOp, hx, hy, eqGuard, binOp, e]
theorem r_nilF {x y : Operand} {S E t' : TypeId} {v : Value} (hS : P.underlying S = some (.slice E)) (hx : ρ x = v) (hy : ρ y = .slice none 0 0) (hv : ∃ b n c, v = .slice (some b) n c) :
    (execOp ρ ⟨dst, .binOp .eql S x y t', ty, pos, af, gd⟩).run P w = .ok (.value (.bool false)) w := by
  obtain ⟨b, n, c, rfl⟩ := hv
  have e : (Op.equal S (.slice (some b) n c) (.slice none 0 0)).run P w = .ok false w := by
    rw [equal_succ]; generalize 9999 = d; simp [Op.equalIn, run_underlying hS]
  simp [execOp, hx, hy, eqGuard, binOp, e]
end
end Go.Cu
