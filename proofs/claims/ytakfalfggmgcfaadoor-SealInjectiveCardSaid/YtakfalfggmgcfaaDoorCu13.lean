/- Rules for walks over facts, for any program; no condition. -/
import Derived.Test.YtakfalfggmgcfaaDoorCu12
import Derived.Laws.Tables
set_option linter.unusedSimpArgs false
set_option linter.unusedVariables false
/-! Struct literals, slices of slices, append to a clipped slice. -/
namespace Go.Cu
section pure
variable {P : Program} {w : World} {ρ : Operand → Value} {dst : Option Tmp} {ty : TypeId} {pos : String} {af : Array Edge} {gd : Option (Nat × Bool)}
theorem r_build {t : TypeId} {parts : Array (Nat × Operand)} {A : List Value} {is : List Nat} {xs : List Operand} {vs : List Value} (hp : parts = (is.zip xs).toArray) (hx : xs.map ρ = vs)
    (h : P.built t (is.zip vs) = some A.toArray) : (execOp ρ ⟨dst, .build t parts, ty, pos, af, gd⟩).run P w = .ok (.value (.agg A.toArray)) w := by
  subst hp hx
  have : (((is.zip xs).toArray.map fun (p : Nat × Operand) => (p.1, ρ p.2)).toList) = is.zip (xs.map ρ) := by
    simp [List.zip_map_right]
  have := run_build w t ((is.zip xs).toArray.map fun (p : Nat × Operand) => (p.1, ρ p.2)) A.toArray (by rw [this]; exact h)
  simp only [execOp, Sem.run_bind, this]
  rfl

variable {α : Type} {F : Fl α} {M : Heap} {v : Value} {l : List α}
/-- s[lo:hi] of a slice that stays as it is. -/
theorem r_slR {x : Operand} {lo hi : Option Operand} {S E : TypeId} {a b : Int} (hS : P.underlying S = some (.slice E)) (hE : TSize P E F.sz) (hx : ρ x = v) (hR : RS F M v l)
    (ha : match lo with | none => a = 0 | some o => ∃ k, ρ o = .int k a) (hb : match hi with | none => b = l.length | some o => ∃ k, ρ o = .int k b)
    (h0 : 0 ≤ a) (h1 : a ≤ b) (h2 : b ≤ l.length) :
    ∃ v', (execOp ρ ⟨dst, .slice S x lo hi none, ty, pos, af, gd⟩).run P w = .ok (.value v') w ∧ RS F M v' ((l.take b.toNat).drop a.toNat) := by
  obtain ⟨bn, rfl⟩ := Int.eq_ofNat_of_zero_le (show 0 ≤ b by omega)
  obtain ⟨an, rfl⟩ := Int.eq_ofNat_of_zero_le h0
  have hab : an ≤ bn := by omega
  have hbl : bn ≤ l.length := by omega
  have m : ∀ {o : Option Operand} {z d : Int}, (match o with | none => z = d | some o => ∃ k, ρ o = .int k z) → (o = none ∧ z = d) ∨ ∃ p k, o = some p ∧ ρ p = .int k z := by
    intro o z d h
    cases o with
    | none => exact .inl ⟨rfl, h⟩
    | some p => obtain ⟨k, hk⟩ := h; exact .inr ⟨p, k, rfl, hk⟩
  have go : ∀ (base : Option Addr) (cap : Nat), v = .slice base l.length cap → l.length ≤ cap →
      (execOp ρ ⟨dst, .slice S x lo hi none, ty, pos, af, gd⟩).run P w = .ok (.value (.slice (if cap = an then base else base.map (·.add (an * F.sz))) (bn - an) (cap - an))) w := by
    intro base cap hv hc
    subst hv
    have hbc : ((bn : Int) ≤ (cap : Int)) := by omega
    rcases m ha with ⟨rfl, el⟩ | ⟨p, kp, rfl, hp⟩ <;> rcases m hb with ⟨rfl, eh⟩ | ⟨q, kq, rfl, hq⟩ <;>
      (simp_all [execOp, Instr.sliceAt, Instr.slice, run_underlying hS, Instr.sliceBounds, Instr.sliceBound, asIntOf, hE.run] <;> omega)
  rcases hR with ⟨rfl, rfl⟩ | ⟨blk, cap, pre, post, T, fr, rfl, hM, hc, hf⟩
  · simp at hbl
    have : an = 0 := by omega
    subst hbl this
    refine ⟨_, go none 0 rfl (Nat.le_refl _), .inl ⟨?_, by simp⟩⟩
    simp
  · refine ⟨_, go _ cap rfl hc, ?_⟩
    have hlen : ((l.take bn).drop an).length = bn - an := by simp [List.length_take]; omega
    by_cases e : cap = an
    · subst e
      have : bn = cap := by omega
      subst this
      refine .inr ⟨blk, 0, pre, flat F l ++ post, T, fr, ?_, ?_, ?_, by simp⟩
      · simp
      · rw [hM]; simp
      · simp
    · refine .inr ⟨blk, cap - an, pre ++ flat F (l.take an), flat F (l.drop bn) ++ post, T, fr, ?_, ?_, ?_, ?_⟩
      · rw [if_neg e]
        have : an ≤ l.length := by omega
        simp [Addr.add, flat_length, List.length_take, Nat.min_eq_left this, Nat.min_eq_left hbl]
      · rw [hM]
        congr 3
        have e1 : l = l.take an ++ ((l.take bn).drop an ++ l.drop bn) := by
          have h1 : l.take bn = (l.take bn).take an ++ (l.take bn).drop an := (List.take_append_drop _ _).symm
          have h2 : (l.take bn).take an = l.take an := by rw [List.take_take, Nat.min_eq_left hab]
          rw [← List.append_assoc, ← h2, ← h1, List.take_append_drop]
        conv => lhs; rw [e1]
        simp only [flat_append, List.append_assoc]
        rfl
      · show ((l.take bn).drop an).length ≤ cap - an
        rw [hlen]; omega
      · show (cap - an) * F.sz ≤ (flat F ((l.take bn).drop an) ++ (flat F (l.drop bn) ++ post)).length
        simp only [List.length_append, flat_length] at hf ⊢
        rw [hlen]
        simp only [List.length_drop]
        have h1 : (cap - an) * F.sz = cap * F.sz - an * F.sz := Nat.sub_mul _ _ _
        have h2 : (bn - an) * F.sz = bn * F.sz - an * F.sz := Nat.sub_mul _ _ _
        have h3 : (l.length - bn) * F.sz = l.length * F.sz - bn * F.sz := Nat.sub_mul _ _ _
        have h4 : an * F.sz ≤ bn * F.sz := Nat.mul_le_mul_right _ hab
        have h5 : bn * F.sz ≤ l.length * F.sz := Nat.mul_le_mul_right _ hbl
        omega
end pure

section grow
variable {X : Nat → Prop} {M0 M : Heap} {w0 w : World} {L : List Item}
end grow
section rules
variable {c : Cx} {ops : Array Oper} {rest : List Oper} {d : Nat} {ty : TypeId} {pos : String} {af : Array Edge} {gd : Option (Nat × Bool)} {Q : Exit → Act → World → Prop} {l : List (Nat × Value)} {M : Heap} {L : List Item} {α : Type} {F : Fl α}
/-- An operation that yields some value with these facts and leaves the world alone. -/
theorem w_ex {op : Op} {Φ : Value → Prop} (hg : Wnt ops l gd) (hd : Nat.blt d c.n = true)
    (hr : ∀ a w, Fr c.n l a → St c.X c.M0 c.w0 M (lt L) w → ∃ v, (execOp a.eval ⟨some d, op, ty, pos, af, gd⟩).run c.P w = .ok (.value v) w ∧ Φ v)
    (h : ∀ v, Φ v → c.W ops rest Q ((d, v) :: l) M L) : c.W ops (⟨some d, op, ty, pos, af, gd⟩ :: rest) Q l M L := by
  refine w_op hg hd (Φ := fun v w' => Φ v ∧ St c.X c.M0 c.w0 M (lt L) w') ?_ ?_
  · intro a w hf hs
    obtain ⟨v, h1, h2⟩ := hr a w hf hs
    exact OpOK.val h1 ⟨h2, hs⟩
  · intro v w' hv a' hf
    exact h v hv.1 a' w' hf hv.2
end rules
section
variable {P : Program} {w : World} {ρ : Operand → Value} {dst : Option Tmp} {ty : TypeId} {pos : String} {af : Array Edge} {gd : Option (Nat × Bool)}
end
end Go.Cu
