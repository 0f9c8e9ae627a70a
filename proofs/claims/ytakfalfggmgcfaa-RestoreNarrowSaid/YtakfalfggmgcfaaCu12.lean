/- Rules for walks over facts, for any program; no condition. -/
import Derived.Test.YtakfalfggmgcfaaCu11
import Derived.ChangeKeysEq
set_option linter.unusedSimpArgs false
set_option linter.unusedVariables false
/-! Equality of structs and arrays. -/
namespace Go.Cu
section
variable {P : Program} {w : World} {t : TypeId} {A : List Value} {o n : Nat}
theorem part1 {v : Value} (ht : TAgg P t false) (hv : A[o]? = some v) : (part t A.toArray o).run P w = .ok v w := by
  have h : (isAgg t).run P w = .ok false w := by
    unfold TAgg at ht
    cases hu : P.underlying t with
    | none => rw [hu] at ht; simp at ht
    | some d =>
      rw [hu] at ht
      simp only [Option.map_some, Option.some.injEq] at ht
      unfold isAgg
      cases d <;> simp [run_underlying hu] <;> simp [aggD] at ht
  simp only [part, Sem.run_bind, h, Result.andThen_ok]
  simp [hv]
theorem partA {cs : List Value} (ht : TAgg P t true) (hs : TSize P t n) (hc : (A.drop o).take n = cs) : (part t A.toArray o).run P w = .ok (.agg cs.toArray) w := by
  have h : (isAgg t).run P w = .ok true w := by
    unfold TAgg at ht
    cases hu : P.underlying t with
    | none => rw [hu] at ht; simp at ht
    | some d =>
      rw [hu] at ht
      simp only [Option.map_some, Option.some.injEq] at ht
      unfold isAgg
      cases d <;> simp [run_underlying hu] <;> simp [aggD] at ht
  simp only [part, Sem.run_bind, h, Result.andThen_ok, if_true, hs.run]
  simp [← hc, List.extract]

def Eqi {α : Type} [DecidableEq α] (P : Program) (k : Nat) (t : TypeId) (C : α → List Value) : Prop :=
  ∀ (d : Nat) (i j : α) (w : World), (Op.equalIn (d + k) t (.agg (C i).toArray) (.agg (C j).toArray)).run P w = .ok (decide (i = j)) w

theorem eqf_nil {d : Nat} {xs ys : Array Value} : (Op.eqFields d xs ys []).run P w = .ok true w := by simp [Op.eqFields]
theorem eqf_cons {d : Nat} {xs ys : Array Value} {f : Field} {fs : List Field} {a b : Value} {r s : Bool} (hn : (f.name == "_") = false) (ha : (part f.type xs f.offset).run P w = .ok a w)
    (hb : (part f.type ys f.offset).run P w = .ok b w) (he : (Op.equalIn d f.type a b).run P w = .ok r w) (hr : (Op.eqFields d xs ys fs).run P w = .ok s w) :
    (Op.eqFields d xs ys (f :: fs)).run P w = .ok (r && s) w := by
  have hn' : f.name ≠ "_" := by simpa using hn
  rw [Op.eqFields]
  simp only [if_pos hn', Sem.run_bind, ha, hb, he, Result.andThen_ok]
  cases r
  · simp
  · simpa using hr
theorem Eqi.st {α : Type} [DecidableEq α] {C : α → List Value} {k : Nat} {fs : Array Field} (hu : P.underlying t = some (.struct fs)) (hp : P.stoodInHeld t = false)
    (h : ∀ (d : Nat) (i j : α) (w : World), (Op.eqFields (d + k) (C i).toArray (C j).toArray fs.toList).run P w = .ok (decide (i = j)) w) : Eqi P (k + 1) t C := by
  intro d i j w
  have hf : P.fieldsOf t = fs := by simp [Program.fieldsOf, hu]
  have := run_equalIn_struct (P := P) w (d + k) t (C i).toArray (C j).toArray (by rw [hf]; exact hu) hp
  rw [hf] at this
  exact this.trans (h d i j w)
theorem eqItems_int {e : TypeId} {k : IntKind} (he : P.underlying e = some (.int k)) (ha : TAgg P e false) {d : Nat} {u v : List Int} : ∀ (is : List Nat), (∀ x ∈ is, x < u.length ∧ x < v.length) →
    (Op.eqItems (d + 1) e 1 (u.map (.int k)).toArray (v.map (.int k)).toArray is).run P w = .ok (is.all fun x => u[x]? == v[x]?) w
  | [], _ => by simp [Op.eqItems]
  | x :: is, h => by
    have hx := h x (by simp)
    have ih := eqItems_int he ha (d := d) (u := u) (v := v) is fun y hy => h y (by simp [hy])
    have e1 : (part e (u.map (.int k)).toArray (x * 1)).run P w = .ok (.int k u[x]) w := part1 ha (by simp [hx.1])
    have e2 : (part e (v.map (.int k)).toArray (x * 1)).run P w = .ok (.int k v[x]) w := part1 ha (by simp [hx.2])
    simp only [Op.eqItems, Sem.run_bind, e1, e2, Result.andThen_ok, Go.Cu.run_equalIn_int he]
    rw [List.all_cons]
    simp only [List.getElem?_eq_getElem hx.1, List.getElem?_eq_getElem hx.2]
    cases hb : (u[x] == v[x]) with
    | false => simp at hb; simp [hb]
    | true => simp at hb; simpa [hb] using ih
theorem Eqi.arr {e : TypeId} {k : IntKind} (hu : P.underlying t = some (.array n e)) (he : P.underlying e = some (.int k)) (ha : TAgg P e false) (hs : TSize P e 1) : Eqi P 2 t (fun v : Vector Int n => vI k v) := by
  intro d i j w
  obtain ⟨inf, h1, h2⟩ := hs.info
  have hc : P.cellsOf e = 1 := by simp [Program.cellsOf, h1, h2]
  have := run_equalIn_array (P := P) w (d + 1) (vI k i).toArray (vI k j).toArray hu h1
  rw [hc] at this
  refine this.trans ?_
  unfold vI
  rw [eqItems_int he ha (List.range n) (by intro x hx; simp at hx; simp [hx])]
  congr 1
  rw [Bool.eq_iff_iff]
  simp only [List.all_eq_true, List.mem_range, beq_iff_eq, decide_eq_true_eq]
  constructor
  · intro h
    apply Vector.toList_inj.1
    apply List.ext_getElem?
    intro x
    by_cases hx : x < n
    · exact h x hx
    · rw [List.getElem?_eq_none (by simpa using hx), List.getElem?_eq_none (by simpa using hx)]
  · rintro rfl x _; rfl
theorem EQ.mk {α : Type} [DecidableEq α] {C : α → List Value} {k : Nat} (hm : P.eqGuardType P.depth t = false) (h : Eqi P k t C) (hk : k ≤ 10000) : EQ P t (fun x => .agg (C x).toArray) := by
  intro ρ dst x y t' ty pos af gd i j w hx hy
  obtain ⟨m, hm'⟩ := Nat.le.dest hk
  have e := h m i j w
  rw [show m + k = 10000 by omega] at e
  constructor
  · simp only [execOp, hx, hy, Sem.run_bind, run_eqGuard_agg w .eql t x y _ _ hm, Result.andThen_ok, run_eql_struct, e]
    simp
  · simp only [execOp, hx, hy, Sem.run_bind, run_eqGuard_agg w .neq t x y _ _ hm, Result.andThen_ok, run_neq_struct, e]
    simp
end
end Go.Cu
