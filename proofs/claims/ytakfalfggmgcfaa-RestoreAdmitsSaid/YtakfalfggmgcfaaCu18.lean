/- Rules for walks over facts, for any program; no condition. -/
import Derived.Test.YtakfalfggmgcfaaCu17
import Derived.Deep.Slices
import Derived.OpenShut
import Derived.WideShapes
import Derived.ChangeArms
import Derived.SizedLaws
import Derived.Carry
import Derived.Below
set_option linter.unusedVariables false
set_option linter.unusedSimpArgs false
/-! How the arguments of a statement read. -/
namespace Go.Cu
open Go.RowKit Go.ChangeShapes Go.WideShapes Go.Deep
def hp (w : World) : Heap := fun b => w.heap[b]?
theorem hp_sub (w : World) : Sub (hp w) w := fun _ _ h => h
theorem Ext.below {M M' : Heap} {w w' : World} (h : Ext none' M w M' w') : Below w.heap.size w w' := ⟨h.os, h.tape, h.output, h.size, fun k hk => h.block k hk (fun x => x)⟩
/-- Whatever reads at type t is of the form R. -/
def Opn (P : Program) (w : World) (t : TypeId) (R : List Value → Prop) : Prop :=
  ∀ (H : Type) (enc : TypeId × Value → H) (fuel : Nat) (cs : List Value) (x : DataW H × List MemPlace), DataW.trod enc P w 0 (fun _ => true) true fuel t cs = some x → R cs
section
variable {P : Program} {w : World}
theorem Opn.mono {t : TypeId} {R S : List Value → Prop} (h : Opn P w t R) (hs : ∀ cs, R cs → S cs) : Opn P w t S := fun H enc fuel cs x hx => hs cs (h H enc fuel cs x hx)
theorem Opn.of {t : TypeId} {R : List Value → Prop} (h : Opn P w t R) {H : Type} {enc : TypeId × Value → H} {v : Value} {d : DataW H} {ps : List MemPlace} (hv : DataW.Trod enc P w 0 (fun _ => true) true t v d ps) : R v.cells.toList := by
  obtain ⟨fuel, hf⟩ := hv
  exact h H enc fuel _ _ hf
/-- A whole number of a kind. -/
def wfK (k : IntKind) (n : Int) : Prop := (Lit.int k n).wf = true
theorem opn_int {t : TypeId} {k : IntKind} (ht : P.underlying t = some (.int k)) : Opn P w t fun cs => ∃ n, cs = [.int k n] ∧ wfK k n := by
  intro H enc fuel cs x h
  obtain ⟨n, e, _, hw⟩ := DataW.trod_int ht h
  exact ⟨n, e, hw⟩
theorem opn_bool {t : TypeId} (ht : P.underlying t = some .bool) : Opn P w t fun cs => ∃ b, cs = [.bool b] := by
  intro H enc fuel cs x h
  obtain ⟨n, e, _⟩ := DataW.trod_bool ht h
  exact ⟨n, e⟩
theorem opn_str {t : TypeId} (ht : P.underlying t = some .string) : Opn P w t fun cs => ∃ s : List UInt8, cs = [str s] ∧ s.length ≤ maxLen := by
  intro H enc fuel cs x h
  obtain ⟨s, e, _, hs⟩ := DataW.trod_string ht h
  refine ⟨s.data.toList, ?_, by simpa using hs⟩
  rw [e]
  rfl
theorem cellOk {t u : TypeId} {cs : Array Value} {v : Value} {i base : Nat} {ts : List TypeId} {fs : Array Field} (ht : P.underlying t = some (.struct fs)) (hok : Value.okWide P w .any base t (.agg cs))
    (hts : P.cellTypes P.depth t = some ts) (hi : i < ts.length) (hu : ts[i]? = some u) (hv : cs[i]? = some v) : Cell.okWide P w .any base u v := by
  unfold Value.okWide at hok
  rw [ht] at hok
  obtain ⟨cs', e, _, ts', h1, _, h3⟩ := hok
  injection e with e
  subst e
  rw [hts] at h1
  injection h1 with h1
  subst h1
  obtain ⟨u', hu', hx⟩ := h3 i v hv
  rw [Nat.mod_eq_of_lt hi, hu] at hu'
  injection hu' with hu'
  subst hu'
  exact hx
theorem argOk {t : TypeId} {v : Value} {base : Nat} {e : TypeId} (ht : P.underlying t = some (.slice e)) (hok : Value.okWide P w .any base t v) : Cell.okWide P w .any base t v := by
  unfold Value.okWide at hok
  rw [ht] at hok
  exact hok
theorem rowAt_off {p : Program} {fits : TypeId → Bool} : ∀ {d : Nat} {e : TypeId} {count off n : Nat}, rowAt p fits d e count off n = true → off ≤ count * p.cellsOf e
  | 0, e, count, off, n, h => by simp [rowAt] at h
  | d + 1, e, count, off, n, h => by
    unfold rowAt at h
    by_cases hs : p.cellsOf e = 0
    · simp [hs] at h
    · simp only [hs, if_false] at h
      have hd := Nat.div_add_mod off (p.cellsOf e)
      have hm := Nat.mod_lt off (Nat.pos_of_ne_zero hs)
      rw [Bool.or_eq_true] at h
      rcases h with h | h
      · simp only [Bool.and_eq_true, beq_iff_eq, decide_eq_true_eq] at h
        have h1 : p.cellsOf e * (off / p.cellsOf e) ≤ p.cellsOf e * count := Nat.mul_le_mul_left _ (by omega)
        rw [Nat.mul_comm count]
        omega
      · simp only [Bool.and_eq_true, decide_eq_true_eq] at h
        have h1 : p.cellsOf e * (off / p.cellsOf e + 1) ≤ p.cellsOf e * count := Nat.mul_le_mul_left _ (by omega)
        rw [Nat.mul_succ] at h1
        rw [Nat.mul_comm count]
        omega
theorem liesAt_off {p : Program} : ∀ {d : Nat} {e : TypeId} {count off : Nat} {u : TypeId} {n : Nat}, liesAt p d e count off u n = true → off ≤ count * p.cellsOf e
  | 0, e, count, off, u, n, h => by simp [liesAt] at h
  | d + 1, e, count, off, u, n, h => by
    unfold liesAt at h
    rw [Bool.or_eq_true] at h
    rcases h with h | h
    · exact rowAt_off h
    · split at h
      · exact liesAt_off h
      · cases h
theorem cell_block {a : Addr} {v : Value} (h : w.cell? a = some v) : a.spot = none ∧ ∃ c T fr, w.heap[a.block]? = some (.cells c T fr) ∧ c[a.off]? = some v := by
  unfold World.cell? at h
  split at h
  · rename_i c T fr hb
    split at h
    · cases h
    · rename_i hs
      exact ⟨by simpa using hs, c, T, fr, hb, h⟩
  · cases h
theorem add_add {a : Addr} (hsp : a.spot = none) (x j : Nat) : (a.add x).add j = ⟨a.block, a.off + (x + j), none⟩ := by
  obtain ⟨b, o, s⟩ := a
  cases hsp
  rw [add_ptr, add_ptr, Nat.add_assoc]
theorem cells_get {a : Addr} {n : Nat} {cs : List Value} (h : w.cells? 0 a n = some cs) : cs.length = n ∧ ∀ i, i < n → w.cell? (a.add i) = cs[i]? := by
  obtain ⟨_, h1, h2⟩ := World.cells?_some h
  refine ⟨h1, fun i hi => ?_⟩
  first | exact h2 i hi | exact (h2 i hi).symm | (rw [h2 i hi])
/-- A slice whose elements lie flat. -/
theorem opn_slice {α : Type} {F : Fl α} {Q : α → Prop} {t e : TypeId} (ht : P.underlying t = some (.slice e)) (hs : P.cellsOf e = F.sz) (hz : 0 < F.sz) (he : Opn P w e fun cs => ∃ a, cs = F.f a ∧ Q a)
    {H : Type} {enc : TypeId × Value → H} {fuel : Nat} {v : Value} {x : DataW H × List MemPlace} {base : Nat} (hok : Cell.okWide P w .any base t v) (h : DataW.trod enc P w 0 (fun _ => true) true fuel t [v] = some x) :
    ∃ l, RS F (hp w) v l ∧ (∀ a ∈ l, Q a) ∧ l.length ≤ maxLen := by
  rcases open_slice ht h with ⟨e1, _⟩ | ⟨a, len, cap, m, n, D, Pl, e1, _, hl, hm, hmm, _, hx⟩
  · injection e1 with e1
    exact ⟨[], .inl ⟨e1, rfl⟩, by simp, by simp⟩
  · injection e1 with e1
    subst e1
    have hmm' : m = cap := by simpa using hmm
    subst hmm'
    rw [hs] at hx
    have hel : ∀ i, i < m → ∃ y, w.cells? 0 (a.add (i * F.sz)) F.sz = some (F.f y) ∧ Q y := by
      intro i hi
      obtain ⟨cs', h1, h2⟩ := hx i hi
      obtain ⟨y, e2, hy⟩ := he H enc n cs' _ h2
      exact ⟨y, e2 ▸ h1, hy⟩
    obtain ⟨g, hg⟩ : ∃ g : Nat → α ⊕ Unit, ∀ i, i < m → ∃ y, g i = .inl y ∧ w.cells? 0 (a.add (i * F.sz)) F.sz = some (F.f y) ∧ Q y := by
      classical
      refine ⟨fun i => if hi : i < m then .inl (hel i hi).choose else .inr (), ?_⟩
      intro i hi
      refine ⟨(hel i hi).choose, by simp [hi], (hel i hi).choose_spec⟩
    by_cases hm0 : m = 0
    · subst hm0
      have hl0 : len = 0 := by omega
      subst hl0
      unfold Cell.okWide at hok
      rw [ht] at hok
      unfold Cell.ok at hok
      rw [ht] at hok
      obtain ⟨_, _, _, hsp, row, cells, hsh, hli⟩ := hok
      have hoff := liesAt_off hli
      have hoff' : a.off ≤ cells := Nat.le_trans hoff (Nat.div_mul_le_self _ _)
      unfold World.shape? at hsh
      split at hsh
      · rename_i c T fr hb
        simp only [Option.some.injEq, Prod.mk.injEq] at hsh
        obtain ⟨rfl, rfl⟩ := hsh
        refine ⟨[], .inr ⟨a.block, 0, c.toList.take a.off, c.toList.drop a.off, T, fr, ?_, ?_, by simp, by simp⟩, by simp, by simp⟩
        · cases a
          simp at hsp hoff' ⊢
          exact ⟨by omega, hsp⟩
        · show w.heap[a.block]? = _
          rw [hb]
          simp
      · cases hsh
    · obtain ⟨y0, hy0⟩ : ∃ y0, g 0 = .inl y0 := by obtain ⟨y, hy, _⟩ := hg 0 (by omega); exact ⟨y, hy⟩
      let f : Nat → α := fun i => match g i with | .inl y => y | .inr _ => y0
      have hf : ∀ i, i < m → w.cells? 0 (a.add (i * F.sz)) F.sz = some (F.f (f i)) ∧ Q (f i) := by
        intro i hi
        obtain ⟨y, e3, h3⟩ := hg i hi
        have : f i = y := by simp only [f, e3]
        rw [this]
        exact h3
      let L := (List.range m).map f
      have hLl : L.length = m := by simp [L]
      have hfl : (flat F L).length = m * F.sz := by rw [flat_length, hLl]
      -- the block
      have hc0 := (cells_get (hf 0 (by omega)).1).2 0 hz
      have hadd0 : (a.add (0 * F.sz)).add 0 = a := by simp [Addr.add]
      rw [hadd0, List.getElem?_eq_getElem (by rw [F.len]; exact hz)] at hc0
      obtain ⟨hsp, c, T, fr, hb, _⟩ := cell_block hc0
      have hae : a = ⟨a.block, a.off, none⟩ := by cases a; simp at hsp ⊢; exact hsp
      have hcell : ∀ i j, i < m → j < F.sz → c[a.off + (i * F.sz + j)]? = (F.f (f i))[j]? := by
        intro i j hi hj
        have h1 := (cells_get (hf i hi).1).2 j hj
        have h2 : (a.add (i * F.sz)).add j = ⟨a.block, a.off + (i * F.sz + j), none⟩ := add_add hsp _ _
        rw [h2] at h1
        rw [← h1]
        unfold World.cell?
        simp only [hb]
        simp
      have hflat : ∀ k, k < m * F.sz → c[a.off + k]? = (flat F L)[k]? := by
        intro k hk
        have hi : k / F.sz < m := Nat.div_lt_of_lt_mul (by rw [Nat.mul_comm]; exact hk)
        have hj : k % F.sz < F.sz := Nat.mod_lt _ hz
        have hk' : k = k / F.sz * F.sz + k % F.sz := by rw [Nat.mul_comm]; exact (Nat.div_add_mod k F.sz).symm
        have h1 := hcell (k / F.sz) (k % F.sz) hi hj
        rw [← hk'] at h1
        rw [h1]
        have h2 := flat_at F L (k / F.sz) (f (k / F.sz)) (by simp [L, hi])
        rw [← h2, List.getElem?_take, if_pos hj, List.getElem?_drop, ← hk']
      have hsz : a.off + m * F.sz ≤ c.size := by
        have hpos : 0 < m * F.sz := Nat.mul_pos (by omega) hz
        have h1 := hflat (m * F.sz - 1) (by omega)
        rw [List.getElem?_eq_getElem (by rw [hfl]; omega)] at h1
        have := (Array.getElem?_eq_some_iff.1 h1).1
        omega
      have hfull : c.toList = c.toList.take a.off ++ (flat F L ++ c.toList.drop (a.off + m * F.sz)) := by
        apply List.ext_getElem?
        intro k
        rcases Nat.lt_or_ge k a.off with h1 | h1
        · rw [List.getElem?_append_left (by simp; omega), List.getElem?_take, if_pos h1]
        · have hlen : (c.toList.take a.off).length = a.off := by simp; omega
          rw [List.getElem?_append_right (by omega), hlen]
          rcases Nat.lt_or_ge (k - a.off) (m * F.sz) with h2 | h2
          · rw [List.getElem?_append_left (by omega), ← hflat _ h2]
            rw [Array.getElem?_toList]
            congr 1
            omega
          · rw [List.getElem?_append_right (by omega), hfl, List.getElem?_drop]
            congr 1
            omega
      have htk : L.take len ++ L.drop len = L := List.take_append_drop _ _
      have hfl2 : flat F L = flat F (L.take len) ++ flat F (L.drop len) := by rw [← flat_append, htk]
      have hlt : (L.take len).length = len := by simp [hLl]; omega
      refine ⟨L.take len, .inr ⟨a.block, m, c.toList.take a.off, flat F (L.drop len) ++ c.toList.drop (a.off + m * F.sz), T, fr, ?_, ?_, by rw [hlt]; exact hl, ?_⟩, ?_, by rw [hlt]; omega⟩
      · rw [hlt, show (c.toList.take a.off).length = a.off by simp; omega, ← hae]
      · show w.heap[a.block]? = _
        rw [hb]
        have hc : c = (c.toList.take a.off ++ (flat F (L.take len) ++ (flat F (L.drop len) ++ c.toList.drop (a.off + m * F.sz)))).toArray := by
          apply Array.ext'
          rw [List.toList_toArray, ← List.append_assoc (flat F (L.take len)), ← hfl2]
          exact hfull
        rw [← hc]
      · rw [← List.append_assoc, ← hfl2]
        simp [hfl]
      · intro y hy
        have := List.mem_of_mem_take hy
        simp only [L, List.mem_map, List.mem_range] at this
        obtain ⟨i, hi, rfl⟩ := this
        exact (hf i hi).2
theorem opn_ints {t e : TypeId} {k : IntKind} (ht : P.underlying t = some (.slice e)) (hu : P.underlying e = some (.int k)) (hs : P.cellsOf e = 1)
    {H : Type} {enc : TypeId × Value → H} {fuel : Nat} {v : Value} {x : DataW H × List MemPlace} {base : Nat} (hok : Cell.okWide P w .any base t v) (h : DataW.trod enc P w 0 (fun _ => true) true fuel t [v] = some x) :
    ∃ l, RS (FI k) (hp w) v l ∧ (∀ a ∈ l, wfK k a) ∧ l.length ≤ maxLen :=
  opn_slice (F := FI k) ht hs Nat.one_pos (opn_int hu) hok h
/-- An array of whole numbers. -/
theorem opn_arr {t e : TypeId} {k : IntKind} {n : Nat} (ht : P.underlying t = some (.array n e)) (hu : P.underlying e = some (.int k)) (hs : P.cellsOf e = 1) (hn : P.cellsOf t = n) :
    Opn P w t fun cs => ∃ v : Vector Int n, cs = vI k v ∧ ∀ a ∈ v.toList, wfK k a := by
  intro H enc fuel cs x h
  obtain ⟨xs, m, _, _, hl, hxl, hx⟩ := DataW.trod_array ht h
  rw [hs] at hx
  rw [hn] at hl
  have hel : ∀ i, i < n → ∃ a, cs[i]? = some (.int k a) ∧ wfK k a := by
    intro i hi
    have h1 := hx i hi
    rw [List.getElem?_eq_getElem (by omega), Nat.mul_one] at h1
    obtain ⟨a, e1, _, hw⟩ := DataW.trod_int hu h1
    refine ⟨a, ?_, hw⟩
    have := congrArg (fun l => l[0]?) e1
    simpa [List.getElem?_take] using this
  let f : Value → Int := fun v => match v with | .int _ a => a | _ => 0
  refine ⟨⟨(cs.map f).toArray, by simp [hl]⟩, ?_, ?_⟩
  · simp only [vI]
    apply List.ext_getElem?
    intro i
    rcases Nat.lt_or_ge i n with hi | hi
    · obtain ⟨a, ha, _⟩ := hel i hi
      simp [ha, f]
    · simp [List.getElem?_eq_none (show cs.length ≤ i by omega)]
  · intro a ha
    simp at ha
    obtain ⟨v, hv, rfl⟩ := ha
    obtain ⟨i, hi, rfl⟩ := List.getElem_of_mem hv
    obtain ⟨a, ha, hw⟩ := hel i (by omega)
    rw [List.getElem?_eq_getElem hi] at ha
    injection ha with ha
    rw [ha]
    exact hw
/-- A struct, a field at a time. -/
theorem opn_field {t : TypeId} {fs : Array Field} {H : Type} {enc : TypeId × Value → H} {fuel : Nat} {cs : List Value} {x : DataW H × List MemPlace} (ht : P.underlying t = some (.struct fs))
    (h : DataW.trod enc P w 0 (fun _ => true) true fuel t cs = some x) (i : Nat) (f : Field) (hf : fs[i]? = some f) : ∃ n y, DataW.trod enc P w 0 (fun _ => true) true n f.type ((cs.drop f.offset).take (P.cellsOf f.type)) = some y := by
  obtain ⟨xs, n, _, _, _, hl, hx⟩ := DataW.trod_struct ht h
  have h1 := hx i f hf
  have hi : i < fs.size := (Array.getElem?_eq_some_iff.1 hf).1
  rw [List.getElem?_eq_getElem (by omega)] at h1
  exact ⟨n, _, h1⟩
theorem opn_size {t : TypeId} {fs : Array Field} {H : Type} {enc : TypeId × Value → H} {fuel : Nat} {cs : List Value} {x : DataW H × List MemPlace} (ht : P.underlying t = some (.struct fs))
    (h : DataW.trod enc P w 0 (fun _ => true) true fuel t cs = some x) : cs.length = P.cellsOf t := by
  obtain ⟨_, _, _, _, hl, _⟩ := DataW.trod_struct ht h
  exact hl
end
theorem ne_tr {t r : Bool} {X : Option Bool} (H : (if t = true then some false else X) = some r) (hr : r = true) : t = false := by
  cases t with
  | false => rfl
  | true => rw [if_pos rfl] at H; injection H with H; rw [← H] at hr; cases hr
theorem cut_next {α : Type} (cs : List α) (o n m : Nat) (h : o + n = m) {A B : List α} (e : (cs.drop o).take n = A) (r : cs.drop m = B) : cs.drop o = A ++ B := by
  rw [← e, ← r, ← h, ← List.drop_drop, List.take_append_drop]
theorem cut_end {α : Type} (cs : List α) (n : Nat) (h : cs.length = n) : cs.drop n = [] := List.drop_of_length_le (by omega)
theorem one_at {α : Type} (l : List α) (o : Nat) (h : o < l.length) : ∃ v, (l.drop o).take 1 = [v] ∧ l[o]? = some v :=
  ⟨l[o], by rw [List.drop_eq_getElem_cons h]; rfl, List.getElem?_eq_getElem h⟩
theorem opn_at {P : Program} {w : World} {t : TypeId} {fs : Array Field} {H : Type} {enc : TypeId × Value → H} {fuel : Nat} {cs : List Value} {x : DataW H × List MemPlace} (ht : P.underlying t = some (.struct fs))
    (h : DataW.trod enc P w 0 (fun _ => true) true fuel t cs = some x) (i : Nat) (f : Field) (hf : fs[i]? = some f) {u o c : Nat} (hu : f.type = u) (ho : f.offset = o) (hc : P.cellsOf u = c) :
    ∃ n y, DataW.trod enc P w 0 (fun _ => true) true n u ((cs.drop o).take c) = some y := by
  subst hu ho hc
  exact opn_field ht h i f hf
theorem cut_at {α : Type} (cs : List α) (o n : Nat) : cs.drop o = (cs.drop o).take n ++ cs.drop (o + n) := by
  rw [← List.drop_drop, List.take_append_drop]
/-- The end of a row's proof: what the walk tells is what the row asks. -/
theorem calls_row {P : Program} {f : FuncId} {args : List Value} {W : World} {b : Bool} (h : Calls P f args.toArray W (Post (hp W) W fun _ v => v = .bool b)) :
    Calls P f args.toArray W fun e W' => e = .returned (.bool b) ∧ Below W.heap.size W W' := by
  refine h.mono ?_
  rintro e w' ⟨v, M', rfl, hx, rfl⟩
  exact ⟨rfl, hx.below⟩
end Go.Cu
