/- Rules for walks over facts, for any program; no condition. -/
import Derived.Test.YtakfalfggmgcfaaCu15
set_option linter.unusedSimpArgs false
set_option linter.unusedVariables false
/-! Maps from int to int, kept as lists of pairs. -/
namespace Go.Cu
def mapE (m : List (Int × Int)) : List MapEntry := m.zipIdx.map fun p => { key := .int .i64 p.1.1, val := .int .i64 p.1.2, born := p.2 }
abbrev mapO (m : List (Int × Int)) : Obj := .map (mapE m).toArray m.length
def mget (m : List (Int × Int)) (k : Int) : Int := ((m.find? fun p => k == p.1).map (·.2)).getD 0
def mput (m : List (Int × Int)) (k v : Int) : List (Int × Int) :=
  match m.findIdx? fun p => k == p.1 with
  | some i => m.set i (k, v)
  | none => m ++ [(k, v)]

theorem findNow_map (k : Int) : ∀ (m : List (Int × Int)) (s i : Nat),
    Instr.findNow (.int .i64) (.int .i64 k) ((m.zipIdx s).map fun p => ({ key := .int .i64 p.1.1, val := .int .i64 p.1.2, born := p.2 } : MapEntry)) i =
      some ((m.findIdx? fun p => k == p.1).bind fun j => (m[j]?).map fun p => (i + j, .int .i64 p.2))
  | [], s, i => by simp [Instr.findNow]
  | p :: m, s, i => by
    simp only [List.zipIdx_cons, List.map_cons, Instr.findNow, Instr.sameNow, if_true]
    rw [List.findIdx?_cons]
    cases hb : (k == p.1) with
    | true => simp
    | false =>
      simp only [findNow_map k m (s + 1) (i + 1)]
      cases hf : m.findIdx? fun p => k == p.1 with
      | none => simp
      | some j => simp; cases m[j]? <;> simp; omega
theorem run_findKey {P : Program} {w : World} {K : TypeId} (hK : P.underlying K = some (.int .i64)) (k : Int) (m : List (Int × Int)) :
    (Instr.findKey K (.int .i64 k) (mapE m)).run P w = .ok ((m.findIdx? fun p => k == p.1).bind fun j => (m[j]?).map fun p => (j, .int .i64 p.2)) w := by
  have := findNow_map k m 0 0
  simp only [Nat.zero_add] at this
  unfold Instr.findKey
  simp only [Sem.run_bind, run_underlying hK, Result.andThen_ok]
  unfold mapE
  rw [this]
  simp
theorem run_checkKey {P : Program} {w : World} {K : TypeId} (hK : P.underlying K = some (.int .i64)) (e : Bool) (k : Int) : (Instr.checkKey e 10000 K (.int .i64 k)).run P w = .ok () w := by
  show (Instr.checkKey e (9999 + 1) K (.int .i64 k)).run P w = .ok () w
  generalize 9999 = d
  simp [Instr.checkKey, run_underlying hK]
theorem find_idx (k : Int) : ∀ (m : List (Int × Int)), (m.find? fun p => k == p.1) = (m.findIdx? fun p => k == p.1).bind fun j => m[j]?
  | [] => by simp
  | p :: m => by
    rw [List.find?_cons, List.findIdx?_cons]
    cases hb : (k == p.1) with
    | true => simp
    | false => simp only [find_idx k m]; cases m.findIdx? fun p => k == p.1 <;> simp
theorem idx_get (k : Int) {m : List (Int × Int)} {j : Nat} (h : (m.findIdx? fun p => k == p.1) = some j) : ∃ q, m[j]? = some (k, q) := by
  rw [List.findIdx?_eq_some_iff_getElem] at h
  obtain ⟨hl, hb, _⟩ := h
  have : k = m[j].1 := by simpa using hb
  exact ⟨m[j].2, by rw [List.getElem?_eq_getElem hl, this]⟩

section rules
variable {c : Cx} {ops : Array Oper} {rest : List Oper} {d : Nat} {ty : TypeId} {pos : String} {af : Array Edge} {gd : Option (Nat × Bool)} {Q : Exit → Act → World → Prop} {l : List (Nat × Value)} {M : Heap} {L : List Item}
theorem w_makeMap {t : TypeId} (hg : Wnt ops l gd) (hd : Nat.blt d c.n = true)
    (h : ∀ b, c.W ops rest Q ((d, .map (some b)) :: l) M (L ++ [.blk b (mapO [])])) : c.W ops (⟨some d, .makeMap t none, ty, pos, af, gd⟩ :: rest) Q l M L := by
  refine w_op hg hd (Φ := fun v w' => ∃ b, v = .map (some b) ∧ St c.X c.M0 c.w0 M (lt (L ++ [.blk b (mapO [])])) w') ?_ ?_
  · intro a w hf hs
    refine OpOK.val (v := .map (some w.heap.size)) (w' := w.alloc (mapO [])) ?_ ⟨_, rfl, hs.newL ⟨rfl, alloc_get w _⟩⟩
    simp [execOp, Instr.makeMap, mapO, mapE]
  · rintro v w' ⟨b, rfl, hs⟩ a' hf
    exact h b a' w' hf hs
theorem r_lookup {P : Program} {X : Nat → Prop} {M0 M : Heap} {w0 w : World} {it : Nat → Option Item} {ρ : Operand → Value} {dst : Option Nat} {t K E : TypeId} {x y : Operand} {b : Nat} {m : List (Int × Int)} {k : Int} (i : Nat)
    (hs : St X M0 w0 M it w) (hi : it i = some (.blk b (mapO m))) (ht : P.underlying t = some (.map K E)) (hK : P.underlying K = some (.int .i64)) (hz : TZero P E (.int .i64 0))
    (hx : ρ x = .map (some b)) (hy : ρ y = .int .i64 k) : (execOp ρ ⟨dst, .lookup t x y false, ty, pos, af, gd⟩).run P w = .ok (.value (.int .i64 (mget m k))) w := by
  have hb : w.heap[b]? = some (mapO m) := by
    obtain ⟨_, bo, _, _, h3⟩ := hs
    obtain ⟨_, h⟩ := h3 i _ hi
    exact h
  have hg : (getObj b).run P w = .ok (mapO m) w := by simp [getObj, Sem.run, hb]
  have hres : (Instr.lookup t (.map (some b)) (.int .i64 k) false).run P w = .ok (.int .i64 (mget m k)) w := by
    unfold Instr.lookup
    simp only [Sem.run_bind, run_underlying ht, Result.andThen_ok, hg, mapO, Sem.run_pure, run_checkKey hK, run_findKey hK]
    unfold mget
    rw [find_idx]
    cases hf : (m.findIdx? fun p => k == p.1) with
    | none => simp [hz.run]
    | some j =>
      obtain ⟨q, hq⟩ := idx_get k hf
      simp [hq]
  simp [execOp, hx, hy, hres]
theorem mapE_set (k v : Int) {m : List (Int × Int)} {j : Nat} {q : Int} (h : m[j]? = some (k, q)) :
    (mapE m).modify j (fun e => { e with key := .int .i64 k, val := .int .i64 v }) = mapE (m.set j (k, v)) := by
  unfold mapE
  apply List.ext_getElem?
  intro i
  simp only [List.getElem?_modify, List.getElem?_map, List.getElem?_zipIdx, List.getElem?_set, Nat.zero_add]
  by_cases e : j = i
  · subst e
    have hl : j < m.length := (List.getElem?_eq_some_iff.1 h).1
    simp [h, hl]
  · simp [e]
theorem mapE_push (k v : Int) (m : List (Int × Int)) : mapE m ++ [({ key := .int .i64 k, val := .int .i64 v, born := m.length } : MapEntry)] = mapE (m ++ [(k, v)]) := by
  simp [mapE, List.zipIdx_append]
theorem w_mapUpd {t K E : TypeId} {x y z : Operand} {b : Nat} {m : List (Int × Int)} {k v : Int} {i : Nat} (ht : c.P.underlying t = some (.map K E)) (hK : c.P.underlying K = some (.int .i64)) (hg : Wnt ops l gd)
    (hx : ev l x = some (.map (some b))) (hy : ev l y = some (.int .i64 k)) (hz : ev l z = some (.int .i64 v)) (hi : L[i]? = some (.blk b (mapO m)))
    (h : c.W ops rest Q l M (L.set i (.blk b (mapO (mput m k v))))) : c.W ops (⟨none, .mapUpdate t x y z, ty, pos, af, gd⟩ :: rest) Q l M L := by
  refine w_op0 hg (Φ := fun _ w' => St c.X c.M0 c.w0 M (lt (L.set i (.blk b (mapO (mput m k v))))) w') ?_ ?_
  · intro a w hf hs
    have hb : w.heap[b]? = some (mapO m) := by
      obtain ⟨_, bo, _, _, h3⟩ := hs
      obtain ⟨_, h⟩ := h3 i _ hi
      exact h
    have hbl : b < w.heap.size := lt_of_get hb
    have hgo : (getObj b).run c.P w = .ok (mapO m) w := by simp [getObj, Sem.run, hb]
    have hso : ∀ o, (setObj b o).run c.P w = .ok () { w with heap := w.heap.setIfInBounds b o } := by
      intro o
      simp [setObj, Sem.run, hb]
    have hres : (Instr.mapUpdate t (.map (some b)) (.int .i64 k) (.int .i64 v)).run c.P w = .ok () { w with heap := w.heap.setIfInBounds b (mapO (mput m k v)) } := by
      unfold Instr.mapUpdate
      simp only [Sem.run_bind, run_underlying ht, Result.andThen_ok, hgo, mapO, run_checkKey hK, run_findKey hK]
      unfold mput
      cases hf : (m.findIdx? fun p => k == p.1) with
      | none =>
        simp only [Option.bind_none, hso]
        have := mapE_push k v m
        simp [← this]
      | some j =>
        obtain ⟨q, hq⟩ := idx_get k hf
        have hkey : ((mapE m)[j]?).map (·.key) = some (.int .i64 k) := by
          simp [mapE, hq]
        simp only [Option.bind_some, hq, Option.map_some, List.getElem?_toArray, hkey, Option.getD_some, Instr.keyThatStays]
        have hb : Instr.sameBits 10000 (.int .i64 k) (.int .i64 k) = true := by
          show Instr.sameBits (9999 + 1) (.int .i64 k) (.int .i64 k) = true
          generalize 9999 = d
          simp [Instr.sameBits]
        simp only [hb, if_true, Sem.run_pure, Sem.run_bind, Result.andThen_ok, hso]
        have := mapE_set k v hq
        simp [← this]
    refine OpOK.skip (w' := { w with heap := w.heap.setIfInBounds b (mapO (mput m k v)) }) ?_ ?_
    · simp [execOp, hf.ev hx, hf.ev hy, hf.ev hz, hres]
    · rw [← lt_set L i _ _ hi]
      refine hs.write hi rfl rfl rfl (by simp) ?_ (by intro v T sz n cs e; cases e)
      rintro b' ⟨e, hb'⟩
      injection e with e
      subst e
      refine ⟨?_, rfl, ?_⟩
      · intro k' hk'
        simp [Array.getElem?_setIfInBounds_ne (Ne.symm hk')]
      · simp [hbl]
  · intro v w' hs a' hf
    exact h a' w' hf hs
end rules
end Go.Cu
