/- Plain laws on the pure functions; no program is named. -/
import Derived.Test.YtakfalfggmgcfaaDoorD3
set_option linter.unusedVariables false
set_option linter.unusedSimpArgs false
/-! Plain laws: the hash of a message, the code of a text. -/
namespace Go.Cu
def IsB (l : List Int) : Prop := ∀ x ∈ l, 0 ≤ x ∧ x < 256
theorem IsB.app {a b : List Int} (h : IsB a) (k : IsB b) : IsB (a ++ b) := by
  intro x hx; rcases List.mem_append.1 hx with h' | h'
  · exact h x h'
  · exact k x h'
theorem bytesI_isB (s : List UInt8) : IsB (bytesI s) := by
  intro x hx
  obtain ⟨b, _, rfl⟩ := List.mem_map.1 hx
  have h : b.toNat < 256 := b.toNat_lt
  exact ⟨Int.natCast_nonneg _, Int.ofNat_lt.2 h⟩
theorem bytesI_intsB {l : List Int} (h : IsB l) : bytesI (intsB l) = l := by
  unfold bytesI intsB
  rw [List.map_map]
  conv => rhs; rw [← List.map_id l]
  apply List.map_congr_left
  intro x hx
  obtain ⟨h0, h1⟩ := h x hx
  have : x.toNat < 256 := by omega
  simp [UInt8.toNat_ofNat, Nat.mod_eq_of_lt this]
  omega
theorem intsB_bytesI (s : List UInt8) : intsB (bytesI s) = s := by
  unfold bytesI intsB
  rw [List.map_map]
  conv => rhs; rw [← List.map_id s]
  apply List.map_congr_left
  intro x _
  simp
theorem intsB_len (l : List Int) : (intsB l).length = l.length := by simp [intsB]
theorem loop_map {σ ρ : Type} {step : σ → Option (σ ⊕ ρ)} {s : σ} {o : Option ρ} (h : step s = o.map Sum.inr) : loopF step s = o := by
  rw [loopF_eq, h]
  cases o <;> rfl
theorem zero_loop {ρ : Type} {step : List Int → Option (List Int ⊕ ρ)} {G : List Int → Option ρ} (c B : Nat)
    (h : ∀ s : List Int, s.length ≤ B → step s = if (c + s.length) % 64 = 56 then (G s).map Sum.inr else some (.inl (s ++ [0]))) :
    ∀ (z : Nat) (s : List Int), (c + s.length + z) % 64 = 56 → z < 64 → s.length + z ≤ B → loopF step s = G (s ++ List.replicate z 0)
  | 0, s, h1, h2, h3 => by
    have := h s (by omega)
    rw [if_pos (by simpa using h1)] at this
    rw [loop_map this]; simp
  | z + 1, s, h1, h2, h3 => by
    have := h s (by omega)
    rw [if_neg (by omega)] at this
    rw [loopF_next this, zero_loop c B h z (s ++ [0]) (by simp; omega) (by omega) (by simp; omega)]
    rw [List.append_assoc]; rfl
theorem upF_app {α : Type} (f : Nat → α) : ∀ (n k : Nat) (x : List α), upF (fun i s => s ++ [f i]) k n x = x ++ (List.range' k n).map f
  | 0, k, x => by simp [upF]
  | n + 1, k, x => by rw [upF, upF_app f n, List.range'_succ, List.map_cons, List.append_assoc]; rfl
/-- A byte of the length. -/
def byteL (L : Int) (j : Nat) : Int := IntKind.u8.wrap (shrI .u64 (IntKind.u64.wrap (8 * L)) (56 - 8 * (j : Int)))
def padS (L : Nat) : List Int := ([128] ++ List.replicate ((119 - L % 64) % 64) 0) ++ (List.range' 0 8).map (byteL L)
theorem padS_isB (L : Nat) : IsB (padS L) := by
  intro x hx
  unfold padS at hx
  rcases List.mem_append.1 hx with hx | hx
  · rcases List.mem_append.1 hx with hx | hx
    · simp at hx; subst hx; decide
    · obtain ⟨_, rfl⟩ := List.mem_replicate.1 hx; decide
  · obtain ⟨j, _, rfl⟩ := List.mem_map.1 hx
    exact wrap8_rng _
theorem padS_len (L : Nat) : (padS L).length = 1 + (119 - L % 64) % 64 + 8 := by simp [padS]; omega
def digI (s : Vector Int 8) (i : Nat) (o : Vector Int 32) : Vector Int 32 := vs o i (IntKind.u8.wrap (shrI .u32 (rd s.toList ((i / 4 : Nat) : Int)) (24 - 8 * ((i % 4 : Nat) : Int))))
def digS (s : Vector Int 8) : Vector Int 32 := upF (digI s) 0 32 (Vector.replicate 32 0)
theorem vs_isB {n : Nat} {v : Vector Int n} {i x : Int} (h : IsB v.toList) (hx : 0 ≤ x ∧ x < 256) : IsB (vs v i x).toList := by
  intro y hy
  rw [vs_toList] at hy
  rcases List.mem_or_eq_of_mem_set hy with h' | rfl
  · exact h y h'
  · exact hx
theorem upF_inv {σ : Type} {F : Nat → σ → σ} {I : σ → Prop} (h : ∀ i s, I s → I (F i s)) : ∀ (m k : Nat) (s : σ), I s → I (upF F k m s)
  | 0, _, s, hs => hs
  | m + 1, k, s, hs => upF_inv h m (k + 1) _ (h k s hs)
theorem digS_isB (s : Vector Int 8) : IsB (digS s).toList :=
  upF_inv (I := fun v : Vector Int 32 => IsB v.toList) (fun i v hv => vs_isB hv (wrap8_rng _)) _ _ _ (by
    intro x hx
    rw [Vector.toList_replicate] at hx
    obtain ⟨_, rfl⟩ := List.mem_replicate.1 hx; decide)
def allS (m : List Int) : List Int := m ++ padS m.length
def shaS (m : List Int) : Vector Int 32 := digS (chainS ((allS m).length / 64) h0S (allS m))
theorem tdiv4 (i : Nat) : Int.tdiv (i : Int) 4 = ((i / 4 : Nat) : Int) := rfl
theorem tmod4 (i : Nat) : Int.tmod (i : Int) 4 = ((i % 4 : Nat) : Int) := rfl
theorem tmod64 (i : Nat) : Int.tmod (i : Int) 64 = ((i % 64 : Nat) : Int) := rfl
theorem Sum_ok {st : hash_Stream} {m : List Int} (hs : StOk st m) (hb : m.length < 1152921504606846976) : hash_Stream_Sum st = some (shaS m) := by
  have hz : (119 - m.length % 64) % 64 < 64 := Nat.mod_lt _ (by decide)
  -- the bytes of the digest
  have h3 : ∀ x : List Int, x = padS m.length → hash_Stream_Sum.j3 st x = some (shaS m) := by
    intro x hx
    unfold hash_Stream_Sum.j3
    obtain ⟨st', e1, e2⟩ := Add_ok hs (intsB x) (by rw [intsB_len, hx, padS_len]; omega)
    rw [e1, bind_s]
    rw [bytesI_intsB (by rw [hx]; exact padS_isB _), hx] at e2
    refine (loop_up (step := hash_Stream_Sum.l2 st') (fun o i => (o, i)) (digI st'.state) (fun o => o) 32 (fun _ _ => True) ?_ ?_ 32 0 (Vector.replicate 32 0) rfl trivial).1.trans ?_
    · intro i o hi _
      refine ⟨?_, trivial⟩
      unfold hash_Stream_Sum.l2
      have : i % 4 < 4 := Nat.mod_lt _ (by decide)
      simp only [tdiv4, tmod4, wrap_id (n := ((i / 4 : Nat) : Int)) (by omega) (by omega), wrap_id (n := 8 * ((i % 4 : Nat) : Int)) (by omega) (by omega), wrap_id (n := 24 - 8 * ((i % 4 : Nat) : Int)) (by omega) (by omega), wrap_id (n := (i : Int) + 1) (by omega) (by omega)]
      rw [ite_t (by omega), grd_b (by omega), grd_b (by omega), grd_b (by omega), bind_s]
      rfl
    · intro o _
      unfold hash_Stream_Sum.l2
      simp only []
      rw [ite_f (by omega)]; rfl
    · show some (digS st'.state) = _
      rw [e2.s]; rfl
  have h5 : ∀ x : List Int, x = [128] ++ List.replicate ((119 - m.length % 64) % 64) 0 → hash_Stream_Sum.j5 st x = some (shaS m) := by
    intro x hx
    unfold hash_Stream_Sum.j5
    have hxl : x.length = 1 + (119 - m.length % 64) % 64 := by rw [hx]; simp; omega
    refine loop_up (step := hash_Stream_Sum.l4 st) (fun o i => (o, i)) (fun i s => s ++ [byteL m.length i]) (fun o => shaS m) 8 (fun i s => s = x ++ (List.range' 0 i).map (byteL m.length)) ?_ ?_ 8 0 x rfl (by simp) |>.1
    · intro i s hi hsx
      have hsl : s.length = x.length + i := by rw [hsx]; simp
      refine ⟨?_, by rw [hsx, List.append_assoc]; congr 1; rw [List.range'_concat]; simp⟩
      unfold hash_Stream_Sum.l4
      simp only [wrap_id (n := 8 * (i : Int)) (by omega) (by omega), wrap_id (n := 56 - 8 * (i : Int)) (by omega) (by omega), wrap_id (n := (i : Int) + 1) (by omega) (by omega), hs.n]
      rw [ite_t (by omega), grd_b (by omega), grd_b (by simp; omega)]
      rfl
    · intro s hsx
      unfold hash_Stream_Sum.l4
      simp only []
      rw [ite_f (by omega), h3 s (by rw [hsx, hx]; rfl)]; rfl
  unfold hash_Stream_Sum
  rw [zero_loop (step := hash_Stream_Sum.l6 st) (G := hash_Stream_Sum.j5 st) m.length 68719476700 ?_ ((119 - m.length % 64) % 64) [128] (by simp; omega) hz (by simp; omega)]
  · exact h5 _ rfl
  · intro s hsl
    unfold hash_Stream_Sum.l6
    simp only [hs.n]
    rw [wrap_id (n := (m.length : Int)) (by omega) (by omega), wrap_id (by omega) (by omega), show (m.length : Int) + (s.length : Int) = ((m.length + s.length : Nat) : Int) by simp, tmod64]
    by_cases h : (m.length + s.length) % 64 = 56
    · rw [if_pos h, if_neg (by simp; omega)]
    · rw [if_neg h, if_pos (by simp; omega), grd_b (by simp; omega)]
theorem hash_Sum_ok (m : List Int) (hm : IsB m) (hb : m.length < 1152921504606846976) : hash_Sum m = some (shaS m) := by
  unfold hash_Sum
  obtain ⟨st, e1, e2⟩ := begin_ok
  obtain ⟨st', e3, e4⟩ := Add_ok e2 (intsB m) (by rw [intsB_len]; simp; omega)
  rw [bytesI_intsB hm, List.nil_append] at e4
  rw [e1, bind_s, e3, bind_s, Sum_ok e4 hb]; rfl
end Go.Cu
