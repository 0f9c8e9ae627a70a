/- Plain laws on the pure functions; no program is named. -/
import Derived.Test.YtakfalfggmgcfaaDoorDP
set_option linter.unusedVariables false
set_option linter.unusedSimpArgs false
/-! Plain laws: loops that count. -/
namespace Go.Cu
theorem wrap_id {n : Int} (h0 : -9223372036854775808 ≤ n) (h1 : n ≤ 9223372036854775807) : IntKind.i64.wrap n = n := by
  simp [IntKind.wrap, IntKind.signed, IntKind.bits]
  omega
theorem wrap64_id {n : Int} (h0 : 0 ≤ n) (h1 : n < 18446744073709551616) : IntKind.u64.wrap n = n := by
  simp [IntKind.wrap, IntKind.signed, IntKind.bits]
  omega
theorem wrap32_id {n : Int} (h0 : 0 ≤ n) (h1 : n < 4294967296) : IntKind.u32.wrap n = n := by
  simp [IntKind.wrap, IntKind.signed, IntKind.bits]
  omega
theorem wrap8_id {n : Int} (h0 : 0 ≤ n) (h1 : n < 256) : IntKind.u8.wrap n = n := by
  simp [IntKind.wrap, IntKind.signed, IntKind.bits]
  omega
theorem wrap32_rng (n : Int) : 0 ≤ IntKind.u32.wrap n ∧ IntKind.u32.wrap n < 4294967296 := by
  simp [IntKind.wrap, IntKind.signed, IntKind.bits]
  omega
theorem wrap8_rng (n : Int) : 0 ≤ IntKind.u8.wrap n ∧ IntKind.u8.wrap n < 256 := by
  simp [IntKind.wrap, IntKind.signed, IntKind.bits]
  omega
theorem grd_b {β : Type} {p : Prop} [Decidable p] {f : Unit → Option β} (h : p) : (grd p).bind f = f () := by
  unfold grd; rw [if_pos h]; rfl
theorem ite_t {α : Type} {p : Prop} [Decidable p] {a b : α} (h : p) : (if decide p = true then a else b) = a := by rw [decide_eq_true h]; rfl
theorem ite_f {α : Type} {p : Prop} [Decidable p] {a b : α} (h : ¬ p) : (if decide p = true then a else b) = b := by rw [decide_eq_false h]; rfl
theorem bind_s {α β : Type} {x : α} {f : α → Option β} : (some x).bind f = f x := rfl
/-- m rounds from the k-th on. -/
def upF {σ : Type} (F : Nat → σ → σ) : Nat → Nat → σ → σ
  | _, 0, s => s
  | k, m + 1, s => upF F (k + 1) m (F k s)
theorem upF_add {σ : Type} (F : Nat → σ → σ) : ∀ (m n k : Nat) (s : σ), upF F k (m + n) s = upF F (k + m) n (upF F k m s)
  | 0, n, k, s => by simp [upF]
  | m + 1, n, k, s => by rw [show m + 1 + n = (m + n) + 1 by omega, upF, upF, upF_add F m n, show k + 1 + m = k + (m + 1) by omega]
theorem upF_congr {σ : Type} {F G : Nat → σ → σ} : ∀ (m k : Nat) (s : σ), (∀ i s, k ≤ i → i < k + m → F i s = G i s) → upF F k m s = upF G k m s
  | 0, k, s, _ => rfl
  | m + 1, k, s, h => by
    rw [upF, upF, h k s (by omega) (by omega)]
    exact upF_congr m (k + 1) _ fun i s h1 h2 => h i s (by omega) (by omega)
theorem loop_up {τ σ ρ : Type} {step : τ → Option (τ ⊕ ρ)} (mk : σ → Int → τ) (F : Nat → σ → σ) (G : σ → ρ) (N : Nat) (Inv : Nat → σ → Prop)
    (hs : ∀ (i : Nat) s, i < N → Inv i s → step (mk s i) = some (.inl (mk (F i s) ((i : Int) + 1))) ∧ Inv (i + 1) (F i s))
    (he : ∀ s, Inv N s → step (mk s (N : Int)) = some (.inr (G s))) : ∀ (m k : Nat) (s : σ), k + m = N → Inv k s → loopF step (mk s (k : Int)) = some (G (upF F k m s)) ∧ Inv N (upF F k m s)
  | 0, k, s, h, hi => by
    obtain rfl : k = N := by omega
    exact ⟨loopF_done (he s hi), hi⟩
  | m + 1, k, s, h, hi => by
    obtain ⟨h1, h2⟩ := hs k s (by omega) hi
    have := loop_up mk F G N Inv hs he m (k + 1) (F k s) (by omega) h2
    rw [loopF_next h1]
    exact this
/-! Vectors. -/
theorem vs_toList {α : Type} {n : Nat} (v : Vector α n) (i : Int) (x : α) : (vs v i x).toList = v.toList.set i.toNat x := by
  simp [vs]
theorem rd_vs {α : Type} [Inhabited α] {n : Nat} (v : Vector α n) (i : Int) (x : α) (h0 : 0 ≤ i) (h1 : i < n) : rd (vs v i x).toList i = x := by
  rw [vs_toList]
  have : i.toNat < v.toList.length := by simp; omega
  simp [rd, List.getD, this]
  rw [List.getElem?_set_self (by simpa using this)]; rfl
theorem vs_vs {α : Type} {n : Nat} (v : Vector α n) (i : Int) (x y : α) : vs (vs v i x) i y = vs v i y := by
  apply Vector.toList_inj.1
  rw [vs_toList, vs_toList, vs_toList, List.set_set]
theorem rd_vs_ne {α : Type} [Inhabited α] {n : Nat} (v : Vector α n) (i j : Int) (x : α) (h : i.toNat ≠ j.toNat) : rd (vs v i x).toList j = rd v.toList j := by
  rw [vs_toList]
  simp [rd, List.getD, List.getElem?_set_ne h]
theorem rd_rep {n : Nat} (i : Int) : rd (Vector.replicate n (0 : Int)).toList i = 0 := by
  simp only [rd, List.getD, Vector.toList_replicate, List.getElem?_replicate]
  split <;> rfl
end Go.Cu
