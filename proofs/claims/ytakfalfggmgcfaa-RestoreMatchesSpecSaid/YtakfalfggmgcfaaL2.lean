/- Plain laws on the pure functions; no program is named. -/
import Derived.Test.YtakfalfggmgcfaaL1
set_option linter.unusedVariables false
set_option linter.unusedSimpArgs false
/-! Plain laws: searches. -/
namespace Go.Cu
theorem grd_t {β : Type} {p : Prop} [Decidable p] (h : p) (f : Unit → Option β) : ((grd p).bind f) = f () := by simp [grd, h]

/-- The first place, or -1. -/
def ixM {α : Type} (q : α → Bool) : Int → List α → Int
  | _, [] => -1
  | k, x :: r => if q x then k else ixM q (k + 1) r
theorem indexKey_eq {l : List Key} {p : Key → Option Bool} {q : Key → Bool} (hl : l.length ≤ 1099511627776) (hp : ∀ x ∈ l, p x = some (q x)) : slices_IndexFunc_Key l p = some (ixM q 0 l) := by
  unfold slices_IndexFunc_Key
  have := loop_list (l := l) (step := slices_IndexFunc_Key.l2 l p) (fun s => s) (fun s r => ixM q s r) (fun _ => True) ?_ ?_ 0 0 trivial rfl (Nat.zero_le _)
  · simpa using this
  · intro s x r k _ hk hd hx hlt
    have hk : s = (k : Int) := hk
    subst hk
    have hmem : x ∈ l := by
      have : x ∈ l.drop k := by rw [hd]; simp
      exact List.mem_of_mem_drop this
    unfold slices_IndexFunc_Key.l2
    rw [if_pos (by simpa using hlt), grd_t ⟨by omega, by omega⟩, hx, hp x hmem]
    simp only [Option.bind_some, ixM]
    cases q x with
    | true => exact .inr rfl
    | false =>
      refine .inl ⟨k + 1, ?_, rfl, trivial, rfl⟩
      rw [wrap_id (by omega) (by omega)]; rfl
  · intro s _ hs
    have hs : s = (l.length : Int) := hs
    subst hs
    unfold slices_IndexFunc_Key.l2
    rw [if_neg (by simp)]
    rfl
def likeB (k x : Key) : Bool := decide (({ ({ x with Id := k.Id } : Key) with Parent := k.Parent } : Key) = k)
def twinM (k : Key) : List Key → Int × Bool
  | [] => (0, false)
  | x :: r => if likeB k x then (x.Id, true) else twinM k r
theorem ixM_ge {α : Type} (q : α → Bool) : ∀ (l : List α) (k : Int), 0 ≤ k → ixM q k l = -1 ∨ k ≤ ixM q k l
  | [], k, _ => .inl rfl
  | x :: r, k, h => by
    unfold ixM
    split
    · exact .inr (Int.le_refl _)
    · rcases ixM_ge q r (k + 1) (by omega) with h | h
      · exact .inl h
      · exact .inr (by omega)
theorem ixM_twin (k : Key) (L : List Key) : ∀ (l : List Key) (j : Nat), L.drop j = l →
    (if ixM (likeB k) j l < 0 then some (((0 : Int), false)) else (grd (0 ≤ ixM (likeB k) j l ∧ ixM (likeB k) j l < (L.length : Int))).bind fun _ => some (((rd L (ixM (likeB k) j l)).Id, true))) = some (twinM k l)
  | [], j, _ => by simp [ixM, twinM]
  | x :: r, j, h => by
    have hx := rd_cons h
    have hlt := drop_lt h
    unfold ixM twinM
    cases hb : likeB k x with
    | true =>
      simp only [if_true]
      rw [if_neg (by omega), grd_t ⟨by omega, by omega⟩, hx]
    | false =>
      simp only [Bool.false_eq_true, if_false]
      exact ixM_twin k L r (j + 1) (drop_next h)
theorem restore_Twin_eq {t : Table} {k : Key} (hl : t.Keys.length ≤ 1099511627776) : restore_Twin t k = some (twinM k t.Keys) := by
  unfold restore_Twin
  rw [indexKey_eq (p := fun x => restore_Twin_1 x k) (q := likeB k) hl (fun x _ => rfl)]
  simp only [Option.bind_some]
  have := ixM_twin k t.Keys t.Keys 0 rfl
  simpa using this
theorem ref37_Twin_eq {t : Table} {k : Key} (hl : t.Keys.length ≤ 1099511627776) : ref37_Twin t k = some (twinM k t.Keys) := by
  unfold ref37_Twin
  have := loop_list (l := t.Keys) (step := ref37_Twin.l2 t k) (fun s => s) (fun s r => twinM k r) (fun _ => True) ?_ ?_ 0 0 trivial rfl (Nat.zero_le _)
  · simpa using this
  · intro s x r j _ hk hd hx hlt
    have hk : s = (j : Int) := hk
    subst hk
    unfold ref37_Twin.l2
    rw [if_pos (by simpa using hlt), grd_t ⟨by omega, by omega⟩, hx]
    simp only [ref37_alike, Option.bind_some, twinM]
    show (∃ s', _) ∨ _
    cases hb : likeB k x with
    | true =>
      refine .inr ?_
      unfold likeB at hb
      rw [hb]
      simp only [if_true]
      rw [grd_t ⟨by omega, by omega⟩]
    | false =>
      refine .inl ⟨j + 1, ?_, rfl, trivial, by simp⟩
      unfold likeB at hb
      rw [hb]
      simp only [Bool.false_eq_true, if_false]
      rw [wrap_id (by omega) (by omega)]
  · intro s _ hs
    have hs : s = (t.Keys.length : Int) := hs
    subst hs
    unfold ref37_Twin.l2
    rw [if_neg (by simp)]
    rfl
end Go.Cu
