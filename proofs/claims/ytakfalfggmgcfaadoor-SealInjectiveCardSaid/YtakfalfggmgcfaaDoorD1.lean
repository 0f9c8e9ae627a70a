/- Plain laws on the pure functions; no program is named. -/
import Derived.Test.YtakfalfggmgcfaaDoorD0
set_option linter.unusedVariables false
set_option linter.unusedSimpArgs false
/-! Plain laws: one block of the hash. -/
namespace Go.Cu
/-- Rotation to the right. -/
def rr (x k : Int) : Int := bits .or .u32 (shlI .u32 x (32 - k)) (shrI .u32 x k)
theorem rot_of {x p k : Int} (h1 : bits .and .u64 (IntKind.u64.wrap p) 31 = 32 - k) (h2 : IntKind.u64.wrap (32 - (32 - k)) = k) (h3 : 0 ≤ k) (h4 : k ≤ 32) : bits_RotateLeft32 x p = some (rr x k) := by
  unfold bits_RotateLeft32
  rw [h1, h2, grd_b (by omega), grd_b (by omega)]; rfl
theorem rot7 (x : Int) : bits_RotateLeft32 x (-7) = some (rr x 7) := rot_of (by decide +kernel) (by decide +kernel) (by decide) (by decide)
theorem rot18 (x : Int) : bits_RotateLeft32 x (-18) = some (rr x 18) := rot_of (by decide +kernel) (by decide +kernel) (by decide) (by decide)
theorem rot17 (x : Int) : bits_RotateLeft32 x (-17) = some (rr x 17) := rot_of (by decide +kernel) (by decide +kernel) (by decide) (by decide)
theorem rot19 (x : Int) : bits_RotateLeft32 x (-19) = some (rr x 19) := rot_of (by decide +kernel) (by decide +kernel) (by decide) (by decide)
theorem rotL16 (x : Int) : bits_RotateLeft32 x 16 = some (rr x 16) := rot_of (by decide +kernel) (by decide +kernel) (by decide) (by decide)
theorem rotL12 (x : Int) : bits_RotateLeft32 x 12 = some (rr x 20) := rot_of (by decide +kernel) (by decide +kernel) (by decide) (by decide)
theorem rotL8 (x : Int) : bits_RotateLeft32 x 8 = some (rr x 24) := rot_of (by decide +kernel) (by decide +kernel) (by decide) (by decide)
theorem rotL7 (x : Int) : bits_RotateLeft32 x 7 = some (rr x 25) := rot_of (by decide +kernel) (by decide +kernel) (by decide) (by decide)
def mixS (x i j k : Int) : Int := bits .xor .u32 (bits .xor .u32 (rr x i) (rr x j)) (rr x k)
theorem mix1 (x : Int) : hash_mix x 6 11 25 = some (mixS x 6 11 25) := by
  unfold hash_mix
  rw [rot_of (x := x) (p := IntKind.i64.wrap (0 - 6)) (k := 6) (by decide +kernel) (by decide +kernel) (by decide) (by decide), rot_of (x := x) (p := IntKind.i64.wrap (0 - 11)) (k := 11) (by decide +kernel) (by decide +kernel) (by decide) (by decide), rot_of (x := x) (p := IntKind.i64.wrap (0 - 25)) (k := 25) (by decide +kernel) (by decide +kernel) (by decide) (by decide)]
  rfl
theorem mix2 (x : Int) : hash_mix x 2 13 22 = some (mixS x 2 13 22) := by
  unfold hash_mix
  rw [rot_of (x := x) (p := IntKind.i64.wrap (0 - 2)) (k := 2) (by decide +kernel) (by decide +kernel) (by decide) (by decide), rot_of (x := x) (p := IntKind.i64.wrap (0 - 13)) (k := 13) (by decide +kernel) (by decide +kernel) (by decide) (by decide), rot_of (x := x) (p := IntKind.i64.wrap (0 - 22)) (k := 22) (by decide +kernel) (by decide +kernel) (by decide) (by decide)]
  rfl
/-- Four bytes as a word. -/
def be1 (a b : Int) : Int := bits .or .u32 (shlI .u32 a 8) (IntKind.u32.wrap b)
def be4 (p : List Int) (i : Nat) : Int := be1 (be1 (be1 (be1 0 (rd p ((4 * i : Nat) : Int))) (rd p ((4 * i + 1 : Nat) : Int))) (rd p ((4 * i + 2 : Nat) : Int))) (rd p ((4 * i + 3 : Nat) : Int))
/-- The i-th word of the schedule. -/
def nxW (w : Vector Int 64) (i : Int) : Int :=
  IntKind.u32.wrap (IntKind.u32.wrap (IntKind.u32.wrap (rd w.toList (i - 16) + bits .xor .u32 (bits .xor .u32 (rr (rd w.toList (i - 15)) 7) (rr (rd w.toList (i - 15)) 18)) (shrI .u32 (rd w.toList (i - 15)) 3)) + rd w.toList (i - 7)) +
    bits .xor .u32 (bits .xor .u32 (rr (rd w.toList (i - 2)) 17) (rr (rd w.toList (i - 2)) 19)) (shrI .u32 (rd w.toList (i - 2)) 10))
def stW (p : List Int) (i : Nat) (w : Vector Int 64) : Vector Int 64 := vs w i (if i < 16 then be4 p i else nxW w i)
def schedS (p : List Int) : Vector Int 64 := upF (stW p) 0 64 (Vector.replicate 64 0)
theorem slice4 {p : List Int} {i : Nat} (h : 4 * i + 4 ≤ p.length) : ((p.take (4 * (i : Int) + 4).toNat).drop (4 * (i : Int)).toNat) = [rd p ((4 * i : Nat) : Int), rd p ((4 * i + 1 : Nat) : Int), rd p ((4 * i + 2 : Nat) : Int), rd p ((4 * i + 3 : Nat) : Int)] := by
  have e1 : (4 * (i : Int) + 4).toNat = 4 * i + 4 := by omega
  have e2 : (4 * (i : Int)).toNat = 4 * i := by omega
  rw [e1, e2]
  apply List.ext_getElem?
  intro j
  have z : ∀ m, m < p.length → p[m]? = some (rd p (m : Int)) := by
    intro m hm
    simp [rd, List.getD, hm]
  rcases j with _ | _ | _ | _ | j
  · rw [List.getElem?_drop, List.getElem?_take_of_lt (by omega), z _ (by omega)]; rfl
  · rw [List.getElem?_drop, List.getElem?_take_of_lt (by omega), z _ (by omega)]; rfl
  · rw [List.getElem?_drop, List.getElem?_take_of_lt (by omega), z _ (by omega)]; rfl
  · rw [List.getElem?_drop, List.getElem?_take_of_lt (by omega), z _ (by omega)]; rfl
  · rw [List.getElem?_eq_none (by simp; omega), List.getElem?_eq_none (by simp)]
theorem sched_in {p : List Int} {i : Nat} {w : Vector Int 64} (hi : i < 16) (hp : 4 * i + 4 ≤ p.length) (hw : rd w.toList i = 0) :
    loopF (hash_schedule.l5 p (w, (i : Int))) (w, (0 : Int)) = some (.inl (vs w i (be4 p i), (i : Int) + 1)) := by
  have hs : ∀ (u : Vector Int 64) (j : Nat), j < 4 → hash_schedule.l5 p (w, (i : Int)) (u, (j : Int)) = some (.inl (vs u i (be1 (rd u.toList i) (rd p ((4 * i + j : Nat) : Int))), ((j + 1 : Nat) : Int))) := by
    intro u j hj
    unfold hash_schedule.l5
    simp only [wrap_id (n := 4 * (i : Int)) (by omega) (by omega), wrap_id (n := 4 * (i : Int) + 4) (by omega) (by omega), slice4 hp, List.length_cons, List.length_nil]
    rw [ite_t (by omega), grd_b (by omega), grd_b (by omega), grd_b (by omega), wrap_id (by omega) (by omega)]
    have : rd [rd p ((4 * i : Nat) : Int), rd p ((4 * i + 1 : Nat) : Int), rd p ((4 * i + 2 : Nat) : Int), rd p ((4 * i + 3 : Nat) : Int)] (j : Int) = rd p ((4 * i + j : Nat) : Int) := by
      rcases j with _ | _ | _ | _ | j
      · rfl
      · rfl
      · rfl
      · rfl
      · omega
    rw [this]; rfl
  have e0 := hs w 0 (by omega)
  have e1 := hs (vs w i (be1 (rd w.toList i) (rd p ((4 * i + 0 : Nat) : Int)))) 1 (by omega)
  rw [rd_vs _ _ _ (by omega) (by omega), vs_vs] at e1
  have e2 := hs (vs w i (be1 (be1 (rd w.toList i) (rd p ((4 * i + 0 : Nat) : Int))) (rd p ((4 * i + 1 : Nat) : Int)))) 2 (by omega)
  rw [rd_vs _ _ _ (by omega) (by omega), vs_vs] at e2
  have e3 := hs (vs w i (be1 (be1 (be1 (rd w.toList i) (rd p ((4 * i + 0 : Nat) : Int))) (rd p ((4 * i + 1 : Nat) : Int))) (rd p ((4 * i + 2 : Nat) : Int)))) 3 (by omega)
  rw [rd_vs _ _ _ (by omega) (by omega), vs_vs] at e3
  refine (loopF_next e0).trans ((loopF_next e1).trans ((loopF_next e2).trans ((loopF_next e3).trans ?_)))
  rw [loopF_done]
  unfold hash_schedule.l5
  simp only [wrap_id (n := 4 * (i : Int)) (by omega) (by omega), wrap_id (n := 4 * (i : Int) + 4) (by omega) (by omega), slice4 hp, List.length_cons, List.length_nil]
  rw [ite_f (by omega)]
  unfold hash_schedule.j4 hash_schedule.j2
  rw [wrap_id (by simp only; omega) (by simp only; omega)]
  simp only [hw]; rfl
theorem schedule_eq (p : List Int) (hp : p.length = 64) : hash_schedule p = some (schedS p) := by
  unfold hash_schedule
  have h := loop_up (step := hash_schedule.l6 p) (fun w i => (w, i)) (stW p) (fun w => w) 64 (fun k w => ∀ j : Nat, k ≤ j → rd w.toList (j : Int) = 0) (by
    intro i w hi hw
    refine ⟨?_, ?_⟩
    · unfold hash_schedule.l6
      simp only []
      rw [ite_t (by omega)]
      by_cases h16 : i < 16
      · rw [ite_t (by omega), grd_b (by rw [wrap_id (n := 4 * (i : Int)) (by omega) (by omega), wrap_id (n := 4 * (i : Int) + 4) (by omega) (by omega)]; omega), sched_in h16 (by omega) (hw i (Nat.le_refl _))]
        unfold stW; rw [if_pos h16]
      · rw [ite_f (by omega)]
        unfold hash_schedule.j3
        simp only [wrap_id (n := (i : Int) - 15) (by omega) (by omega), wrap_id (n := (i : Int) - 2) (by omega) (by omega), wrap_id (n := (i : Int) - 16) (by omega) (by omega), wrap_id (n := (i : Int) - 7) (by omega) (by omega)]
        rw [grd_b (by omega), grd_b (by omega), rot7, bind_s, rot18, bind_s, rot17, bind_s, rot19, bind_s, grd_b (by omega), grd_b (by omega), grd_b (by omega), bind_s]
        unfold hash_schedule.j2
        rw [wrap_id (by simp only; omega) (by simp only; omega)]
        unfold stW; rw [if_neg h16]; rfl
    · intro j hj
      unfold stW
      rw [rd_vs_ne _ _ _ _ (by omega)]
      exact hw j (by omega)) (by
    intro w _
    unfold hash_schedule.l6
    simp only []
    rw [ite_f (by omega)]; rfl) 64 0 (Vector.replicate 64 0) rfl (fun j _ => rd_rep _)
  exact h.1
end Go.Cu
