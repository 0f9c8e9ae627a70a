/- Plain laws on the pure functions; no program is named. -/
import Derived.Test.YtakfalfggmgcfaaDoorD9
set_option linter.unusedVariables false
set_option linter.unusedSimpArgs false
/-! Plain laws: a block of the cipher. -/
namespace Go.Cu
def colI (i : Nat) (s : Vector Int 16) : Vector Int 16 := qS s (i : Int) ((4 + i : Nat) : Int) ((8 + i : Nat) : Int) ((12 + i : Nat) : Int)
def diaI (i : Nat) (s : Vector Int 16) : Vector Int 16 := qS s (i : Int) ((4 + (i + 1) % 4 : Nat) : Int) ((8 + (i + 2) % 4 : Nat) : Int) ((12 + (i + 3) % 4 : Nat) : Int)
def dblI (_ : Nat) (s : Vector Int 16) : Vector Int 16 := upF diaI 0 4 (upF colI 0 4 s)
def roundsS (s : Vector Int 16) : Vector Int 16 := upF dblI 0 10 s
theorem Rounds_ok (s : Vector Int 16) : cipher_Rounds s = some (roundsS s) := by
  unfold cipher_Rounds
  refine (loop_up (step := cipher_Rounds.l6) (fun o i => (o, i)) dblI (fun o => o) 10 (fun _ _ => True) ?_ ?_ 10 0 s rfl trivial).1
  · intro k s hk _
    refine ⟨?_, trivial⟩
    have hdia : ∀ u : Vector Int 16, cipher_Rounds.j4 (s, (k : Int)) u = some (.inl (upF diaI 0 4 u, (k : Int) + 1)) := by
      intro u
      unfold cipher_Rounds.j4
      refine (loop_up (step := cipher_Rounds.l3 (s, (k : Int))) (fun o i => (o, i)) diaI (fun o => .inl (o, (k : Int) + 1)) 4 (fun _ _ => True) ?_ ?_ 4 0 u rfl trivial).1
      · intro i v hi _
        refine ⟨?_, trivial⟩
        have m1 : Int.tmod ((i : Int) + 1) 4 = (((i + 1) % 4 : Nat) : Int) := tmod4 (i + 1)
        have m2 : Int.tmod ((i : Int) + 2) 4 = (((i + 2) % 4 : Nat) : Int) := tmod4 (i + 2)
        have m3 : Int.tmod ((i : Int) + 3) 4 = (((i + 3) % 4 : Nat) : Int) := tmod4 (i + 3)
        have e1 : (4 : Int) + (((i + 1) % 4 : Nat) : Int) = ((4 + (i + 1) % 4 : Nat) : Int) := by omega
        have e2 : (8 : Int) + (((i + 2) % 4 : Nat) : Int) = ((8 + (i + 2) % 4 : Nat) : Int) := by omega
        have e3 : (12 : Int) + (((i + 3) % 4 : Nat) : Int) = ((12 + (i + 3) % 4 : Nat) : Int) := by omega
        unfold cipher_Rounds.l3
        simp only [wrap_id (n := (i : Int) + 1) (by omega) (by omega), wrap_id (n := (i : Int) + 2) (by omega) (by omega), wrap_id (n := (i : Int) + 3) (by omega) (by omega), m1, m2, m3, e1, e2, e3]
        rw [wrap_id (n := ((4 + (i + 1) % 4 : Nat) : Int)) (by omega) (by omega), wrap_id (n := ((8 + (i + 2) % 4 : Nat) : Int)) (by omega) (by omega), wrap_id (n := ((12 + (i + 3) % 4 : Nat) : Int)) (by omega) (by omega)]
        rw [ite_t (by omega), grd_b (by omega), grd_b (by omega), grd_b (by omega), grd_b (by omega), quarter_ok, bind_s]
        rfl
      · intro v _
        unfold cipher_Rounds.l3
        simp only []
        rw [ite_f (by omega)]
        unfold cipher_Rounds.j2
        simp only [wrap_id (n := (k : Int) + 1) (by omega) (by omega)]
        rfl
    unfold cipher_Rounds.l6
    simp only []
    rw [ite_t (by omega)]
    refine (loop_up (step := cipher_Rounds.l5 (s, (k : Int))) (fun o i => (o, i)) colI (fun o => .inl (upF diaI 0 4 o, (k : Int) + 1)) 4 (fun _ _ => True) ?_ ?_ 4 0 s rfl trivial).1
    · intro i v hi _
      refine ⟨?_, trivial⟩
      have e1 : (4 : Int) + (i : Int) = ((4 + i : Nat) : Int) := by omega
      have e2 : (8 : Int) + (i : Int) = ((8 + i : Nat) : Int) := by omega
      have e3 : (12 : Int) + (i : Int) = ((12 + i : Nat) : Int) := by omega
      unfold cipher_Rounds.l5
      simp only [wrap_id (n := (i : Int) + 1) (by omega) (by omega), e1, e2, e3, wrap_id (n := ((4 + i : Nat) : Int)) (by omega) (by omega), wrap_id (n := ((8 + i : Nat) : Int)) (by omega) (by omega), wrap_id (n := ((12 + i : Nat) : Int)) (by omega) (by omega)]
      rw [ite_t (by omega), grd_b (by omega), grd_b (by omega), grd_b (by omega), grd_b (by omega), quarter_ok, bind_s]
      rfl
    · intro v _
      unfold cipher_Rounds.l5
      simp only []
      rw [ite_f (by omega), hdia]; rfl
  · intro s _
    unfold cipher_Rounds.l6
    simp only []
    rw [ite_f (by omega)]; rfl
def ordS : List (List Int) := [[0, 4, 8, 12], [1, 5, 9, 13], [2, 6, 10, 14], [3, 7, 11, 15], [0, 5, 10, 15], [1, 6, 11, 12], [2, 7, 8, 13], [3, 4, 9, 14]]
def ordI (i : Nat) (s : Vector Int 16) : Vector Int 16 := qS s (rd (rd ordS (i : Int)) 0) (rd (rd ordS (i : Int)) 1) (rd (rd ordS (i : Int)) 2) (rd (rd ordS (i : Int)) 3)
theorem ord_col : ∀ i : Nat, i < 4 → rd (rd ordS (i : Int)) 0 = (i : Int) ∧ rd (rd ordS (i : Int)) 1 = ((4 + i : Nat) : Int) ∧ rd (rd ordS (i : Int)) 2 = ((8 + i : Nat) : Int) ∧ rd (rd ordS (i : Int)) 3 = ((12 + i : Nat) : Int) := by decide
theorem ord_dia : ∀ i : Nat, i < 4 → rd (rd ordS ((4 + i : Nat) : Int)) 0 = (i : Int) ∧ rd (rd ordS ((4 + i : Nat) : Int)) 1 = ((4 + (i + 1) % 4 : Nat) : Int) ∧ rd (rd ordS ((4 + i : Nat) : Int)) 2 = ((8 + (i + 2) % 4 : Nat) : Int) ∧ rd (rd ordS ((4 + i : Nat) : Int)) 3 = ((12 + (i + 3) % 4 : Nat) : Int) := by decide
theorem ord_dbl (s : Vector Int 16) : upF ordI 0 8 s = dblI 0 s := by
  have e : upF ordI 0 8 s = upF ordI 4 4 (upF ordI 0 4 s) := upF_add ordI 4 4 0 s
  have e1 : upF ordI 0 4 s = upF colI 0 4 s := upF_congr 4 0 s (by
    intro i u h1 h2
    obtain ⟨a, b, c, d⟩ := ord_col i (by omega)
    unfold ordI colI
    rw [a, b, c, d])
  have e2 : ∀ u, upF ordI 4 4 u = upF diaI 0 4 u := by
    intro u
    have : ∀ i u, i < 4 → ordI (4 + i) u = diaI i u := by
      intro i u h2
      obtain ⟨a, b, c, d⟩ := ord_dia i h2
      unfold ordI diaI
      rw [a, b, c, d]
    have t : ∀ m k u, k + m ≤ 4 → upF ordI (4 + k) m u = upF diaI k m u := by
      intro m
      induction m with
      | zero => intro k u _; rw [upF, upF]
      | succ m ih => intro k u h; rw [upF, upF, this k u (by omega)]; exact ih (k + 1) _ (by omega)
    exact t 4 0 u (Nat.le_refl _)
  rw [e, e1, e2]; rfl
theorem ord_rng (i : Nat) (hi : i < 8) : ∀ j : Int, (j = 0 ∨ j = 1 ∨ j = 2 ∨ j = 3) → 0 ≤ rd (rd ordS (i : Int)) j ∧ rd (rd ordS (i : Int)) j < 16 := by
  match i, hi with
  | 0, _ => rintro j (rfl | rfl | rfl | rfl) <;> decide
  | 1, _ => rintro j (rfl | rfl | rfl | rfl) <;> decide
  | 2, _ => rintro j (rfl | rfl | rfl | rfl) <;> decide
  | 3, _ => rintro j (rfl | rfl | rfl | rfl) <;> decide
  | 4, _ => rintro j (rfl | rfl | rfl | rfl) <;> decide
  | 5, _ => rintro j (rfl | rfl | rfl | rfl) <;> decide
  | 6, _ => rintro j (rfl | rfl | rfl | rfl) <;> decide
  | 7, _ => rintro j (rfl | rfl | rfl | rfl) <;> decide
theorem ord_len (i : Nat) (hi : i < 8) : (rd ordS (i : Int)).length = 4 := by
  match i, hi with
  | 0, _ => rfl
  | 1, _ => rfl
  | 2, _ => rfl
  | 3, _ => rfl
  | 4, _ => rfl
  | 5, _ => rfl
  | 6, _ => rfl
  | 7, _ => rfl
theorem ref_Rounds_ok (s : Vector Int 16) : ref03_Rounds s = some (roundsS s) := by
  unfold ref03_Rounds
  have ho : ref03_Order = some ordS := rfl
  have hol : ordS.length = 8 := rfl
  rw [ho, bind_s]
  refine (loop_up (step := ref03_Rounds.l4 ordS) (fun o i => (o, i)) dblI (fun o => o) 10 (fun _ _ => True) ?_ ?_ 10 0 s rfl trivial).1
  · intro k s hk _
    refine ⟨?_, trivial⟩
    unfold ref03_Rounds.l4
    simp only []
    rw [ite_t (by omega), show dblI k s = upF ordI 0 8 s from (ord_dbl s).symm]
    refine (loop_up (step := ref03_Rounds.l3 ordS (s, (k : Int))) (fun o i => (o, i)) ordI (fun o => .inl (o, (k : Int) + 1)) 8 (fun _ _ => True) ?_ ?_ 8 0 s rfl trivial).1
    · intro i v hi _
      refine ⟨?_, trivial⟩
      have hl := ord_len i hi
      have hr := ord_rng i hi
      unfold ref03_Rounds.l3
      simp only [wrap_id (n := (i : Int) + 1) (by omega) (by omega)]
      rw [ite_t (by omega), grd_b (by omega), grd_b (by omega), grd_b (by omega), grd_b (by omega), grd_b (by omega), grd_b (by omega), grd_b (by omega), grd_b (by omega), ref_quarter_ok _ _ _ _ _ (hr 0 (by simp)) (hr 1 (by simp)) (hr 2 (by simp)) (hr 3 (by simp)), bind_s]
      rfl
    · intro v _
      unfold ref03_Rounds.l3
      simp only []
      rw [ite_f (by omega)]
      unfold ref03_Rounds.j2
      simp only [wrap_id (n := (k : Int) + 1) (by omega) (by omega)]
      rfl
  · intro s _
    unfold ref03_Rounds.l4
    simp only []
    rw [ite_f (by omega)]; rfl
def le4 (x : Int) : List Int := [IntKind.u8.wrap x, IntKind.u8.wrap (shrI .u32 x 8), IntKind.u8.wrap (shrI .u32 x 16), IntKind.u8.wrap (shrI .u32 x 24)]
def outI (r s : Vector Int 16) (i : Nat) (o : List Int) : List Int := o ++ le4 (IntKind.u32.wrap (rd r.toList (i : Int) + rd s.toList (i : Int)))
def blkS (key : List UInt8) (c : Int) (n : List UInt8) : List UInt8 := intsB (upF (outI (roundsS (stS key c n)) (stS key c n)) 0 16 [])
theorem Block_ok (key : List UInt8) (c : Int) (n : List UInt8) (hk : key.length = 32) (hn : n.length = 12) : cipher_Block key c n = some (blkS key c n, 0) := by
  unfold cipher_Block
  rw [State_ok _ _ _ hk hn, bind_s, if_neg (by simp), grd_b (by decide), Rounds_ok, bind_s]
  refine (loop_up (step := cipher_Block.l2 (roundsS (stS key c n)) (stS key c n, 0)) (fun o i => (o, i)) (outI (roundsS (stS key c n)) (stS key c n)) (fun o => (intsB o, 0)) 16 (fun i o => o.length = 4 * i) ?_ ?_ 16 0 [] rfl rfl).1
  · intro i o hi hl
    refine ⟨?_, by simp [outI, le4]; omega⟩
    unfold cipher_Block.l2 cipher_put
    simp only [wrap_id (n := (i : Int) + 1) (by omega) (by omega)]
    rw [ite_t (by omega), grd_b (by omega), grd_b (by omega), grd_b (by simp; omega), bind_s]
    rfl
  · intro o _
    unfold cipher_Block.l2
    simp only []
    rw [ite_f (by omega)]; rfl
theorem ref_Block_ok (key : List UInt8) (c : Int) (n : List UInt8) (hk : key.length = 32) (hn : n.length = 12) : ref03_Block key c n = some (blkS key c n, 0) := by
  unfold ref03_Block
  rw [ref_State_ok _ _ _ hk hn, bind_s, if_neg (by simp), ref_Rounds_ok, bind_s]
  refine (loop_up (step := ref03_Block.l2 (stS key c n, 0) (roundsS (stS key c n))) (fun o i => (o, i)) (outI (roundsS (stS key c n)) (stS key c n)) (fun o => (intsB o, 0)) 16 (fun i o => o.length = 4 * i) ?_ ?_ 16 0 [] rfl rfl).1
  · intro i o hi hl
    refine ⟨?_, by simp [outI, le4]; omega⟩
    unfold ref03_Block.l2
    simp only [wrap_id (n := (i : Int) + 1) (by omega) (by omega)]
    rw [ite_t (by omega), grd_b (by omega), grd_b (by omega), grd_b (by simp; omega), Int.add_comm (rd (stS key c n).toList (i : Int))]
    rfl
  · intro o _
    unfold ref03_Block.l2
    simp only []
    rw [ite_f (by omega)]; rfl
theorem blkS_len (key : List UInt8) (c : Int) (n : List UInt8) : (blkS key c n).length = 64 := by
  unfold blkS
  rw [intsB_len]
  have := upF_ind (F := outI (roundsS (stS key c n)) (stS key c n)) (I := fun i o => o.length = 4 * i) 16 (fun i o _ h => by simp [outI, le4]; omega) 16 0 [] (Nat.le_refl _) rfl
  simpa using this
end Go.Cu
