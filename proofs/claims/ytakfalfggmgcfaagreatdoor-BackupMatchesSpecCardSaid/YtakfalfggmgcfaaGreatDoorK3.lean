/- Rules for walks over facts, pure functions and plain laws; no condition. -/
import Derived.Test.YtakfalfggmgcfaaGreatDoorK2
set_option linter.unusedVariables false
set_option linter.unusedSimpArgs false

namespace Go.Cu
attribute [local irreducible] macS blkS bits xorS bytesS sealS openS
def liveB (now : Int) (k : Key) : Bool := decide (k.Start ≤ now) && decide (now < k.End)
theorem keys_Live_eq (k : Key) (now : Int) : keys_Live k now = some (liveB now k) := by
 unfold keys_Live liveB
 by_cases h : k.Start ≤ now <;> simp [h]
theorem ref27_Live_eq (k : Key) (now : Int) : ref27_Live k now = some (liveB now k) := by
 unfold ref27_Live liveB
 by_cases h : k.Start ≤ now <;> simp [h]
theorem select_eq {t : Table} (now : Int) (hl : t.Keys.length ≤ 1099511627) : backup_Select t now = some (t.Keys.filter (liveB now)) := by
 unfold backup_Select
 have := loop_list (l := t.Keys) (step := backup_Select.l3 t now) (fun s => s.2) (fun s r => s.1 ++ r.filter (liveB now)) (fun s => (s.1.length : Int) ≤ s.2) ?_ ?_ (([] : List Key), (0 : Int)) 0 (by simp) rfl (Nat.zero_le _)
 ·simpa using this
 ·rintro ⟨o, s⟩ x r k ho hs hd hx hlt
  dsimp only at ho hs ⊢
  subst hs
  unfold backup_Select.l3 backup_Select.j2
  dsimp only
  rw [ite_t (by omega), grd_b ⟨by omega, by omega⟩, hx, keys_Live_eq, bind_s, wrap_id (n := (k : Int) + 1) (by omega) (by omega)]
  cases hv : liveB now x with
  | true =>
   rw [if_pos rfl, grd_b (by simp; omega)]
   exact .inl ⟨_, rfl, rfl, by simp; omega, by simp [hv]⟩
  | false =>
   rw [if_neg (by simp)]
   exact .inl ⟨_, rfl, rfl, by dsimp only; omega, by simp [hv]⟩
 ·rintro ⟨o, s⟩ ho hs
  dsimp only at ho hs ⊢
  subst hs
  unfold backup_Select.l3
  dsimp only
  rw [ite_f (by omega)]
  simp [backup_Select.j1]
theorem index_eq {l : List Key} (k : Key) (hl : l.length ≤ 1099511627776) : slices_Index_Key l k = some (ixM (fun x => decide (k = x)) 0 l) := by
 unfold slices_Index_Key
 have := loop_list (l := l) (step := slices_Index_Key.l2 l k) (fun s => s) (fun s r => ixM (fun x => decide (k = x)) s r) (fun _ => True) ?_ ?_ 0 0 trivial rfl (Nat.zero_le _)
 ·simpa using this
 ·intro s x r i _ hi hd hx hlt
  have hi : s = (i : Int) := hi
  subst hi
  unfold slices_Index_Key.l2
  rw [ite_t (by omega), grd_b ⟨by omega, by omega⟩, hx, ixM]
  by_cases h : k = x
  ·rw [ite_t h, ite_t h]; exact .inr rfl
  ·rw [ite_f h, ite_f h, wrap_id (by omega) (by omega)]
   exact .inl ⟨_, rfl, rfl, trivial, rfl⟩
 ·intro s _ hs
  have hs : s = (l.length : Int) := hs
  subst hs
  unfold slices_Index_Key.l2
  rw [ite_f (by omega)]; rfl
theorem contains_eq {l : List Key} (k : Key) (hl : l.length ≤ 1099511627776) : slices_Contains_Key l k = some (decide (k ∈ l)) := by
 unfold slices_Contains_Key
 rw [index_eq k hl, bind_s, ixM_any _ l 0 (Int.le_refl _)]
 congr 1
 rw [Bool.eq_iff_iff]
 simp
def complS (now : Int) (t : List Key) (b : List Key) : Bool := (t.filter (liveB now)).all fun k => decide (k ∈ b)
theorem complete_eq {b : Backup} {t : Table} (now : Int) (hb : b.Keys.length ≤ 1099511627776) (hl : t.Keys.length ≤ 1099511627) : backup_Complete b t now = some (complS now t.Keys b.Keys) := by
 have hf : (t.Keys.filter (liveB now)).length ≤ t.Keys.length := List.length_filter_le _ _
 unfold backup_Complete
 rw [select_eq now hl, bind_s, containsKey_eq (q := fun k => !decide (k ∈ b.Keys)) (by omega) ?_, bind_s]
 ·unfold complS
  rw [List.all_eq_not_any_not]
 ·intro x _
  unfold backup_Complete_1
  rw [contains_eq x hb, bind_s]
theorem keys_same {a b : Backup} (h2 : a.Keys.length = b.Keys.length) (hl : a.Keys.length ≤ 1099511627776) {step : Int → Option (Int ⊕ Bool)}
  (hs : ∀ s : Int, step s = if decide (s < (a.Keys.length : Int)) = true then (grd (0 ≤ s ∧ s < (a.Keys.length : Int))).bind fun _ => (grd (0 ≤ s ∧ s < (b.Keys.length : Int))).bind fun _ => if (!(decide ((rd a.Keys s) = (rd b.Keys s)))) = true then some (.inr (false)) else some (.inl (IntKind.i64.wrap (s + (1 : Int)))) else some (.inr true)) :
  loopF step 0 = some (decide (a.Keys = b.Keys)) := by
 have := loop_list (l := a.Keys) (step := step) (fun s => s) (fun s r => decide (r = b.Keys.drop s.toNat)) (fun _ => True) ?_ ?_ 0 0 trivial rfl (Nat.zero_le _)
 ·simpa using this
 ·intro s x r k _ hk hd hx hlt
  have hk : s = (k : Int) := hk
  subst hk
  rw [hs, ite_t (by omega), grd_b ⟨by omega, by omega⟩, grd_b ⟨by omega, by omega⟩, hx]
  have hlt' : k < b.Keys.length := by omega
  have hd' : b.Keys.drop k = b.Keys[k] :: b.Keys.drop (k + 1) := List.drop_eq_getElem_cons hlt'
  rw [rd_cons hd', Int.toNat_natCast, hd']
  generalize b.Keys[k] = y
  generalize hr' : List.drop (k + 1) b.Keys = r'
  by_cases h : x = y
  ·rw [if_neg (by simp [h]), wrap_id (by omega) (by omega)]
   exact .inl ⟨_, rfl, rfl, trivial, by rw [show ((k : Int) + 1).toNat = k + 1 by omega, hr', h]; simp⟩
  ·rw [if_pos (by simpa using h)]
   exact .inr (by simp [h])
 ·intro s _ hs'
  have hs' : s = (a.Keys.length : Int) := hs'
  subst hs'
  rw [hs, ite_f (by omega)]
  simp [h2]
theorem ref36_Same_eq {a b : Backup} (hl : a.Keys.length ≤ 1099511627776) : ref36_Same a b = some (decide (a = b)) := by
 unfold ref36_Same
 have nd_ : ∀ {p : Prop} [Decidable p], ¬ p → (some (decide p) : Option Bool) = some false := fun h => by rw [decide_eq_false h]
 by_cases h1 : a.Domain = b.Domain
 ·rw [if_neg (by simp [h1])]
  by_cases h2 : a.Epoch = b.Epoch
  ·rw [if_neg (by simp [h2])]
   by_cases h3 : a.Number = b.Number
   ·rw [if_neg (by simp [h3])]
    by_cases h4 : a.Firmware = b.Firmware
    ·rw [if_neg (by simp [h4])]
     by_cases h5 : a.Time = b.Time
     ·rw [if_neg (by simp [h5])]
      by_cases h6 : a.Policy = b.Policy
      ·rw [if_neg (by simp [h6])]
       by_cases h7 : a.Module = b.Module
       ·rw [if_neg (by simp [h7]), bind_s]
        by_cases h8 : a.Keys.length = b.Keys.length
        ·rw [if_neg (by simp [h8]), keys_same (step := ref36_Same.l2 a b) h8 hl (fun s => rfl)]
         congr 1
         rw [Bool.eq_iff_iff]
         simp only [decide_eq_true_eq]
         constructor
         ·intro h9
          cases a; cases b
          simp only at h1 h2 h3 h4 h5 h6 h7 h9
          subst h1 h2 h3 h4 h5 h6 h7 h9
          rfl
         ·intro h; rw [h]
        ·rw [if_pos (by simp; omega)]
         exact (nd_ fun h => h8 (by rw [h])).symm
       ·rw [if_pos (by simpa using h7), bind_s, if_pos rfl]
        exact (nd_ fun h => h7 (by rw [h])).symm
      ·rw [if_pos (by simpa using h6), bind_s, if_pos rfl]
       exact (nd_ fun h => h6 (by rw [h])).symm
     ·rw [if_pos (by simpa using h5), bind_s, if_pos rfl]
      exact (nd_ fun h => h5 (by rw [h])).symm
    ·rw [if_pos (by simpa using h4), bind_s, if_pos rfl]
     exact (nd_ fun h => h4 (by rw [h])).symm
   ·rw [if_pos (by simpa using h3), bind_s, if_pos rfl]
    exact (nd_ fun h => h3 (by rw [h])).symm
  ·rw [if_pos (by simpa using h2), bind_s, if_pos rfl]
   exact (nd_ fun h => h2 (by rw [h])).symm
 ·rw [if_pos (by simpa using h1), bind_s, if_pos rfl]
  exact (nd_ fun h => h1 (by rw [h])).symm
structure inBk (b : Backup) : Prop where
 dom : IsB b.Domain.toList
 pol : IsB b.Policy.toList
 nm4 : wfI b.Epoch ∧ wfI b.Number ∧ wfI b.Firmware ∧ wfI b.Time
 num : ∀ k ∈ b.Keys, wfI k.Id ∧ wfI k.Type_ ∧ wfI k.Uses ∧ wfI k.Start ∧ wfI k.End ∧ wfI k.Version ∧ wfI k.Parent
 len : b.Keys.length ≤ 9223372036854775807
def fewS (b : Backup) : Bool := (b.Keys.all fun k => decide (k.Value.length ≤ 100)) && (decide (b.Keys.length ≤ 40) && decide (b.Module.length ≤ 50))
theorem few36_eq {b : Backup} (hl : b.Keys.length ≤ 9223372036854775807) : law36_few b = some (fewS b) := by
 unfold law36_few
 have := loop_list (l := b.Keys) (step := law36_few.l2 b) (fun s => s) (fun s r => (r.all fun k => decide (k.Value.length ≤ 100)) && (decide (b.Keys.length ≤ 40) && decide (b.Module.length ≤ 50))) (fun _ => True) ?_ ?_ 0 0 trivial rfl (Nat.zero_le _)
 ·simpa [fewS] using this
 ·intro s x r k _ hk hd hx hlt
  have hk : s = (k : Int) := hk
  subst hk
  unfold law36_few.l2
  rw [ite_t (by omega), grd_b ⟨by omega, by omega⟩, hx, wrap_id (by omega) (by omega)]
  by_cases h : x.Value.length ≤ 100
  ·rw [ite_f (by omega)]
   exact .inl ⟨_, rfl, rfl, trivial, by simp [h]⟩
  ·rw [ite_t (by omega)]
   exact .inr (by simp [h])
 ·intro s _ hs
  have hs : s = (b.Keys.length : Int) := hs
  subst hs
  unfold law36_few.l2 law36_few.j1
  rw [ite_f (by omega)]
  by_cases h1 : b.Keys.length ≤ 40
  ·rw [ite_t (by omega), bind_s]
   have : (decide ((b.Module.length : Int) ≤ 50)) = decide (b.Module.length ≤ 50) := by rw [Bool.eq_iff_iff]; simp; omega
   simp [h1, this]
  ·rw [ite_f (by omega), bind_s]
   simp [h1]
theorem few_ok36 {b : Backup} (h : inBk b) (hf : fewS b = true) : okB b ∧ (contI b.Keys).length < 65536 := by
 unfold fewS at hf
 simp only [Bool.and_eq_true, decide_eq_true_eq, List.all_eq_true] at hf
 obtain ⟨h1, h2, h3⟩ := hf
 refine ⟨⟨⟨h.dom, h.pol, h.nm4, by omega⟩, fun k hk => ⟨h.num k hk, by have := h1 k hk; omega⟩, by omega⟩, ?_⟩
 have a1 := encI_len ((b.Keys.map fun k => intsB (kyI k)).length : Int)
 have a2 := flatMap_len encB 300 (b.Keys.map fun k => intsB (kyI k)) (by
  intro x hx
  obtain ⟨k, hk, rfl⟩ := List.mem_map.1 hx
  have h3 := encB_len (intsB (kyI k))
  have h4 := kyI_len k
  have h5 := h1 k hk
  rw [intsB_len] at h3
  omega)
 rw [List.length_map] at a2
 unfold contI encL
 rw [List.length_append]; omega
end Go.Cu


namespace Go.Cu
def ldg : Nat → Nat → List Int
 | 0, _ => []
 | k + 1, m => ((m % 256 : Nat) : Int) :: ldg k (m / 256)
theorem dg_snoc : ∀ k m, dg (k + 1) m = dg k (m / 256) ++ [((m % 256 : Nat) : Int)]
 | 0, m => by simp [dg]
 | k + 1, m => by
  rw [dg, dg_snoc k m, dg, Nat.pow_succ, Nat.mul_comm, Nat.div_div_eq_div_mul]
  rfl
theorem ldg_rev : ∀ k m, (ldg k m).reverse = dg k m
 | 0, _ => rfl
 | k + 1, m => by rw [ldg, List.reverse_cons, ldg_rev k, dg_snoc]
theorem ldg_len : ∀ k m, (ldg k m).length = k
 | 0, _ => rfl
 | k + 1, m => by rw [ldg, List.length_cons, ldg_len k]
theorem ldg_isB : ∀ k m, IsB (ldg k m)
 | 0, _ => fun x hx => by cases hx
 | k + 1, m => by
  intro x hx
  rcases List.mem_cons.1 hx with rfl | hx
  ·omega
  ·exact ldg_isB k _ x hx
theorem ri_l6 {p : Int} : ∀ (k m : Nat) (o : List Int), m < 256 ^ k → (k = 0 ∨ 256 ^ (k - 1) ≤ m) → k ≤ 8 → o.length + k ≤ 100 → m < 18446744073709551616 → m ≤ 9223372036854775807 → loopF (ref01_Int.l6 p) (o, (m : Int)) = ref01_Int.j5 p (o ++ ldg k m)
 | 0, m, o, h, _, _, _, _, _ => by
  obtain rfl : m = 0 := by simpa using h
  rw [ldg, List.append_nil]
  refine loop_map ?_
  unfold ref01_Int.l6
  dsimp only
  rw [ite_f (by decide)]
 | k + 1, m, o, h, h2, hk, ho, hm, hm2 => by
  have h0 : 256 ^ k ≤ m := by
   rcases h2 with h2 | h2
   ·cases h2
   ·exact h2
  have hp : 0 < 256 ^ k := Nat.pow_pos (by decide)
  have hs : ref01_Int.l6 p (o, (m : Int)) = some (.inl (o ++ [((m % 256 : Nat) : Int)], ((m / 256 : Nat) : Int))) := by
   unfold ref01_Int.l6
   dsimp only
   rw [ite_t (by omega), grd_b (by simp; omega), show Int.tmod (m : Int) 256 = ((m % 256 : Nat) : Int) from rfl, show Int.tdiv (m : Int) 256 = ((m / 256 : Nat) : Int) from rfl, wrap8_id (by omega) (by omega), wrap_id (by omega) (by omega)]
  rw [loopF_next hs, ri_l6 k (m / 256) _ ?_ ?_ (by omega) (by simp; omega) (by omega) (by omega), ldg, List.append_assoc]
  ·rfl
  ·apply Nat.div_lt_of_lt_mul
   rw [Nat.pow_succ, Nat.mul_comm] at h; exact h
  ·rcases Nat.eq_zero_or_pos k with hk0 | hk0
   ·exact .inl hk0
   ·right
    rw [Nat.le_div_iff_mul_le (by decide), ← Nat.pow_succ, show (k - 1).succ = k by omega]
    exact h0
theorem ri_l3 {p : Int} {c : Bool} (hc : c = decide (p < 0)) {D : List Int} (hD : IsB D) (hl : D.length ≤ 10) : ∀ (j : Nat) (o : List Int), j ≤ D.length → o.length + j ≤ 30 → loopF (ref01_Int.l3 D p) (o, (j : Int) - 1) = some (o ++ ((D.take j).reverse.map (fl c)))
 | 0, o, _, _ => by
  rw [show ((0 : Nat) : Int) - 1 = -1 by rfl]
  have : ref01_Int.l3 D p (o, -1) = some (.inr o) := by
   unfold ref01_Int.l3
   dsimp only
   rw [ite_f (by decide)]; rfl
  rw [loopF_done this]; simp
 | j + 1, o, hj, ho => by
  have hlt : j < D.length := by omega
  have hr : rd D (j : Int) = D[j] := by simp [rd, List.getD, hlt]
  have hb := hD D[j] (List.getElem_mem hlt)
  have hs : ref01_Int.l3 D p (o, (j : Int)) = some (.inl (o ++ [fl c D[j]], (j : Int) - 1)) := by
   unfold ref01_Int.l3 ref01_Int.j2
   dsimp only
   rw [ite_t (by omega), grd_b ⟨by omega, by omega⟩, hr]
   by_cases hp : p < 0
   ·rw [ite_t hp, grd_b (by simp; omega), wrap8_id (by omega) (by omega), wrap_id (by omega) (by omega), hc, decide_eq_true hp]; rfl
   ·rw [ite_f hp, grd_b (by simp; omega), wrap_id (by omega) (by omega), hc, decide_eq_false hp]; rfl
  rw [show ((j + 1 : Nat) : Int) - 1 = (j : Int) by omega, loopF_next hs, ri_l3 hc hD hl j _ (by omega) (by simp; omega)]
  rw [List.take_add_one, show D[j]? = some D[j] from List.getElem?_eq_getElem hlt, Option.toList_some, List.reverse_append, List.map_append, List.append_assoc]
  rfl
theorem ref01_Int_eq {n : Int} (h : wfI n) : ref01_Int n = some (encI n) := by
 have hm := mag_lt h
 obtain ⟨h0, h1⟩ := h
 have hk : nd (mag n) ≤ 8 := ndF_le 8 _
 have hlt : mag n < 256 ^ nd (mag n) := ndF_lt 8 _ (by omega)
 have hge : nd (mag n) = 0 ∨ 256 ^ (nd (mag n) - 1) ≤ mag n := by
  rcases Nat.eq_zero_or_pos (nd (mag n)) with h | h
  ·exact .inl h
  ·exact .inr (ndF_ge 8 (mag n) (nd (mag n) - 1) (by show nd (mag n) = _; omega))
 have e : ref01_Int n = ref01_Int.j7 n ((mag n : Nat) : Int) := by
  unfold ref01_Int mag
  by_cases hn : n < 0
  ·rw [ite_t hn, if_pos hn, wrap_id (by omega) (by omega)]; congr 1; omega
  ·rw [ite_f hn, if_neg hn]; congr 1; omega
 rw [e]
 unfold ref01_Int.j7
 rw [ri_l6 (nd (mag n)) (mag n) [] hlt hge hk (by simp; omega) (by omega) (by omega), List.nil_append]
 have hl := ldg_len (nd (mag n)) (mag n)
 have hB := ldg_isB (nd (mag n)) (mag n)
 unfold ref01_Int.j5 ref01_Int.j4
 have e2 : ∀ c : Bool, c = decide (n < 0) → ∀ x : Int, x = fl c (128 + (nd (mag n) : Int)) → loopF (ref01_Int.l3 (ldg (nd (mag n)) (mag n)) n) ([x], IntKind.i64.wrap (((ldg (nd (mag n)) (mag n)).length : Int) - 1)) = some (encI n) := by
  rintro c hc x rfl
  rw [hl, wrap_id (by omega) (by omega), ri_l3 hc hB (by omega) _ _ (by omega) (by simp; omega), List.take_of_length_le (by omega), ldg_rev]
  unfold encI
  rw [hc]; rfl
 by_cases hn : n < 0
 ·rw [ite_f (by omega), grd_b (by simp), hl, wrap_id (n := 127 - (nd (mag n) : Int)) (by omega) (by omega), wrap8_id (by omega) (by omega)]
  have := e2 true (decide_eq_true hn).symm (127 - (nd (mag n) : Int)) (by show _ = 255 - (128 + (nd (mag n) : Int)); omega)
  rw [hl] at this
  exact this
 ·rw [ite_t (by omega), grd_b (by simp), hl, wrap_id (n := 128 + (nd (mag n) : Int)) (by omega) (by omega), wrap8_id (by omega) (by omega)]
  have := e2 false (decide_eq_false hn).symm (128 + (nd (mag n) : Int)) rfl
  rw [hl] at this
  exact this
theorem ref01_Bytes_eq {s : List UInt8} (h : s.length ≤ 1099511627) : ref01_Bytes s = some (encB s) := by
 have h1 := encI_len (s.length : Int)
 unfold ref01_Bytes encB
 rw [ref01_Int_eq ⟨by omega, by omega⟩, bind_s, grd_b (by rw [bytesI_len']; omega)]
theorem ref01_Ints_eq {xs : List Int} (h : ∀ x ∈ xs, wfI x) (hl : xs.length ≤ 1099511627) : ref01_Ints xs = some (encL encI xs) := by
 unfold ref01_Ints encL
 rw [ref01_Int_eq ⟨by omega, by omega⟩, bind_s]
 have h1 := encI_len (xs.length : Int)
 have := loop_list (l := xs) (step := ref01_Ints.l2 xs) (fun s => s.2) (fun s r => s.1 ++ r.flatMap encI) (fun s => (s.1.length : Int) ≤ 9 * s.2 + 9) ?_ ?_ (encI (xs.length : Int), 0) 0 (by dsimp only; omega) rfl (Nat.zero_le _)
 ·simpa using this
 ·rintro ⟨o, s⟩ x r k ho hs hd hx hlt
  dsimp only at ho hs ⊢
  subst hs
  have h2 := encI_len x
  refine .inl ⟨(o ++ encI x, (k : Int) + 1), ?_, rfl, by rw [List.length_append]; omega, by simp⟩
  unfold ref01_Ints.l2
  dsimp only
  rw [ite_t (by omega), grd_b ⟨by omega, by omega⟩, hx, ref01_Int_eq (h x (mem_drop hd)), bind_s, grd_b (by omega), wrap_id (by omega) (by omega)]
 ·rintro ⟨o, s⟩ ho hs
  dsimp only at ho hs ⊢
  subst hs
  unfold ref01_Ints.l2
  dsimp only
  rw [ite_f (by omega)]
  simp [ref01_Ints.j1]
theorem ref01_Strings_eq {xs : List (List UInt8)} (h : ∀ x ∈ xs, x.length ≤ 65536) (hl : xs.length ≤ 65536) : ref01_Strings xs = some (encL encB xs) := by
 unfold ref01_Strings encL
 rw [ref01_Int_eq ⟨by omega, by omega⟩, bind_s]
 have h1 := encI_len (xs.length : Int)
 have := loop_list (l := xs) (step := ref01_Strings.l2 xs) (fun s => s.2) (fun s r => s.1 ++ r.flatMap encB) (fun s => (s.1.length : Int) ≤ 70000 * s.2 + 9) ?_ ?_ (encI (xs.length : Int), 0) 0 (by dsimp only; omega) rfl (Nat.zero_le _)
 ·simpa using this
 ·rintro ⟨o, s⟩ x r k ho hs hd hx hlt
  dsimp only at ho hs ⊢
  subst hs
  have h2 := encI_len (x.length : Int)
  have h3 := h x (mem_drop hd)
  have h4 : (encB x).length ≤ 65545 := by unfold encB; rw [List.length_append, bytesI_len']; omega
  refine .inl ⟨(o ++ encB x, (k : Int) + 1), ?_, rfl, by rw [List.length_append]; omega, by simp⟩
  unfold ref01_Strings.l2
  dsimp only
  rw [ite_t (by omega), grd_b ⟨by omega, by omega⟩, hx, ref01_Bytes_eq (by omega), bind_s, grd_b (by omega), wrap_id (by omega) (by omega)]
 ·rintro ⟨o, s⟩ ho hs
  dsimp only at ho hs ⊢
  subst hs
  unfold ref01_Strings.l2
  dsimp only
  rw [ite_f (by omega)]
  simp [ref01_Strings.j1]
end Go.Cu


namespace Go.Cu
attribute [local irreducible] macS blkS bits xorS bytesS sealS openS
theorem ref36_within_eq (n m : Int) : ref36_within n m = some (inB n 0 m) := by
 unfold ref36_within inB
 by_cases h : 0 ≤ n <;> simp [h]
theorem ref36_Valid_eq {b : Backup} (h : wfB b) : ref36_Valid b = some (vBk b) := by
 unfold ref36_Valid vBk
 have hl := h.len
 have hloop : loopF (ref36_Valid.l2 b) ((0 : Int), (0 : Int)) = some (vIds 0 b.Keys) := by
  have := loop_list (l := b.Keys) (step := ref36_Valid.l2 b) (fun s => s.2) (fun s r => vIds s.1 r) (fun _ => True) ?_ ?_ (0, 0) 0 trivial rfl (Nat.zero_le _)
  ·simpa using this
  ·rintro ⟨last, s⟩ x r k _ hk hd hx hlt
   have hk : s = (k : Int) := hk
   subst hk
   unfold ref36_Valid.l2
   dsimp only
   have g : ∀ {β : Type} (f : Unit → Option β), (grd (0 ≤ (k : Int) ∧ (k : Int) < (b.Keys.length : Int))).bind f = f () := fun f => grd_t ⟨by omega, by omega⟩ f
   rw [if_pos (by simpa using hlt)]
   simp only [g, hx, ref27_Valid_eq (h.use x (mem_drop hd)), Option.bind_some]
   rw [bad_key]
   simp only [vIds]
   cases hv : (vK x && (decide (last < x.Id) && decide (x.Id ≤ 2147483647))) with
   | true =>
    refine .inl ⟨(x.Id, k + 1), ?_, rfl, trivial, ?_⟩
    ·rw [if_neg (by simp), wrap_id (by omega) (by omega)]
    ·simp only [← Bool.and_assoc] at hv ⊢
     rw [hv]
     simp
   | false =>
    refine .inr ?_
    rw [if_pos (by simp)]
    simp only [← Bool.and_assoc] at hv ⊢
    rw [hv]
    simp
  ·rintro ⟨last, s⟩ _ hs
   have hs : s = (b.Keys.length : Int) := hs
   subst hs
   unfold ref36_Valid.l2
   dsimp only
   rw [if_neg (by simp)]
   simp [vIds, ref36_Valid.j1]
 rw [hloop]
 simp only [ref36_within_eq, Option.bind_some, vHd]
 cases inB b.Epoch 0 2147483647 <;> cases inB b.Number 0 2147483647 <;> cases inB b.Firmware 0 2147483647 <;> cases inB b.Time 0 1099511627776 <;> try rfl
 unfold inB
 by_cases h1 : (b.Module.length : Int) < 1
 ·simp [h1, show ¬ (1 : Int) ≤ b.Module.length by omega]
 ·by_cases h2 : (12 : Int) < b.Module.length
  ·simp [h1, h2, show (1 : Int) ≤ b.Module.length by omega, show ¬ (b.Module.length : Int) ≤ 12 by omega]
  ·by_cases h3 : (4096 : Int) < b.Keys.length
   ·simp [h1, h2, h3, show (1 : Int) ≤ b.Module.length by omega, show (b.Module.length : Int) ≤ 12 by omega, show ¬ (b.Keys.length : Int) ≤ 4096 by omega]
   ·simp [h1, h2, h3, show (1 : Int) ≤ b.Module.length by omega, show (b.Module.length : Int) ≤ 12 by omega, show (b.Keys.length : Int) ≤ 4096 by omega]
theorem text_eq (v : Vector Int 16) : ref02_Text v = some (intsB v.toList) := by
 unfold ref02_Text
 have hv : v.toList.length = 16 := by simp
 have := (loop_up (step := ref02_Text.l2 v) (fun (o : List Int) i => (o, i)) (fun i o => o ++ [rd v.toList (i : Int)]) (fun o => intsB o) 16 (fun i o => o.length = i) ?_ ?_ 16 0 [] rfl rfl).1
 ·rw [upF_app] at this
  have e : (List.range' 0 16).map (fun i : Nat => rd v.toList (i : Int)) = v.toList := rng_take v.toList 16 hv
  rw [e, List.nil_append] at this
  exact this
 ·intro i o hi ho
  refine ⟨?_, by rw [List.length_append, ho]; rfl⟩
  unfold ref02_Text.l2
  dsimp only
  rw [ite_t (by omega), grd_b ⟨by omega, by omega⟩, grd_b (by simp; omega), wrap_id (by omega) (by omega)]
 ·intro o ho
  unfold ref02_Text.l2
  dsimp only
  rw [ite_f (by decide)]; rfl
theorem rheader_eq {b : Backup} (h : wfH b) (hm : b.Module.length ≤ 1000) : ref36_Header b = some (headS b) := by
 have h1 := ints_len [b.Epoch, b.Number, b.Firmware, b.Time]
 have h2 := encB_len b.Module
 have h3 : b.Domain.toList.length = 16 := by simp
 have h4 : b.Policy.toList.length = 16 := by simp
 have h5 : [b.Epoch, b.Number, b.Firmware, b.Time].length = 4 := rfl
 unfold ref36_Header
 rw [text_eq, bind_s, ref01_Ints_eq (num4 h).1 (by simp), bind_s, grd_b (by rw [intsB_len, intsB_len]; omega), text_eq, bind_s, grd_b (by rw [List.length_append, intsB_len, intsB_len, intsB_len]; omega), ref01_Bytes_eq h.mod, bind_s, grd_b (by rw [List.length_append, List.length_append, intsB_len, intsB_len, intsB_len, intsB_len]; omega)]
 unfold headS headI
 simp [intsB]
theorem rcontent_eq {b : Backup} (h : ∀ k ∈ b.Keys, wfKy k) (hv : ∀ k ∈ b.Keys, k.Value.length ≤ 1000) (hl : b.Keys.length ≤ 60000) : ref36_Content b = some (intsB (contI b.Keys)) := by
 have hlen : ∀ k ∈ b.Keys, (intsB (kyI k)).length ≤ 65536 := by
  intro k hk
  have h1 := kyI_len k
  have h2 := hv k hk
  rw [intsB_len]; omega
 unfold ref36_Content
 have := loop_list (l := b.Keys) (step := ref36_Content.l3 b) (fun s => s.2) (fun s r => intsB (encL encB (s.1 ++ r.map fun k => intsB (kyI k)))) (fun s => (s.1.length : Int) ≤ s.2 ∧ s.2 ≤ 60000 ∧ ∀ x ∈ s.1, x.length ≤ 65536) ?_ ?_ (([] : List (List UInt8)), (0 : Int)) 0 ⟨by simp, by simp, by simp⟩ rfl (Nat.zero_le _)
 ·simpa [contI] using this
 ·rintro ⟨o, s⟩ x r k ⟨ho, hs2, hx2⟩ hs hd hx hlt
  dsimp only at ho hs2 hx2 hs ⊢
  subst hs
  have hxm := mem_drop hd
  have hw := h x hxm
  have hkl := hlen x hxm
  have key : ∀ raw : Int, raw = (if x.Raw then 1 else 0) → ref36_Content.j2 b (o, (k : Int)) raw = some (.inl (o ++ [intsB (kyI x)], (k : Int) + 1)) := by
   rintro raw rfl
   have hn := nmI_len x
   have hv2 := hv x hxm
   unfold ref36_Content.j2
   dsimp only
   rw [hx, ref01_Ints_eq (num8 hw).1 (by simp), bind_s, ref01_Strings_eq ?_ (by simp), bind_s, grd_b (by simp; omega), wrap_id (by omega) (by omega)]
   ·rfl
   ·intro y hy
    simp only [List.mem_cons, List.not_mem_nil, or_false] at hy
    rcases hy with rfl | rfl
    ·show (intsB (nmI x)).length ≤ _
     rw [intsB_len]; omega
    ·omega
  have hstep : ref36_Content.l3 b (o, (k : Int)) = some (.inl (o ++ [intsB (kyI x)], (k : Int) + 1)) := by
   unfold ref36_Content.l3
   dsimp only
   rw [ite_t (by omega), grd_b ⟨by omega, by omega⟩, hx]
   cases hr : x.Raw with
   | true => rw [it_tt]; exact key 1 (by rw [hr]; rfl)
   | false => rw [it_ff]; exact key 0 (by rw [hr]; rfl)
  refine .inl ⟨_, hstep, rfl, ⟨by dsimp only; rw [List.length_append]; simp; omega, by dsimp only; omega, ?_⟩, by simp⟩
  intro y hy
  rcases List.mem_append.1 hy with hy | hy
  ·exact hx2 y hy
  ·rcases List.mem_cons.1 hy with rfl | hy
   ·exact hkl
   ·cases hy
 ·rintro ⟨o, s⟩ ⟨ho, hs2, hx2⟩ hs
  dsimp only at ho hs2 hx2 hs ⊢
  subst hs
  unfold ref36_Content.l3 ref36_Content.j1
  dsimp only
  rw [ite_f (by omega), ref01_Strings_eq hx2 (by omega), bind_s]
  simp
theorem rderive_eq {key : List UInt8} (h : key.length < 65536) : ref05_Derive key labB [] = some (derS key) := by
 have hl := encB_len labB
 have hl2 : labB.length = 6 := rfl
 have e : ref05_Input labB [] = some (intsB (encB labB)) := by
  unfold ref05_Input
  rw [ref01_Bytes_eq (by decide), bind_s, grd_b (by simp; omega), List.nil_append]
  refine loop_map (o := some (intsB (encB labB))) ?_
  unfold ref05_Input.l2
  dsimp only
  rw [ite_f (by decide)]; rfl
 unfold ref05_Derive
 rw [e, bind_s, ref02_Mac_ok _ _ (by omega) (by rw [intsB_len]; omega)]
 rfl
theorem rmake_eq {key : List UInt8} {b : Backup} (hb : okB b) (hk : key.length < 65536) (hs : (contI b.Keys).length < 65536) : ref36_Make key b = some (makeB key b) := by
 unfold ref36_Make makeB
 rw [ref36_Valid_eq hb.wf, bind_s]
 by_cases h1 : key.length = 32
 ·rw [if_neg (show ¬ ((key.length : Int) != 32) = true by simp; omega), bind_s]
  cases hv : vBk b with
  | false => rw [it_nf, if_pos (.inr rfl)]
  | true =>
   have hm := vBk_mod hv
   have hid := vIds_val _ _ (vBk_ids hv)
   have hhl : (headS b).length ≤ 98 := by
    have := headI_len (b := b)
    unfold headS
    rw [intsB_len]; omega
   rw [it_nt, if_neg (by simp [h1])]
   have hel := encB_len (headS b)
   have hcl : (intsB (contI b.Keys)).length < 65536 := by rw [intsB_len]; exact hs
   have hsl := sealS_len (derS key) (headS b) (intsB (contI b.Keys))
   have e := rderive_eq (key := key) hk
   unfold labB at e
   rw [e, bind_s, rheader_eq hb.hd (by omega), bind_s, rcontent_eq hb.ks (fun k hk => by have := vK_val (hid k hk); omega) hb.len, bind_s, ref_Seal_ok _ _ _ (by rw [derS_len]; decide) (by omega) hcl, if_pos (derS_len _), bind_s, if_neg (by simp), bind_s, ref01_Bytes_eq (by omega), bind_s, grd_b (by dsimp only; rw [intsB_len]; omega)]
 ·rw [if_pos (show ((key.length : Int) != 32) = true by simp; omega), bind_s, it_tt, if_pos (.inl h1)]
theorem rselect_eq {t : Table} (now : Int) (hl : t.Keys.length ≤ 1099511627) : ref36_Select t now = some (t.Keys.filter (liveB now)) := by
 unfold ref36_Select
 have := loop_list (l := t.Keys) (step := ref36_Select.l3 t now) (fun s => s.2) (fun s r => s.1 ++ r.filter (liveB now)) (fun s => (s.1.length : Int) ≤ s.2) ?_ ?_ (([] : List Key), (0 : Int)) 0 (by simp) rfl (Nat.zero_le _)
 ·simpa using this
 ·rintro ⟨o, s⟩ x r k ho hs hd hx hlt
  dsimp only at ho hs ⊢
  subst hs
  unfold ref36_Select.l3 ref36_Select.j2
  dsimp only
  rw [ite_t (by omega), grd_b ⟨by omega, by omega⟩, hx, ref27_Live_eq, bind_s, wrap_id (n := (k : Int) + 1) (by omega) (by omega)]
  cases hv : liveB now x with
  | true =>
   rw [it_tt, grd_b ⟨by omega, by omega⟩, grd_b (by simp; omega)]
   exact .inl ⟨_, rfl, rfl, by simp; omega, by simp [hv]⟩
  | false =>
   rw [it_ff]
   exact .inl ⟨_, rfl, rfl, by dsimp only; omega, by simp [hv]⟩
 ·rintro ⟨o, s⟩ ho hs
  dsimp only at ho hs ⊢
  subst hs
  unfold ref36_Select.l3
  dsimp only
  rw [ite_f (by omega)]
  simp [ref36_Select.j1]
theorem rcomplete_in {b : Backup} {l : List Key} {i : Nat} {x : Key} (hx : rd l (i : Int) = x) (hi : i < l.length) (hl : b.Keys.length ≤ 1099511627776) (hl2 : l.length ≤ 1099511627776) :
  loopF (ref36_Complete.l4 b (i : Int) l) (false, (0 : Int)) = some (if decide (x ∈ b.Keys) = true then .inl ((i : Int) + 1) else .inr false) := by
 have := loop_list (l := b.Keys) (step := ref36_Complete.l4 b (i : Int) l) (fun s => s.2) (fun s r => if (s.1 || decide (x ∈ r)) = true then (Sum.inl ((i : Int) + 1) : Int ⊕ Bool) else .inr false) (fun _ => True) ?_ ?_ (false, (0 : Int)) 0 trivial rfl (Nat.zero_le _)
 ·simpa using this
 ·rintro ⟨f, s⟩ y r k _ hs hd hy hlt
  dsimp only at hs ⊢
  subst hs
  unfold ref36_Complete.l4
  dsimp only
  rw [ite_t (by omega), wrap_id (by omega) (by omega)]
  cases f with
  | true => rw [it_tt]; exact .inl ⟨_, rfl, rfl, trivial, by simp⟩
  | false =>
   rw [it_ff, grd_b ⟨by omega, by omega⟩, grd_b ⟨by omega, by omega⟩, hy, hx]
   refine .inl ⟨_, rfl, rfl, trivial, ?_⟩
   dsimp only
   by_cases h : y = x
   ·subst h; simp
   ·have : ¬ x = y := fun e => h e.symm
    simp [h, this]
 ·rintro ⟨f, s⟩ _ hs
  dsimp only at hs ⊢
  subst hs
  unfold ref36_Complete.l4 ref36_Complete.j3 ref36_Complete.j2
  dsimp only
  rw [ite_f (by omega), wrap_id (by omega) (by omega)]
  cases f <;> rfl
theorem rcomplete_eq {b : Backup} {t : Table} (now : Int) (hb : b.Keys.length ≤ 1099511627776) (hl : t.Keys.length ≤ 1099511627) : ref36_Complete b t now = some (complS now t.Keys b.Keys) := by
 have hf : (t.Keys.filter (liveB now)).length ≤ t.Keys.length := List.length_filter_le _ _
 unfold ref36_Complete complS
 rw [rselect_eq now hl, bind_s]
 generalize t.Keys.filter (liveB now) = l at hf
 have := loop_list (l := l) (step := ref36_Complete.l5 l b) (fun s => s) (fun s r => r.all fun k => decide (k ∈ b.Keys)) (fun _ => True) ?_ ?_ 0 0 trivial rfl (Nat.zero_le _)
 ·simpa using this
 ·intro s x r k _ hk hd hx hlt
  have hk : s = (k : Int) := hk
  subst hk
  unfold ref36_Complete.l5
  rw [ite_t (by omega), rcomplete_in hx hlt hb (by omega)]
  by_cases h : x ∈ b.Keys
  ·rw [ite_t h]; exact .inl ⟨_, rfl, rfl, trivial, by simp [h]⟩
  ·rw [ite_f h]; exact .inr (by simp [h])
 ·intro s _ hs
  have hs : s = (l.length : Int) := hs
  subst hs
  unfold ref36_Complete.l5
  rw [ite_f (by omega)]; rfl
end Go.Cu
