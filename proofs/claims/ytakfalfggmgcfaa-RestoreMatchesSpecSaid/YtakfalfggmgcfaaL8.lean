/- Plain laws on the pure functions; no program is named. -/
import Derived.Test.YtakfalfggmgcfaaL7
set_option linter.unusedVariables false
set_option linter.unusedSimpArgs false
/-! Plain laws: RestoreNarrow. -/
namespace Go.Cu
theorem newOk_get {now : Int} {bk : List Key} : ∀ (new : List Key) (t : Table), NewOk now bk t new → ∀ (k : Nat) (x : Key), new[k]? = some x →
    x.Id = t.Next + k ∧ (∃ y ∈ bk, x = { y with Id := x.Id, Parent := x.Parent }) ∧ (x.Parent = 0 ∨ ∃ y ∈ t.Keys ++ new.take k, y.Id = x.Parent) ∧ now < x.End
  | [], t, _, k, x, h => by simp at h
  | z :: r, t, h, 0, x, hx => by
    obtain ⟨a1, a2, a3, a4, _⟩ := h
    simp at hx
    subst hx
    exact ⟨by simpa using a1, a2, by simpa using a3, a4⟩
  | z :: r, t, h, k + 1, x, hx => by
    obtain ⟨_, _, _, _, _, _, _, _, a9⟩ := h
    obtain ⟨b1, b2, b3, b4⟩ := newOk_get r _ a9 k x (by simpa using hx)
    refine ⟨by rw [b1]; simp; omega, b2, ?_, b4⟩
    rcases b3 with b3 | ⟨y, hy, e⟩
    · exact .inl b3
    · exact .inr ⟨y, by simpa using hy, e⟩
theorem rd_some {α : Type} [Inhabited α] {l : List α} {k : Nat} {x : α} (h : l[k]? = some x) : rd l (k : Int) = x := by
  simp [rd, List.getD, h]
def sameB (x y : Key) : Bool := decide (x = ({ ({ y with Id := x.Id } : Key) with Parent := x.Parent } : Key))
theorem narrow_l4 {tt : Table × List Int × Int} {p0 : Table} {s : Int} {fb : Bool} {p2 : Int} {X : Key} {n : Nat} (hn : IntKind.i64.wrap ((p0.Keys.length : Int) + s) = n) (hX : rd tt.1.Keys n = X) (hl : tt.1.Keys.length ≤ 4096)
    {res : Bool → Int ⊕ Bool} (hj : ∀ e, law37_RestoreNarrow.j3 tt p0 s fb e p2 = some (res e)) (e0 : Bool) :
    loopF (law37_RestoreNarrow.l4 tt p0 s fb p2) (e0, (0 : Int)) = some (res (e0 || (tt.1.Keys.take n).any fun y => y.Id == X.Parent)) := by
  have hl' : (tt.1.Keys.take n).length ≤ 4096 := by simp; omega
  have := loop_list (l := tt.1.Keys.take n) (step := law37_RestoreNarrow.l4 tt p0 s fb p2) (fun s => s.2) (fun u r => res (u.1 || r.any fun y => y.Id == X.Parent)) (fun _ => True) ?_ ?_ (e0, 0) 0 trivial rfl (Nat.zero_le _)
  · simpa using this
  · rintro ⟨e, i⟩ x r k _ hk hd hx hlt
    have hk : i = (k : Int) := hk
    subst hk
    unfold law37_RestoreNarrow.l4
    simp only [hn, hX, Int.toNat_natCast, Int.toNat_zero, List.drop_zero]
    rw [if_pos (by simp only [decide_eq_true_eq]; omega), grd_t ⟨by omega, by omega⟩, hx]
    have hw : IntKind.i64.wrap ((k : Int) + 1) = k + 1 := wrap_id (by omega) (by omega)
    rw [hw]
    cases e with
    | true => exact .inl ⟨_, rfl, rfl, trivial, by simp⟩
    | false => exact .inl ⟨_, rfl, rfl, trivial, by simp⟩
  · rintro ⟨e, i⟩ _ hi
    have hi : i = ((tt.1.Keys.take n).length : Int) := hi
    subst hi
    unfold law37_RestoreNarrow.l4
    simp only [hn, Int.toNat_natCast, Int.toNat_zero, List.drop_zero]
    rw [if_neg (by simp), hj]
    simp
theorem narrow_l6 {p1 : Backup} {tt : Table × List Int × Int} {p0 : Table} {s : Int} {p2 : Int} {X : Key} {n : Nat} (hn : IntKind.i64.wrap ((p0.Keys.length : Int) + s) = n) (hX : rd tt.1.Keys n = X) (hl : p1.Keys.length ≤ 4096)
    {res : Bool → Int ⊕ Bool} (hj : ∀ e, law37_RestoreNarrow.j5 p0 s tt e p2 = some (res e)) :
    loopF (law37_RestoreNarrow.l6 p1 tt p0 s p2) (false, (0 : Int)) = some (res (p1.Keys.any (sameB X))) := by
  have := loop_list (l := p1.Keys) (step := law37_RestoreNarrow.l6 p1 tt p0 s p2) (fun s => s.2) (fun u r => res (u.1 || r.any (sameB X))) (fun _ => True) ?_ ?_ (false, 0) 0 trivial rfl (Nat.zero_le _)
  · simpa using this
  · rintro ⟨e, i⟩ x r k _ hk hd hx hlt
    have hk : i = (k : Int) := hk
    subst hk
    unfold law37_RestoreNarrow.l6
    simp only [hn, hX]
    rw [if_pos (by simpa using hlt), grd_t ⟨by omega, by omega⟩, hx]
    have hw : IntKind.i64.wrap ((k : Int) + 1) = k + 1 := wrap_id (by omega) (by omega)
    rw [hw]
    cases e with
    | true => exact .inl ⟨_, rfl, rfl, trivial, by simp⟩
    | false => exact .inl ⟨_, rfl, rfl, trivial, by simp [sameB]⟩
  · rintro ⟨e, i⟩ _ hi
    have hi : i = (p1.Keys.length : Int) := hi
    subst hi
    unfold law37_RestoreNarrow.l6
    dsimp only
    rw [if_neg (by simp), hj]
    simp
theorem law_RestoreNarrow (t : Table) (b : Backup) (now : Int) (ht : inT t) (hb : inB' b) : law37_RestoreNarrow t b now = some true := by
  unfold law37_RestoreNarrow
  rw [few_and (v := ref27_ValidTable t) (r := vT t) (fun h => ref27_ValidTable_eq ⟨by omega, ht.nxt, ht.use⟩)]
  cases hc : (!(decide (t.Keys.length ≤ 40) && (decide (b.Keys.length ≤ 40) && decide (b.Module.length ≤ 100)) && vT t)) with
  | true => rw [if_pos rfl, sanity37]; rfl
  | false =>
    obtain ⟨h1, h2, wt, wb, hv⟩ := fw hc ht hb
    rw [if_neg (by simp), restore_Plan_eq' wb h2 wt.nxt (by omega)]
    simp only [Option.bind_some]
    by_cases h : (planR t b now).2.2 = 0
    · rw [if_neg (by simp [h])]
      obtain ⟨hvb, hn0, hn1, new, a, e, hh⟩ := planR_ok h
      have hlen := newOk_len new t a (by omega)
      have hnx : t.Next ≤ 2147483647 ∧ 1 ≤ t.Next := by
        simp only [vT, inB, Bool.and_eq_true, decide_eq_true_eq] at hv
        exact ⟨hv.2.1.2, hv.2.1.1⟩
      have hnn := newOk_next new t a hnx.1
      rw [e]
      generalize htt : ((⟨t.Next + new.length, t.Keys ++ new⟩ : Table), new.map Key.Id, (0 : Int)) = tt
      have k1 : tt.1.Keys = t.Keys ++ new := by rw [← htt]
      have k2 : tt.2.1 = new.map Key.Id := by rw [← htt]
      have k3 : tt.1.Next = t.Next + new.length := by rw [← htt]
      have hlk : tt.1.Keys.length = t.Keys.length + new.length := by rw [k1]; simp
      have hli : tt.2.1.length = new.length := by rw [k2]; simp
      rw [hlk, hli, k3, wrap_id (n := (t.Keys.length : Int) + new.length) (by omega) (by omega), wrap_id (n := t.Next + new.length) (by omega) (by omega)]
      rw [if_neg (by simp)]
      simp only [Option.bind_some]
      rw [if_neg (by simp)]
      have h7 : loopF (law37_RestoreNarrow.l7 tt t b now) 0 = some true := by
        have := loop_list (l := tt.2.1) (step := law37_RestoreNarrow.l7 tt t b now) (fun s => s) (fun s r => true) (fun _ => True) ?_ ?_ 0 0 trivial rfl (Nat.zero_le _)
        · simpa using this
        · intro s x r k _ hk hd hx hlt
          have hk : s = (k : Int) := hk
          subst hk
          have hkn : k < new.length := by omega
          obtain ⟨b1, ⟨y, hy, b2⟩, b3, b4⟩ := newOk_get new t a k new[k] (by simp [hkn])
          have hX : rd tt.1.Keys ((t.Keys.length + k : Nat) : Int) = new[k] := by
            rw [k1]
            apply rd_some
            simp [List.getElem?_append_right, hkn]
          have hid : rd tt.2.1 (k : Int) = new[k].Id := by
            rw [k2]
            apply rd_some
            simp [hkn]
          unfold law37_RestoreNarrow.l7
          have hw : IntKind.i64.wrap ((t.Keys.length : Int) + k) = ((t.Keys.length + k : Nat) : Int) := by rw [wrap_id (by omega) (by omega)]; simp
          rw [if_pos (by simpa using hlt), grd_t ⟨by omega, by omega⟩, hw, grd_t ⟨by omega, by omega⟩]
          have hj3 : ∀ fb e, law37_RestoreNarrow.j3 tt t (k : Int) fb e now = some (if fb && e then .inl ((k : Int) + 1) else .inr false) := by
            intro fb e
            unfold law37_RestoreNarrow.j3 law37_RestoreNarrow.j2
            rw [hw, hX, hid, wrap_id (n := t.Next + (k : Int)) (by omega) (by omega), if_neg (by simp), if_neg (by simp [b1]), wrap_id (n := (k : Int) + 1) (by omega) (by omega)]
            have : ¬ (new[k].End ≤ now) := by omega
            cases fb <;> cases e <;> simp [this]
          have hj5 : ∀ fb, law37_RestoreNarrow.j5 t (k : Int) tt fb now = some (if fb then .inl ((k : Int) + 1) else .inr false) := by
            intro fb
            unfold law37_RestoreNarrow.j5
            rw [hw, grd_t ⟨by omega, by omega, by omega⟩, hX, narrow_l4 (X := new[k]) hw hX (by omega) (hj3 fb)]
            have : (decide (new[k].Parent = 0) || (tt.1.Keys.take (t.Keys.length + k)).any fun y => y.Id == new[k].Parent) = true := by
              rw [k1, List.take_length_add_append]
              rcases b3 with b3 | ⟨y, hy, e⟩
              · simp [b3]
              · rw [Bool.or_eq_true]; right
                rw [List.any_eq_true]
                exact ⟨y, hy, by simpa using e⟩
            have e2 : (new[k].Parent == 0) = decide (new[k].Parent = 0) := rfl
            rw [e2, this, Bool.and_true]
          rw [narrow_l6 (X := new[k]) hw hX (by omega) hj5]
          have : b.Keys.any (sameB new[k]) = true := by
            rw [List.any_eq_true]
            exact ⟨y, hy, by simpa [sameB] using b2⟩
          rw [this]
          exact .inl ⟨_, rfl, rfl, trivial, rfl⟩
        · intro s _ hs
          have hs : s = (tt.2.1.length : Int) := hs
          subst hs
          unfold law37_RestoreNarrow.l7 law37_RestoreNarrow.j1
          rw [if_neg (by simp), sanity37]
          rfl
      have := loop_list (l := t.Keys) (step := law37_RestoreNarrow.l9 t tt b now) (fun s => s) (fun s r => true) (fun _ => True) ?_ ?_ 0 0 trivial rfl (Nat.zero_le _)
      · simpa using this
      · intro s x r k _ hk hd hx hlt
        have hk : s = (k : Int) := hk
        subst hk
        unfold law37_RestoreNarrow.l9
        have hX : rd tt.1.Keys (k : Int) = x := by
          have h0 : t.Keys[k]? = some x := by
            have := congrArg (fun m => m[0]?) hd
            simpa using this
          rw [k1]
          apply rd_some
          rw [List.getElem?_append_left hlt, h0]
        rw [if_pos (by simpa using hlt), grd_t ⟨by omega, by omega⟩, grd_t ⟨by omega, by omega⟩, hx, hX, if_neg (by simp), wrap_id (by omega) (by omega)]
        exact .inl ⟨_, rfl, rfl, trivial, rfl⟩
      · intro s _ hs
        have hs : s = (t.Keys.length : Int) := hs
        subst hs
        unfold law37_RestoreNarrow.l9 law37_RestoreNarrow.j8
        rw [if_neg (by simp), h7]
        rfl
    · rw [if_pos (by simpa using h), sanity37]
      rfl
end Go.Cu
