/- Rules for walks over facts, pure functions and plain laws; no condition. -/
import Derived.Test.YtakfalfggmgcfaaGreatDoorCK1
import Derived.Test.YtakfalfggmgcfaaGreatDoorCK0
import Derived.Test.YtakfalfggmgcfaaGreatDoorProg
import Derived.KernelRfl
set_option linter.unusedVariables false
set_option linter.unusedSimpArgs false

namespace Go.Cu
set_option maxHeartbeats 4000000
open Go.Proofs Go.RowKit Go.ChangeShapes Go.WideShapes Go.Deep
def Key.Wf (x : Key) : Prop := (wfK .i64 x.Id) ∧ (wfK .i64 x.Type_) ∧ (x.Value.length ≤ maxLen) ∧ (wfK .i64 x.Uses) ∧ (wfK .i64 x.Start) ∧ (wfK .i64 x.End) ∧ (wfK .i64 x.Version) ∧ (wfK .i64 x.Parent)
def Backup.Wf (x : Backup) : Prop := (∀ a ∈ x.Domain.toList, wfK .u8 a) ∧ (wfK .i64 x.Epoch) ∧ (wfK .i64 x.Number) ∧ (wfK .i64 x.Firmware) ∧ (wfK .i64 x.Time) ∧ (∀ a ∈ x.Policy.toList, wfK .u8 a) ∧ (x.Module.length ≤ maxLen) ∧ ((∀ a ∈ x.Keys, Key.Wf a) ∧ x.Keys.length ≤ maxLen)
def Table.Wf (x : Table) : Prop := (wfK .i64 x.Next) ∧ ((∀ a ∈ x.Keys, Key.Wf a) ∧ x.Keys.length ≤ maxLen)
theorem Key.opn {w : World} : Opn Tryz.prog w 97 fun cs => ∃ x : Key, cs = Key.C x ∧ Key.Wf x := by
 intro H enc fuel cs x h
 have hsz : cs.length = 9 := (opn_size Tryz.underlying97 h).trans (by kernel_rfl)
 obtain ⟨_, _, h0⟩ := opn_at Tryz.underlying97 h 0 _ (u := 3) (o := 0) (c := 1) rfl rfl rfl (by kernel_rfl)
 obtain ⟨a0, e0, w0⟩ := (opn_int Tryz.underlying3) _ _ _ _ _ h0
 obtain ⟨_, _, h1⟩ := opn_at Tryz.underlying97 h 1 _ (u := 3) (o := 1) (c := 1) rfl rfl rfl (by kernel_rfl)
 obtain ⟨a1, e1, w1⟩ := (opn_int Tryz.underlying3) _ _ _ _ _ h1
 obtain ⟨_, _, h2⟩ := opn_at Tryz.underlying97 h 2 _ (u := 9) (o := 2) (c := 1) rfl rfl rfl (by kernel_rfl)
 obtain ⟨a2, e2, w2⟩ := (opn_str Tryz.underlying9) _ _ _ _ _ h2
 obtain ⟨_, _, h3⟩ := opn_at Tryz.underlying97 h 3 _ (u := 3) (o := 3) (c := 1) rfl rfl rfl (by kernel_rfl)
 obtain ⟨a3, e3, w3⟩ := (opn_int Tryz.underlying3) _ _ _ _ _ h3
 obtain ⟨_, _, h4⟩ := opn_at Tryz.underlying97 h 4 _ (u := 3) (o := 4) (c := 1) rfl rfl rfl (by kernel_rfl)
 obtain ⟨a4, e4, w4⟩ := (opn_int Tryz.underlying3) _ _ _ _ _ h4
 obtain ⟨_, _, h5⟩ := opn_at Tryz.underlying97 h 5 _ (u := 3) (o := 5) (c := 1) rfl rfl rfl (by kernel_rfl)
 obtain ⟨a5, e5, w5⟩ := (opn_int Tryz.underlying3) _ _ _ _ _ h5
 obtain ⟨_, _, h6⟩ := opn_at Tryz.underlying97 h 6 _ (u := 3) (o := 6) (c := 1) rfl rfl rfl (by kernel_rfl)
 obtain ⟨a6, e6, w6⟩ := (opn_int Tryz.underlying3) _ _ _ _ _ h6
 obtain ⟨_, _, h7⟩ := opn_at Tryz.underlying97 h 7 _ (u := 3) (o := 7) (c := 1) rfl rfl rfl (by kernel_rfl)
 obtain ⟨a7, e7, w7⟩ := (opn_int Tryz.underlying3) _ _ _ _ _ h7
 obtain ⟨_, _, h8⟩ := opn_at Tryz.underlying97 h 8 _ (u := 4) (o := 8) (c := 1) rfl rfl rfl (by kernel_rfl)
 obtain ⟨a8, e8⟩ := opn_bool Tryz.underlying4 _ _ _ _ _ h8
 refine ⟨⟨a0, a1, a2, a3, a4, a5, a6, a7, a8⟩, ?_, w0, w1, w2, w3, w4, w5, w6, w7⟩
 have z := (cut_next cs 0 1 1 rfl e0 (cut_next cs 1 1 2 rfl e1 (cut_next cs 2 1 3 rfl e2 (cut_next cs 3 1 4 rfl e3 (cut_next cs 4 1 5 rfl e4 (cut_next cs 5 1 6 rfl e5 (cut_next cs 6 1 7 rfl e6 (cut_next cs 7 1 8 rfl e7 (cut_next cs 8 1 9 rfl e8 (cut_end cs 9 hsz))))))))))
 exact z
set_option maxRecDepth 100000 in
theorem Backup.open {w : World} {H : Type} {enc : TypeId × Go.Value → H} {v : Go.Value} {d : DataW H} {ps : List MemPlace} {base : Nat} (hok : Value.okWide Tryz.prog w .any base 26 v) (hv : DataW.Trod enc Tryz.prog w 0 (fun _ => true) true 26 v d ps) :
  ∃ (x : Backup) (v0_ : Go.Value), v = .agg (Backup.C x v0_).toArray ∧ RS Key.F (hp w) v0_ x.Keys ∧ Backup.Wf x := by
 obtain ⟨cs, rfl, hc⟩ := okWide_struct Tryz.underlying26 hok
 obtain ⟨fuel, hf⟩ := hv
 have hf : DataW.trod enc Tryz.prog w 0 (fun _ => true) true fuel 26 cs.toList = some (d, ps) := hf
 have hsz : cs.toList.length = 38 := (opn_size Tryz.underlying26 hf).trans (by kernel_rfl)
 obtain ⟨_, _, h0⟩ := opn_at Tryz.underlying26 hf 0 _ (u := 23) (o := 0) (c := 16) rfl rfl rfl (by kernel_rfl)
 obtain ⟨a0, e0, w0⟩ := (opn_arr (n := 16) Tryz.underlying23 Tryz.underlying5 (by kernel_rfl) (by kernel_rfl)) _ _ _ _ _ h0
 obtain ⟨_, _, h1⟩ := opn_at Tryz.underlying26 hf 1 _ (u := 3) (o := 16) (c := 1) rfl rfl rfl (by kernel_rfl)
 obtain ⟨a1, e1, w1⟩ := (opn_int Tryz.underlying3) _ _ _ _ _ h1
 obtain ⟨_, _, h2⟩ := opn_at Tryz.underlying26 hf 2 _ (u := 3) (o := 17) (c := 1) rfl rfl rfl (by kernel_rfl)
 obtain ⟨a2, e2, w2⟩ := (opn_int Tryz.underlying3) _ _ _ _ _ h2
 obtain ⟨_, _, h3⟩ := opn_at Tryz.underlying26 hf 3 _ (u := 3) (o := 18) (c := 1) rfl rfl rfl (by kernel_rfl)
 obtain ⟨a3, e3, w3⟩ := (opn_int Tryz.underlying3) _ _ _ _ _ h3
 obtain ⟨_, _, h4⟩ := opn_at Tryz.underlying26 hf 4 _ (u := 3) (o := 19) (c := 1) rfl rfl rfl (by kernel_rfl)
 obtain ⟨a4, e4, w4⟩ := (opn_int Tryz.underlying3) _ _ _ _ _ h4
 obtain ⟨_, _, h5⟩ := opn_at Tryz.underlying26 hf 5 _ (u := 23) (o := 20) (c := 16) rfl rfl rfl (by kernel_rfl)
 obtain ⟨a5, e5, w5⟩ := (opn_arr (n := 16) Tryz.underlying23 Tryz.underlying5 (by kernel_rfl) (by kernel_rfl)) _ _ _ _ _ h5
 obtain ⟨_, _, h6⟩ := opn_at Tryz.underlying26 hf 6 _ (u := 9) (o := 36) (c := 1) rfl rfl rfl (by kernel_rfl)
 obtain ⟨a6, e6, w6⟩ := (opn_str Tryz.underlying9) _ _ _ _ _ h6
 obtain ⟨_, _, h7⟩ := opn_at Tryz.underlying26 hf 7 _ (u := 24) (o := 37) (c := 1) rfl rfl rfl (by kernel_rfl)
 obtain ⟨v7, e7, g7⟩ := one_at cs.toList 37 (by omega)
 rw [e7] at h7
 obtain ⟨a7, r7, w7, l7⟩ := opn_slice (F := Key.F) (Q := Key.Wf) (v := v7) Tryz.underlying24 (by kernel_rfl) (by decide) Key.opn (cellOk (i := 37) (ts := [5, 5, 5, 5, 5, 5, 5, 5, 5, 5, 5, 5, 5, 5, 5, 5, 3, 3, 3, 3, 5, 5, 5, 5, 5, 5, 5, 5, 5, 5, 5, 5, 5, 5, 5, 5, 9, 24]) Tryz.underlying26 hok (by kernel_rfl) (by decide) rfl (by rw [← Array.getElem?_toList]; exact g7)) h7
 refine ⟨⟨a0, a1, a2, a3, a4, a5, a6, a7⟩, v7, ?_, r7, w0, w1, w2, w3, w4, w5, w6, ⟨w7, l7⟩⟩
 refine congrArg Go.Value.agg (Array.ext' ?_)
 have z := (cut_next cs.toList 0 16 16 rfl e0 (cut_next cs.toList 16 1 17 rfl e1 (cut_next cs.toList 17 1 18 rfl e2 (cut_next cs.toList 18 1 19 rfl e3 (cut_next cs.toList 19 1 20 rfl e4 (cut_next cs.toList 20 16 36 rfl e5 (cut_next cs.toList 36 1 37 rfl e6 (cut_next cs.toList 37 1 38 rfl e7 (cut_end cs.toList 38 hsz)))))))))
 exact z
set_option maxRecDepth 100000 in
theorem Table.open {w : World} {H : Type} {enc : TypeId × Go.Value → H} {v : Go.Value} {d : DataW H} {ps : List MemPlace} {base : Nat} (hok : Value.okWide Tryz.prog w .any base 28 v) (hv : DataW.Trod enc Tryz.prog w 0 (fun _ => true) true 28 v d ps) :
  ∃ (x : Table) (v0_ : Go.Value), v = .agg (Table.C x v0_).toArray ∧ RS Key.F (hp w) v0_ x.Keys ∧ Table.Wf x := by
 obtain ⟨cs, rfl, hc⟩ := okWide_struct Tryz.underlying28 hok
 obtain ⟨fuel, hf⟩ := hv
 have hf : DataW.trod enc Tryz.prog w 0 (fun _ => true) true fuel 28 cs.toList = some (d, ps) := hf
 have hsz : cs.toList.length = 2 := (opn_size Tryz.underlying28 hf).trans (by kernel_rfl)
 obtain ⟨_, _, h0⟩ := opn_at Tryz.underlying28 hf 0 _ (u := 3) (o := 0) (c := 1) rfl rfl rfl (by kernel_rfl)
 obtain ⟨a0, e0, w0⟩ := (opn_int Tryz.underlying3) _ _ _ _ _ h0
 obtain ⟨_, _, h1⟩ := opn_at Tryz.underlying28 hf 1 _ (u := 24) (o := 1) (c := 1) rfl rfl rfl (by kernel_rfl)
 obtain ⟨v1, e1, g1⟩ := one_at cs.toList 1 (by omega)
 rw [e1] at h1
 obtain ⟨a1, r1, w1, l1⟩ := opn_slice (F := Key.F) (Q := Key.Wf) (v := v1) Tryz.underlying24 (by kernel_rfl) (by decide) Key.opn (cellOk (i := 1) (ts := [3, 24]) Tryz.underlying28 hok (by kernel_rfl) (by decide) rfl (by rw [← Array.getElem?_toList]; exact g1)) h1
 refine ⟨⟨a0, a1⟩, v1, ?_, r1, w0, ⟨w1, l1⟩⟩
 refine congrArg Go.Value.agg (Array.ext' ?_)
 have z := (cut_next cs.toList 0 1 1 rfl e0 (cut_next cs.toList 1 1 2 rfl e1 (cut_end cs.toList 2 hsz)))
 exact z
end Go.Cu


namespace Go.Cu
theorem wrap_id {n : Int} (h0 : -9223372036854775808 ≤ n) (h1 : n ≤ 9223372036854775807) : IntKind.i64.wrap n = n := by
 simp [IntKind.wrap, IntKind.signed, IntKind.bits]
 omega
theorem wrap64_id {n : Int} (h0 : 0 ≤ n) (h1 : n < 18446744073709551616) : IntKind.u64.wrap n = n := by
 simp [IntKind.wrap, IntKind.signed, IntKind.bits]
 omega
theorem wrap32_id {n : Int} (h0 : 0 ≤ n) (h1 : n < 4294967296) : IntKind.u32.wrap n = n := by
 simp [IntKind.wrap, IntKind.signed, IntKind.bits]
 omega
theorem wrap8_id {n : Int} (h0 : 0 ≤ n) (h1 : n < 256) : IntKind.u8.wrap n = n := by
 simp [IntKind.wrap, IntKind.signed, IntKind.bits]
 omega
theorem wrap8_rng (n : Int) : 0 ≤ IntKind.u8.wrap n ∧ IntKind.u8.wrap n < 256 := by
 simp [IntKind.wrap, IntKind.signed, IntKind.bits]
 omega
theorem grd_b {β : Type} {p : Prop} [Decidable p] {f : Unit → Option β} (h : p) : (grd p).bind f = f () := by
 unfold grd; rw [if_pos h]; rfl
theorem ite_t {α : Type} {p : Prop} [Decidable p] {a b : α} (h : p) : (if decide p = true then a else b) = a := by rw [decide_eq_true h]; rfl
theorem ite_f {α : Type} {p : Prop} [Decidable p] {a b : α} (h : ¬ p) : (if decide p = true then a else b) = b := by rw [decide_eq_false h]; rfl
theorem bind_s {α β : Type} {x : α} {f : α → Option β} : (some x).bind f = f x := rfl
def upF {σ : Type} (F : Nat → σ → σ) : Nat → Nat → σ → σ
 | _, 0, s => s
 | k, m + 1, s => upF F (k + 1) m (F k s)
theorem upF_add {σ : Type} (F : Nat → σ → σ) : ∀ (m n k : Nat) (s : σ), upF F k (m + n) s = upF F (k + m) n (upF F k m s)
 | 0, n, k, s => by simp [upF]
 | m + 1, n, k, s => by rw [show m + 1 + n = (m + n) + 1 by omega, upF, upF, upF_add F m n, show k + 1 + m = k + (m + 1) by omega]
theorem upF_congr {σ : Type} {F G : Nat → σ → σ} : ∀ (m k : Nat) (s : σ), (∀ i s, k ≤ i → i < k + m → F i s = G i s) → upF F k m s = upF G k m s
 | 0, k, s, _ => rfl
 | m + 1, k, s, h => by
  rw [upF, upF, h k s (by omega) (by omega)]
  exact upF_congr m (k + 1) _ fun i s h1 h2 => h i s (by omega) (by omega)
theorem loop_up {τ σ ρ : Type} {step : τ → Option (τ ⊕ ρ)} (mk : σ → Int → τ) (F : Nat → σ → σ) (G : σ → ρ) (N : Nat) (Inv : Nat → σ → Prop)
  (hs : ∀ (i : Nat) s, i < N → Inv i s → step (mk s i) = some (.inl (mk (F i s) ((i : Int) + 1))) ∧ Inv (i + 1) (F i s))
  (he : ∀ s, Inv N s → step (mk s (N : Int)) = some (.inr (G s))) : ∀ (m k : Nat) (s : σ), k + m = N → Inv k s → loopF step (mk s (k : Int)) = some (G (upF F k m s)) ∧ Inv N (upF F k m s)
 | 0, k, s, h, hi => by
  obtain rfl : k = N := by omega
  exact ⟨loopF_done (he s hi), hi⟩
 | m + 1, k, s, h, hi => by
  obtain ⟨h1, h2⟩ := hs k s (by omega) hi
  have := loop_up mk F G N Inv hs he m (k + 1) (F k s) (by omega) h2
  rw [loopF_next h1]
  exact this
theorem vs_toList {α : Type} {n : Nat} (v : Vector α n) (i : Int) (x : α) : (vs v i x).toList = v.toList.set i.toNat x := by
 simp [vs]
theorem rd_vs {α : Type} [Inhabited α] {n : Nat} (v : Vector α n) (i : Int) (x : α) (h0 : 0 ≤ i) (h1 : i < n) : rd (vs v i x).toList i = x := by
 rw [vs_toList]
 have : i.toNat < v.toList.length := by simp; omega
 simp [rd, List.getD, this]
 rw [List.getElem?_set_self (by simpa using this)]; rfl
theorem vs_vs {α : Type} {n : Nat} (v : Vector α n) (i : Int) (x y : α) : vs (vs v i x) i y = vs v i y := by
 apply Vector.toList_inj.1
 rw [vs_toList, vs_toList, vs_toList, List.set_set]
theorem rd_vs_ne {α : Type} [Inhabited α] {n : Nat} (v : Vector α n) (i j : Int) (x : α) (h : i.toNat ≠ j.toNat) : rd (vs v i x).toList j = rd v.toList j := by
 rw [vs_toList]
 simp [rd, List.getD, List.getElem?_set_ne h]
theorem rd_rep {n : Nat} (i : Int) : rd (Vector.replicate n (0 : Int)).toList i = 0 := by
 simp only [rd, List.getD, Vector.toList_replicate, List.getElem?_replicate]
 split <;> rfl
end Go.Cu


namespace Go.Cu
def rr (x k : Int) : Int := bits .or .u32 (shlI .u32 x (32 - k)) (shrI .u32 x k)
theorem rot_of {x p k : Int} (h1 : bits .and .u64 (IntKind.u64.wrap p) 31 = 32 - k) (h2 : IntKind.u64.wrap (32 - (32 - k)) = k) (h3 : 0 ≤ k) (h4 : k ≤ 32) : bits_RotateLeft32 x p = some (rr x k) := by
 unfold bits_RotateLeft32
 rw [h1, h2, grd_b (by omega), grd_b (by omega)]; rfl
theorem rot7 (x : Int) : bits_RotateLeft32 x (-7) = some (rr x 7) := rot_of (by decide +kernel) (by decide +kernel) (by decide) (by decide)
theorem rot18 (x : Int) : bits_RotateLeft32 x (-18) = some (rr x 18) := rot_of (by decide +kernel) (by decide +kernel) (by decide) (by decide)
theorem rot17 (x : Int) : bits_RotateLeft32 x (-17) = some (rr x 17) := rot_of (by decide +kernel) (by decide +kernel) (by decide) (by decide)
theorem rot19 (x : Int) : bits_RotateLeft32 x (-19) = some (rr x 19) := rot_of (by decide +kernel) (by decide +kernel) (by decide) (by decide)
theorem rotL16 (x : Int) : bits_RotateLeft32 x 16 = some (rr x 16) := rot_of (by decide +kernel) (by decide +kernel) (by decide) (by decide)
theorem rotL12 (x : Int) : bits_RotateLeft32 x 12 = some (rr x 20) := rot_of (by decide +kernel) (by decide +kernel) (by decide) (by decide)
theorem rotL8 (x : Int) : bits_RotateLeft32 x 8 = some (rr x 24) := rot_of (by decide +kernel) (by decide +kernel) (by decide) (by decide)
theorem rotL7 (x : Int) : bits_RotateLeft32 x 7 = some (rr x 25) := rot_of (by decide +kernel) (by decide +kernel) (by decide) (by decide)
def mixS (x i j k : Int) : Int := bits .xor .u32 (bits .xor .u32 (rr x i) (rr x j)) (rr x k)
theorem mix1 (x : Int) : hash_mix x 6 11 25 = some (mixS x 6 11 25) := by
 unfold hash_mix
 rw [rot_of (x := x) (p := IntKind.i64.wrap (0 - 6)) (k := 6) (by decide +kernel) (by decide +kernel) (by decide) (by decide), rot_of (x := x) (p := IntKind.i64.wrap (0 - 11)) (k := 11) (by decide +kernel) (by decide +kernel) (by decide) (by decide), rot_of (x := x) (p := IntKind.i64.wrap (0 - 25)) (k := 25) (by decide +kernel) (by decide +kernel) (by decide) (by decide)]
 rfl
theorem mix2 (x : Int) : hash_mix x 2 13 22 = some (mixS x 2 13 22) := by
 unfold hash_mix
 rw [rot_of (x := x) (p := IntKind.i64.wrap (0 - 2)) (k := 2) (by decide +kernel) (by decide +kernel) (by decide) (by decide), rot_of (x := x) (p := IntKind.i64.wrap (0 - 13)) (k := 13) (by decide +kernel) (by decide +kernel) (by decide) (by decide), rot_of (x := x) (p := IntKind.i64.wrap (0 - 22)) (k := 22) (by decide +kernel) (by decide +kernel) (by decide) (by decide)]
 rfl
def be1 (a b : Int) : Int := bits .or .u32 (shlI .u32 a 8) (IntKind.u32.wrap b)
def be4 (p : List Int) (i : Nat) : Int := be1 (be1 (be1 (be1 0 (rd p ((4 * i : Nat) : Int))) (rd p ((4 * i + 1 : Nat) : Int))) (rd p ((4 * i + 2 : Nat) : Int))) (rd p ((4 * i + 3 : Nat) : Int))
def nxW (w : Vector Int 64) (i : Int) : Int :=
 IntKind.u32.wrap (IntKind.u32.wrap (IntKind.u32.wrap (rd w.toList (i - 16) + bits .xor .u32 (bits .xor .u32 (rr (rd w.toList (i - 15)) 7) (rr (rd w.toList (i - 15)) 18)) (shrI .u32 (rd w.toList (i - 15)) 3)) + rd w.toList (i - 7)) +
  bits .xor .u32 (bits .xor .u32 (rr (rd w.toList (i - 2)) 17) (rr (rd w.toList (i - 2)) 19)) (shrI .u32 (rd w.toList (i - 2)) 10))
def stW (p : List Int) (i : Nat) (w : Vector Int 64) : Vector Int 64 := vs w i (if i < 16 then be4 p i else nxW w i)
def schedS (p : List Int) : Vector Int 64 := upF (stW p) 0 64 (Vector.replicate 64 0)
theorem slice4 {p : List Int} {i : Nat} (h : 4 * i + 4 ≤ p.length) : ((p.take (4 * (i : Int) + 4).toNat).drop (4 * (i : Int)).toNat) = [rd p ((4 * i : Nat) : Int), rd p ((4 * i + 1 : Nat) : Int), rd p ((4 * i + 2 : Nat) : Int), rd p ((4 * i + 3 : Nat) : Int)] := by
 have e1 : (4 * (i : Int) + 4).toNat = 4 * i + 4 := by omega
 have e2 : (4 * (i : Int)).toNat = 4 * i := by omega
 rw [e1, e2]
 apply List.ext_getElem?
 intro j
 have z : ∀ m, m < p.length → p[m]? = some (rd p (m : Int)) := by
  intro m hm
  simp [rd, List.getD, hm]
 rcases j with _ | _ | _ | _ | j
 ·rw [List.getElem?_drop, List.getElem?_take_of_lt (by omega), z _ (by omega)]; rfl
 ·rw [List.getElem?_drop, List.getElem?_take_of_lt (by omega), z _ (by omega)]; rfl
 ·rw [List.getElem?_drop, List.getElem?_take_of_lt (by omega), z _ (by omega)]; rfl
 ·rw [List.getElem?_drop, List.getElem?_take_of_lt (by omega), z _ (by omega)]; rfl
 ·rw [List.getElem?_eq_none (by simp; omega), List.getElem?_eq_none (by simp)]
theorem sched_in {p : List Int} {i : Nat} {w : Vector Int 64} (hi : i < 16) (hp : 4 * i + 4 ≤ p.length) (hw : rd w.toList i = 0) :
  loopF (hash_schedule.l5 p (w, (i : Int))) (w, (0 : Int)) = some (.inl (vs w i (be4 p i), (i : Int) + 1)) := by
 have hs : ∀ (u : Vector Int 64) (j : Nat), j < 4 → hash_schedule.l5 p (w, (i : Int)) (u, (j : Int)) = some (.inl (vs u i (be1 (rd u.toList i) (rd p ((4 * i + j : Nat) : Int))), ((j + 1 : Nat) : Int))) := by
  intro u j hj
  unfold hash_schedule.l5
  simp only [wrap_id (n := 4 * (i : Int)) (by omega) (by omega), wrap_id (n := 4 * (i : Int) + 4) (by omega) (by omega), slice4 hp, List.length_cons, List.length_nil]
  rw [ite_t (by omega), grd_b (by omega), grd_b (by omega), grd_b (by omega), wrap_id (by omega) (by omega)]
  have : rd [rd p ((4 * i : Nat) : Int), rd p ((4 * i + 1 : Nat) : Int), rd p ((4 * i + 2 : Nat) : Int), rd p ((4 * i + 3 : Nat) : Int)] (j : Int) = rd p ((4 * i + j : Nat) : Int) := by
   rcases j with _ | _ | _ | _ | j
   ·rfl
   ·rfl
   ·rfl
   ·rfl
   ·omega
  rw [this]; rfl
 have e0 := hs w 0 (by omega)
 have e1 := hs (vs w i (be1 (rd w.toList i) (rd p ((4 * i + 0 : Nat) : Int)))) 1 (by omega)
 rw [rd_vs _ _ _ (by omega) (by omega), vs_vs] at e1
 have e2 := hs (vs w i (be1 (be1 (rd w.toList i) (rd p ((4 * i + 0 : Nat) : Int))) (rd p ((4 * i + 1 : Nat) : Int)))) 2 (by omega)
 rw [rd_vs _ _ _ (by omega) (by omega), vs_vs] at e2
 have e3 := hs (vs w i (be1 (be1 (be1 (rd w.toList i) (rd p ((4 * i + 0 : Nat) : Int))) (rd p ((4 * i + 1 : Nat) : Int))) (rd p ((4 * i + 2 : Nat) : Int)))) 3 (by omega)
 rw [rd_vs _ _ _ (by omega) (by omega), vs_vs] at e3
 refine (loopF_next e0).trans ((loopF_next e1).trans ((loopF_next e2).trans ((loopF_next e3).trans ?_)))
 rw [loopF_done]
 unfold hash_schedule.l5
 simp only [wrap_id (n := 4 * (i : Int)) (by omega) (by omega), wrap_id (n := 4 * (i : Int) + 4) (by omega) (by omega), slice4 hp, List.length_cons, List.length_nil]
 rw [ite_f (by omega)]
 unfold hash_schedule.j4 hash_schedule.j2
 rw [wrap_id (by simp only; omega) (by simp only; omega)]
 simp only [hw]; rfl
theorem schedule_eq (p : List Int) (hp : p.length = 64) : hash_schedule p = some (schedS p) := by
 unfold hash_schedule
 have h := loop_up (step := hash_schedule.l6 p) (fun w i => (w, i)) (stW p) (fun w => w) 64 (fun k w => ∀ j : Nat, k ≤ j → rd w.toList (j : Int) = 0) (by
  intro i w hi hw
  refine ⟨?_, ?_⟩
  ·unfold hash_schedule.l6
   simp only []
   rw [ite_t (by omega)]
   by_cases h16 : i < 16
   ·rw [ite_t (by omega), grd_b (by rw [wrap_id (n := 4 * (i : Int)) (by omega) (by omega), wrap_id (n := 4 * (i : Int) + 4) (by omega) (by omega)]; omega), sched_in h16 (by omega) (hw i (Nat.le_refl _))]
    unfold stW; rw [if_pos h16]
   ·rw [ite_f (by omega)]
    unfold hash_schedule.j3
    simp only [wrap_id (n := (i : Int) - 15) (by omega) (by omega), wrap_id (n := (i : Int) - 2) (by omega) (by omega), wrap_id (n := (i : Int) - 16) (by omega) (by omega), wrap_id (n := (i : Int) - 7) (by omega) (by omega)]
    rw [grd_b (by omega), grd_b (by omega), rot7, bind_s, rot18, bind_s, rot17, bind_s, rot19, bind_s, grd_b (by omega), grd_b (by omega), grd_b (by omega), bind_s]
    unfold hash_schedule.j2
    rw [wrap_id (by simp only; omega) (by simp only; omega)]
    unfold stW; rw [if_neg h16]; rfl
  ·intro j hj
   unfold stW
   rw [rd_vs_ne _ _ _ _ (by omega)]
   exact hw j (by omega)) (by
  intro w _
  unfold hash_schedule.l6
  simp only []
  rw [ite_f (by omega)]; rfl) 64 0 (Vector.replicate 64 0) rfl (fun j _ => rd_rep _)
 exact h.1
end Go.Cu


namespace Go.Cu
def xS (e : Vector Int 4) (k w : Int) : Int :=
 IntKind.u32.wrap (IntKind.u32.wrap (IntKind.u32.wrap (IntKind.u32.wrap (rd e.toList 3 + mixS (rd e.toList 0) 6 11 25) + bits .xor .u32 (bits .and .u32 (rd e.toList 0) (rd e.toList 1)) (bits .and .u32 (bits .xor .u32 IntKind.u32.max (rd e.toList 0)) (rd e.toList 2))) + k) + w)
def yS (v : Vector Int 4) : Int :=
 IntKind.u32.wrap (mixS (rd v.toList 0) 2 13 22 + bits .xor .u32 (bits .xor .u32 (bits .and .u32 (rd v.toList 0) (rd v.toList 1)) (bits .and .u32 (rd v.toList 0) (rd v.toList 2))) (bits .and .u32 (rd v.toList 1) (rd v.toList 2)))
def rndS (w : Vector Int 64) (i : Nat) (s : Vector Int 4 × Vector Int 4) : Vector Int 4 × Vector Int 4 :=
 (#v[IntKind.u32.wrap (xS s.2 (rd hash_constants.toList i) (rd w.toList i) + yS s.1), rd s.1.toList 0, rd s.1.toList 1, rd s.1.toList 2], #v[IntKind.u32.wrap (rd s.1.toList 3 + xS s.2 (rd hash_constants.toList i) (rd w.toList i)), rd s.2.toList 0, rd s.2.toList 1, rd s.2.toList 2])
def finI (v e : Vector Int 4) (i : Nat) (s : Vector Int 8) : Vector Int 8 :=
 vs (vs s i (IntKind.u32.wrap (rd s.toList i + rd v.toList i))) ((i : Int) + 4) (IntKind.u32.wrap (rd (vs s i (IntKind.u32.wrap (rd s.toList i + rd v.toList i))).toList ((i : Int) + 4) + rd e.toList i))
def compS (s : Vector Int 8) (p : List Int) : Vector Int 8 :=
 let r := upF (rndS (schedS p)) 0 64 (lv s.toList 0 4, lv s.toList 4 4)
 upF (finI r.1 r.2) 0 4 s
theorem compress_eq (s : Vector Int 8) (p : List Int) (hp : p.length = 64) : hash_compress s p = some (compS s p) := by
 unfold hash_compress
 rw [schedule_eq p hp, bind_s]
 have hfin : ∀ v e : Vector Int 4, hash_compress.j3 v e s = some (upF (finI v e) 0 4 s) := by
  intro v e
  unfold hash_compress.j3
  refine (loop_up (step := hash_compress.l2 v e) (fun w i => (w, i)) (finI v e) (fun w => w) 4 (fun _ _ => True) ?_ ?_ 4 0 s rfl trivial).1
  ·intro i u hi _
   refine ⟨?_, trivial⟩
   unfold hash_compress.l2
   simp only [wrap_id (n := (i : Int) + 4) (by omega) (by omega), wrap_id (n := (i : Int) + 1) (by omega) (by omega)]
   rw [ite_t (by omega), grd_b (by omega), grd_b (by omega), grd_b (by omega), grd_b (by omega), grd_b (by omega), grd_b (by omega)]
   rfl
  ·intro u _
   unfold hash_compress.l2
   simp only []
   rw [ite_f (by omega)]; rfl
 refine (loop_up (step := hash_compress.l4 (schedS p) s) (fun w i => (w.1, w.2, i)) (rndS (schedS p)) (fun w => upF (finI w.1 w.2) 0 4 s) 64 (fun _ _ => True) ?_ ?_ 64 0 (lv s.toList 0 4, lv s.toList 4 4) rfl trivial).1
 ·intro i u hi _
  refine ⟨?_, trivial⟩
  unfold hash_compress.l4
  simp only [wrap_id (n := (i : Int) + 1) (by omega) (by omega)]
  rw [ite_t (by omega), grd_b (by omega), mix1, bind_s, grd_b (by omega), mix2, bind_s]
  rfl
 ·intro u _
  unfold hash_compress.l4
  simp only []
  rw [ite_f (by omega), hfin]; rfl
end Go.Cu


namespace Go.Cu
def h0S : Vector Int 8 := #v[1779033703, 3144134277, 1013904242, 2773480762, 1359893119, 2600822924, 528734635, 1541459225]
def chainS : Nat → Vector Int 8 → List Int → Vector Int 8
 | 0, s, _ => s
 | n + 1, s, m => chainS n (compS s (m.take 64)) (m.drop 64)
theorem chainS_snoc : ∀ (n : Nat) (s : Vector Int 8) (m : List Int), chainS (n + 1) s m = compS (chainS n s m) ((m.drop (64 * n)).take 64)
 | 0, s, m => by simp [chainS]
 | n + 1, s, m => by
  rw [chainS, chainS_snoc n, chainS, List.drop_drop, show 64 + 64 * n = 64 * (n + 1) by omega]
theorem chainS_app : ∀ (n : Nat) (s : Vector Int 8) (m t : List Int), 64 * n ≤ m.length → chainS n s (m ++ t) = chainS n s m
 | 0, s, m, t, h => rfl
 | n + 1, s, m, t, h => by
  rw [chainS, chainS, List.take_append_of_le_length (by omega), List.drop_append_of_le_length (by omega), chainS_app n _ _ _ (by simp; omega)]
structure StOk (st : hash_Stream) (m : List Int) : Prop where
 n : st.n = m.length
 s : st.state = chainS (m.length / 64) h0S m
 b : st.block.toList.take (m.length % 64) = m.drop (64 * (m.length / 64))
theorem lv_list {α : Type} [Inhabited α] (l : List α) (n : Nat) (h : l.length = n) : (lv l 0 n).toList = l := by
 subst h
 apply List.ext_getElem
 ·simp [lv]
 ·intro i h1 h2
  simp [lv, List.getD, h2]
theorem vcp_list {n : Nat} (v : Vector Int n) (o : Nat) (c : List Int) (h : o + c.length ≤ n) : (vcp v o c).toList = v.toList.take o ++ (c ++ v.toList.drop (o + c.length)) := by
 unfold vcp
 rw [lv_list]
 simp; omega
theorem begin_ok : ∃ st, hash_Begin = some st ∧ StOk st [] := ⟨_, rfl, ⟨rfl, rfl, rfl⟩⟩
theorem bytesI_app (a b : List UInt8) : bytesI (a ++ b) = bytesI a ++ bytesI b := by simp [bytesI]
theorem bytesI_take (a : List UInt8) (k : Nat) : bytesI (a.take k) = (bytesI a).take k := by simp [bytesI, List.map_take]
theorem add_ok : ∀ (N : Nat) (t : List UInt8) (st : hash_Stream) (m : List Int), t.length ≤ N → StOk st m → m.length + t.length < 4611686018427387904 → ∃ st', loopF hash_Stream_Add.l2 (st, t) = some st' ∧ StOk st' (m ++ bytesI t) := by
 intro N
 induction N with
 | zero =>
  intro t st m ht hs hb
  obtain rfl : t = [] := List.length_eq_zero_iff.1 (by omega)
  refine ⟨st, ?_, by simpa [bytesI] using hs⟩
  rw [loopF_done]; rfl
 | succ N ih =>
  intro t st m ht hs hb
  by_cases hte : t = []
  ·subst hte
   refine ⟨st, ?_, by simpa [bytesI] using hs⟩
   rw [loopF_done]; rfl
  have htl : 0 < t.length := List.length_pos_iff.2 hte
  have hmod : m.length % 64 < 64 := Nat.mod_lt _ (by decide)
  have hdiv := Nat.div_add_mod m.length 64
  obtain ⟨a, ha⟩ : ∃ a, a = m.length % 64 := ⟨_, rfl⟩
  obtain ⟨q, hq⟩ : ∃ q, q = m.length / 64 := ⟨_, rfl⟩
  rw [← ha, ← hq] at hdiv
  rw [← ha] at hmod
  have hat : IntKind.i64.wrap (Int.tmod st.n 64) = (a : Int) := by
   rw [hs.n, show Int.tmod (m.length : Int) 64 = (a : Int) by rw [ha]; exact Int.ofNat_tmod _ _ |>.symm ▸ rfl]
   exact wrap_id (by omega) (by omega)
  obtain ⟨k, hk⟩ : ∃ k, k = min (64 - a) t.length := ⟨_, rfl⟩
  have hc : (((bytesI t).take ((64 : Int).toNat - (a : Int).toNat)).length : Int) = (k : Int) := by
   rw [List.length_take, bytesI_len, hk]; simp
  have hcl : ((bytesI t).take ((64 : Int).toNat - (a : Int).toNat)).length = k := by exact_mod_cast hc
  have hct : (bytesI t).take ((64 : Int).toNat - (a : Int).toNat) = bytesI (t.take k) := by
   rw [bytesI_take, hk]
   rw [show (64 : Int).toNat - (a : Int).toNat = 64 - a by simp]
   by_cases h : 64 - a ≤ t.length
   ·rw [Nat.min_eq_left h]
   ·rw [Nat.min_eq_right (by omega), List.take_of_length_le (by rw [bytesI_len]; omega), List.take_of_length_le (by rw [bytesI_len]; omega)]
  have hkp : 0 < k := by omega
  have hk1 : k ≤ t.length := by omega
  have hk2 : a + k ≤ 64 := by omega
  have hrest : ((t.take (t.length : Int).toNat).drop ((k : Int)).toNat) = t.drop k := by simp
  have hm' : (m ++ bytesI (t.take k)).length = m.length + k := by simp [bytesI_len]; omega
  have hnn : IntKind.u64.wrap (st.n + IntKind.u64.wrap (k : Int)) = ((m.length + k : Nat) : Int) := by
   rw [wrap64_id (n := (k : Int)) (by omega) (by omega), hs.n, wrap64_id (by omega) (by omega)]; simp
  have hbl : (vcp st.block a (bytesI (t.take k))).toList = m.drop (64 * q) ++ (bytesI (t.take k) ++ st.block.toList.drop (a + k)) := by
   have hlen : (bytesI (t.take k)).length = k := by rw [bytesI_len]; simp; omega
   rw [vcp_list _ _ _ (by omega), hlen, hq, ← hs.b, ha]
  have hql : (m.drop (64 * q)).length = a := by simp; omega
  have htk : (bytesI (t.take k)).length = k := by rw [bytesI_len]; simp; omega
  have happ : m ++ bytesI t = (m ++ bytesI (t.take k)) ++ bytesI (t.drop k) := by
   rw [List.append_assoc, ← bytesI_app, List.take_append_drop]
  have hdm : (m ++ bytesI (t.take k)).drop (64 * q) = m.drop (64 * q) ++ bytesI (t.take k) := List.drop_append_of_le_length (by omega)
  by_cases hfull : a + k = 64
  ·have h64 : ((vcp st.block a (bytesI (t.take k))).toList.take 64) = m.drop (64 * q) ++ bytesI (t.take k) := by
    rw [hbl, ← List.append_assoc, List.take_append_of_le_length (by simp [hql, htk]; omega), List.take_of_length_le (by simp [hql, htk]; omega)]
   have h64l : (m.drop (64 * q) ++ bytesI (t.take k)).length = 64 := by rw [List.length_append, hql, htk]; exact hfull
   have hn' : (m ++ bytesI (t.take k)).length = 64 * (q + 1) := by rw [hm']; omega
   obtain ⟨st', h1, h2⟩ := ih (t.drop k) ⟨compS st.state (m.drop (64 * q) ++ bytesI (t.take k)), vcp st.block a (bytesI (t.take k)), ((m.length + k : Nat) : Int)⟩ (m ++ bytesI (t.take k)) (by simp; omega) (by
    refine ⟨by rw [hm'], ?_, ?_⟩
    ·show compS st.state _ = _
     rw [hn', show 64 * (q + 1) / 64 = q + 1 by omega, chainS_snoc, chainS_app _ _ _ _ (by omega), hdm, List.take_of_length_le (l := m.drop (64 * q) ++ bytesI (t.take k)) (by rw [h64l]; exact Nat.le_refl _), hs.s, hq]
    ·rw [hn', show 64 * (q + 1) % 64 = 0 by omega, show 64 * (q + 1) / 64 = q + 1 by omega]
     rw [List.take_zero, List.drop_of_length_le (by omega)]) (by rw [hm']; simp; omega)
   refine ⟨st', ?_, by rw [happ]; exact h2⟩
   rw [loopF_next (s' := (⟨compS st.state (m.drop (64 * q) ++ bytesI (t.take k)), vcp st.block a (bytesI (t.take k)), ((m.length + k : Nat) : Int)⟩, t.drop k))]
   ·exact h1
   ·unfold hash_Stream_Add.l2
    simp only [hat, hc, hrest]
    rw [if_pos (by simpa using hte), grd_b (by omega), grd_b (by omega), wrap_id (by omega) (by omega), if_pos (by simp; omega), hct, hnn]
    have e64 : (64 : Int).toNat = 64 := rfl
    have e0 : (0 : Int).toNat = 0 := rfl
    rw [e64, e0, List.drop_zero, show (a : Int).toNat = a by simp, h64, compress_eq _ _ h64l]
    rfl
  ·have hn' : (m ++ bytesI (t.take k)).length = 64 * q + (a + k) := by rw [hm']; omega
   obtain ⟨st', h1, h2⟩ := ih (t.drop k) ⟨st.state, vcp st.block a (bytesI (t.take k)), ((m.length + k : Nat) : Int)⟩ (m ++ bytesI (t.take k)) (by simp; omega) (by
    refine ⟨by rw [hm'], ?_, ?_⟩
    ·show st.state = _
     rw [hn', show (64 * q + (a + k)) / 64 = q by omega, chainS_app _ _ _ _ (by omega), hs.s, hq]
    ·rw [hn', show (64 * q + (a + k)) % 64 = a + k by omega, show (64 * q + (a + k)) / 64 = q by omega, hdm, hbl, ← List.append_assoc, List.take_append_of_le_length (by simp [hql, htk]), List.take_of_length_le (by simp [hql, htk])]) (by rw [hm']; simp; omega)
   refine ⟨st', ?_, by rw [happ]; exact h2⟩
   rw [loopF_next (s' := (⟨st.state, vcp st.block a (bytesI (t.take k)), ((m.length + k : Nat) : Int)⟩, t.drop k))]
   ·exact h1
   ·unfold hash_Stream_Add.l2
    simp only [hat, hc, hrest]
    rw [if_pos (by simpa using hte), grd_b (by omega), grd_b (by omega), wrap_id (by omega) (by omega), if_neg (by simp; omega), hct, hnn]
    rfl
theorem Add_ok {st : hash_Stream} {m : List Int} (hs : StOk st m) (t : List UInt8) (hb : m.length + t.length < 4611686018427387904) : ∃ st', hash_Stream_Add st t = some st' ∧ StOk st' (m ++ bytesI t) := add_ok t.length t st m (Nat.le_refl _) hs hb
end Go.Cu


namespace Go.Cu
def IsB (l : List Int) : Prop := ∀ x ∈ l, 0 ≤ x ∧ x < 256
theorem IsB.app {a b : List Int} (h : IsB a) (k : IsB b) : IsB (a ++ b) := by
 intro x hx; rcases List.mem_append.1 hx with h' | h'
 ·exact h x h'
 ·exact k x h'
theorem bytesI_isB (s : List UInt8) : IsB (bytesI s) := by
 intro x hx
 obtain ⟨b, _, rfl⟩ := List.mem_map.1 hx
 have h : b.toNat < 256 := b.toNat_lt
 exact ⟨Int.natCast_nonneg _, Int.ofNat_lt.2 h⟩
theorem bytesI_intsB {l : List Int} (h : IsB l) : bytesI (intsB l) = l := by
 unfold bytesI intsB
 rw [List.map_map]
 conv => rhs; rw [← List.map_id l]
 apply List.map_congr_left
 intro x hx
 obtain ⟨h0, h1⟩ := h x hx
 have : x.toNat < 256 := by omega
 simp [UInt8.toNat_ofNat, Nat.mod_eq_of_lt this]
 omega
theorem intsB_bytesI (s : List UInt8) : intsB (bytesI s) = s := by
 unfold bytesI intsB
 rw [List.map_map]
 conv => rhs; rw [← List.map_id s]
 apply List.map_congr_left
 intro x _
 simp
theorem intsB_len (l : List Int) : (intsB l).length = l.length := by simp [intsB]
theorem loop_map {σ ρ : Type} {step : σ → Option (σ ⊕ ρ)} {s : σ} {o : Option ρ} (h : step s = o.map Sum.inr) : loopF step s = o := by
 rw [loopF_eq, h]
 cases o <;> rfl
theorem zero_loop {ρ : Type} {step : List Int → Option (List Int ⊕ ρ)} {G : List Int → Option ρ} (c B : Nat)
  (h : ∀ s : List Int, s.length ≤ B → step s = if (c + s.length) % 64 = 56 then (G s).map Sum.inr else some (.inl (s ++ [0]))) :
  ∀ (z : Nat) (s : List Int), (c + s.length + z) % 64 = 56 → z < 64 → s.length + z ≤ B → loopF step s = G (s ++ List.replicate z 0)
 | 0, s, h1, h2, h3 => by
  have := h s (by omega)
  rw [if_pos (by simpa using h1)] at this
  rw [loop_map this]; simp
 | z + 1, s, h1, h2, h3 => by
  have := h s (by omega)
  rw [if_neg (by omega)] at this
  rw [loopF_next this, zero_loop c B h z (s ++ [0]) (by simp; omega) (by omega) (by simp; omega)]
  rw [List.append_assoc]; rfl
theorem upF_app {α : Type} (f : Nat → α) : ∀ (n k : Nat) (x : List α), upF (fun i s => s ++ [f i]) k n x = x ++ (List.range' k n).map f
 | 0, k, x => by simp [upF]
 | n + 1, k, x => by rw [upF, upF_app f n, List.range'_succ, List.map_cons, List.append_assoc]; rfl
def byteL (L : Int) (j : Nat) : Int := IntKind.u8.wrap (shrI .u64 (IntKind.u64.wrap (8 * L)) (56 - 8 * (j : Int)))
def padS (L : Nat) : List Int := ([128] ++ List.replicate ((119 - L % 64) % 64) 0) ++ (List.range' 0 8).map (byteL L)
theorem padS_isB (L : Nat) : IsB (padS L) := by
 intro x hx
 unfold padS at hx
 rcases List.mem_append.1 hx with hx | hx
 ·rcases List.mem_append.1 hx with hx | hx
  ·simp at hx; subst hx; decide
  ·obtain ⟨_, rfl⟩ := List.mem_replicate.1 hx; decide
 ·obtain ⟨j, _, rfl⟩ := List.mem_map.1 hx
  exact wrap8_rng _
theorem padS_len (L : Nat) : (padS L).length = 1 + (119 - L % 64) % 64 + 8 := by simp [padS]; omega
def digI (s : Vector Int 8) (i : Nat) (o : Vector Int 32) : Vector Int 32 := vs o i (IntKind.u8.wrap (shrI .u32 (rd s.toList ((i / 4 : Nat) : Int)) (24 - 8 * ((i % 4 : Nat) : Int))))
def digS (s : Vector Int 8) : Vector Int 32 := upF (digI s) 0 32 (Vector.replicate 32 0)
theorem vs_isB {n : Nat} {v : Vector Int n} {i x : Int} (h : IsB v.toList) (hx : 0 ≤ x ∧ x < 256) : IsB (vs v i x).toList := by
 intro y hy
 rw [vs_toList] at hy
 rcases List.mem_or_eq_of_mem_set hy with h' | rfl
 ·exact h y h'
 ·exact hx
theorem upF_inv {σ : Type} {F : Nat → σ → σ} {I : σ → Prop} (h : ∀ i s, I s → I (F i s)) : ∀ (m k : Nat) (s : σ), I s → I (upF F k m s)
 | 0, _, s, hs => hs
 | m + 1, k, s, hs => upF_inv h m (k + 1) _ (h k s hs)
theorem digS_isB (s : Vector Int 8) : IsB (digS s).toList :=
 upF_inv (I := fun v : Vector Int 32 => IsB v.toList) (fun i v hv => vs_isB hv (wrap8_rng _)) _ _ _ (by
  intro x hx
  rw [Vector.toList_replicate] at hx
  obtain ⟨_, rfl⟩ := List.mem_replicate.1 hx; decide)
def allS (m : List Int) : List Int := m ++ padS m.length
def shaS (m : List Int) : Vector Int 32 := digS (chainS ((allS m).length / 64) h0S (allS m))
theorem tdiv4 (i : Nat) : Int.tdiv (i : Int) 4 = ((i / 4 : Nat) : Int) := rfl
theorem tmod4 (i : Nat) : Int.tmod (i : Int) 4 = ((i % 4 : Nat) : Int) := rfl
theorem tmod64 (i : Nat) : Int.tmod (i : Int) 64 = ((i % 64 : Nat) : Int) := rfl
theorem Sum_ok {st : hash_Stream} {m : List Int} (hs : StOk st m) (hb : m.length < 1152921504606846976) : hash_Stream_Sum st = some (shaS m) := by
 have hz : (119 - m.length % 64) % 64 < 64 := Nat.mod_lt _ (by decide)
 have h3 : ∀ x : List Int, x = padS m.length → hash_Stream_Sum.j3 st x = some (shaS m) := by
  intro x hx
  unfold hash_Stream_Sum.j3
  obtain ⟨st', e1, e2⟩ := Add_ok hs (intsB x) (by rw [intsB_len, hx, padS_len]; omega)
  rw [e1, bind_s]
  rw [bytesI_intsB (by rw [hx]; exact padS_isB _), hx] at e2
  refine (loop_up (step := hash_Stream_Sum.l2 st') (fun o i => (o, i)) (digI st'.state) (fun o => o) 32 (fun _ _ => True) ?_ ?_ 32 0 (Vector.replicate 32 0) rfl trivial).1.trans ?_
  ·intro i o hi _
   refine ⟨?_, trivial⟩
   unfold hash_Stream_Sum.l2
   have : i % 4 < 4 := Nat.mod_lt _ (by decide)
   simp only [tdiv4, tmod4, wrap_id (n := ((i / 4 : Nat) : Int)) (by omega) (by omega), wrap_id (n := 8 * ((i % 4 : Nat) : Int)) (by omega) (by omega), wrap_id (n := 24 - 8 * ((i % 4 : Nat) : Int)) (by omega) (by omega), wrap_id (n := (i : Int) + 1) (by omega) (by omega)]
   rw [ite_t (by omega), grd_b (by omega), grd_b (by omega), grd_b (by omega), bind_s]
   rfl
  ·intro o _
   unfold hash_Stream_Sum.l2
   simp only []
   rw [ite_f (by omega)]; rfl
  ·show some (digS st'.state) = _
   rw [e2.s]; rfl
 have h5 : ∀ x : List Int, x = [128] ++ List.replicate ((119 - m.length % 64) % 64) 0 → hash_Stream_Sum.j5 st x = some (shaS m) := by
  intro x hx
  unfold hash_Stream_Sum.j5
  have hxl : x.length = 1 + (119 - m.length % 64) % 64 := by rw [hx]; simp; omega
  refine loop_up (step := hash_Stream_Sum.l4 st) (fun o i => (o, i)) (fun i s => s ++ [byteL m.length i]) (fun o => shaS m) 8 (fun i s => s = x ++ (List.range' 0 i).map (byteL m.length)) ?_ ?_ 8 0 x rfl (by simp) |>.1
  ·intro i s hi hsx
   have hsl : s.length = x.length + i := by rw [hsx]; simp
   refine ⟨?_, by rw [hsx, List.append_assoc]; congr 1; rw [List.range'_concat]; simp⟩
   unfold hash_Stream_Sum.l4
   simp only [wrap_id (n := 8 * (i : Int)) (by omega) (by omega), wrap_id (n := 56 - 8 * (i : Int)) (by omega) (by omega), wrap_id (n := (i : Int) + 1) (by omega) (by omega), hs.n]
   rw [ite_t (by omega), grd_b (by omega), grd_b (by simp; omega)]
   rfl
  ·intro s hsx
   unfold hash_Stream_Sum.l4
   simp only []
   rw [ite_f (by omega), h3 s (by rw [hsx, hx]; rfl)]; rfl
 unfold hash_Stream_Sum
 rw [zero_loop (step := hash_Stream_Sum.l6 st) (G := hash_Stream_Sum.j5 st) m.length 68719476700 ?_ ((119 - m.length % 64) % 64) [128] (by simp; omega) hz (by simp; omega)]
 ·exact h5 _ rfl
 ·intro s hsl
  unfold hash_Stream_Sum.l6
  simp only [hs.n]
  rw [wrap_id (n := (m.length : Int)) (by omega) (by omega), wrap_id (by omega) (by omega), show (m.length : Int) + (s.length : Int) = ((m.length + s.length : Nat) : Int) by simp, tmod64]
  by_cases h : (m.length + s.length) % 64 = 56
  ·rw [if_pos h, if_neg (by simp; omega)]
  ·rw [if_neg h, if_pos (by simp; omega), grd_b (by simp; omega)]
theorem hash_Sum_ok (m : List Int) (hm : IsB m) (hb : m.length < 1152921504606846976) : hash_Sum m = some (shaS m) := by
 unfold hash_Sum
 obtain ⟨st, e1, e2⟩ := begin_ok
 obtain ⟨st', e3, e4⟩ := Add_ok e2 (intsB m) (by rw [intsB_len]; simp; omega)
 rw [bytesI_intsB hm, List.nil_append] at e4
 rw [e1, bind_s, e3, bind_s, Sum_ok e4 hb]; rfl
end Go.Cu


namespace Go.Cu
theorem bits8_rng (op : BinOp) (x y : Int) : 0 ≤ bits op .u8 x y ∧ bits op .u8 x y < 256 := by
 unfold bits
 exact wrap8_rng _
def padK (key : List UInt8) (w : Int) : List Int := (List.range' 0 64).map fun (i : Nat) => bits .xor .u8 (rd (bytesI key) (i : Int)) w
theorem padK_len (key : List UInt8) (w : Int) : (padK key w).length = 64 := by simp [padK]
theorem padK_isB (key : List UInt8) (w : Int) : IsB (padK key w) := by
 intro x hx
 obtain ⟨i, _, rfl⟩ := List.mem_map.1 hx
 exact bits8_rng _ _ _
theorem Mac_1_ok (key : List UInt8) (w : Int) (hk : key.length ≤ 64) : hash_Mac_1 w key = some (intsB (padK key w)) := by
 unfold hash_Mac_1
 have e0 : (0 : Int).toNat = 0 := rfl
 have e64 : (64 : Int).toNat = 64 := rfl
 have hbl : (bytesI key).length = key.length := bytesI_len key
 rw [e0, e64, List.take_of_length_le (by omega)]
 obtain ⟨v0, hv0⟩ : ∃ v0, v0 = vcp (Vector.replicate 64 (0 : Int)) 0 (bytesI key) := ⟨_, rfl⟩
 rw [← hv0]
 have hl : v0.toList = bytesI key ++ List.replicate (64 - key.length) 0 := by
  rw [hv0, vcp_list _ _ _ (by omega), List.take_zero, List.nil_append, Nat.zero_add, hbl, Vector.toList_replicate, List.drop_replicate]
 have hll : v0.toList.length = 64 := by simp
 obtain ⟨h1, h2⟩ := loop_up (step := hash_Mac_1.l2 w) (fun o i => (o, i)) (fun i s => vs s i (bits .xor .u8 (rd s.toList i) w)) (fun s : Vector Int 64 => intsB ((s.toList.take 64).drop 0)) 64
  (fun i s => s.toList = (List.range' 0 i).map (fun (j : Nat) => bits .xor .u8 (rd v0.toList (j : Int)) w) ++ v0.toList.drop i) (by
   intro i s hi hs
   refine ⟨?_, ?_⟩
   ·unfold hash_Mac_1.l2
    simp only [wrap_id (n := (i : Int) + 1) (by omega) (by omega)]
    rw [ite_t (by omega), grd_b (by omega), grd_b (by omega)]
   ·have hd : v0.toList.drop i = v0.toList[i] :: v0.toList.drop (i + 1) := List.drop_eq_getElem_cons (by omega)
    have hal : ((List.range' 0 i).map (fun (j : Nat) => bits .xor .u8 (rd v0.toList (j : Int)) w)).length = i := by simp
    obtain ⟨A, hA⟩ : ∃ A, A = (List.range' 0 i).map (fun (j : Nat) => bits .xor .u8 (rd v0.toList (j : Int)) w) := ⟨_, rfl⟩
    rw [← hA] at hal hs
    have hr : rd s.toList (i : Int) = rd v0.toList (i : Int) := by
     rw [hs]
     simp only [rd, List.getD, Int.toNat_natCast]
     rw [List.getElem?_append_right (by omega), hal, Nat.sub_self, List.getElem?_drop, Nat.add_zero]
    have hx : (List.range' 0 (i + 1)).map (fun (j : Nat) => bits .xor .u8 (rd v0.toList (j : Int)) w) = A ++ [bits .xor .u8 (rd v0.toList (i : Int)) w] := by
     rw [List.range'_concat, List.map_append, ← hA]; simp
    rw [vs_toList, hr, hx, hs, Int.toNat_natCast, List.set_append_right _ _ (by omega), hal, Nat.sub_self, hd, List.set_cons_zero, List.append_assoc]; rfl) (by
   intro s hs
   unfold hash_Mac_1.l2
   simp only []
   rw [ite_f (by omega)]; rfl) 64 0 v0 rfl (by simp)
 have hpad : (List.range' 0 64).map (fun (j : Nat) => bits .xor .u8 (rd v0.toList (j : Int)) w) = padK key w := by
  unfold padK
  apply List.map_congr_left
  intro j hj
  have : rd v0.toList (j : Int) = rd (bytesI key) (j : Int) := by
   rw [hl]
   simp only [rd, List.getD, Int.toNat_natCast]
   by_cases h : j < key.length
   ·rw [List.getElem?_append_left (by omega)]
   ·rw [List.getElem?_append_right (by omega), List.getElem?_eq_none (l := bytesI key) (by omega), List.getElem?_replicate]
    split <;> rfl
  rw [this]
 refine h1.trans ?_
 rw [h2, hpad, List.drop_zero, List.drop_of_length_le (l := v0.toList) (by omega), List.append_nil, List.take_of_length_le (by rw [padK_len]; decide)]
def keyS (key : List UInt8) : List UInt8 := if 64 < key.length then intsB (shaS (bytesI key)).toList else key
def macS (key text : List UInt8) : List UInt8 :=
 intsB (shaS (padK (keyS key) 92 ++ (shaS (padK (keyS key) 54 ++ bytesI text)).toList)).toList
theorem shaS_isB (m : List Int) : IsB (shaS m).toList := digS_isB _
theorem take32 (v : Vector Int 32) : ((v.toList.take (32 : Int).toNat).drop (0 : Int).toNat) = v.toList := by
 show (v.toList.take 32).drop 0 = _
 rw [List.drop_zero, List.take_of_length_le (by simp)]
theorem Mac_ok (key text : List UInt8) (h1 : key.length < 1152921504606846976) (h2 : text.length < 1152921504606846000) : hash_Mac key text = some (macS key text) := by
 have hj : ∀ k : List UInt8, k.length ≤ 64 → hash_Mac.j1 k text = some (intsB (shaS (padK k 92 ++ (shaS (padK k 54 ++ bytesI text)).toList)).toList) := by
  intro k hk
  unfold hash_Mac.j1
  obtain ⟨st, e1, e2⟩ := begin_ok
  rw [e1, bind_s, Mac_1_ok k 54 hk, bind_s]
  obtain ⟨s1, f1, f2⟩ := Add_ok e2 (intsB (padK k 54)) (by rw [intsB_len, padK_len]; decide)
  rw [bytesI_intsB (padK_isB _ _), List.nil_append] at f2
  obtain ⟨s2, g1, g2⟩ := Add_ok f2 text (by rw [padK_len]; omega)
  rw [f1, bind_s, g1, bind_s, Sum_ok g2 (by rw [List.length_append, padK_len, bytesI_len]; omega), bind_s, bind_s, Mac_1_ok k 92 hk, bind_s]
  obtain ⟨s3, k1, k2⟩ := Add_ok e2 (intsB (padK k 92)) (by rw [intsB_len, padK_len]; decide)
  rw [bytesI_intsB (padK_isB _ _), List.nil_append] at k2
  obtain ⟨s4, l1, l2⟩ := Add_ok k2 (intsB (shaS (padK k 54 ++ bytesI text)).toList) (by rw [padK_len, intsB_len]; simp)
  rw [bytesI_intsB (shaS_isB _)] at l2
  rw [k1, bind_s, take32, l1, bind_s, Sum_ok l2 (by rw [List.length_append, padK_len]; simp), bind_s, take32]
 unfold hash_Mac
 by_cases hk : 64 < key.length
 ·rw [ite_t (by omega), hash_Sum_ok _ (bytesI_isB _) (by rw [bytesI_len]; exact h1), bind_s, take32, hj _ (by rw [intsB_len]; simp)]
  unfold macS keyS; rw [if_pos hk]
 ·rw [ite_f (by omega), hj _ (by omega)]
  unfold macS keyS; rw [if_neg hk]
theorem macS_len (key text : List UInt8) : (macS key text).length = 32 := by
 unfold macS; rw [intsB_len]; simp
end Go.Cu


namespace Go.Cu
theorem bits_or_comm (k : IntKind) (x y : Int) : bits .or k x y = bits .or k y x := by
 unfold bits; simp only [BitVec.or_comm]
theorem bits_xor_comm (k : IntKind) (x y : Int) : bits .xor k x y = bits .xor k y x := by
 unfold bits; simp only [BitVec.xor_comm]
theorem bits_or_nat {x y : Nat} (hx : x < 4294967296) (hy : y < 4294967296) : bits .or .u32 (x : Int) (y : Int) = ((x ||| y : Nat) : Int) := by
 have h : (x ||| y) < 4294967296 := Nat.or_lt_two_pow (n := 32) hx hy
 unfold bits
 have e1 : (BitVec.ofInt IntKind.u32.bits (x : Int)).toNat = x := by
  show ((x : Int) % (2 ^ 32 : Nat)).toNat = x
  omega
 have e2 : (BitVec.ofInt IntKind.u32.bits (y : Int)).toNat = y := by
  show ((y : Int) % (2 ^ 32 : Nat)).toNat = y
  omega
 simp only [BitVec.toNat_or, e1, e2]
 exact wrap32_id (by omega) (by omega)
theorem or_add {a b : Nat} (i : Nat) (hb : b < 2 ^ i) : (a * 2 ^ i ||| b) = a * 2 ^ i + b := by
 have := Nat.shiftLeft_add_eq_or_of_lt hb a
 rw [Nat.shiftLeft_eq] at this
 exact this.symm
theorem shl32 {x : Nat} {j : Nat} (hj : j ≤ 32) (h : x * 2 ^ j < 4294967296) : shlI .u32 (x : Int) (j : Int) = ((x * 2 ^ j : Nat) : Int) := by
 unfold shlI
 have : min (j : Int).toNat IntKind.u32.bits = j := by
  show min (j : Int).toNat 32 = j
  omega
 rw [this]
 have e : ((x : Int) * 2 ^ j) = ((x * 2 ^ j : Nat) : Int) := by push_cast; rfl
 rw [e]
 exact wrap32_id (by omega) (by omega)
theorem be1_nat {a b : Nat} (ha : a < 16777216) (hb : b < 256) : be1 (a : Int) (b : Int) = ((a * 256 + b : Nat) : Int) := by
 unfold be1
 rw [show (8 : Int) = ((8 : Nat) : Int) from rfl, shl32 (by decide) (by omega), wrap32_id (by omega) (by omega), bits_or_nat (by omega) (by omega), or_add 8 (by omega)]
theorem be4_ref {p : List Int} {i : Nat} (hp : IsB p) (h : 4 * i + 4 ≤ p.length) :
  bits .or .u32 (bits .or .u32 (bits .or .u32 (shlI .u32 (IntKind.u32.wrap (rd p (4 * (i : Int)))) 24) (shlI .u32 (IntKind.u32.wrap (rd p (4 * (i : Int) + 1))) 16)) (shlI .u32 (IntKind.u32.wrap (rd p (4 * (i : Int) + 2))) 8)) (IntKind.u32.wrap (rd p (4 * (i : Int) + 3))) = be4 p i := by
 have z : ∀ m : Nat, m < p.length → ∃ b : Nat, b < 256 ∧ rd p (m : Int) = (b : Int) := by
  intro m hm
  have e : rd p (m : Int) = p[m] := by simp [rd, List.getD, hm]
  have := hp p[m] (List.getElem_mem hm)
  exact ⟨(p[m]).toNat, by omega, by rw [e]; omega⟩
 obtain ⟨b0, l0, e0⟩ := z (4 * i) (by omega)
 obtain ⟨b1, l1, e1⟩ := z (4 * i + 1) (by omega)
 obtain ⟨b2, l2, e2⟩ := z (4 * i + 2) (by omega)
 obtain ⟨b3, l3, e3⟩ := z (4 * i + 3) (by omega)
 unfold be4
 rw [e0, e1, e2, e3]
 have f0 : rd p (4 * (i : Int)) = b0 := by rw [← e0]; congr 1
 have f1 : rd p (4 * (i : Int) + 1) = b1 := by rw [← e1]; congr 1
 have f2 : rd p (4 * (i : Int) + 2) = b2 := by rw [← e2]; congr 1
 have f3 : rd p (4 * (i : Int) + 3) = b3 := by rw [← e3]; congr 1
 rw [f0, f1, f2, f3]
 rw [show (0 : Int) = ((0 : Nat) : Int) from rfl, be1_nat (by omega) l0, be1_nat (by omega) l1, be1_nat (by omega) l2, be1_nat (by omega) l3]
 rw [wrap32_id (n := (b0 : Int)) (by omega) (by omega), wrap32_id (n := (b1 : Int)) (by omega) (by omega), wrap32_id (n := (b2 : Int)) (by omega) (by omega), wrap32_id (n := (b3 : Int)) (by omega) (by omega)]
 rw [show (24 : Int) = ((24 : Nat) : Int) from rfl, show (16 : Int) = ((16 : Nat) : Int) from rfl, show (8 : Int) = ((8 : Nat) : Int) from rfl, shl32 (by decide) (by omega), shl32 (by decide) (by omega), shl32 (by decide) (by omega)]
 rw [bits_or_nat (by omega) (by omega), or_add 24 (by omega), show b0 * 2 ^ 24 + b1 * 2 ^ 16 = (b0 * 256 + b1) * 2 ^ 16 by omega, bits_or_nat (by omega) (by omega), or_add 16 (by omega), show (b0 * 256 + b1) * 2 ^ 16 + b2 * 2 ^ 8 = ((b0 * 256 + b1) * 256 + b2) * 2 ^ 8 by omega, bits_or_nat (by omega) (by omega), or_add 8 (by omega)]
 omega
theorem rotr_ok {x : Int} {k : Int} (h0 : 0 ≤ k) (h1 : k ≤ 32) : ref02_rotr x k = some (rr x k) := by
 unfold ref02_rotr
 rw [grd_b (by omega), wrap_id (by omega) (by omega), grd_b (by omega), bits_or_comm]; rfl
theorem words_ok (p : List Int) (hp : p.length = 64) (hb : IsB p) : ref02_words p = some (schedS p) := by
 have h2 : ∀ w : Vector Int 64, ref02_words.j3 w = some (upF (stW p) 16 48 w) := by
  intro w
  unfold ref02_words.j3
  refine (loop_up (step := ref02_words.l2) (fun w i => (w, i)) (stW p) (fun w => w) 64 (fun k _ => 16 ≤ k) ?_ ?_ 48 16 w rfl (Nat.le_refl _)).1
  ·intro i u hi h16
   refine ⟨?_, by omega⟩
   unfold ref02_words.l2
   simp only [wrap_id (n := (i : Int) - 15) (by omega) (by omega), wrap_id (n := (i : Int) - 2) (by omega) (by omega), wrap_id (n := (i : Int) - 16) (by omega) (by omega), wrap_id (n := (i : Int) - 7) (by omega) (by omega), wrap_id (n := (i : Int) + 1) (by omega) (by omega)]
   rw [ite_t (by omega), grd_b (by omega), rotr_ok (by decide) (by decide), bind_s, grd_b (by omega), rotr_ok (by decide) (by decide), bind_s, grd_b (by omega), grd_b (by omega), rotr_ok (by decide) (by decide), bind_s, grd_b (by omega), rotr_ok (by decide) (by decide), bind_s, grd_b (by omega), grd_b (by omega), grd_b (by omega), grd_b (by omega), bind_s]
   unfold stW; rw [if_neg (by omega)]; rfl
  ·intro u _
   unfold ref02_words.l2
   simp only []
   rw [ite_f (by omega)]; rfl
 unfold ref02_words schedS
 have ea : upF (stW p) 0 64 (Vector.replicate 64 0) = upF (stW p) 16 48 (upF (stW p) 0 16 (Vector.replicate 64 0)) := upF_add (stW p) 16 48 0 _
 rw [ea]
 refine (loop_up (step := ref02_words.l4 p) (fun w i => (w, i)) (stW p) (fun w => upF (stW p) 16 48 w) 16 (fun _ _ => True) ?_ ?_ 16 0 (Vector.replicate 64 0) rfl trivial).1
 ·intro i u hi _
  refine ⟨?_, trivial⟩
  unfold ref02_words.l4
  simp only [wrap_id (n := 4 * (i : Int)) (by omega) (by omega), wrap_id (n := 4 * (i : Int) + 1) (by omega) (by omega), wrap_id (n := 4 * (i : Int) + 2) (by omega) (by omega), wrap_id (n := 4 * (i : Int) + 3) (by omega) (by omega), wrap_id (n := (i : Int) + 1) (by omega) (by omega)]
  rw [ite_t (by omega), grd_b (by omega), grd_b (by omega), grd_b (by omega), grd_b (by omega), grd_b (by omega), bind_s, be4_ref hb (by omega)]
  unfold stW; rw [if_pos hi]
 ·intro u _
  unfold ref02_words.l4
  simp only []
  rw [ite_f (by omega), h2]; rfl
end Go.Cu


namespace Go.Cu
def pack (a : Vector Int 4 × Vector Int 4) : Vector Int 8 := #v[rd a.1.toList 0, rd a.1.toList 1, rd a.1.toList 2, rd a.1.toList 3, rd a.2.toList 0, rd a.2.toList 1, rd a.2.toList 2, rd a.2.toList 3]
def xR (s : Vector Int 8) (k w : Int) : Int :=
 IntKind.u32.wrap (IntKind.u32.wrap (IntKind.u32.wrap (IntKind.u32.wrap (rd s.toList 7 + bits .xor .u32 (bits .xor .u32 (rr (rd s.toList 4) 6) (rr (rd s.toList 4) 11)) (rr (rd s.toList 4) 25)) + bits .xor .u32 (bits .and .u32 (rd s.toList 4) (rd s.toList 5)) (bits .and .u32 (bits .xor .u32 (rd s.toList 4) 4294967295) (rd s.toList 6))) + k) + w)
def yR (s : Vector Int 8) : Int :=
 IntKind.u32.wrap (bits .xor .u32 (bits .xor .u32 (rr (rd s.toList 0) 2) (rr (rd s.toList 0) 13)) (rr (rd s.toList 0) 22) + bits .xor .u32 (bits .xor .u32 (bits .and .u32 (rd s.toList 0) (rd s.toList 1)) (bits .and .u32 (rd s.toList 0) (rd s.toList 2))) (bits .and .u32 (rd s.toList 1) (rd s.toList 2)))
def rndR (w : Vector Int 64) (i : Nat) (s : Vector Int 8) : Vector Int 8 :=
 #v[IntKind.u32.wrap (xR s (rd ref02_constants.toList i) (rd w.toList i) + yR s), rd s.toList 0, rd s.toList 1, rd s.toList 2, IntKind.u32.wrap (rd s.toList 3 + xR s (rd ref02_constants.toList i) (rd w.toList i)), rd s.toList 4, rd s.toList 5, rd s.toList 6]
theorem xR_pack (a : Vector Int 4 × Vector Int 4) (k w : Int) : xR (pack a) k w = xS a.2 k w := by
 unfold xR xS
 have : bits .xor .u32 (rd (pack a).toList 4) 4294967295 = bits .xor .u32 IntKind.u32.max (rd a.2.toList 0) := by
  rw [bits_xor_comm]; rfl
 rw [this]; rfl
theorem rndR_pack (w : Vector Int 64) (i : Nat) (a : Vector Int 4 × Vector Int 4) : rndR w i (pack a) = pack (rndS w i a) := by
 unfold rndR
 rw [xR_pack]; rfl
theorem upF_pack (w : Vector Int 64) : ∀ (m k : Nat) (a : Vector Int 4 × Vector Int 4), upF (rndR w) k m (pack a) = pack (upF (rndS w) k m a)
 | 0, _, _ => rfl
 | m + 1, k, a => by rw [upF, upF, rndR_pack, upF_pack w m]
theorem v8_cases (s : Vector Int 8) : ∃ a b c d e f g h, s = #v[a, b, c, d, e, f, g, h] := by
 refine ⟨s[0], s[1], s[2], s[3], s[4], s[5], s[6], s[7], ?_⟩
 apply Vector.ext
 intro i hi
 match i, hi with
 | 0, _ => rfl
 | 1, _ => rfl
 | 2, _ => rfl
 | 3, _ => rfl
 | 4, _ => rfl
 | 5, _ => rfl
 | 6, _ => rfl
 | 7, _ => rfl
theorem pack_lv (s : Vector Int 8) : pack (lv s.toList 0 4, lv s.toList 4 4) = s := by
 obtain ⟨a, b, c, d, e, f, g, h, rfl⟩ := v8_cases s
 rfl
def finR (r : Vector Int 8) (i : Nat) (s : Vector Int 8) : Vector Int 8 := vs s i (IntKind.u32.wrap (rd s.toList i + rd r.toList i))
theorem upF_ind {σ : Type} {F : Nat → σ → σ} {I : Nat → σ → Prop} (N : Nat) (h : ∀ i s, i < N → I i s → I (i + 1) (F i s)) : ∀ (m k : Nat) (s : σ), k + m ≤ N → I k s → I (k + m) (upF F k m s)
 | 0, k, s, _, hs => hs
 | m + 1, k, s, hk, hs => by
  have := upF_ind N h m (k + 1) (F k s) (by omega) (h k s (by omega) hs)
  rw [show k + (m + 1) = k + 1 + m by omega]; exact this
theorem v8_ext {u v : Vector Int 8} (h : ∀ j : Nat, j < 8 → rd u.toList (j : Int) = rd v.toList (j : Int)) : u = v := by
 apply Vector.ext
 intro i hi
 have := h i hi
 simpa [rd, List.getD, hi] using this
theorem finR_at (r s : Vector Int 8) (j : Nat) (hj : j < 8) : rd (upF (finR r) 0 8 s).toList (j : Int) = IntKind.u32.wrap (rd s.toList (j : Int) + rd r.toList (j : Int)) := by
 have := upF_ind (F := finR r) (I := fun i u => ∀ j : Nat, j < 8 → rd u.toList (j : Int) = if j < i then IntKind.u32.wrap (rd s.toList (j : Int) + rd r.toList (j : Int)) else rd s.toList (j : Int)) 8 (by
  intro i u hi hu j hj
  unfold finR
  by_cases e : j = i
  ·subst e
   rw [rd_vs _ _ _ (by omega) (by omega), hu j hj, if_neg (by omega), if_pos (by omega)]
  ·rw [rd_vs_ne _ _ _ _ (by omega), hu j hj]
   by_cases h : j < i
   ·rw [if_pos h, if_pos (by omega)]
   ·rw [if_neg h, if_neg (by omega)]) 8 0 s (Nat.le_refl _) (fun j _ => by rw [if_neg (by omega)])
 have := this j hj
 rw [if_pos (by omega)] at this; exact this
theorem finI_at (v e : Vector Int 4) (s : Vector Int 8) (j : Nat) (hj : j < 8) : rd (upF (finI v e) 0 4 s).toList (j : Int) = IntKind.u32.wrap (rd s.toList (j : Int) + (if j < 4 then rd v.toList (j : Int) else rd e.toList ((j - 4 : Nat) : Int))) := by
 have := upF_ind (F := finI v e) (I := fun i u => ∀ j : Nat, j < 8 → rd u.toList (j : Int) = if j < i ∨ (4 ≤ j ∧ j < i + 4) then IntKind.u32.wrap (rd s.toList (j : Int) + (if j < 4 then rd v.toList (j : Int) else rd e.toList ((j - 4 : Nat) : Int))) else rd s.toList (j : Int)) 4 (by
  intro i u hi hu j hj
  unfold finI
  have ei : ((i : Int) + 4) = ((i + 4 : Nat) : Int) := by omega
  rw [ei]
  by_cases h1 : j = i + 4
  ·subst h1
   rw [rd_vs _ _ _ (by omega) (by omega), rd_vs_ne _ _ _ _ (by omega), hu _ hj, if_neg (by omega), if_pos (by omega), if_neg (by omega), Nat.add_sub_cancel]
  ·rw [rd_vs_ne _ _ _ _ (by omega)]
   by_cases h2 : j = i
   ·subst h2
    rw [rd_vs _ _ _ (by omega) (by omega), hu _ hj, if_neg (by omega), if_pos (by omega), if_pos (by omega)]
   ·rw [rd_vs_ne _ _ _ _ (by omega), hu j hj]
    by_cases h : j < i ∨ (4 ≤ j ∧ j < i + 4)
    ·have h' : j < i + 1 ∨ (4 ≤ j ∧ j < i + 1 + 4) := by omega
     rw [if_pos h, if_pos h']
    ·have h' : ¬ (j < i + 1 ∨ (4 ≤ j ∧ j < i + 1 + 4)) := by omega
     rw [if_neg h, if_neg h']) 4 0 s (Nat.le_refl _) (fun j _ => by rw [if_neg (by omega)])
 have := this j hj
 rw [if_pos (by omega)] at this; exact this
theorem fin_eq (r : Vector Int 4 × Vector Int 4) (s : Vector Int 8) : upF (finR (pack r)) 0 8 s = upF (finI r.1 r.2) 0 4 s := by
 apply v8_ext
 intro j hj
 rw [finR_at _ _ _ hj, finI_at _ _ _ _ hj]
 match j, hj with
 | 0, _ => rfl
 | 1, _ => rfl
 | 2, _ => rfl
 | 3, _ => rfl
 | 4, _ => rfl
 | 5, _ => rfl
 | 6, _ => rfl
 | 7, _ => rfl
theorem block_ok (s : Vector Int 8) (p : List Int) : upF (finR (upF (rndR (schedS p)) 0 64 s)) 0 8 s = compS s p := by
 have : upF (rndR (schedS p)) 0 64 s = pack (upF (rndS (schedS p)) 0 64 (lv s.toList 0 4, lv s.toList 4 4)) := by
  rw [← upF_pack, pack_lv]
 rw [this, fin_eq]; rfl
theorem padded_ok (m : List Int) (hb : m.length < 68719470000) : ref02_padded m = some (allS m) := by
 have hz : (119 - m.length % 64) % 64 < 64 := Nat.mod_lt _ (by decide)
 have h3 : ∀ x : List Int, x.length < 68719476700 → ref02_padded.j3 m x = some (x ++ (List.range' 0 8).map (byteL m.length)) := by
  intro x hx
  unfold ref02_padded.j3
  rw [← upF_app]
  refine loop_up (step := ref02_padded.l2 m) (fun o i => (o, i)) (fun i s => s ++ [byteL m.length i]) (fun o => o) 8 (fun i s => s.length = x.length + i) ?_ ?_ 8 0 x rfl (by simp) |>.1
  ·intro i s hi hsl
   refine ⟨?_, by simp; omega⟩
   unfold ref02_padded.l2
   simp only [wrap_id (n := 8 * (i : Int)) (by omega) (by omega), wrap_id (n := 56 - 8 * (i : Int)) (by omega) (by omega), wrap_id (n := (i : Int) + 1) (by omega) (by omega), wrap64_id (n := (m.length : Int)) (by omega) (by omega)]
   rw [ite_t (by omega), grd_b (by omega), grd_b (by simp; omega)]
   rfl
  ·intro s _
   unfold ref02_padded.l2
   simp only []
   rw [ite_f (by omega)]; rfl
 unfold ref02_padded
 rw [grd_b (by simp; omega), grd_b (by simp; omega)]
 rw [zero_loop (step := ref02_padded.l4 m) (G := ref02_padded.j3 m) 0 68719476600 ?_ ((119 - m.length % 64) % 64) _ (by simp; omega) hz (by simp; omega), h3 _ (by simp; omega)]
 ·unfold allS padS; simp [List.append_assoc]
 ·intro s hsl
  unfold ref02_padded.l4
  rw [tmod64]
  by_cases h : s.length % 64 = 56
  ·have h' : (0 + s.length) % 64 = 56 := by omega
   rw [if_pos h', if_neg (by simp; omega)]
  ·have h' : ¬ (0 + s.length) % 64 = 56 := by omega
   rw [if_neg h', if_pos (by simp; omega), grd_b (by simp; omega)]
theorem chainS_drop (s : Vector Int 8) (m : List Int) (n q : Nat) : chainS (n + 1) s (m.drop (64 * q)) = chainS n (compS s ((m.drop (64 * q)).take 64)) (m.drop (64 * (q + 1))) := by
 rw [chainS, List.drop_drop]; rfl
theorem allS_len (m : List Int) : (allS m).length = 64 * ((allS m).length / 64) := by
 have : (allS m).length = m.length + (1 + (119 - m.length % 64) % 64 + 8) := by unfold allS; rw [List.length_append, padS_len]
 omega
theorem allS_isB {m : List Int} (h : IsB m) : IsB (allS m) := h.app (padS_isB _)
theorem IsB.sub {l k : List Int} (h : IsB l) (hk : ∀ x ∈ k, x ∈ l) : IsB k := fun x hx => h x (hk x hx)
theorem ref_out (s : Vector Int 8) : ref02_Sum.j3 s = some (digS s) := by
 unfold ref02_Sum.j3
 refine (loop_up (step := ref02_Sum.l2 s) (fun o i => (o, i)) (digI s) (fun o => o) 32 (fun _ _ => True) ?_ ?_ 32 0 (Vector.replicate 32 0) rfl trivial).1
 ·intro i o hi _
  refine ⟨?_, trivial⟩
  unfold ref02_Sum.l2
  have : i % 4 < 4 := Nat.mod_lt _ (by decide)
  simp only [tdiv4, tmod4, wrap_id (n := ((i / 4 : Nat) : Int)) (by omega) (by omega), wrap_id (n := 8 * ((i % 4 : Nat) : Int)) (by omega) (by omega), wrap_id (n := 24 - 8 * ((i % 4 : Nat) : Int)) (by omega) (by omega), wrap_id (n := (i : Int) + 1) (by omega) (by omega)]
  rw [ite_t (by omega), grd_b (by omega), grd_b (by omega), grd_b (by omega), bind_s]
  rfl
 ·intro o _
  unfold ref02_Sum.l2
  simp only []
  rw [ite_f (by omega)]; rfl
theorem ref_block (t : List Int) (s : Vector Int 8) (q : Nat) (hq : 64 * (q + 1) ≤ t.length) (hl : t.length < 68719476736) (hb : IsB t) :
  ref02_Sum.l8 t (s, ((64 * q : Nat) : Int)) = some (.inl (compS s ((t.drop (64 * q)).take 64), ((64 * (q + 1) : Nat) : Int))) := by
 have hsl : ((t.take (((64 * q : Nat) : Int) + 64).toNat).drop (((64 * q : Nat) : Int)).toNat) = (t.drop (64 * q)).take 64 := by
  rw [show (((64 * q : Nat) : Int) + 64).toNat = 64 * q + 64 by omega, show (((64 * q : Nat) : Int)).toNat = 64 * q by omega, List.drop_take]; congr 1; omega
 have hpl : ((t.drop (64 * q)).take 64).length = 64 := by simp; omega
 unfold ref02_Sum.l8
 simp only [wrap_id (n := ((64 * q : Nat) : Int) + 64) (by omega) (by omega), hsl]
 rw [ite_t (by omega), grd_b (by omega), words_ok _ hpl (hb.sub fun x hx => List.mem_of_mem_drop (List.mem_of_mem_take hx)), bind_s]
 obtain ⟨p, hp⟩ : ∃ p, p = (t.drop (64 * q)).take 64 := ⟨_, rfl⟩
 rw [← hp]
 have hfin : ∀ r : Vector Int 8, ref02_Sum.j6 r (s, ((64 * q : Nat) : Int)) = some (.inl (upF (finR r) 0 8 s, ((64 * (q + 1) : Nat) : Int))) := by
  intro r
  unfold ref02_Sum.j6
  refine (loop_up (step := ref02_Sum.l5 r (s, ((64 * q : Nat) : Int))) (fun o i => (o, i)) (finR r) (fun o => .inl (o, ((64 * (q + 1) : Nat) : Int))) 8 (fun _ _ => True) ?_ ?_ 8 0 s rfl trivial).1
  ·intro i o hi _
   refine ⟨?_, trivial⟩
   unfold ref02_Sum.l5
   simp only [wrap_id (n := (i : Int) + 1) (by omega) (by omega)]
   rw [ite_t (by omega), grd_b (by omega), grd_b (by omega), grd_b (by omega)]
   rfl
  ·intro o _
   unfold ref02_Sum.l5 ref02_Sum.j4
   simp only [wrap_id (n := ((64 * q : Nat) : Int) + 64) (by omega) (by omega)]
   rw [ite_f (by omega)]
   show some (Sum.inr (Sum.inl (o, ((64 * q : Nat) : Int) + 64))) = _
   congr 4
 rw [← block_ok]
 refine (loop_up (step := ref02_Sum.l7 (schedS p) (s, ((64 * q : Nat) : Int))) (fun o i => (o, i)) (rndR (schedS p)) (fun r => .inl (upF (finR r) 0 8 s, ((64 * (q + 1) : Nat) : Int))) 64 (fun _ _ => True) ?_ ?_ 64 0 s rfl trivial).1
 ·intro i o hi _
  refine ⟨?_, trivial⟩
  unfold ref02_Sum.l7
  simp only [wrap_id (n := (i : Int) + 1) (by omega) (by omega)]
  rw [ite_t (by omega), rotr_ok (by decide) (by decide), bind_s, rotr_ok (by decide) (by decide), bind_s, rotr_ok (by decide) (by decide), bind_s, grd_b (by omega), grd_b (by omega), rotr_ok (by decide) (by decide), bind_s, rotr_ok (by decide) (by decide), bind_s, rotr_ok (by decide) (by decide), bind_s]
  rfl
 ·intro o _
  unfold ref02_Sum.l7
  simp only []
  rw [ite_f (by omega), hfin]; rfl
theorem ref_chain (t : List Int) (hl : t.length < 68719476736) (hb : IsB t) : ∀ (n q : Nat) (s : Vector Int 8), t.length = 64 * (q + n) → loopF (ref02_Sum.l8 t) (s, ((64 * q : Nat) : Int)) = some (digS (chainS n s (t.drop (64 * q))))
 | 0, q, s, h => by
  rw [loopF_done]
  unfold ref02_Sum.l8
  simp only []
  rw [ite_f (by omega), ref_out]; rfl
 | n + 1, q, s, h => by
  rw [loopF_next (ref_block t s q (by omega) hl hb), ref_chain t hl hb n (q + 1) _ (by omega), chainS_drop]
theorem ref02_Sum_ok (m : List Int) (hm : IsB m) (hb : m.length < 68719470000) : ref02_Sum m = some (shaS m) := by
 unfold ref02_Sum
 rw [padded_ok m hb, bind_s]
 have hl : (allS m).length < 68719476736 := by unfold allS; rw [List.length_append, padS_len]; omega
 exact ref_chain (allS m) hl (allS_isB hm) ((allS m).length / 64) 0 h0S (by rw [Nat.zero_add]; exact allS_len m)
end Go.Cu


namespace Go.Cu
theorem rng_take (l : List Int) (n : Nat) (h : l.length = n) : (List.range' 0 n).map (fun (j : Nat) => rd l (j : Int)) = l := by
 apply List.ext_getElem
 ·simp [h]
 ·intro i h1 h2
  simp [rd, List.getD, h2]
theorem Bytes32_ok (v : Vector Int 32) : ref02_Bytes32 v = some (intsB v.toList) := by
 unfold ref02_Bytes32
 refine (loop_up (step := ref02_Bytes32.l2 v) (fun o i => (o, i)) (fun i s => s ++ [rd v.toList (i : Int)]) (fun o => intsB o) 32 (fun i s => s.length = i) ?_ ?_ 32 0 [] rfl rfl).1.trans ?_
 ·intro i s hi hsl
  refine ⟨?_, by simp; omega⟩
  unfold ref02_Bytes32.l2
  simp only [wrap_id (n := (i : Int) + 1) (by omega) (by omega)]
  rw [ite_t (by omega), grd_b (by omega), grd_b (by simp; omega)]
 ·intro s _
  unfold ref02_Bytes32.l2
  simp only []
  rw [ite_f (by omega)]; rfl
 ·rw [upF_app (fun j => rd v.toList (j : Int)), List.nil_append, rng_take _ _ (by simp)]
theorem padKey_ok (key : List UInt8) (w : Int) (h1 : key.length < 68719470000) : ref02_padKey key w = some (padK (keyS key) w) := by
 have hj : ∀ k : List UInt8, k.length ≤ 64 → ref02_padKey.j4 k w = some (padK k w) := by
  intro k hk
  have hbl : (bytesI k).length = k.length := bytesI_len k
  unfold ref02_padKey.j4
  refine (loop_up (step := ref02_padKey.l3 k w) (fun o i => (o, i)) (fun i s => s ++ [bits .xor .u8 (rd (bytesI k) (i : Int)) w]) (fun o => o) 64 (fun i s => s.length = i) ?_ ?_ 64 0 [] rfl rfl).1.trans ?_
  ·intro i s hi hsl
   refine ⟨?_, by simp; omega⟩
   unfold ref02_padKey.l3 ref02_padKey.j2
   simp only [wrap_id (n := (i : Int) + 1) (by omega) (by omega)]
   rw [ite_t (by omega)]
   by_cases h : i < k.length
   ·have : sbyte k (i : Int) = rd (bytesI k) (i : Int) := by
     simp [sbyte, rd, List.getD, bytesI, h]
    rw [ite_t (by omega), grd_b (by omega), grd_b (by simp; omega), this]
   ·have : (0 : Int) = rd (bytesI k) (i : Int) := by
     simp only [rd, List.getD, Int.toNat_natCast]
     rw [List.getElem?_eq_none (by omega)]; rfl
    rw [ite_f (by omega), grd_b (by simp; omega), ← this]
  ·intro s _
   unfold ref02_padKey.l3
   simp only []
   rw [ite_f (by omega)]; rfl
  ·rw [upF_app (fun j => bits .xor .u8 (rd (bytesI k) (j : Int)) w)]; rfl
 unfold ref02_padKey
 by_cases hk : 64 < key.length
 ·rw [ite_t (by omega), ref02_Sum_ok _ (bytesI_isB _) (by rw [bytesI_len]; exact h1), bind_s, Bytes32_ok, bind_s, hj _ (by rw [intsB_len]; simp)]
  unfold keyS; rw [if_pos hk]
 ·rw [ite_f (by omega), hj _ (by omega)]
  unfold keyS; rw [if_neg hk]
theorem ref02_Mac_ok (key text : List UInt8) (h1 : key.length < 68719470000) (h2 : text.length < 68719460000) : ref02_Mac key text = some (macS key text) := by
 unfold ref02_Mac
 rw [padKey_ok key 54 h1, bind_s, grd_b (by rw [padK_len, bytesI_len]; omega), padKey_ok key 92 h1, bind_s,
  ref02_Sum_ok _ ((padK_isB _ _).app (bytesI_isB _)) (by rw [List.length_append, padK_len, bytesI_len]; omega), bind_s, Bytes32_ok, bind_s, bytesI_intsB (shaS_isB _), grd_b (by rw [padK_len]; simp),
  ref02_Sum_ok _ ((padK_isB _ _).app (shaS_isB _)) (by rw [List.length_append, padK_len]; simp), bind_s, Bytes32_ok, bind_s]
 rfl
end Go.Cu


namespace Go.Cu
def wrd (s : List UInt8) (i : Nat) : Int := sbyte s ((4 * i : Nat) : Int) + 256 * sbyte s ((4 * i + 1 : Nat) : Int) + 65536 * sbyte s ((4 * i + 2 : Nat) : Int) + 16777216 * sbyte s ((4 * i + 3 : Nat) : Int)
theorem sbyte_nat (s : List UInt8) (i : Int) : ∃ b : Nat, b < 256 ∧ sbyte s i = (b : Int) := by
 unfold sbyte
 exact ⟨_, UInt8.toNat_lt _, rfl⟩
theorem get_ok (s : List UInt8) (h : 4 ≤ s.length) : cipher_get s = some (wrd s 0) := by
 unfold cipher_get wrd
 rw [grd_b (by omega), grd_b (by omega), grd_b (by omega), grd_b (by omega)]
 obtain ⟨b0, l0, e0⟩ := sbyte_nat s 0
 obtain ⟨b1, l1, e1⟩ := sbyte_nat s 1
 obtain ⟨b2, l2, e2⟩ := sbyte_nat s 2
 obtain ⟨b3, l3, e3⟩ := sbyte_nat s 3
 show some _ = some (sbyte s 0 + 256 * sbyte s 1 + 65536 * sbyte s 2 + 16777216 * sbyte s 3)
 rw [e0, e1, e2, e3]
 rw [wrap32_id (n := (b0 : Int)) (by omega) (by omega), wrap32_id (n := (b1 : Int)) (by omega) (by omega), wrap32_id (n := (b2 : Int)) (by omega) (by omega), wrap32_id (n := (b3 : Int)) (by omega) (by omega)]
 rw [show (24 : Int) = ((24 : Nat) : Int) from rfl, show (16 : Int) = ((16 : Nat) : Int) from rfl, show (8 : Int) = ((8 : Nat) : Int) from rfl, shl32 (by decide) (by omega), shl32 (by decide) (by omega), shl32 (by decide) (by omega)]
 rw [bits_or_nat (by omega) (by omega), Nat.or_comm, or_add 8 (by omega), bits_or_nat (by omega) (by omega), Nat.or_comm, or_add 16 (by omega), bits_or_nat (by omega) (by omega), Nat.or_comm, or_add 24 (by omega)]
 congr 1; omega
theorem word_ok (s : List UInt8) (h : 4 ≤ s.length) : ref03_word s = some (wrd s 0) := by
 unfold ref03_word wrd
 rw [grd_b (by omega), grd_b (by omega), grd_b (by omega), grd_b (by omega)]
 obtain ⟨b0, l0, e0⟩ := sbyte_nat s 0
 obtain ⟨b1, l1, e1⟩ := sbyte_nat s 1
 obtain ⟨b2, l2, e2⟩ := sbyte_nat s 2
 obtain ⟨b3, l3, e3⟩ := sbyte_nat s 3
 show some _ = some (sbyte s 0 + 256 * sbyte s 1 + 65536 * sbyte s 2 + 16777216 * sbyte s 3)
 rw [e0, e1, e2, e3]
 rw [wrap32_id (n := (b0 : Int)) (by omega) (by omega), wrap32_id (n := (b1 : Int)) (by omega) (by omega), wrap32_id (n := (b2 : Int)) (by omega) (by omega), wrap32_id (n := (b3 : Int)) (by omega) (by omega)]
 rw [show (24 : Int) = ((24 : Nat) : Int) from rfl, show (16 : Int) = ((16 : Nat) : Int) from rfl, show (8 : Int) = ((8 : Nat) : Int) from rfl, shl32 (by decide) (by omega), shl32 (by decide) (by omega), shl32 (by decide) (by omega)]
 rw [wrap32_id (n := (b0 : Int) + ((b1 * 2 ^ 8 : Nat) : Int)) (by omega) (by omega), wrap32_id (n := (b0 : Int) + ((b1 * 2 ^ 8 : Nat) : Int) + ((b2 * 2 ^ 16 : Nat) : Int)) (by omega) (by omega), wrap32_id (by omega) (by omega)]
 congr 1; omega
theorem wrd_drop (s : List UInt8) (i : Nat) : wrd (s.drop (4 * i)) 0 = wrd s i := by
 have z : ∀ j : Nat, sbyte (s.drop (4 * i)) (j : Int) = sbyte s ((4 * i + j : Nat) : Int) := by
  intro j
  simp only [sbyte, Int.toNat_natCast, List.getD, List.getElem?_drop]
 unfold wrd
 rw [z, z, z, z]; rfl
def keyI (key : List UInt8) (i : Nat) (s : Vector Int 16) : Vector Int 16 := vs s (4 + (i : Int)) (wrd key i)
def nonI (n : List UInt8) (i : Nat) (s : Vector Int 16) : Vector Int 16 := vs s (13 + (i : Int)) (wrd n i)
def stS (key : List UInt8) (c : Int) (n : List UInt8) : Vector Int 16 :=
 upF (nonI n) 0 3 (upF (keyI key) 0 8 #v[1634760805, 857760878, 2036477234, 1797285236, 0, 0, 0, 0, 0, 0, 0, 0, c, 0, 0, 0])
theorem State_ok (key : List UInt8) (c : Int) (n : List UInt8) (hk : key.length = 32) (hn : n.length = 12) : cipher_State key c n = some (stS key c n, 0) := by
 have h3 : ∀ s, cipher_State.j3 n s = some (upF (nonI n) 0 3 s, 0) := by
  intro s
  unfold cipher_State.j3
  refine (loop_up (step := cipher_State.l2 n) (fun o i => (o, i)) (nonI n) (fun o => (o, 0)) 3 (fun _ _ => True) ?_ ?_ 3 0 s rfl trivial).1
  ·intro i s hi _
   refine ⟨?_, trivial⟩
   have e1 : ((n.take (n.length : Int).toNat).drop (4 * (i : Int)).toNat) = n.drop (4 * i) := by
    rw [show (4 * (i : Int)).toNat = 4 * i by omega]; simp
   unfold cipher_State.l2
   simp only [wrap_id (n := 4 * (i : Int)) (by omega) (by omega), wrap_id (n := 13 + (i : Int)) (by omega) (by omega), wrap_id (n := (i : Int) + 1) (by omega) (by omega), e1]
   rw [ite_t (by omega), grd_b (by omega), get_ok _ (by simp; omega), bind_s, grd_b (by omega), wrd_drop]
   rfl
  ·intro s _
   unfold cipher_State.l2
   simp only []
   rw [ite_f (by omega)]; rfl
 unfold cipher_State
 rw [if_neg (by simp; omega), bind_s, if_neg (by simp; omega)]
 refine (loop_up (step := cipher_State.l4 key n) (fun o i => (o, i)) (keyI key) (fun o => (upF (nonI n) 0 3 o, 0)) 8 (fun _ _ => True) ?_ ?_ 8 0 _ rfl trivial).1
 ·intro i s hi _
  refine ⟨?_, trivial⟩
  have e1 : ((key.take (key.length : Int).toNat).drop (4 * (i : Int)).toNat) = key.drop (4 * i) := by
   rw [show (4 * (i : Int)).toNat = 4 * i by omega]; simp
  unfold cipher_State.l4
  simp only [wrap_id (n := 4 * (i : Int)) (by omega) (by omega), wrap_id (n := 4 + (i : Int)) (by omega) (by omega), wrap_id (n := (i : Int) + 1) (by omega) (by omega), e1]
  rw [ite_t (by omega), grd_b (by omega), get_ok _ (by simp; omega), bind_s, grd_b (by omega), wrd_drop]
  rfl
 ·intro s _
  unfold cipher_State.l4
  simp only []
  rw [ite_f (by omega), h3]; rfl
theorem vs_comm {α : Type} {n : Nat} (v : Vector α n) (i j : Int) (x y : α) (h : i.toNat ≠ j.toNat) : vs (vs v i x) j y = vs (vs v j y) i x := by
 apply Vector.toList_inj.1
 rw [vs_toList, vs_toList, vs_toList, vs_toList, List.set_comm _ _ h]
theorem key_comm (key : List UInt8) (c : Int) : ∀ (m k : Nat) (s : Vector Int 16), k + m ≤ 8 → vs (upF (keyI key) k m s) 12 c = upF (keyI key) k m (vs s 12 c)
 | 0, _, _, _ => rfl
 | m + 1, k, s, h => by
  rw [upF, upF, key_comm key c m (k + 1) _ (by omega)]
  unfold keyI
  rw [vs_comm _ _ _ _ _ (by omega)]
theorem ref_State_ok (key : List UInt8) (c : Int) (n : List UInt8) (hk : key.length = 32) (hn : n.length = 12) : ref03_State key c n = some (stS key c n, 0) := by
 have h3 : ∀ s, ref03_State.j3 n s c = some (upF (nonI n) 0 3 (vs s 12 c), 0) := by
  intro s
  unfold ref03_State.j3
  refine (loop_up (step := ref03_State.l2 n) (fun o i => (o, i)) (nonI n) (fun o => (o, 0)) 3 (fun _ _ => True) ?_ ?_ 3 0 _ rfl trivial).1
  ·intro i s hi _
   refine ⟨?_, trivial⟩
   have e1 : ((n.take (n.length : Int).toNat).drop (4 * (i : Int)).toNat) = n.drop (4 * i) := by
    rw [show (4 * (i : Int)).toNat = 4 * i by omega]; simp
   unfold ref03_State.l2
   simp only [wrap_id (n := 4 * (i : Int)) (by omega) (by omega), wrap_id (n := 13 + (i : Int)) (by omega) (by omega), wrap_id (n := (i : Int) + 1) (by omega) (by omega), e1]
   rw [ite_t (by omega), grd_b (by omega), word_ok _ (by simp; omega), bind_s, grd_b (by omega), wrd_drop]
   rfl
  ·intro s _
   unfold ref03_State.l2
   simp only []
   rw [ite_f (by omega)]; rfl
 unfold ref03_State
 rw [if_neg (by simp; omega), bind_s, if_neg (by simp; omega), bind_s]
 refine (loop_up (step := ref03_State.l4 key n c) (fun o i => (o, i)) (keyI key) (fun o => (upF (nonI n) 0 3 (vs o 12 c), 0)) 8 (fun _ _ => True) ?_ ?_ 8 0 _ rfl trivial).1.trans ?_
 ·intro i s hi _
  refine ⟨?_, trivial⟩
  have e1 : ((key.take (key.length : Int).toNat).drop (4 * (i : Int)).toNat) = key.drop (4 * i) := by
   rw [show (4 * (i : Int)).toNat = 4 * i by omega]; simp
  unfold ref03_State.l4
  simp only [wrap_id (n := 4 * (i : Int)) (by omega) (by omega), wrap_id (n := 4 + (i : Int)) (by omega) (by omega), wrap_id (n := (i : Int) + 1) (by omega) (by omega), e1]
  rw [ite_t (by omega), grd_b (by omega), word_ok _ (by simp; omega), bind_s, grd_b (by omega), wrd_drop]
  rfl
 ·intro s _
  unfold ref03_State.l4
  simp only []
  rw [ite_f (by omega), h3]; rfl
 ·rw [key_comm _ _ _ _ _ (Nat.le_refl _)]; rfl
def qS (p : Vector Int 16) (a b c d : Int) : Vector Int 16 :=
 let p1 := vs p a (IntKind.u32.wrap (rd p.toList a + rd p.toList b))
 let t := rr (bits .xor .u32 (rd p1.toList d) (rd p1.toList a)) 16
 let z := vs (vs p1 d t) c (IntKind.u32.wrap (rd (vs p1 d t).toList c + rd (vs p1 d t).toList d))
 let t2 := rr (bits .xor .u32 (rd z.toList b) (rd z.toList c)) 20
 let p2 := vs (vs z b t2) a (IntKind.u32.wrap (rd (vs z b t2).toList a + rd (vs z b t2).toList b))
 let t3 := rr (bits .xor .u32 (rd p2.toList d) (rd p2.toList a)) 24
 let z2 := vs (vs p2 d t3) c (IntKind.u32.wrap (rd (vs p2 d t3).toList c + rd (vs p2 d t3).toList d))
 vs z2 b (rr (bits .xor .u32 (rd z2.toList b) (rd z2.toList c)) 25)
theorem quarter_ok (p : Vector Int 16) (a b c d : Int) : cipher_quarter p a b c d = some (qS p a b c d) := by
 unfold cipher_quarter
 rw [rotL16, bind_s, bind_s, rotL12, bind_s, rotL8, bind_s, bind_s, rotL7, bind_s]; rfl
theorem rotl_ok {x j k : Int} (h0 : 0 ≤ j) (h1 : j ≤ 32) (h : k = 32 - j) : ref03_rotl x j = some (rr x k) := by
 subst h
 unfold ref03_rotl
 rw [grd_b (by omega), wrap_id (by omega) (by omega), grd_b (by omega)]
 unfold rr
 rw [show 32 - (32 - j) = j by omega]
theorem ref_quarter_ok (p : Vector Int 16) (a b c d : Int) (ha : 0 ≤ a ∧ a < 16) (hb : 0 ≤ b ∧ b < 16) (hc : 0 ≤ c ∧ c < 16) (hd : 0 ≤ d ∧ d < 16) : ref03_quarter p a b c d = some (qS p a b c d) := by
 unfold ref03_quarter
 rw [grd_b ha, grd_b hb, grd_b ha, grd_b hd, grd_b ha, rotl_ok (k := 16) (by decide) (by decide) (by decide), bind_s, grd_b hd, grd_b hc, grd_b hd, grd_b hc, bind_s, grd_b hb, grd_b hc, rotl_ok (k := 20) (by decide) (by decide) (by decide), bind_s,
  grd_b hb, grd_b ha, grd_b hb, grd_b ha, grd_b hd, grd_b ha, rotl_ok (k := 24) (by decide) (by decide) (by decide), bind_s, grd_b hd, grd_b hc, grd_b hd, grd_b hc, bind_s, grd_b hb, grd_b hc, rotl_ok (k := 25) (by decide) (by decide) (by decide), bind_s, grd_b hb]
 rfl
end Go.Cu


namespace Go.Cu
def colI (i : Nat) (s : Vector Int 16) : Vector Int 16 := qS s (i : Int) ((4 + i : Nat) : Int) ((8 + i : Nat) : Int) ((12 + i : Nat) : Int)
def diaI (i : Nat) (s : Vector Int 16) : Vector Int 16 := qS s (i : Int) ((4 + (i + 1) % 4 : Nat) : Int) ((8 + (i + 2) % 4 : Nat) : Int) ((12 + (i + 3) % 4 : Nat) : Int)
def dblI (_ : Nat) (s : Vector Int 16) : Vector Int 16 := upF diaI 0 4 (upF colI 0 4 s)
def roundsS (s : Vector Int 16) : Vector Int 16 := upF dblI 0 10 s
theorem Rounds_ok (s : Vector Int 16) : cipher_Rounds s = some (roundsS s) := by
 unfold cipher_Rounds
 refine (loop_up (step := cipher_Rounds.l6) (fun o i => (o, i)) dblI (fun o => o) 10 (fun _ _ => True) ?_ ?_ 10 0 s rfl trivial).1
 ·intro k s hk _
  refine ⟨?_, trivial⟩
  have hdia : ∀ u : Vector Int 16, cipher_Rounds.j4 (s, (k : Int)) u = some (.inl (upF diaI 0 4 u, (k : Int) + 1)) := by
   intro u
   unfold cipher_Rounds.j4
   refine (loop_up (step := cipher_Rounds.l3 (s, (k : Int))) (fun o i => (o, i)) diaI (fun o => .inl (o, (k : Int) + 1)) 4 (fun _ _ => True) ?_ ?_ 4 0 u rfl trivial).1
   ·intro i v hi _
    refine ⟨?_, trivial⟩
    have m1 : Int.tmod ((i : Int) + 1) 4 = (((i + 1) % 4 : Nat) : Int) := tmod4 (i + 1)
    have m2 : Int.tmod ((i : Int) + 2) 4 = (((i + 2) % 4 : Nat) : Int) := tmod4 (i + 2)
    have m3 : Int.tmod ((i : Int) + 3) 4 = (((i + 3) % 4 : Nat) : Int) := tmod4 (i + 3)
    have e1 : (4 : Int) + (((i + 1) % 4 : Nat) : Int) = ((4 + (i + 1) % 4 : Nat) : Int) := by omega
    have e2 : (8 : Int) + (((i + 2) % 4 : Nat) : Int) = ((8 + (i + 2) % 4 : Nat) : Int) := by omega
    have e3 : (12 : Int) + (((i + 3) % 4 : Nat) : Int) = ((12 + (i + 3) % 4 : Nat) : Int) := by omega
    unfold cipher_Rounds.l3
    simp only [wrap_id (n := (i : Int) + 1) (by omega) (by omega), wrap_id (n := (i : Int) + 2) (by omega) (by omega), wrap_id (n := (i : Int) + 3) (by omega) (by omega), m1, m2, m3, e1, e2, e3]
    rw [wrap_id (n := ((4 + (i + 1) % 4 : Nat) : Int)) (by omega) (by omega), wrap_id (n := ((8 + (i + 2) % 4 : Nat) : Int)) (by omega) (by omega), wrap_id (n := ((12 + (i + 3) % 4 : Nat) : Int)) (by omega) (by omega)]
    rw [ite_t (by omega), grd_b (by omega), grd_b (by omega), grd_b (by omega), grd_b (by omega), quarter_ok, bind_s]
    rfl
   ·intro v _
    unfold cipher_Rounds.l3
    simp only []
    rw [ite_f (by omega)]
    unfold cipher_Rounds.j2
    simp only [wrap_id (n := (k : Int) + 1) (by omega) (by omega)]
    rfl
  unfold cipher_Rounds.l6
  simp only []
  rw [ite_t (by omega)]
  refine (loop_up (step := cipher_Rounds.l5 (s, (k : Int))) (fun o i => (o, i)) colI (fun o => .inl (upF diaI 0 4 o, (k : Int) + 1)) 4 (fun _ _ => True) ?_ ?_ 4 0 s rfl trivial).1
  ·intro i v hi _
   refine ⟨?_, trivial⟩
   have e1 : (4 : Int) + (i : Int) = ((4 + i : Nat) : Int) := by omega
   have e2 : (8 : Int) + (i : Int) = ((8 + i : Nat) : Int) := by omega
   have e3 : (12 : Int) + (i : Int) = ((12 + i : Nat) : Int) := by omega
   unfold cipher_Rounds.l5
   simp only [wrap_id (n := (i : Int) + 1) (by omega) (by omega), e1, e2, e3, wrap_id (n := ((4 + i : Nat) : Int)) (by omega) (by omega), wrap_id (n := ((8 + i : Nat) : Int)) (by omega) (by omega), wrap_id (n := ((12 + i : Nat) : Int)) (by omega) (by omega)]
   rw [ite_t (by omega), grd_b (by omega), grd_b (by omega), grd_b (by omega), grd_b (by omega), quarter_ok, bind_s]
   rfl
  ·intro v _
   unfold cipher_Rounds.l5
   simp only []
   rw [ite_f (by omega), hdia]; rfl
 ·intro s _
  unfold cipher_Rounds.l6
  simp only []
  rw [ite_f (by omega)]; rfl
def ordS : List (List Int) := [[0, 4, 8, 12], [1, 5, 9, 13], [2, 6, 10, 14], [3, 7, 11, 15], [0, 5, 10, 15], [1, 6, 11, 12], [2, 7, 8, 13], [3, 4, 9, 14]]
def ordI (i : Nat) (s : Vector Int 16) : Vector Int 16 := qS s (rd (rd ordS (i : Int)) 0) (rd (rd ordS (i : Int)) 1) (rd (rd ordS (i : Int)) 2) (rd (rd ordS (i : Int)) 3)
theorem ord_col : ∀ i : Nat, i < 4 → rd (rd ordS (i : Int)) 0 = (i : Int) ∧ rd (rd ordS (i : Int)) 1 = ((4 + i : Nat) : Int) ∧ rd (rd ordS (i : Int)) 2 = ((8 + i : Nat) : Int) ∧ rd (rd ordS (i : Int)) 3 = ((12 + i : Nat) : Int) := by decide
theorem ord_dia : ∀ i : Nat, i < 4 → rd (rd ordS ((4 + i : Nat) : Int)) 0 = (i : Int) ∧ rd (rd ordS ((4 + i : Nat) : Int)) 1 = ((4 + (i + 1) % 4 : Nat) : Int) ∧ rd (rd ordS ((4 + i : Nat) : Int)) 2 = ((8 + (i + 2) % 4 : Nat) : Int) ∧ rd (rd ordS ((4 + i : Nat) : Int)) 3 = ((12 + (i + 3) % 4 : Nat) : Int) := by decide
theorem ord_dbl (s : Vector Int 16) : upF ordI 0 8 s = dblI 0 s := by
 have e : upF ordI 0 8 s = upF ordI 4 4 (upF ordI 0 4 s) := upF_add ordI 4 4 0 s
 have e1 : upF ordI 0 4 s = upF colI 0 4 s := upF_congr 4 0 s (by
  intro i u h1 h2
  obtain ⟨a, b, c, d⟩ := ord_col i (by omega)
  unfold ordI colI
  rw [a, b, c, d])
 have e2 : ∀ u, upF ordI 4 4 u = upF diaI 0 4 u := by
  intro u
  have : ∀ i u, i < 4 → ordI (4 + i) u = diaI i u := by
   intro i u h2
   obtain ⟨a, b, c, d⟩ := ord_dia i h2
   unfold ordI diaI
   rw [a, b, c, d]
  have t : ∀ m k u, k + m ≤ 4 → upF ordI (4 + k) m u = upF diaI k m u := by
   intro m
   induction m with
   | zero => intro k u _; rw [upF, upF]
   | succ m ih => intro k u h; rw [upF, upF, this k u (by omega)]; exact ih (k + 1) _ (by omega)
  exact t 4 0 u (Nat.le_refl _)
 rw [e, e1, e2]; rfl
theorem ord_rng (i : Nat) (hi : i < 8) : ∀ j : Int, (j = 0 ∨ j = 1 ∨ j = 2 ∨ j = 3) → 0 ≤ rd (rd ordS (i : Int)) j ∧ rd (rd ordS (i : Int)) j < 16 := by
 match i, hi with
 | 0, _ => rintro j (rfl | rfl | rfl | rfl) <;> decide
 | 1, _ => rintro j (rfl | rfl | rfl | rfl) <;> decide
 | 2, _ => rintro j (rfl | rfl | rfl | rfl) <;> decide
 | 3, _ => rintro j (rfl | rfl | rfl | rfl) <;> decide
 | 4, _ => rintro j (rfl | rfl | rfl | rfl) <;> decide
 | 5, _ => rintro j (rfl | rfl | rfl | rfl) <;> decide
 | 6, _ => rintro j (rfl | rfl | rfl | rfl) <;> decide
 | 7, _ => rintro j (rfl | rfl | rfl | rfl) <;> decide
theorem ord_len (i : Nat) (hi : i < 8) : (rd ordS (i : Int)).length = 4 := by
 match i, hi with
 | 0, _ => rfl
 | 1, _ => rfl
 | 2, _ => rfl
 | 3, _ => rfl
 | 4, _ => rfl
 | 5, _ => rfl
 | 6, _ => rfl
 | 7, _ => rfl
theorem ref_Rounds_ok (s : Vector Int 16) : ref03_Rounds s = some (roundsS s) := by
 unfold ref03_Rounds
 have ho : ref03_Order = some ordS := rfl
 have hol : ordS.length = 8 := rfl
 rw [ho, bind_s]
 refine (loop_up (step := ref03_Rounds.l4 ordS) (fun o i => (o, i)) dblI (fun o => o) 10 (fun _ _ => True) ?_ ?_ 10 0 s rfl trivial).1
 ·intro k s hk _
  refine ⟨?_, trivial⟩
  unfold ref03_Rounds.l4
  simp only []
  rw [ite_t (by omega), show dblI k s = upF ordI 0 8 s from (ord_dbl s).symm]
  refine (loop_up (step := ref03_Rounds.l3 ordS (s, (k : Int))) (fun o i => (o, i)) ordI (fun o => .inl (o, (k : Int) + 1)) 8 (fun _ _ => True) ?_ ?_ 8 0 s rfl trivial).1
  ·intro i v hi _
   refine ⟨?_, trivial⟩
   have hl := ord_len i hi
   have hr := ord_rng i hi
   unfold ref03_Rounds.l3
   simp only [wrap_id (n := (i : Int) + 1) (by omega) (by omega)]
   rw [ite_t (by omega), grd_b (by omega), grd_b (by omega), grd_b (by omega), grd_b (by omega), grd_b (by omega), grd_b (by omega), grd_b (by omega), grd_b (by omega), ref_quarter_ok _ _ _ _ _ (hr 0 (by simp)) (hr 1 (by simp)) (hr 2 (by simp)) (hr 3 (by simp)), bind_s]
   rfl
  ·intro v _
   unfold ref03_Rounds.l3
   simp only []
   rw [ite_f (by omega)]
   unfold ref03_Rounds.j2
   simp only [wrap_id (n := (k : Int) + 1) (by omega) (by omega)]
   rfl
 ·intro s _
  unfold ref03_Rounds.l4
  simp only []
  rw [ite_f (by omega)]; rfl
def le4 (x : Int) : List Int := [IntKind.u8.wrap x, IntKind.u8.wrap (shrI .u32 x 8), IntKind.u8.wrap (shrI .u32 x 16), IntKind.u8.wrap (shrI .u32 x 24)]
def outI (r s : Vector Int 16) (i : Nat) (o : List Int) : List Int := o ++ le4 (IntKind.u32.wrap (rd r.toList (i : Int) + rd s.toList (i : Int)))
def blkS (key : List UInt8) (c : Int) (n : List UInt8) : List UInt8 := intsB (upF (outI (roundsS (stS key c n)) (stS key c n)) 0 16 [])
theorem Block_ok (key : List UInt8) (c : Int) (n : List UInt8) (hk : key.length = 32) (hn : n.length = 12) : cipher_Block key c n = some (blkS key c n, 0) := by
 unfold cipher_Block
 rw [State_ok _ _ _ hk hn, bind_s, if_neg (by simp), grd_b (by decide), Rounds_ok, bind_s]
 refine (loop_up (step := cipher_Block.l2 (roundsS (stS key c n)) (stS key c n, 0)) (fun o i => (o, i)) (outI (roundsS (stS key c n)) (stS key c n)) (fun o => (intsB o, 0)) 16 (fun i o => o.length = 4 * i) ?_ ?_ 16 0 [] rfl rfl).1
 ·intro i o hi hl
  refine ⟨?_, by simp [outI, le4]; omega⟩
  unfold cipher_Block.l2 cipher_put
  simp only [wrap_id (n := (i : Int) + 1) (by omega) (by omega)]
  rw [ite_t (by omega), grd_b (by omega), grd_b (by omega), grd_b (by simp; omega), bind_s]
  rfl
 ·intro o _
  unfold cipher_Block.l2
  simp only []
  rw [ite_f (by omega)]; rfl
theorem ref_Block_ok (key : List UInt8) (c : Int) (n : List UInt8) (hk : key.length = 32) (hn : n.length = 12) : ref03_Block key c n = some (blkS key c n, 0) := by
 unfold ref03_Block
 rw [ref_State_ok _ _ _ hk hn, bind_s, if_neg (by simp), ref_Rounds_ok, bind_s]
 refine (loop_up (step := ref03_Block.l2 (stS key c n, 0) (roundsS (stS key c n))) (fun o i => (o, i)) (outI (roundsS (stS key c n)) (stS key c n)) (fun o => (intsB o, 0)) 16 (fun i o => o.length = 4 * i) ?_ ?_ 16 0 [] rfl rfl).1
 ·intro i o hi hl
  refine ⟨?_, by simp [outI, le4]; omega⟩
  unfold ref03_Block.l2
  simp only [wrap_id (n := (i : Int) + 1) (by omega) (by omega)]
  rw [ite_t (by omega), grd_b (by omega), grd_b (by omega), grd_b (by simp; omega), Int.add_comm (rd (stS key c n).toList (i : Int))]
  rfl
 ·intro o _
  unfold ref03_Block.l2
  simp only []
  rw [ite_f (by omega)]; rfl
theorem blkS_len (key : List UInt8) (c : Int) (n : List UInt8) : (blkS key c n).length = 64 := by
 unfold blkS
 rw [intsB_len]
 have := upF_ind (F := outI (roundsS (stS key c n)) (stS key c n)) (I := fun i o => o.length = 4 * i) 16 (fun i o _ h => by simp [outI, le4]; omega) 16 0 [] (Nat.le_refl _) rfl
 simpa using this
end Go.Cu


namespace Go.Cu
attribute [local irreducible] blkS bits
def xorB (key n t : List UInt8) (i : Nat) : Int := bits .xor .u8 (rd (bytesI t) (i : Int)) (sbyte (blkS key ((1 + i / 64 : Nat) : Int) n) ((i % 64 : Nat) : Int))
def xorS (key n t : List UInt8) : List UInt8 := intsB ((List.range' 0 t.length).map (xorB key n t))
theorem xorS_len (key n t : List UInt8) : (xorS key n t).length = t.length := by unfold xorS; rw [intsB_len]; simp
def xorF (key n : List UInt8) (i : Nat) (s : List Int × Int × List UInt8) : List Int × Int × List UInt8 :=
 if i % 64 = 0 then (wr s.1 i (bits .xor .u8 (rd s.1 i) (sbyte (blkS key s.2.1 n) ((i % 64 : Nat) : Int))), IntKind.u32.wrap (s.2.1 + 1), blkS key s.2.1 n)
 else (wr s.1 i (bits .xor .u8 (rd s.1 i) (sbyte s.2.2 ((i % 64 : Nat) : Int))), s.2.1, s.2.2)
theorem Xor_ok (key n t : List UInt8) (hk : key.length = 32) (hn : n.length = 12) (ht : t.length < 1073741824) : cipher_Xor key 1 n t = some (xorS key n t, 0) := by
 unfold cipher_Xor
 rw [State_ok _ _ _ hk hn, bind_s, if_neg (by simp)]
 have hbl : (bytesI t).length = t.length := bytesI_len t
 obtain ⟨h1, h2, _⟩ := loop_up (step := cipher_Xor.l3 t key n) (fun (s : List Int × Int × List UInt8) i => (s.1, s.2.1, s.2.2, i)) (xorF key n) (fun s => (intsB s.1, (0 : Int))) t.length
  (fun i s => s.1 = (List.range' 0 i).map (xorB key n t) ++ (bytesI t).drop i ∧ s.2.1 = ((1 + (i + 63) / 64 : Nat) : Int) ∧ (i % 64 ≠ 0 → s.2.2 = blkS key ((1 + i / 64 : Nat) : Int) n)) (by
   rintro i ⟨o, c, b⟩ hi ⟨ho, hc, hb⟩
   simp only at ho hc hb
   have hol : o.length = t.length := by rw [ho]; simp [hbl]; omega
   have hm64 : i % 64 < 64 := Nat.mod_lt _ (by decide)
   have hd : (bytesI t).drop i = (bytesI t)[i] :: (bytesI t).drop (i + 1) := List.drop_eq_getElem_cons (by omega)
   obtain ⟨A, hA⟩ : ∃ A, A = (List.range' 0 i).map (xorB key n t) := ⟨_, rfl⟩
   have hal : A.length = i := by rw [hA]; simp
   rw [← hA] at ho
   have hr : rd o (i : Int) = rd (bytesI t) (i : Int) := by
    rw [ho]
    simp only [rd, List.getD, Int.toNat_natCast]
    rw [List.getElem?_append_right (by omega), hal, Nat.sub_self, List.getElem?_drop, Nat.add_zero]
   have hset : ∀ x, x = xorB key n t i → wr o (i : Int) x = (List.range' 0 (i + 1)).map (xorB key n t) ++ (bytesI t).drop (i + 1) := by
    rintro x rfl
    unfold wr
    rw [ho, Int.toNat_natCast, List.set_append_right _ _ (by omega), hal, Nat.sub_self, hd, List.set_cons_zero, List.range'_concat, List.map_append, ← hA, List.append_assoc]; simp
   by_cases h : i % 64 = 0
   ·have hc1 : c = ((1 + i / 64 : Nat) : Int) := by rw [hc]; congr 1; omega
    refine ⟨?_, ?_⟩
    ·unfold cipher_Xor.l3 cipher_Xor.j2 xorF
     simp only [tmod64, wrap_id (n := (i : Int) + 1) (by omega) (by omega), if_pos h]
     rw [ite_t (by omega), if_pos (by simp [h]), Block_ok _ _ _ hk hn, bind_s, grd_b (by omega), grd_b (by rw [blkS_len]; omega), grd_b (by omega)]
    ·unfold xorF
     rw [if_pos h]
     refine ⟨hset _ ?_, ?_, ?_⟩
     ·show bits .xor .u8 (rd o (i : Int)) (sbyte (blkS key c n) ((i % 64 : Nat) : Int)) = _
      rw [hr, hc1]; unfold xorB; rfl
     ·show IntKind.u32.wrap (c + 1) = _
      rw [hc, wrap32_id (by omega) (by omega)]; omega
     ·intro _
      show blkS key c n = _
      have e : 1 + i / 64 = 1 + (i + 1) / 64 := by omega
      rw [hc1, e]
   ·have hb := hb h
    refine ⟨?_, ?_⟩
    ·unfold cipher_Xor.l3 cipher_Xor.j2 xorF
     simp only [tmod64, wrap_id (n := (i : Int) + 1) (by omega) (by omega), if_neg h]
     rw [ite_t (by omega), if_neg (by simp; omega), grd_b (by omega), grd_b (by rw [hb, blkS_len]; omega), grd_b (by omega)]
    ·unfold xorF
     rw [if_neg h]
     refine ⟨hset _ ?_, ?_, ?_⟩
     ·show bits .xor .u8 (rd o (i : Int)) (sbyte b ((i % 64 : Nat) : Int)) = _
      rw [hr, hb]; unfold xorB; rfl
     ·show c = _
      rw [hc]; congr 1; omega
     ·intro _
      show b = _
      have e : 1 + i / 64 = 1 + (i + 1) / 64 := by omega
      rw [hb, e]) (by
   rintro ⟨o, c, b⟩ _
   unfold cipher_Xor.l3
   simp only []
   rw [ite_f (by omega)]; rfl) t.length 0 (bytesI t, 1, []) (Nat.zero_add _) (by simp)
 refine h1.trans ?_
 rw [h2, List.drop_of_length_le (by omega), List.append_nil]; rfl
theorem ref_xor_loop (key n t : List UInt8) (hk : key.length = 32) (hn : n.length = 12) (ht : t.length < 1073741824) : ∀ (m q : Nat), t.length ≤ 64 * (q + m) → q ≤ 16777217 →
  loopF (ref03_Xor.l4 key n) ((List.range' 0 (min (64 * q) t.length)).map (xorB key n t), ((1 + q : Nat) : Int), t.drop (64 * q)) = some (xorS key n t, 0)
 | 0, q, h, hq => by
  rw [loopF_done]
  unfold ref03_Xor.l4
  simp only []
  rw [ite_f (by simp; omega), Nat.min_eq_right (by omega)]; rfl
 | m + 1, q, h, hq => by
  by_cases hd : t.length ≤ 64 * q
  ·rw [loopF_done]
   unfold ref03_Xor.l4
   simp only []
   rw [ite_f (by simp; omega), Nat.min_eq_right (by omega)]; rfl
  ·have hq64 : 64 * q < t.length := by omega
   obtain ⟨R, hR⟩ : ∃ R, R = t.drop (64 * q) := ⟨_, rfl⟩
   have hRl : R.length = t.length - 64 * q := by rw [hR]; simp
   obtain ⟨nn, hnn⟩ : ∃ nn, nn = min 64 R.length := ⟨_, rfl⟩
   have hmin : (if (R.length : Int) < 64 then (R.length : Int) else 64) = (nn : Int) := by
    split <;> omega
   rw [loopF_next (s' := ((List.range' 0 (min (64 * (q + 1)) t.length)).map (xorB key n t), ((1 + (q + 1) : Nat) : Int), t.drop (64 * (q + 1))))]
   ·exact ref_xor_loop key n t hk hn ht m (q + 1) (by omega) (by omega)
   ·unfold ref03_Xor.l4
    rw [← hR, Nat.min_eq_left (Nat.le_of_lt hq64)]
    simp only []
    rw [ite_t (by omega), ref_Block_ok _ _ _ hk hn, bind_s]
    obtain ⟨o, ho⟩ : ∃ o, o = (List.range' 0 (64 * q)).map (xorB key n t) := ⟨_, rfl⟩
    have hol : o.length = 64 * q := by rw [ho]; simp
    have hg : ∀ j, j < nn → bits .xor .u8 (sbyte R (j : Int)) (sbyte (blkS key ((1 + q : Nat) : Int) n) (j : Int)) = xorB key n t (64 * q + j) := by
     intro j hj
     unfold xorB
     have e1 : (64 * q + j) / 64 = q := by omega
     have e2 : (64 * q + j) % 64 = j := by omega
     have e3 : sbyte R (j : Int) = rd (bytesI t) ((64 * q + j : Nat) : Int) := by
      rw [hR]
      simp only [sbyte, rd, List.getD, Int.toNat_natCast, List.getElem?_drop, bytesI, List.getElem?_map]
      rw [List.getElem?_eq_getElem (by omega)]; rfl
     rw [e1, e2, e3]
    rw [← ho]
    obtain ⟨f1, f2⟩ := loop_up (step := ref03_Xor.l3 (o, ((1 + q : Nat) : Int), R) (blkS key ((1 + q : Nat) : Int) n, 0)) (fun s i => (s, i)) (fun j s => s ++ [xorB key n t (64 * q + j)]) (fun s => .inl (s, ((1 + (q + 1) : Nat) : Int), t.drop (64 * (q + 1)))) nn
     (fun i s => s = o ++ (List.range' (64 * q) i).map (xorB key n t)) (by
      intro i s hi hs
      have hsl : s.length = 64 * q + i := by rw [hs]; simp [hol]
      refine ⟨?_, ?_⟩
      ·unfold ref03_Xor.l3
       simp only [hmin, wrap_id (n := (i : Int) + 1) (by omega) (by omega)]
       rw [ite_t (by omega), grd_b (by omega), grd_b (by rw [blkS_len]; omega), grd_b (by simp; omega), hg i hi]
      ·rw [hs, List.append_assoc, List.range'_concat, List.map_append]; simp) (by
      intro s _
      unfold ref03_Xor.l3 ref03_Xor.j2
      simp only [hmin]
      rw [ite_f (by omega), grd_b (by omega)]
      have e1 : ((R.take (R.length : Int).toNat).drop (nn : Int).toNat) = t.drop (64 * (q + 1)) := by
       rw [Int.toNat_natCast, Int.toNat_natCast, List.take_length, hR, List.drop_drop]
       by_cases h64 : nn = 64
       ·rw [h64]; rfl
       ·rw [List.drop_of_length_le (by omega), List.drop_of_length_le (by omega)]
      rw [e1, wrap32_id (by omega) (by omega), show (((1 + q : Nat) : Int) + 1) = ((1 + (q + 1) : Nat) : Int) by omega]; rfl) nn 0 o (Nat.zero_add _) (by simp)
    refine f1.trans ?_
    rw [f2, ho, ← List.map_append]
    have : List.range' 0 (64 * q) ++ List.range' (64 * q) nn = List.range' 0 (min (64 * (q + 1)) t.length) := by
     have := List.range'_append (s := 0) (m := 64 * q) (n := nn) (step := 1)
     simp only [Nat.one_mul, Nat.zero_add] at this
     rw [this]; congr 1; omega
    rw [this]
theorem ref_Xor_ok (key n t : List UInt8) (hk : key.length = 32) (hn : n.length = 12) (ht : t.length < 1073741824) : ref03_Xor key 1 n t = some (xorS key n t, 0) := by
 unfold ref03_Xor
 rw [ref_State_ok _ _ _ hk hn, bind_s, if_neg (by simp)]
 have := ref_xor_loop key n t hk hn ht 16777217 0 (by omega) (by decide)
 simpa using this
end Go.Cu


namespace Go.Cu
theorem xor8_0 {b : Nat} (hb : b < 256) : bits .xor .u8 (b : Int) 0 = (b : Int) := by
 unfold bits
 have e1 : (BitVec.ofInt IntKind.u8.bits (b : Int)).toNat = b := by
  show ((b : Int) % (2 ^ 8 : Nat)).toNat = b
  omega
 have e2 : (BitVec.ofInt IntKind.u8.bits (0 : Int)).toNat = 0 := rfl
 simp only [BitVec.toNat_xor, e1, e2, Nat.xor_zero]
 exact wrap8_id (by omega) (by omega)
theorem shr64 {x j : Nat} (hj : j ≤ 64) : shrI .u64 (x : Int) (j : Int) = ((x / 2 ^ j : Nat) : Int) := by
 unfold shrI
 have : min (j : Int).toNat IntKind.u64.bits = j := by
  show min (j : Int).toNat 64 = j
  omega
 rw [this]
 have e : (2 : Int) ^ j = ((2 ^ j : Nat) : Int) := by push_cast; rfl
 rw [e]
 exact Int.fdiv_eq_ediv_of_nonneg _ (Int.natCast_nonneg _)
def encS (n : Nat) : List Int := if n = 0 then [128] else if n < 256 then [129, (n : Int)] else [130, ((n / 256 : Nat) : Int), ((n % 256 : Nat) : Int)]
theorem encS_len (n : Nat) : (encS n).length ≤ 3 := by
 unfold encS
 split
 ·simp
 ·split <;> simp
theorem wire_l2 {x : Nat} {o : List Int} {i : Nat} (hi : i ≤ 1) (hl : o.length ≤ 4) :
  wire_Int.l2 (x : Int) 0 (o, (i : Int)) = some (.inl (o ++ [((x / 2 ^ (8 * i) % 256 : Nat) : Int)], (i : Int) - 1)) := by
 unfold wire_Int.l2
 simp only [wrap_id (n := 8 * (i : Int)) (by omega) (by omega), wrap_id (n := (i : Int) - 1) (by omega) (by omega)]
 have e : IntKind.u8.wrap (shrI .u64 (x : Int) (8 * (i : Int))) = ((x / 2 ^ (8 * i) % 256 : Nat) : Int) := by
  rw [show 8 * (i : Int) = ((8 * i : Nat) : Int) by omega, shr64 (by omega)]
  show (((x / 2 ^ (8 * i) : Nat) : Int) % (2 ^ 8 : Int)) = _
  omega
 rw [ite_t (by omega), grd_b (by omega), grd_b (by simp; omega), e, xor8_0 (by omega)]
theorem wire_l2_end {x : Int} {o : List Int} : wire_Int.l2 x 0 (o, -1) = some (.inr o) := by
 unfold wire_Int.l2
 simp only []
 rw [ite_f (by decide)]; rfl
theorem wire_l4 {x : Nat} {k : Nat} (hk : k ≤ 7) : wire_Int.l4 (x : Int) 0 ((k : Int) + 1) = if 0 < x / 2 ^ (8 * k) then (wire_Int.j3 (x : Int) 0 ((k : Int) + 1)).map Sum.inr else some (.inl (k : Int)) := by
 unfold wire_Int.l4
 simp only [show (k : Int) + 1 - 1 = (k : Int) by omega, wrap_id (n := (k : Int)) (by omega) (by omega), wrap_id (n := 8 * (k : Int)) (by omega) (by omega)]
 rw [ite_t (by omega), grd_b (by omega), show 8 * (k : Int) = ((8 * k : Nat) : Int) by omega, shr64 (by omega)]
 by_cases h : 0 < x / 2 ^ (8 * k)
 ·rw [if_pos h, ite_t (by omega)]
 ·rw [if_neg h, ite_f (by omega)]
theorem wire_Int_ok (n : Nat) (h : n < 65536) : wire_Int (n : Int) = some (encS n) := by
 unfold wire_Int
 rw [ite_f (by omega), wrap64_id (by omega) (by omega)]
 unfold wire_Int.j5
 have st : ∀ k : Nat, k ≤ 7 → n / 2 ^ (8 * k) = 0 → loopF (wire_Int.l4 (n : Int) 0) ((k : Int) + 1) = loopF (wire_Int.l4 (n : Int) 0) (k : Int) := by
  intro k hk hz
  apply loopF_next
  rw [wire_l4 hk, if_neg (by omega)]
 have hz : ∀ k, 2 ≤ k → n / 2 ^ (8 * k) = 0 := by
  intro k hk
  apply Nat.div_eq_of_lt
  calc n < 2 ^ 16 := h
   _ ≤ 2 ^ (8 * k) := Nat.pow_le_pow_right (by decide) (by omega)
 refine (st 7 (by omega) (hz 7 (by omega))).trans ((st 6 (by omega) (hz 6 (by omega))).trans ((st 5 (by omega) (hz 5 (by omega))).trans ((st 4 (by omega) (hz 4 (by omega))).trans ((st 3 (by omega) (hz 3 (by omega))).trans ((st 2 (by omega) (hz 2 (by omega))).trans ?_)))))
 by_cases h2 : 256 ≤ n
 ·have e := wire_l4 (x := n) (k := 1) (by omega)
  rw [if_pos (by omega)] at e
  refine (loop_map e).trans ?_
  unfold wire_Int.j3
  have e0 : ([(bits .xor .u8 (IntKind.u8.wrap (IntKind.i64.wrap (128 + (((1 : Nat) : Int) + 1)))) 0)] : List Int) = [130] := by decide +kernel
  have e1 : IntKind.i64.wrap (((1 : Nat) : Int) + 1 - 1) = ((1 : Nat) : Int) := by decide +kernel
  rw [e0, e1]
  refine (loopF_next (wire_l2 (by omega) (by simp))).trans ?_
  rw [show ((1 : Nat) : Int) - 1 = ((0 : Nat) : Int) by rfl]
  refine (loopF_next (wire_l2 (by omega) (by simp))).trans ?_
  rw [show ((0 : Nat) : Int) - 1 = -1 by rfl]
  rw [loopF_done wire_l2_end]
  unfold encS
  rw [if_neg (by omega), if_neg (by omega)]
  have a1 : n / 2 ^ (8 * 1) % 256 = n / 256 := by omega
  have a2 : n / 2 ^ (8 * 0) % 256 = n % 256 := by omega
  rw [a1, a2]; rfl
 ·refine (st 1 (by omega) (by omega)).trans ?_
  by_cases h1 : 0 < n
  ·have e := wire_l4 (x := n) (k := 0) (by omega)
   rw [if_pos (by omega)] at e
   refine (loop_map e).trans ?_
   unfold wire_Int.j3
   have e0 : ([(bits .xor .u8 (IntKind.u8.wrap (IntKind.i64.wrap (128 + (((0 : Nat) : Int) + 1)))) 0)] : List Int) = [129] := by decide +kernel
   have e1 : IntKind.i64.wrap (((0 : Nat) : Int) + 1 - 1) = ((0 : Nat) : Int) := by decide +kernel
   rw [e0, e1]
   refine (loopF_next (wire_l2 (by omega) (by simp))).trans ?_
   rw [show ((0 : Nat) : Int) - 1 = -1 by rfl]
   rw [loopF_done wire_l2_end]
   unfold encS
   rw [if_neg (by omega), if_pos (by omega)]
   have a2 : n / 2 ^ (8 * 0) % 256 = n := by omega
   rw [a2]; rfl
  ·obtain rfl : n = 0 := by omega
   refine (st 0 (by omega) (by omega)).trans ?_
   have e : wire_Int.l4 ((0 : Nat) : Int) 0 ((0 : Nat) : Int) = (wire_Int.j3 ((0 : Nat) : Int) 0 ((0 : Nat) : Int)).map Sum.inr := by
    unfold wire_Int.l4
    rw [ite_f (by decide)]
   refine (loop_map e).trans ?_
   unfold wire_Int.j3
   have e0 : ([(bits .xor .u8 (IntKind.u8.wrap (IntKind.i64.wrap (128 + ((0 : Nat) : Int)))) 0)] : List Int) = [128] := by decide +kernel
   have e1 : IntKind.i64.wrap (((0 : Nat) : Int) - 1) = -1 := by decide +kernel
   rw [e0, e1, loopF_done wire_l2_end]; rfl
theorem ref_l6 {p : Int} {o : List Int} {x : Nat} (h : 0 < x) (hx : x < 65536) (hl : o.length ≤ 4) : ref01_Int.l6 p (o, (x : Int)) = some (.inl (o ++ [((x % 256 : Nat) : Int)], ((x / 256 : Nat) : Int))) := by
 unfold ref01_Int.l6
 simp only []
 rw [ite_t (by omega), grd_b (by simp; omega), show Int.tmod (x : Int) 256 = ((x % 256 : Nat) : Int) from rfl, show Int.tdiv (x : Int) 256 = ((x / 256 : Nat) : Int) from rfl, wrap8_id (by omega) (by omega), wrap_id (by omega) (by omega)]
theorem ref_l6_end {p : Int} {o : List Int} : ref01_Int.l6 p (o, 0) = (ref01_Int.j5 p o).map Sum.inr := by
 unfold ref01_Int.l6
 simp only []
 rw [ite_f (by decide)]
theorem ref_l3 {p : Nat} {D o : List Int} {i : Nat} (hi : i < D.length) (hi4 : i ≤ 4) (hl : o.length ≤ 4) : ref01_Int.l3 D (p : Int) (o, (i : Int)) = some (.inl (o ++ [rd D (i : Int)], (i : Int) - 1)) := by
 unfold ref01_Int.l3 ref01_Int.j2
 simp only []
 simp only [wrap_id (n := (i : Int) - 1) (by omega) (by omega)]
 rw [ite_t (by omega), grd_b (by omega), ite_f (by omega), grd_b (by simp; omega)]
theorem ref_l3_end {p : Int} {D o : List Int} : ref01_Int.l3 D p (o, -1) = some (.inr o) := by
 unfold ref01_Int.l3
 simp only []
 rw [ite_f (by decide)]; rfl
theorem ref_j5 {p : Nat} {D : List Int} {c : Int} (m : Nat) (hD : D.length = m) (hm : m ≤ 2) (hc : IntKind.u8.wrap (IntKind.i64.wrap (128 + (m : Int))) = c) : ref01_Int.j5 (p : Int) D = ref01_Int.j4 D (p : Int) [c] := by
 unfold ref01_Int.j5
 rw [ite_t (by omega), grd_b (by simp), hD, hc]; rfl
theorem ref_Int_ok (n : Nat) (h : n < 65536) : ref01_Int (n : Int) = some (encS n) := by
 unfold ref01_Int
 rw [ite_f (by omega)]
 unfold ref01_Int.j7
 by_cases h2 : 256 ≤ n
 ·refine (loopF_next (ref_l6 (by omega) h (by simp))).trans ((loopF_next (ref_l6 (by omega) (by omega) (by simp))).trans ?_)
  rw [show n / 256 / 256 = 0 by omega]
  refine (loop_map ref_l6_end).trans ?_
  refine (ref_j5 (c := 130) 2 (by simp) (by decide) (by decide +kernel)).trans ?_
  unfold ref01_Int.j4
  have e1 : IntKind.i64.wrap ((((([] : List Int) ++ [((n % 256 : Nat) : Int)]) ++ [((n / 256 % 256 : Nat) : Int)]).length : Int) - 1) = ((1 : Nat) : Int) := by
   simp only [List.nil_append, List.cons_append, List.length_cons, List.length_nil]; decide +kernel
  rw [e1]
  refine (loopF_next (ref_l3 (by simp) (by omega) (by simp))).trans ?_
  rw [show ((1 : Nat) : Int) - 1 = ((0 : Nat) : Int) by rfl]
  refine (loopF_next (ref_l3 (by simp) (by omega) (by simp))).trans ?_
  rw [show ((0 : Nat) : Int) - 1 = -1 by rfl, loopF_done ref_l3_end]
  unfold encS
  rw [if_neg (by omega), if_neg (by omega)]
  have a1 : n / 256 % 256 = n / 256 := by omega
  rw [a1]; rfl
 ·by_cases h1 : 0 < n
  ·refine (loopF_next (ref_l6 (by omega) h (by simp))).trans ?_
   rw [show n / 256 = 0 by omega]
   refine (loop_map ref_l6_end).trans ?_
   refine (ref_j5 (c := 129) 1 (by simp) (by decide) (by decide +kernel)).trans ?_
   unfold ref01_Int.j4
   have e1 : IntKind.i64.wrap (((([] : List Int) ++ [((n % 256 : Nat) : Int)]).length : Int) - 1) = ((0 : Nat) : Int) := by
    simp only [List.nil_append, List.length_cons, List.length_nil]; decide +kernel
   rw [e1]
   refine (loopF_next (ref_l3 (by simp) (by omega) (by simp))).trans ?_
   rw [show ((0 : Nat) : Int) - 1 = -1 by rfl, loopF_done ref_l3_end]
   unfold encS
   rw [if_neg (by omega), if_pos (by omega)]
   have a1 : n % 256 = n := by omega
   rw [a1]; rfl
  ·obtain rfl : n = 0 := by omega
   refine (loop_map ref_l6_end).trans ?_
   refine (ref_j5 (p := 0) (c := 128) 0 (by simp) (by decide) (by decide +kernel)).trans ?_
   unfold ref01_Int.j4
   have e1 : IntKind.i64.wrap (((([] : List Int)).length : Int) - 1) = -1 := by decide +kernel
   rw [e1, loopF_done ref_l3_end]; rfl
def bytesS (s : List UInt8) : List UInt8 := intsB (encS s.length ++ bytesI s)
theorem wire_Bytes_ok (s : List UInt8) (h : s.length < 65536) : ∃ l, wire_Bytes s = some l ∧ intsB l = bytesS s := by
 refine ⟨encS s.length ++ bytesI s, ?_, rfl⟩
 unfold wire_Bytes
 have := encS_len s.length
 rw [wire_Int_ok _ h, bind_s, grd_b (by rw [bytesI_len]; omega)]
theorem ref_Bytes_ok (s : List UInt8) (h : s.length < 65536) : ∃ l, ref01_Bytes s = some l ∧ intsB l = bytesS s := by
 refine ⟨encS s.length ++ bytesI s, ?_, rfl⟩
 unfold ref01_Bytes
 have := encS_len s.length
 rw [ref_Int_ok _ h, bind_s, grd_b (by rw [bytesI_len]; omega)]
theorem bytesS_len (s : List UInt8) : (bytesS s).length ≤ s.length + 3 := by
 unfold bytesS
 have := encS_len s.length
 rw [intsB_len, List.length_append, bytesI_len]; omega
end Go.Cu


namespace Go.Cu
attribute [local irreducible] macS xorS bytesS blkS bits
def encK (key : List UInt8) : List UInt8 := macS key [101, 110, 99]
def macK (key : List UInt8) : List UInt8 := macS key [109, 97, 99]
def nonceS (key ad text : List UInt8) : List UInt8 := (macS (macK key) ([110, 111, 110, 99, 101] ++ bytesS ad ++ text)).take 12
def tagS (key n ad c : List UInt8) : List UInt8 := (macS (macK key) ([116, 97, 103] ++ n ++ bytesS ad ++ c)).take 16
def sealS (key ad text : List UInt8) : List UInt8 := nonceS key ad text ++ xorS (encK key) (nonceS key ad text) text ++ tagS key (nonceS key ad text) ad (xorS (encK key) (nonceS key ad text) text)
def openS (key ad blob : List UInt8) : List UInt8 × Int :=
 let n := blob.take 12
 let c := (blob.take (blob.length - 16)).drop 12
 if tagS key n ad c = blob.drop (blob.length - 16) then
  let t := xorS (encK key) n c
  if nonceS key ad t = n then (t, 0) else ([], 8)
 else ([], 8)
theorem encK_len (key : List UInt8) : (encK key).length = 32 := macS_len _ _
theorem macK_len (key : List UInt8) : (macK key).length = 32 := macS_len _ _
theorem nonceS_len (key ad text : List UInt8) : (nonceS key ad text).length = 12 := by unfold nonceS; simp [macS_len]
theorem tagS_len (key n ad c : List UInt8) : (tagS key n ad c).length = 16 := by unfold tagS; simp [macS_len]
theorem Keys_ok (key : List UInt8) (h : key.length < 68719470000) : seal_Keys key = some (if key.length = 32 then (encK key, macK key, 0) else ([], [], 1)) := by
 unfold seal_Keys
 by_cases hk : key.length = 32
 ·rw [if_neg (by simp; omega), Mac_ok _ _ (by omega) (by simp), bind_s, Mac_ok _ _ (by omega) (by simp), bind_s, if_pos hk]; rfl
 ·rw [if_pos (by simp; omega), if_neg hk]
theorem ref_Keys_ok (key : List UInt8) (h : key.length < 68719470000) : ref04_Keys key = some (if key.length = 32 then (encK key, macK key, 0) else ([], [], 1)) := by
 unfold ref04_Keys
 by_cases hk : key.length = 32
 ·rw [if_neg (by simp; omega), ref02_Mac_ok _ _ (by omega) (by simp), bind_s, ref02_Mac_ok _ _ (by omega) (by simp), bind_s, if_pos hk]; rfl
 ·rw [if_pos (by simp; omega), if_neg hk]
theorem code_ok (m : List UInt8) (n : Nat) (ps : List (List UInt8)) (hm : m.length = 32) (hn : n ≤ 32) (hp : ps.length ≤ 10) (hl : (([] : List UInt8).intercalate ps).length < 68719460000) :
  seal_code m (n : Int) ps = some ((macS m (([] : List UInt8).intercalate ps)).take n) := by
 unfold seal_code strings_Join
 rw [grd_b (by constructor <;> omega), bind_s, Mac_ok _ _ (by omega) (by omega), bind_s, grd_b (by rw [macS_len]; omega)]
 rfl
theorem code12 (m : List UInt8) (ps : List (List UInt8)) (hm : m.length = 32) (hp : ps.length ≤ 10) (hl : (([] : List UInt8).intercalate ps).length < 68719460000) : seal_code m 12 ps = some ((macS m (([] : List UInt8).intercalate ps)).take 12) := code_ok m 12 ps hm (by decide) hp hl
theorem code16 (m : List UInt8) (ps : List (List UInt8)) (hm : m.length = 32) (hp : ps.length ≤ 10) (hl : (([] : List UInt8).intercalate ps).length < 68719460000) : seal_code m 16 ps = some ((macS m (([] : List UInt8).intercalate ps)).take 16) := code_ok m 16 ps hm (by decide) hp hl
theorem inter3 (a b c : List UInt8) : ([] : List UInt8).intercalate [a, b, c] = a ++ b ++ c := by simp [List.intercalate]
theorem inter4 (a b c d : List UInt8) : ([] : List UInt8).intercalate [a, b, c, d] = a ++ b ++ c ++ d := by simp [List.intercalate]
theorem nonce_code (key ad text : List UInt8) (h1 : ad.length < 65536) (h2 : text.length < 65536) : seal_code (macK key) 12 [[110, 111, 110, 99, 101], bytesS ad, text] = some (nonceS key ad text) := by
 have hb := bytesS_len ad
 rw [code12 _ _ (macK_len _) (by simp) (by rw [inter3]; simp; omega), inter3]; rfl
theorem tag_code (key n ad c : List UInt8) (h1 : ad.length < 65536) (h2 : c.length < 65536) (h3 : n.length ≤ 12) : seal_code (macK key) 16 [[116, 97, 103], n, bytesS ad, c] = some (tagS key n ad c) := by
 have hb := bytesS_len ad
 rw [code16 _ _ (macK_len _) (by simp) (by rw [inter4]; simp; omega), inter4]; rfl
theorem Seal_ok (key ad text : List UInt8) (h0 : key.length < 65536) (h1 : ad.length < 65536) (h2 : text.length < 65536) :
  seal_Seal key ad text = some (if key.length = 32 then (sealS key ad text, 0) else ([], 1)) := by
 unfold seal_Seal
 rw [Keys_ok _ (by omega), bind_s]
 by_cases hk : key.length = 32
 ·simp only [if_pos hk]
  obtain ⟨l, e1, e2⟩ := wire_Bytes_ok ad h1
  have hn := nonceS_len key ad text
  have hx := xorS_len (encK key) (nonceS key ad text) text
  rw [if_neg (by simp), ite_f (by omega), bind_s, ite_f (by omega), e1, bind_s, e2, nonce_code key ad text h1 h2, bind_s, Xor_ok _ _ _ (encK_len _) hn (by omega), bind_s, grd_b (by simp only; omega), tag_code key _ ad _ h1 (by simp only; omega) (by omega), bind_s,
   grd_b (by simp only [List.length_append]; rw [tagS_len]; omega)]
  rfl
 ·simp only [if_neg hk]
  rw [if_pos (by simp)]
theorem ref_nonce_ok (key ad text : List UInt8) (h1 : ad.length < 65536) (h2 : text.length < 65536) : ref04_nonce (macK key) ad text = some (nonceS key ad text) := by
 have hb := bytesS_len ad
 obtain ⟨l, e1, e2⟩ := ref_Bytes_ok ad h1
 unfold ref04_nonce
 rw [e1, bind_s, e2, grd_b (by simp; omega), grd_b (by simp; omega), ref02_Mac_ok _ _ (by rw [macK_len]; decide) (by simp; omega), bind_s, grd_b (by rw [macS_len]; omega)]
 rfl
theorem ref_tag_ok (key n ad c : List UInt8) (h1 : ad.length < 65536) (h2 : c.length < 65536) (h3 : n.length ≤ 12) : ref04_tag (macK key) n ad c = some (tagS key n ad c) := by
 have hb := bytesS_len ad
 obtain ⟨l, e1, e2⟩ := ref_Bytes_ok ad h1
 unfold ref04_tag
 rw [grd_b (by simp; omega), e1, bind_s, e2, grd_b (by simp; omega), grd_b (by simp; omega), ref02_Mac_ok _ _ (by rw [macK_len]; decide) (by simp; omega), bind_s, grd_b (by rw [macS_len]; omega)]
 rfl
def openR (key ad blob : List UInt8) : List UInt8 × Int := if key.length = 32 then (if blob.length < 28 then ([], 5) else openS key ad blob) else ([], 1)
theorem cuts (b : List UInt8) (h : 28 ≤ b.length) (hb : b.length < 65536) : IntKind.i64.wrap ((b.length : Int) - 16) = ((b.length - 16 : Nat) : Int) := by
 rw [wrap_id (by omega) (by omega)]; omega
theorem Open_ok (key ad blob : List UInt8) (h0 : key.length < 65536) (h1 : ad.length < 65536) (h2 : blob.length < 65536) : seal_Open key ad blob = some (openR key ad blob) := by
 unfold seal_Open openR
 rw [Keys_ok _ (by omega), bind_s]
 by_cases hk : key.length = 32
 ·simp only [if_pos hk]
  obtain ⟨l, e1, e2⟩ := wire_Bytes_ok ad h1
  rw [if_neg (by simp), ite_f (by omega), bind_s, ite_f (by omega)]
  by_cases hs : blob.length < 28
  ·rw [ite_t (by omega), if_pos hs]
  ·have hc := cuts blob (by omega) h2
   rw [ite_f (by omega), if_neg hs, e1, bind_s, e2]
   simp only [hc, Int.toNat_natCast]
   obtain ⟨n, hn⟩ : ∃ n, n = blob.take 12 := ⟨_, rfl⟩
   obtain ⟨c, hcc⟩ : ∃ c, c = (blob.take (blob.length - 16)).drop 12 := ⟨_, rfl⟩
   have hnl : n.length = 12 := by rw [hn]; simp; omega
   have hcl : c.length < 65536 := by rw [hcc]; simp; omega
   have e3 : ((blob.take (12 : Int).toNat).drop (0 : Int).toNat) = n := by rw [hn]; rfl
   have e4 : ((blob.take (blob.length - 16)).drop (12 : Int).toNat) = c := by rw [hcc]; rfl
   rw [grd_b (by omega), grd_b (by omega), e3, e4, tag_code key n ad c h1 hcl (by omega), bind_s, grd_b (by omega), List.take_length]
   unfold openS
   simp only [← hn, ← hcc]
   by_cases ht : tagS key n ad c = blob.drop (blob.length - 16)
   ·rw [if_neg (by simp [ht]), if_pos ht, Xor_ok _ _ _ (encK_len _) hnl (by omega), bind_s, nonce_code key ad _ h1 (by simp only; rw [xorS_len]; exact hcl), bind_s]
    by_cases hno : nonceS key ad (xorS (encK key) n c) = n
    ·rw [if_neg (by simp [hno]), if_pos hno]
    ·rw [if_pos (by simp [hno]), if_neg hno]
   ·rw [if_pos (by simp [ht]), if_neg ht]
 ·simp only [if_neg hk]
  rw [if_pos (by simp)]
theorem ref_Open_ok (key ad blob : List UInt8) (h0 : key.length < 65536) (h1 : ad.length < 65536) (h2 : blob.length < 65536) : ref04_Open key ad blob = some (openR key ad blob) := by
 unfold ref04_Open openR
 rw [ref_Keys_ok _ (by omega), bind_s]
 by_cases hk : key.length = 32
 ·simp only [if_pos hk]
  rw [if_neg (by simp), ite_f (by omega), bind_s, ite_f (by omega)]
  by_cases hs : blob.length < 28
  ·rw [ite_t (by omega), if_pos hs]
  ·have hc := cuts blob (by omega) h2
   rw [ite_f (by omega), if_neg hs]
   simp only [hc, Int.toNat_natCast]
   obtain ⟨n, hn⟩ : ∃ n, n = blob.take 12 := ⟨_, rfl⟩
   obtain ⟨c, hcc⟩ : ∃ c, c = (blob.take (blob.length - 16)).drop 12 := ⟨_, rfl⟩
   have hnl : n.length = 12 := by rw [hn]; simp; omega
   have hcl : c.length < 65536 := by rw [hcc]; simp; omega
   have e3 : ((blob.take (12 : Int).toNat).drop (0 : Int).toNat) = n := by rw [hn]; rfl
   have e4 : ((blob.take (blob.length - 16)).drop (12 : Int).toNat) = c := by rw [hcc]; rfl
   rw [grd_b (by omega), grd_b (by omega), grd_b (by omega), e3, e4, ref_tag_ok key n ad c h1 hcl (by omega), bind_s, List.take_length]
   unfold openS
   simp only [← hn, ← hcc]
   by_cases ht : tagS key n ad c = blob.drop (blob.length - 16)
   ·rw [if_neg (by simp [ht]), if_pos ht, ref_Xor_ok _ _ _ (encK_len _) hnl (by omega), bind_s, ref_nonce_ok key ad _ h1 (by simp only; rw [xorS_len]; exact hcl), bind_s]
    by_cases hno : nonceS key ad (xorS (encK key) n c) = n
    ·rw [if_neg (by simp [hno]), if_pos hno]
    ·rw [if_pos (by simp [hno]), if_neg hno]
   ·rw [if_pos (by simp [Ne.symm ht]), if_neg ht]
 ·simp only [if_neg hk]
  rw [if_pos (by simp)]
end Go.Cu


namespace Go.Cu
theorem it_tt {α : Type} {a b : α} : (if true = true then a else b) = a := rfl
theorem it_ff {α : Type} {a b : α} : (if false = true then a else b) = b := rfl
theorem it_nt {α : Type} {a b : α} : (if (!true) = true then a else b) = b := rfl
theorem it_nf {α : Type} {a b : α} : (if (!false) = true then a else b) = a := rfl
theorem it_00 {α : Type} {a b : α} : (if (0 : Int) ≠ 0 then a else b) = b := rfl
theorem nnN {a b : Nat} (h : a = b) : ¬ a ≠ b := by simp [h]
theorem bne0 {a : Int} (h : a = 0) : ¬ (a != 0) = true := by simp [h]
theorem bne1 {a : Int} (h : ¬ a = 0) : (a != 0) = true := by simpa using h
theorem nn0 {a : Int} (h : a = 0) : ¬ a ≠ 0 := by simp [h]
theorem nn1 {a : Int} (h : ¬ a = 0) : a ≠ 0 := h
theorem rd_cons {α : Type} [Inhabited α] {l r : List α} {x : α} {k : Nat} (h : l.drop k = x :: r) : rd l (k : Int) = x := by
 have : l[k]? = some x := by
  have := congrArg (fun m => m[0]?) h
  simpa using this
 simp [rd, List.getD, this]
theorem drop_lt {α : Type} {l r : List α} {x : α} {k : Nat} (h : l.drop k = x :: r) : k < l.length := by
 rcases Nat.lt_or_ge k l.length with h' | h'
 ·exact h'
 ·rw [List.drop_of_length_le h'] at h; cases h
theorem mem_drop {α : Type} {l r : List α} {x : α} {k : Nat} (h : l.drop k = x :: r) : x ∈ l := by
 have : x ∈ l.drop k := by rw [h]; simp
 exact List.mem_of_mem_drop this
theorem loop_list {α σ ρ : Type} [Inhabited α] {l : List α} {step : σ → Option (σ ⊕ ρ)} (ix : σ → Int) (G : σ → List α → ρ) (Inv : σ → Prop)
  (h : ∀ s x r (k : Nat), Inv s → ix s = k → l.drop k = x :: r → rd l k = x → k < l.length →
   (∃ s', step s = some (.inl s') ∧ ix s' = k + 1 ∧ Inv s' ∧ G s' r = G s (x :: r)) ∨ step s = some (.inr (G s (x :: r))))
  (he : ∀ s, Inv s → ix s = l.length → step s = some (.inr (G s []))) : ∀ (s : σ) (k : Nat), Inv s → ix s = k → k ≤ l.length → loopF step s = some (G s (l.drop k)) := by
 intro s k hi hk hl
 obtain ⟨n, hn⟩ : ∃ n, n = l.length - k := ⟨_, rfl⟩
 induction n generalizing s k with
 | zero =>
  have : k = l.length := by omega
  subst this
  rw [List.drop_length]
  exact loopF_done (he s hi (by omega))
 | succ n ih =>
  have hlt : k < l.length := by omega
  have hd : l.drop k = l[k] :: l.drop (k + 1) := List.drop_eq_getElem_cons hlt
  rcases h s _ _ k hi hk hd (rd_cons hd) hlt with ⟨s', h1, h2, h3, h4⟩ | h1
  ·rw [loopF_next h1, ih s' (k + 1) h3 (by omega) (by omega) (by omega), hd, h4]
  ·rw [loopF_done h1, hd]
def wfI (n : Int) : Prop := -9223372036854775808 ≤ n ∧ n ≤ 9223372036854775807
theorem wrap_big {n : Int} (h0 : 9223372036854775808 ≤ n) (h1 : n < 18446744073709551616) : IntKind.i64.wrap n = n - 18446744073709551616 := by
 simp [IntKind.wrap, IntKind.signed, IntKind.bits]
 omega
theorem wrap64_neg {n : Int} (h0 : -18446744073709551616 ≤ n) (h1 : n < 0) : IntKind.u64.wrap n = n + 18446744073709551616 := by
 simp [IntKind.wrap, IntKind.signed, IntKind.bits]
 omega
def dg : Nat → Nat → List Int
 | 0, _ => []
 | k + 1, m => ((m / 256 ^ k % 256 : Nat) : Int) :: dg k m
def ndF : Nat → Nat → Nat
 | 0, _ => 0
 | k + 1, m => if 0 < m / 256 ^ k then k + 1 else ndF k m
def nd (m : Nat) : Nat := ndF 8 m
def fl (c : Bool) (b : Int) : Int := if c then 255 - b else b
def fx (c : Bool) : Int := if c then 255 else 0
def mag (n : Int) : Nat := (if n < 0 then -1 - n else n).toNat
def encI (n : Int) : List Int := ((128 + (nd (mag n) : Int)) :: dg (nd (mag n)) (mag n)).map (fl (decide (n < 0)))
theorem fl_fl (c : Bool) (b : Int) : fl c (fl c b) = b := by
 cases c
 ·rfl
 ·show 255 - (255 - b) = b; omega
theorem xor_fl {b : Int} (c : Bool) (h0 : 0 ≤ b) (h1 : b < 256) : bits .xor .u8 b (fx c) = fl c b := by
 obtain ⟨n, rfl⟩ := Int.eq_ofNat_of_zero_le h0
 cases c with
 | false => exact xor8_0 (by omega)
 | true =>
  have : ∀ n : Fin 256, bits .xor .u8 ((n.val : Nat) : Int) 255 = 255 - ((n.val : Nat) : Int) := by decide +kernel
  exact this ⟨n, by omega⟩
theorem dg_len : ∀ k m, (dg k m).length = k
 | 0, _ => rfl
 | k + 1, m => by rw [dg, List.length_cons, dg_len k m]
theorem dg_isB : ∀ k m, IsB (dg k m)
 | 0, _ => fun x hx => by cases hx
 | k + 1, m => by
  intro x hx
  rcases List.mem_cons.1 hx with rfl | hx
  ·omega
  ·exact dg_isB k m x hx
theorem ndF_le : ∀ k m, ndF k m ≤ k
 | 0, _ => Nat.le_refl _
 | k + 1, m => by
  unfold ndF
  split
  ·exact Nat.le_refl _
  ·exact Nat.le_succ_of_le (ndF_le k m)
theorem ndF_lt : ∀ k m, m < 256 ^ k → m < 256 ^ ndF k m
 | 0, m, h => h
 | k + 1, m, h => by
  unfold ndF
  split
  ·exact h
  ·rename_i h0
   apply ndF_lt k m
   rcases Nat.lt_or_ge m (256 ^ k) with h1 | h1
   ·exact h1
   ·exact absurd (Nat.div_pos h1 (Nat.pow_pos (by decide))) h0
theorem ndF_ge : ∀ k m j, ndF k m = j + 1 → 256 ^ j ≤ m
 | 0, m, j, h => by cases h
 | k + 1, m, j, h => by
  unfold ndF at h
  split at h
  ·rename_i h0
   obtain rfl : k = j := by omega
   rcases Nat.lt_or_ge m (256 ^ k) with h1 | h1
   ·rw [Nat.div_eq_of_lt h1] at h0; exact absurd h0 (Nat.lt_irrefl _)
   ·exact h1
  ·exact ndF_ge k m j h
theorem ndF_of (k m : Nat) (h1 : m < 256 ^ k) (h2 : k = 0 ∨ 256 ^ (k - 1) ≤ m) : ∀ K, k ≤ K → ndF K m = k
 | 0, h => by
  obtain rfl : k = 0 := by omega
  rfl
 | K + 1, h => by
  unfold ndF
  by_cases he : k = K + 1
  ·subst he
   rcases h2 with h2 | h2
   ·cases h2
   ·rw [if_pos (show 0 < m / 256 ^ K from Nat.div_pos h2 (Nat.pow_pos (by decide)))]
  ·have : m < 256 ^ K := Nat.lt_of_lt_of_le h1 (Nat.pow_le_pow_right (by decide) (by omega))
   rw [if_neg (by rw [Nat.div_eq_of_lt this]; decide)]
   exact ndF_of k m h1 h2 K (by omega)
def beF : Nat → List Int → Nat
 | a, [] => a
 | a, d :: r => beF (a * 256 + d.toNat) r
theorem beF_dg : ∀ k m a, beF a (dg k m) = a * 256 ^ k + m % 256 ^ k
 | 0, m, a => by rw [dg, beF, Nat.pow_zero, Nat.mod_one]; omega
 | k + 1, m, a => by
  rw [dg, beF, Int.toNat_natCast, beF_dg k m, Nat.mod_pow_succ, Nat.pow_succ, Nat.add_mul, Nat.mul_assoc, Nat.mul_comm 256 (256 ^ k), Nat.mul_comm (256 ^ k) (m / 256 ^ k % 256)]
  omega
theorem beF_eq : ∀ (ds : List Int) (a : Nat), beF a ds = a * 256 ^ ds.length + beF 0 ds
 | [], a => by rw [beF, beF, List.length_nil, Nat.pow_zero]; omega
 | d :: r, a => by
  rw [beF, beF, beF_eq r (a * 256 + d.toNat), beF_eq r (0 * 256 + d.toNat), List.length_cons, Nat.pow_succ, Nat.add_mul, Nat.mul_assoc, Nat.mul_comm 256 (256 ^ r.length), Nat.zero_mul, Nat.zero_add]
  omega
theorem beF_lt : ∀ (ds : List Int), IsB ds → beF 0 ds < 256 ^ ds.length
 | [], _ => by decide
 | d :: r, h => by
  have h1 := beF_lt r fun x hx => h x (by simp [hx])
  obtain ⟨h2, h3⟩ := h d (by simp)
  rw [beF, beF_eq, List.length_cons, Nat.pow_succ, Nat.zero_mul, Nat.zero_add]
  have : d.toNat ≤ 255 := by omega
  have h4 : d.toNat * 256 ^ r.length ≤ 255 * 256 ^ r.length := Nat.mul_le_mul_right _ this
  omega
theorem dg_beF : ∀ (ds : List Int) (a : Nat), IsB ds → dg ds.length (beF a ds) = ds
 | [], a, _ => rfl
 | d :: r, a, h => by
  have hr : IsB r := fun x hx => h x (by simp [hx])
  have h1 := beF_lt r hr
  obtain ⟨h2, h3⟩ := h d (by simp)
  have hp : 0 < 256 ^ r.length := Nat.pow_pos (by decide)
  rw [beF, List.length_cons, dg, dg_beF r _ hr, beF_eq, Nat.mul_comm, Nat.mul_add_div hp, Nat.div_eq_of_lt h1]
  congr 1
  omega
theorem pow8 (k : Nat) : 2 ^ (8 * k) = 256 ^ k := by rw [Nat.pow_mul]
theorem wi_l2 {x : Nat} {c : Bool} {o : List Int} {i : Nat} (hi : i ≤ 7) (hl : o.length ≤ 10) :
  wire_Int.l2 (x : Int) (fx c) (o, (i : Int)) = some (.inl (o ++ [fl c ((x / 256 ^ i % 256 : Nat) : Int)], (i : Int) - 1)) := by
 unfold wire_Int.l2
 simp only [wrap_id (n := 8 * (i : Int)) (by omega) (by omega), wrap_id (n := (i : Int) - 1) (by omega) (by omega)]
 have e : IntKind.u8.wrap (shrI .u64 (x : Int) (8 * (i : Int))) = ((x / 256 ^ i % 256 : Nat) : Int) := by
  rw [show 8 * (i : Int) = ((8 * i : Nat) : Int) by omega, shr64 (by omega), pow8]
  show (((x / 256 ^ i : Nat) : Int) % (2 ^ 8 : Int)) = _
  omega
 rw [ite_t (by omega), grd_b (by omega), grd_b (by simp; omega), e, xor_fl c (by omega) (by omega)]
theorem wi_l2_end {x y : Int} {o : List Int} : wire_Int.l2 x y (o, -1) = some (.inr o) := by
 unfold wire_Int.l2
 simp only []
 rw [ite_f (by decide)]; rfl
theorem wi_l2s {x : Nat} {c : Bool} : ∀ (k : Nat) (o : List Int), k ≤ 8 → o.length + k ≤ 10 → loopF (wire_Int.l2 (x : Int) (fx c)) (o, (k : Int) - 1) = some (o ++ (dg k x).map (fl c))
 | 0, o, _, _ => by
  rw [show ((0 : Nat) : Int) - 1 = -1 by rfl, loopF_done wi_l2_end]; simp [dg]
 | k + 1, o, h, hl => by
  rw [show ((k + 1 : Nat) : Int) - 1 = (k : Int) by omega, loopF_next (wi_l2 (by omega) (by omega)), wi_l2s k _ (by omega) (by simp; omega)]
  simp [dg]
theorem wi_j3 {x : Nat} {c : Bool} {k : Nat} (hk : k ≤ 8) : wire_Int.j3 (x : Int) (fx c) (k : Int) = some (((128 + (k : Int)) :: dg k x).map (fl c)) := by
 unfold wire_Int.j3
 rw [wrap_id (n := 128 + (k : Int)) (by omega) (by omega), wrap8_id (by omega) (by omega), xor_fl c (by omega) (by omega), wrap_id (by omega) (by omega), wi_l2s k _ hk (by simp; omega)]
 rfl
theorem wi_l4s {x : Nat} {c : Bool} : ∀ k : Nat, k ≤ 8 → loopF (wire_Int.l4 (x : Int) (fx c)) (k : Int) = wire_Int.j3 (x : Int) (fx c) ((ndF k x : Nat) : Int)
 | 0, _ => by
  refine loop_map ?_
  unfold wire_Int.l4
  rw [ite_f (by decide)]; rfl
 | k + 1, h => by
  have e : wire_Int.l4 (x : Int) (fx c) ((k + 1 : Nat) : Int) = if 0 < x / 256 ^ k then (wire_Int.j3 (x : Int) (fx c) ((k + 1 : Nat) : Int)).map Sum.inr else some (.inl (k : Int)) := by
   unfold wire_Int.l4
   simp only [show ((k + 1 : Nat) : Int) - 1 = (k : Int) by omega, wrap_id (n := (k : Int)) (by omega) (by omega), wrap_id (n := 8 * (k : Int)) (by omega) (by omega)]
   rw [ite_t (by omega), grd_b (by omega), show 8 * (k : Int) = ((8 * k : Nat) : Int) by omega, shr64 (by omega), pow8]
   by_cases h : 0 < x / 256 ^ k
   ·rw [if_pos h, ite_t (by omega)]
   ·rw [if_neg h, ite_f (by omega)]
  unfold ndF
  by_cases h0 : 0 < x / 256 ^ k
  ·rw [if_pos h0] at e ⊢
   exact loop_map e
  ·rw [if_neg h0] at e ⊢
   rw [loopF_next e, wi_l4s k (by omega)]
theorem not64 {y : Nat} (h : y < 18446744073709551616) : bits .xor .u64 IntKind.u64.max (y : Int) = ((18446744073709551615 - y : Nat) : Int) := by
 have e2 : (BitVec.ofInt 64 (y : Int)).toNat = y := by
  show ((y : Int) % (2 ^ 64 : Nat)).toNat = y
  omega
 have e1 : BitVec.ofInt 64 18446744073709551615 = BitVec.allOnes 64 := by decide +kernel
 have e3 : (BitVec.ofInt 64 18446744073709551615 ^^^ BitVec.ofInt 64 (y : Int)).toNat = 18446744073709551615 - y := by
  rw [e1, BitVec.allOnes_xor, BitVec.toNat_not, e2]
 show IntKind.u64.wrap (((BitVec.ofInt 64 18446744073709551615 ^^^ BitVec.ofInt 64 (y : Int)).toNat : Nat) : Int) = _
 rw [e3]
 exact wrap64_id (by omega) (by omega)
theorem wire_Int_eq {n : Int} (h : wfI n) : wire_Int n = some (encI n) := by
 obtain ⟨h0, h1⟩ := h
 unfold wire_Int encI
 by_cases hn : n < 0
 ·have hm : mag n = (-1 - n).toNat := by unfold mag; rw [if_pos hn]
  have e : bits .xor .u64 IntKind.u64.max (IntKind.u64.wrap n) = ((mag n : Nat) : Int) := by
   have e2 : n + 18446744073709551616 = (((n + 18446744073709551616).toNat : Nat) : Int) := by omega
   rw [wrap64_neg (by omega) hn, e2, not64 (by omega), hm]
   omega
  rw [ite_t hn, e, decide_eq_true hn]
  exact (wi_l4s (c := true) 8 (by omega)).trans (wi_j3 (ndF_le 8 _))
 ·have hm : mag n = n.toNat := by unfold mag; rw [if_neg hn]
  rw [ite_f hn, wrap64_id (by omega) (by omega), decide_eq_false hn]
  have e : n = ((mag n : Nat) : Int) := by rw [hm]; omega
  have := (wi_l4s (x := mag n) (c := false) 8 (by omega)).trans (wi_j3 (ndF_le 8 _))
  rw [← e] at this
  exact this
theorem encI_len (n : Int) : (encI n).length ≤ 9 := by
 unfold encI
 rw [List.length_map, List.length_cons, dg_len]
 have := ndF_le 8 (mag n)
 unfold nd; omega
theorem fl_rng {c : Bool} {b : Int} (h : 0 ≤ b ∧ b < 256) : 0 ≤ fl c b ∧ fl c b < 256 := by
 cases c
 ·exact h
 ·show 0 ≤ 255 - b ∧ 255 - b < 256; omega
theorem encI_isB (n : Int) : IsB (encI n) := by
 intro x hx
 unfold encI at hx
 obtain ⟨y, hy, rfl⟩ := List.mem_map.1 hx
 apply fl_rng
 rcases List.mem_cons.1 hy with rfl | hy
 ·have := ndF_le 8 (mag n)
  unfold nd; omega
 ·exact dg_isB _ _ y hy
def gI : List Int → Int × Int × Int
 | [] => (0, 0, 5)
 | h :: t =>
  if 8 < (fl (decide (h < 128)) h - 128).toNat then (0, 0, 6)
  else if t.length < (fl (decide (h < 128)) h - 128).toNat then (0, 0, 5)
  else if ((t.take (fl (decide (h < 128)) h - 128).toNat).map (fl (decide (h < 128)))).head? = some 0 then (0, 0, 6)
  else if 9223372036854775808 ≤ beF 0 ((t.take (fl (decide (h < 128)) h - 128).toNat).map (fl (decide (h < 128)))) then (0, 0, 6)
  else ((if h < 128 then -1 - (beF 0 ((t.take (fl (decide (h < 128)) h - 128).toNat).map (fl (decide (h < 128)))) : Int) else (beF 0 ((t.take (fl (decide (h < 128)) h - 128).toNat).map (fl (decide (h < 128)))) : Int)), ((fl (decide (h < 128)) h - 128).toNat : Int) + 1, 0)
theorem or_dig {a : Nat} {d : Int} (ha : a < 72057594037927936) (h0 : 0 ≤ d) (h1 : d < 256) : bits .or .u64 (shlI .u64 (a : Int) 8) (IntKind.u64.wrap d) = ((a * 256 + d.toNat : Nat) : Int) := by
 obtain ⟨n, rfl⟩ := Int.eq_ofNat_of_zero_le h0
 have e0 : shlI .u64 (a : Int) 8 = ((a * 256 : Nat) : Int) := by
  unfold shlI
  show IntKind.u64.wrap ((a : Int) * 256) = _
  rw [wrap64_id (by omega) (by omega)]; omega
 rw [e0, wrap64_id (by omega) (by omega)]
 unfold bits
 have e1 : (BitVec.ofInt IntKind.u64.bits ((a * 256 : Nat) : Int)).toNat = a * 256 := by
  show (((a * 256 : Nat) : Int) % (2 ^ 64 : Nat)).toNat = a * 256
  omega
 have e2 : (BitVec.ofInt IntKind.u64.bits (n : Int)).toNat = n := by
  show ((n : Int) % (2 ^ 64 : Nat)).toNat = n
  omega
 simp only [BitVec.toNat_or, e1, e2]
 have e3 : a * 256 ||| n = a * 256 + n := by
  have := (Nat.shiftLeft_add_eq_or_of_lt (i := 8) (b := n) (by omega) a).symm
  rw [Nat.shiftLeft_eq] at this
  exact this
 rw [e3]
 exact wrap64_id (by omega) (by omega)
theorem gi_j2 {m : Nat} {c : Bool} {p : List Int} {k : Nat} (hm : m < 18446744073709551616) (hk : k ≤ 8) (hX : IntKind.i64.wrap (IntKind.i64.wrap (bits .xor .u8 (rd p (0 : Int)) (fx c)) - 128) = (k : Int)) :
  wire_GetInt.j2 (m : Int) (fx c) p = some (if 9223372036854775808 ≤ m then (0, 0, 6) else ((if c then -1 - (m : Int) else (m : Int)), (k : Int) + 1, 0)) := by
 unfold wire_GetInt.j2 wire_GetInt.j1
 rw [show (63 : Int) = ((63 : Nat) : Int) from rfl, shr64 (by omega), hX, wrap_id (n := (k : Int) + 1) (by omega) (by omega)]
 by_cases h : 9223372036854775808 ≤ m
 ·rw [ite_t (by omega), if_pos h]
 ·rw [ite_f (by omega), if_neg h]
  cases c with
  | true =>
   rw [ite_t (by decide), not64 hm, wrap_big (by omega) (by omega)]
   congr 2
   show _ = -1 - (m : Int)
   omega
  | false =>
   rw [ite_f (by decide), wrap_id (by omega) (by omega)]; rfl
theorem pow_mono {i j : Nat} (h : i ≤ j) : 256 ^ i ≤ 256 ^ j := Nat.pow_le_pow_right (by decide) h
theorem gi_l3 {h : Int} {t : List Int} {c : Bool} {k : Nat} (ht : IsB t) (hk : k ≤ 8) (hl : k ≤ t.length) (hX : IntKind.i64.wrap (IntKind.i64.wrap (bits .xor .u8 (rd (h :: t) (0 : Int)) (fx c)) - 128) = (k : Int)) :
  loopF (wire_GetInt.l3 (h :: t) (fx c)) ((0 : Int), (0 : Int)) = some (if 9223372036854775808 ≤ beF 0 ((t.take k).map (fl c)) then (0, 0, 6) else ((if c then -1 - (beF 0 ((t.take k).map (fl c)) : Int) else (beF 0 ((t.take k).map (fl c)) : Int)), (k : Int) + 1, 0)) := by
 have hL : (((h :: t).take (IntKind.i64.wrap ((k : Int) + 1)).toNat).drop (1 : Int).toNat) = t.take k := by
  rw [wrap_id (by omega) (by omega), show ((k : Int) + 1).toNat = k + 1 by omega]; rfl
 have := loop_list (l := t.take k) (step := wire_GetInt.l3 (h :: t) (fx c)) (fun s => s.2) (fun s r => if 9223372036854775808 ≤ beF s.1.toNat (r.map (fl c)) then ((0 : Int), (0 : Int), (6 : Int)) else ((if c then -1 - (beF s.1.toNat (r.map (fl c)) : Int) else (beF s.1.toNat (r.map (fl c)) : Int)), (k : Int) + 1, 0))
  (fun s => 0 ≤ s.1 ∧ s.1.toNat < 256 ^ s.2.toNat) ?_ ?_ (0, 0) 0 ⟨Int.le_refl _, by decide⟩ rfl (Nat.zero_le _)
 ·simpa using this
 ·rintro ⟨m, s⟩ x r i ⟨hm0, hm⟩ hs hd hx hlt
  dsimp only at hm0 hm hs ⊢
  subst hs
  obtain ⟨m, rfl⟩ := Int.eq_ofNat_of_zero_le hm0
  rw [Int.toNat_natCast, Int.toNat_natCast] at hm
  have hi : i < k := by simp at hlt; omega
  have hxb := ht x (List.mem_of_mem_take (mem_drop hd))
  have hm7 : m < 72057594037927936 := Nat.lt_of_lt_of_le hm (pow_mono (j := 7) (by omega))
  refine .inl ⟨((m * 256 + (fl c x).toNat : Nat), (i : Int) + 1), ?_, rfl, ⟨Int.natCast_nonneg _, ?_⟩, ?_⟩
  ·unfold wire_GetInt.l3
   simp only [hX, hL]
   rw [ite_t (by simpa using hlt), grd_b ⟨by omega, by simpa using hlt⟩, hx, xor_fl c hxb.1 hxb.2, or_dig hm7 (fl_rng hxb).1 (fl_rng hxb).2, wrap_id (by omega) (by omega)]
  ·dsimp only
   rw [Int.toNat_natCast, show ((i : Int) + 1).toNat = i + 1 by omega, Nat.pow_succ]
   have := (fl_rng (c := c) hxb).2
   omega
  ·dsimp only
   rw [List.map_cons, beF]; rfl
 ·rintro ⟨m, s⟩ ⟨hm0, hm⟩ hs
  dsimp only at hm0 hm hs ⊢
  subst hs
  obtain ⟨m, rfl⟩ := Int.eq_ofNat_of_zero_le hm0
  rw [Int.toNat_natCast, Int.toNat_natCast] at hm
  have hk' : (t.take k).length ≤ 8 := by simp; omega
  have hm8 : m < 18446744073709551616 := Nat.lt_of_lt_of_le hm (pow_mono (j := 8) hk')
  unfold wire_GetInt.l3
  simp only [hX, hL]
  rw [ite_f (by omega), gi_j2 hm8 hk hX]
  rfl
theorem wire_GetInt_eq {l : List Int} (hb : IsB l) (hl : l.length ≤ 1099511627776) : wire_GetInt l = some (gI l) := by
 unfold wire_GetInt
 cases l with
 | nil => rfl
 | cons h t =>
  have ht : IsB t := fun x hx => hb x (by simp [hx])
  have hh := hb h (by simp)
  have hlen : ((h :: t).length : Int) = (t.length : Int) + 1 := by simp
  have hl' : t.length ≤ 1099511627776 := by simp at hl; omega
  rw [if_neg (by simp; omega), grd_b ⟨by omega, by omega⟩, show rd (h :: t) (0 : Int) = h from rfl]
  have key : ∀ c : Bool, c = decide (h < 128) → wire_GetInt.j4 (h :: t) (fx c) = some (gI (h :: t)) := by
   intro c hc
   have hf : 128 ≤ fl c h ∧ fl c h < 256 := by
    subst hc
    by_cases hx : h < 128
    ·rw [decide_eq_true hx]; show 128 ≤ 255 - h ∧ 255 - h < 256; omega
    ·rw [decide_eq_false hx]; show 128 ≤ h ∧ h < 256; omega
   obtain ⟨k, hk⟩ : ∃ k : Nat, k = (fl c h - 128).toNat := ⟨_, rfl⟩
   have hk' : fl c h = 128 + (k : Int) := by omega
   have hX : IntKind.i64.wrap (IntKind.i64.wrap (bits .xor .u8 (rd (h :: t) (0 : Int)) (fx c)) - 128) = (k : Int) := by
    rw [show rd (h :: t) (0 : Int) = h from rfl, xor_fl c hh.1 hh.2, wrap_id (n := fl c h) (by omega) (by omega), wrap_id (by omega) (by omega)]; omega
   have hg : gI (h :: t) = if 8 < k then (0, 0, 6) else if t.length < k then (0, 0, 5) else if ((t.take k).map (fl c)).head? = some 0 then (0, 0, 6) else if 9223372036854775808 ≤ beF 0 ((t.take k).map (fl c)) then (0, 0, 6) else ((if c then -1 - (beF 0 ((t.take k).map (fl c)) : Int) else (beF 0 ((t.take k).map (fl c)) : Int)), (k : Int) + 1, 0) := by
    rw [gI, ← hc, ← hk]
    by_cases hx : h < 128
    ·rw [hc, decide_eq_true hx]; simp [hx]
    ·rw [hc, decide_eq_false hx]; simp [hx]
   rw [hg]
   unfold wire_GetInt.j4
   simp only [hX]
   rw [grd_b ⟨by omega, by omega⟩]
   by_cases h1 : 8 < k
   ·rw [ite_t (by omega), if_pos h1]
   ·rw [ite_f (by omega), if_neg h1]
    by_cases h2 : t.length < k
    ·rw [ite_t (by omega), if_pos h2]
    ·rw [ite_f (by omega), if_neg h2]
     have e : (if (decide ((0 : Int) < (k : Int))) = true then (grd (0 ≤ (1 : Int) ∧ (1 : Int) < ((h :: t).length : Int))).bind fun _ => some ((bits .xor .u8 (rd (h :: t) (1 : Int)) (fx c)) == (0 : Int)) else some false) = some (decide (((t.take k).map (fl c)).head? = some 0)) := by
      cases k with
      | zero => simp
      | succ k =>
       cases t with
       | nil => simp at h2
       | cons d u =>
        have hd := ht d (by simp)
        rw [ite_t (by omega), grd_b ⟨by omega, by simp; omega⟩, show rd (h :: d :: u) (1 : Int) = d from rfl, xor_fl c hd.1 hd.2]
        simp only [List.take_succ_cons, List.map_cons, List.head?_cons, Option.some.injEq]
        congr 1
     rw [e, bind_s]
     by_cases h3 : ((t.take k).map (fl c)).head? = some 0
     ·rw [ite_t h3, if_pos h3]
     ·rw [ite_f h3, if_neg h3, wrap_id (n := (k : Int) + 1) (by omega) (by omega), grd_b ⟨by omega, by omega, by omega⟩]
      exact gi_l3 ht (by omega) (by omega) hX
  by_cases hx : h < 128
  ·rw [ite_t hx]; exact key true (decide_eq_true hx).symm
  ·rw [ite_f hx]; exact key false (decide_eq_false hx).symm
theorem mag_lt {n : Int} (h : wfI n) : mag n < 9223372036854775808 := by
 obtain ⟨h0, h1⟩ := h
 unfold mag
 split <;> omega
theorem mag_val (n : Int) : (if n < 0 then -1 - (mag n : Int) else (mag n : Int)) = n := by
 unfold mag
 split <;> omega
theorem map_flfl (c : Bool) (l : List Int) : (l.map (fl c)).map (fl c) = l := by
 rw [List.map_map]
 conv => rhs; rw [← List.map_id l]
 exact List.map_congr_left fun x _ => fl_fl c x
theorem gI_enc {n : Int} (h : wfI n) (r : List Int) : gI (encI n ++ r) = (n, ((encI n).length : Int), 0) := by
 have hm := mag_lt h
 have hk : nd (mag n) ≤ 8 := ndF_le 8 _
 have hlt : mag n < 256 ^ nd (mag n) := ndF_lt 8 _ (by omega)
 have hlen : (encI n).length = nd (mag n) + 1 := by unfold encI; rw [List.length_map, List.length_cons, dg_len]
 rw [hlen]
 have he : encI n ++ r = fl (decide (n < 0)) (128 + (nd (mag n) : Int)) :: ((dg (nd (mag n)) (mag n)).map (fl (decide (n < 0))) ++ r) := rfl
 rw [he]
 have hc : decide (fl (decide (n < 0)) (128 + (nd (mag n) : Int)) < 128) = decide (n < 0) := by
  by_cases hn : n < 0
  ·rw [decide_eq_true hn]; apply decide_eq_true; show 255 - _ < (128 : Int); omega
  ·rw [decide_eq_false hn]; apply decide_eq_false; show ¬ (128 + (nd (mag n) : Int)) < 128; omega
 have hc2 : (fl (decide (n < 0)) (128 + (nd (mag n) : Int)) < 128) ↔ n < 0 := by
  have := congrArg (· = true) hc
  simpa using this
 have hkk : (fl (decide (n < 0)) (fl (decide (n < 0)) (128 + (nd (mag n) : Int))) - 128).toNat = nd (mag n) := by rw [fl_fl]; omega
 have htk : ((dg (nd (mag n)) (mag n)).map (fl (decide (n < 0))) ++ r).take (nd (mag n)) = (dg (nd (mag n)) (mag n)).map (fl (decide (n < 0))) := by
  rw [List.take_append_of_le_length (by rw [List.length_map, dg_len]; exact Nat.le_refl _), List.take_of_length_le (by rw [List.length_map, dg_len]; exact Nat.le_refl _)]
 rw [gI, hc, hkk, htk, map_flfl, beF_dg, Nat.zero_mul, Nat.zero_add, Nat.mod_eq_of_lt hlt, if_neg (by omega), if_neg (by rw [List.length_append, List.length_map, dg_len]; omega), if_neg, if_neg (by omega)]
 ·simp only [hc2, mag_val]; rfl
 ·obtain ⟨j, hj⟩ : ∃ j, j = nd (mag n) := ⟨_, rfl⟩
  rw [← hj]
  cases j with
  | zero => simp [dg]
  | succ j =>
   have h1 := ndF_ge 8 (mag n) j hj.symm
   have h2 : mag n < 256 ^ (j + 1) := by rw [hj]; exact hlt
   rw [dg, List.head?_cons]
   intro hx
   have hx : ((mag n / 256 ^ j % 256 : Nat) : Int) = 0 := Option.some.inj hx
   have h3 : 0 < mag n / 256 ^ j := Nat.div_pos h1 (Nat.pow_pos (by decide))
   have h4 : mag n / 256 ^ j < 256 := by
    apply Nat.div_lt_of_lt_mul
    rw [Nat.pow_succ] at h2; exact h2
   omega
theorem gI_err {l : List Int} (h : (gI l).2.2 ≠ 0) : gI l = (0, 0, 5) ∨ gI l = (0, 0, 6) := by
 cases l with
 | nil => exact .inl rfl
 | cons a t =>
  rw [gI] at h ⊢
  split
  ·exact .inr rfl
  ·split
   ·exact .inl rfl
   ·split
    ·exact .inr rfl
    ·split
     ·exact .inr rfl
     ·rename_i h1 h2 h3 h4
      rw [if_neg h1, if_neg h2, if_neg h3, if_neg h4] at h
      exact absurd rfl h
theorem gI_inv {l : List Int} (hb : IsB l) (h : (gI l).2.2 = 0) : wfI (gI l).1 ∧ (gI l).2.1 = ((encI (gI l).1).length : Int) ∧ l = encI (gI l).1 ++ l.drop (encI (gI l).1).length := by
 cases l with
 | nil => cases h
 | cons a t =>
  have ht : IsB t := fun x hx => hb x (by simp [hx])
  have ha := hb a (by simp)
  obtain ⟨c, hc⟩ : ∃ c, c = decide (a < 128) := ⟨_, rfl⟩
  obtain ⟨k, hk⟩ : ∃ k, k = (fl c a - 128).toNat := ⟨_, rfl⟩
  have hf : 128 ≤ fl c a ∧ fl c a < 256 := by
   subst hc
   by_cases hx : a < 128
   ·rw [decide_eq_true hx]; show 128 ≤ 255 - a ∧ 255 - a < 256; omega
   ·rw [decide_eq_false hx]; show 128 ≤ a ∧ a < 256; omega
  have hk' : fl c a = 128 + (k : Int) := by omega
  have hg : gI (a :: t) = if 8 < k then (0, 0, 6) else if t.length < k then (0, 0, 5) else if ((t.take k).map (fl c)).head? = some 0 then (0, 0, 6) else if 9223372036854775808 ≤ beF 0 ((t.take k).map (fl c)) then (0, 0, 6) else ((if a < 128 then -1 - (beF 0 ((t.take k).map (fl c)) : Int) else (beF 0 ((t.take k).map (fl c)) : Int)), (k : Int) + 1, 0) := by
   rw [gI, ← hc, ← hk]
  rw [hg] at h ⊢
  split at h
  ·cases h
  ·rename_i h1
   rw [if_neg h1]
   split at h
   ·cases h
   ·rename_i h2
    rw [if_neg h2]
    split at h
    ·cases h
    ·rename_i h3
     rw [if_neg h3]
     split at h
     ·cases h
     ·rename_i h4
      rw [if_neg h4]
      dsimp only
      obtain ⟨ds, hds⟩ : ∃ ds, ds = (t.take k).map (fl c) := ⟨_, rfl⟩
      have hdl : ds.length = k := by rw [hds, List.length_map, List.length_take]; omega
      have hdb : IsB ds := by
       intro x hx
       rw [hds] at hx
       obtain ⟨y, hy, rfl⟩ := List.mem_map.1 hx
       exact fl_rng (ht y (List.mem_of_mem_take hy))
      rw [← hds] at h3 h4 ⊢
      obtain ⟨m, hm⟩ : ∃ m, m = beF 0 ds := ⟨_, rfl⟩
      have hdm : dg k m = ds := by rw [hm, ← hdl]; exact dg_beF ds 0 hdb
      rw [← hm] at h4 ⊢
      have hmk : m < 256 ^ k := by rw [hm, ← hdl]; exact beF_lt ds hdb
      have hnd : nd m = k := by
       refine ndF_of k m hmk ?_ 8 (by omega)
       cases k with
       | zero => exact .inl rfl
       | succ j =>
        right
        rw [← hdm, dg] at h3
        rcases Nat.lt_or_ge m (256 ^ j) with hx | hx
        ·rw [Nat.div_eq_of_lt hx] at h3; exact absurd rfl h3
        ·exact hx
      obtain ⟨n, hn⟩ : ∃ n, n = (if a < 128 then -1 - (m : Int) else (m : Int)) := ⟨_, rfl⟩
      rw [← hn]
      have hmag : mag n = m := by
       unfold mag
       rw [hn]
       by_cases hx : a < 128
       ·rw [if_pos hx, if_pos (by omega)]; omega
       ·rw [if_neg hx, if_neg (by omega)]; omega
      have hsg : decide (n < 0) = c := by
       rw [hc, hn]
       by_cases hx : a < 128
       ·rw [if_pos hx, decide_eq_true hx]; apply decide_eq_true; omega
       ·rw [if_neg hx, decide_eq_false hx]; apply decide_eq_false; omega
      have he : encI n = a :: t.take k := by
       unfold encI
       rw [hmag, hnd, hdm, hsg, List.map_cons, ← hk', fl_fl, hds, map_flfl]
      have hel : (encI n).length = k + 1 := by rw [he, List.length_cons, List.length_take]; omega
      refine ⟨?_, by rw [hel]; rfl, ?_⟩
      ·rw [hn]
       split
       ·exact ⟨by omega, by omega⟩
       ·exact ⟨by omega, by omega⟩
      ·rw [hel, he, List.drop_succ_cons, List.cons_append, List.take_append_drop]
end Go.Cu


namespace Go.Cu
theorem gI_at (l : List Int) (hb : IsB l) : 0 ≤ (gI l).2.1 ∧ (gI l).2.1 ≤ l.length ∧ (gI l).2.1 ≤ 9 := by
 by_cases h : (gI l).2.2 = 0
 ·obtain ⟨_, h2, h3⟩ := gI_inv hb h
  have h4 := encI_len (gI l).1
  have h5 := congrArg List.length h3
  rw [List.length_append] at h5
  rw [h2]; omega
 ·rcases gI_err h with e | e <;> rw [e] <;> exact ⟨Int.le_refl _, Int.natCast_nonneg _, by decide⟩
def gC (l : List Int) : Int × Int × Int :=
 if (gI l).2.2 ≠ 0 then gI l
 else if (gI l).1 < 0 then ((gI l).1, (gI l).2.1, 6)
 else if (l.length : Int) - (gI l).2.1 < (gI l).1 then ((gI l).1, (gI l).2.1, 5)
 else gI l
theorem wire_count_eq {l : List Int} (hb : IsB l) (hl : l.length ≤ 1099511627) : wire_count l 1 = some (gC l) := by
 obtain ⟨h1, h2, h3⟩ := gI_at l hb
 unfold wire_count wire_count.j1 gC
 rw [wire_GetInt_eq hb (by omega), bind_s]
 by_cases h : (gI l).2.2 = 0
 ·rw [if_neg (bne0 h), if_neg (nn0 h)]
  by_cases h4 : (gI l).1 < 0
  ·rw [ite_t h4, if_pos h4]
  ·rw [ite_f h4, if_neg h4, grd_b (by decide), Int.tdiv_one, wrap_id (n := (l.length : Int) - (gI l).2.1) (by omega) (by omega), wrap_id (by omega) (by omega)]
   by_cases h5 : (l.length : Int) - (gI l).2.1 < (gI l).1
   ·rw [ite_t h5, if_pos h5]
   ·rw [ite_f h5, if_neg h5]
 ·rw [if_pos (bne1 h), if_pos (nn1 h)]
theorem gC_enc {n : Nat} (r : List Int) (hn : n ≤ 1099511627) (hr : n ≤ r.length) : gC (encI (n : Int) ++ r) = ((n : Int), ((encI (n : Int)).length : Int), 0) := by
 unfold gC
 rw [gI_enc ⟨by omega, by omega⟩, if_neg (by simp), if_neg (by omega), if_neg (by dsimp only; rw [List.length_append]; omega)]
theorem gC_inv {l : List Int} (hb : IsB l) (h : (gC l).2.2 = 0) : ∃ n : Nat, (gC l).1 = (n : Int) ∧ (gC l).2.1 = ((encI (n : Int)).length : Int) ∧ l = encI (n : Int) ++ l.drop (encI (n : Int)).length ∧ n ≤ (l.drop (encI (n : Int)).length).length := by
 unfold gC at h ⊢
 split at h
 ·rename_i h1; exact absurd h h1
 ·rename_i h1
  rw [if_neg h1]
  split at h
  ·cases h
  ·rename_i h2
   rw [if_neg h2]
   split at h
   ·cases h
   ·rename_i h3
    rw [if_neg h3]
    obtain ⟨h4, h5, h6⟩ := gI_inv hb h
    obtain ⟨n, hn⟩ := Int.eq_ofNat_of_zero_le (by omega : 0 ≤ (gI l).1)
    rw [hn] at h5 h6 h3
    refine ⟨n, hn, h5, h6, ?_⟩
    have h7 := congrArg List.length h6
    rw [List.length_append] at h7
    omega
theorem gC_err {l : List Int} (h : (gC l).2.2 ≠ 0) : (gC l).2.2 = 5 ∨ (gC l).2.2 = 6 := by
 unfold gC at h ⊢
 split
 ·rename_i h1
  rcases gI_err h1 with e | e <;> rw [e] <;> simp
 ·rename_i h1
  rw [if_neg h1] at h
  split
  ·exact .inr rfl
  ·rename_i h2
   rw [if_neg h2] at h
   split
   ·exact .inl rfl
   ·rename_i h3
    rw [if_neg h3] at h
    exact absurd h h1
structure Dec {α : Type} (g : List Int → α × Int × Int) (e : α → List Int) (V : α → Prop) : Prop where
 enc : ∀ x r, V x → g (e x ++ r) = (x, ((e x).length : Int), 0)
 inv : ∀ l, IsB l → l.length ≤ 1099511627 → (g l).2.2 = 0 → V (g l).1 ∧ (g l).2.1 = ((e (g l).1).length : Int) ∧ l = e (g l).1 ++ l.drop (e (g l).1).length
 err : ∀ l, (g l).2.2 ≠ 0 → (g l).2.2 = 5 ∨ (g l).2.2 = 6
 pos : ∀ x, V x → 1 ≤ (e x).length
 isB : ∀ x, V x → IsB (e x)
theorem Dec.used {α : Type} {g : List Int → α × Int × Int} {e : α → List Int} {V : α → Prop} (D : Dec g e V) {l : List Int} (hb : IsB l) (hl : l.length ≤ 1099511627) (h : (g l).2.2 = 0) : 0 ≤ (g l).2.1 ∧ (g l).2.1 ≤ l.length := by
 obtain ⟨_, h2, h3⟩ := D.inv l hb hl h
 have h4 := congrArg List.length h3
 rw [List.length_append] at h4
 rw [h2]; omega
theorem IsB.drop {l : List Int} (h : IsB l) (k : Nat) : IsB (l.drop k) := fun x hx => h x (List.mem_of_mem_drop hx)
theorem IsB.take {l : List Int} (h : IsB l) (k : Nat) : IsB (l.take k) := fun x hx => h x (List.mem_of_mem_take hx)
theorem encI_pos (n : Int) : 1 ≤ (encI n).length := by unfold encI; simp
theorem dec_int : Dec gI encI wfI where
 enc := fun x r h => gI_enc h r
 inv := fun l hb _ h => gI_inv hb h
 err := fun l h => by rcases gI_err h with e | e <;> rw [e] <;> simp
 pos := fun x _ => encI_pos x
 isB := fun x _ => encI_isB x
def gB (l : List Int) : List UInt8 × Int × Int :=
 if (gC l).2.2 ≠ 0 then ([], 0, (gC l).2.2)
 else (intsB ((l.take ((gC l).2.1 + (gC l).1).toNat).drop (gC l).2.1.toNat), (gC l).2.1 + (gC l).1, 0)
def encB (s : List UInt8) : List Int := encI (s.length : Int) ++ bytesI s
theorem bytesI_len' (s : List UInt8) : (bytesI s).length = s.length := by simp [bytesI]
theorem wire_GetBytes_eq {l : List Int} (hb : IsB l) (hl : l.length ≤ 1099511627) : wire_GetBytes l = some (gB l) := by
 unfold wire_GetBytes gB
 rw [wire_count_eq hb hl, bind_s]
 by_cases h : (gC l).2.2 = 0
 ·obtain ⟨n, h1, h2, h3, h4⟩ := gC_inv hb h
  have h5 := congrArg List.length h3
  rw [List.length_append] at h5
  rw [if_neg (bne0 h), if_neg (nn0 h), wrap_id (by omega) (by omega), grd_b ⟨by omega, by omega, by omega⟩]
 ·rw [if_pos (bne1 h), if_pos (nn1 h)]
theorem dec_bytes : Dec gB encB (fun s => s.length ≤ 1099511627) where
 enc := by
  intro s r h
  unfold gB encB
  rw [List.append_assoc, gC_enc _ h (by rw [List.length_append, bytesI_len']; omega), if_neg (by simp)]
  dsimp only
  rw [Int.toNat_natCast, show ((encI (s.length : Int)).length + (s.length : Int)).toNat = (encI (s.length : Int)).length + s.length by omega, List.drop_take, List.drop_append_of_le_length (Nat.le_refl _), List.drop_length, List.nil_append, Nat.add_sub_cancel_left]
  rw [List.take_append_of_le_length (by rw [bytesI_len']; exact Nat.le_refl _), List.take_of_length_le (by rw [bytesI_len']; exact Nat.le_refl _), intsB_bytesI, List.length_append, bytesI_len']
  simp
 inv := by
  intro l hb hl h
  unfold gB at h ⊢
  split at h
  ·rename_i h1; exact absurd h h1
  ·rename_i h1
   rw [if_neg h1]
   obtain ⟨n, h2, h3, h4, h5⟩ := gC_inv hb (by omega)
   dsimp only
   rw [h2, h3, Int.toNat_natCast, show (((encI (n : Int)).length : Int) + (n : Int)).toNat = (encI (n : Int)).length + n by omega, List.drop_take, Nat.add_sub_cancel_left]
   obtain ⟨t, ht⟩ : ∃ t, t = l.drop (encI (n : Int)).length := ⟨_, rfl⟩
   rw [← ht] at h4 h5 ⊢
   have htb : IsB t := by rw [ht]; exact hb.drop _
   have h6 : (t.take n).length = n := by rw [List.length_take]; omega
   have h8 : encB (intsB (t.take n)) = encI (n : Int) ++ t.take n := by
    unfold encB
    rw [intsB_len, h6, bytesI_intsB (htb.take n)]
   have h9 : (encI (n : Int) ++ t.take n).length = (encI (n : Int)).length + n := by rw [List.length_append, h6]
   have h10 := congrArg List.length h4
   rw [List.length_append] at h10
   refine ⟨by rw [intsB_len, h6]; omega, by rw [h8, h9]; omega, ?_⟩
   rw [h8, h9, ← List.drop_drop, ← ht, List.append_assoc, List.take_append_drop]
   exact h4
 err := by
  intro l h
  unfold gB at h ⊢
  split
  ·rename_i h1; exact gC_err h1
  ·rename_i h1
   rw [if_neg h1] at h
   exact absurd rfl h
 pos := fun s _ => by
  have := encI_pos (s.length : Int)
  unfold encB
  rw [List.length_append]; omega
 isB := fun s _ => (encI_isB _).app (bytesI_isB s)
def gN {α : Type} (g : List Int → α × Int × Int) : Nat → List Int → List α × Int × Int
 | 0, _ => ([], 0, 0)
 | n + 1, l =>
  if (g l).2.2 ≠ 0 then ([], 0, (g l).2.2)
  else if (gN g n (l.drop (g l).2.1.toNat)).2.2 ≠ 0 then ([], 0, (gN g n (l.drop (g l).2.1.toNat)).2.2)
  else ((g l).1 :: (gN g n (l.drop (g l).2.1.toNat)).1, (g l).2.1 + (gN g n (l.drop (g l).2.1.toNat)).2.1, 0)
def gL {α : Type} (g : List Int → α × Int × Int) (l : List Int) : List α × Int × Int :=
 if (gC l).2.2 ≠ 0 then ([], 0, (gC l).2.2)
 else if (gN g (gC l).1.toNat (l.drop (gC l).2.1.toNat)).2.2 ≠ 0 then ([], 0, (gN g (gC l).1.toNat (l.drop (gC l).2.1.toNat)).2.2)
 else ((gN g (gC l).1.toNat (l.drop (gC l).2.1.toNat)).1, (gC l).2.1 + (gN g (gC l).1.toNat (l.drop (gC l).2.1.toNat)).2.1, 0)
def encL {α : Type} (e : α → List Int) (xs : List α) : List Int := encI (xs.length : Int) ++ xs.flatMap e
section
variable {α : Type} {g : List Int → α × Int × Int} {e : α → List Int} {V : α → Prop} (D : Dec g e V)
include D
theorem gN_enc : ∀ (xs : List α) (r : List Int), (∀ x ∈ xs, V x) → gN g xs.length (xs.flatMap e ++ r) = (xs, ((xs.flatMap e).length : Int), 0)
 | [], r, _ => rfl
 | x :: xs, r, h => by
  have ih := gN_enc xs r fun y hy => h y (by simp [hy])
  have he := D.enc x (xs.flatMap e ++ r) (h x (by simp))
  rw [List.flatMap_cons, List.append_assoc, List.length_cons, gN, he]
  dsimp only
  rw [if_neg (by simp), Int.toNat_natCast, List.drop_append_of_le_length (Nat.le_refl _), List.drop_length, List.nil_append, ih, if_neg (by simp), List.length_append]
  simp
theorem gN_err : ∀ (n : Nat) (l : List Int), (gN g n l).2.2 ≠ 0 → (gN g n l).2.2 = 5 ∨ (gN g n l).2.2 = 6
 | 0, l, h => absurd rfl h
 | n + 1, l, h => by
  rw [gN] at h ⊢
  split
  ·rename_i h1; exact D.err l h1
  ·rename_i h1
   rw [if_neg h1] at h
   split
   ·rename_i h2; exact gN_err n _ h2
   ·rename_i h2
    rw [if_neg h2] at h
    exact absurd rfl h
theorem gN_inv : ∀ (n : Nat) (l : List Int), IsB l → l.length ≤ 1099511627 → (gN g n l).2.2 = 0 → (∀ x ∈ (gN g n l).1, V x) ∧ (gN g n l).1.length = n ∧ (gN g n l).2.1 = (((gN g n l).1.flatMap e).length : Int) ∧ l = (gN g n l).1.flatMap e ++ l.drop ((gN g n l).1.flatMap e).length
 | 0, l, _, _, _ => ⟨(fun x hx => by cases hx), rfl, rfl, rfl⟩
 | n + 1, l, hb, hl, h => by
  rw [gN] at h ⊢
  split at h
  ·rename_i h1; exact absurd h h1
  ·rename_i h1
   rw [if_neg h1]
   split at h
   ·rename_i h2; exact absurd h h2
   ·rename_i h2
    rw [if_neg h2]
    obtain ⟨k1, k2, k3⟩ := D.inv l hb hl (by simpa using h1)
    rw [k2, Int.toNat_natCast] at h2 ⊢
    obtain ⟨t, ht⟩ : ∃ t, t = l.drop (e (g l).1).length := ⟨_, rfl⟩
    rw [← ht] at h2 k3 ⊢
    obtain ⟨j1, j2, j3, j4⟩ := gN_inv n t (by rw [ht]; exact hb.drop _) (by rw [ht, List.length_drop]; omega) (by simpa using h2)
    dsimp only
    refine ⟨?_, by rw [List.length_cons, j2], ?_, ?_⟩
    ·intro x hx
     rcases List.mem_cons.1 hx with rfl | hx
     ·exact k1
     ·exact j1 x hx
    ·rw [j3, List.flatMap_cons, List.length_append]; omega
    ·rw [List.flatMap_cons, List.length_append, ← List.drop_drop, ← ht, List.append_assoc, ← j4]
     exact k3
theorem dec_list : Dec (gL g) (encL e) (fun xs => (∀ x ∈ xs, V x) ∧ xs.length ≤ 1099511627) where
 enc := by
  rintro xs r ⟨h1, h2⟩
  have hlen : xs.length ≤ (xs.flatMap e ++ r).length := by
   rw [List.length_append]
   have : ∀ ys : List α, (∀ x ∈ ys, V x) → ys.length ≤ (ys.flatMap e).length := by
    intro ys
    induction ys with
    | nil => intro _; exact Nat.le_refl _
    | cons y ys ih =>
     intro hy
     have h3 := D.pos y (hy y (by simp))
     have h4 := ih fun x hx => hy x (by simp [hx])
     rw [List.flatMap_cons, List.length_append, List.length_cons]; omega
   have := this xs h1
   omega
  unfold gL encL
  rw [List.append_assoc, gC_enc _ h2 hlen]
  dsimp only
  rw [if_neg (by simp), Int.toNat_natCast, Int.toNat_natCast, List.drop_append_of_le_length (Nat.le_refl _), List.drop_length, List.nil_append, gN_enc D xs r h1, if_neg (by simp), List.length_append]
  simp
 inv := by
  intro l hb hl h
  unfold gL at h ⊢
  split at h
  ·rename_i h1; exact absurd h h1
  ·rename_i h1
   rw [if_neg h1]
   split at h
   ·rename_i h2; exact absurd h h2
   ·rename_i h2
    rw [if_neg h2]
    obtain ⟨n, k1, k2, k3, k4⟩ := gC_inv hb (by simpa using h1)
    rw [k1, k2, Int.toNat_natCast, Int.toNat_natCast] at h2 ⊢
    obtain ⟨t, ht⟩ : ∃ t, t = l.drop (encI (n : Int)).length := ⟨_, rfl⟩
    rw [← ht] at h2 k3 k4 ⊢
    obtain ⟨j1, j2, j3, j4⟩ := gN_inv D n t (by rw [ht]; exact hb.drop _) (by rw [ht, List.length_drop]; omega) (by simpa using h2)
    have hll := congrArg List.length k3
    rw [List.length_append] at hll
    dsimp only
    refine ⟨⟨j1, by rw [j2]; omega⟩, ?_, ?_⟩
    ·rw [j3, encL, j2, List.length_append]; omega
    ·rw [encL, j2, List.length_append, ← List.drop_drop, ← ht, List.append_assoc, ← j4]
     exact k3
 err := by
  intro l h
  unfold gL at h ⊢
  split
  ·rename_i h1; exact gC_err h1
  ·rename_i h1
   rw [if_neg h1] at h
   split
   ·rename_i h2; exact gN_err D _ _ h2
   ·rename_i h2
    rw [if_neg h2] at h
    exact absurd rfl h
 pos := fun xs _ => by
  have := encI_pos (xs.length : Int)
  unfold encL
  rw [List.length_append]; omega
 isB := by
  rintro xs ⟨h1, _⟩
  refine (encI_isB _).app ?_
  intro x hx
  obtain ⟨y, hy, hx⟩ := List.mem_flatMap.1 hx
  exact D.isB y (h1 y hy) x hx
theorem loop_rep {σ : Type} {step : σ → Option (σ ⊕ (List α × Int × Int))} (mk : List α → Int → Int → σ) {p : List Int} (hb : IsB p) (hl : p.length ≤ 1099511627) (n : Nat) (hn : n ≤ p.length)
  (hs : ∀ (out : List α) (k i : Nat), i < n → k ≤ p.length → out.length = i → step (mk out (k : Int) (i : Int)) = some (if (g (p.drop k)).2.2 ≠ 0 then .inr ([], 0, (g (p.drop k)).2.2) else .inl (mk (out ++ [(g (p.drop k)).1]) ((k : Int) + (g (p.drop k)).2.1) ((i : Int) + 1))))
  (he : ∀ (out : List α) (k : Nat), k ≤ p.length → step (mk out (k : Int) (n : Int)) = some (.inr (out, (k : Int), 0))) :
  ∀ (m : Nat) (out : List α) (k i : Nat), i + m = n → k ≤ p.length → out.length = i → loopF step (mk out (k : Int) (i : Int)) = some (if (gN g m (p.drop k)).2.2 ≠ 0 then ([], 0, (gN g m (p.drop k)).2.2) else (out ++ (gN g m (p.drop k)).1, (k : Int) + (gN g m (p.drop k)).2.1, 0))
 | 0, out, k, i, h1, h2, h3 => by
  obtain rfl : i = n := by omega
  rw [loopF_done (he out k h2), gN, if_neg (by simp)]
  simp
 | m + 1, out, k, i, h1, h2, h3 => by
  have hk := hs out k i (by omega) h2 h3
  rw [gN]
  by_cases h4 : (g (p.drop k)).2.2 = 0
  ·rw [if_neg (by simp [h4])] at hk
   have h5 : ¬ (g (p.drop k)).2.2 ≠ 0 := by simp [h4]
   obtain ⟨u1, u2⟩ := D.used (hb.drop k) (by rw [List.length_drop]; omega) h4
   rw [List.length_drop] at u2
   obtain ⟨j, hj⟩ := Int.eq_ofNat_of_zero_le u1
   rw [hj] at u2 hk
   rw [loopF_next hk, show (k : Int) + (j : Int) = ((k + j : Nat) : Int) by omega, show (i : Int) + 1 = ((i + 1 : Nat) : Int) by omega, loop_rep mk hb hl n hn hs he m _ (k + j) (i + 1) (by omega) (by omega) (by simp [h3]), if_neg h5, hj, Int.toNat_natCast, List.drop_drop]
   by_cases h6 : (gN g m (p.drop (k + j))).2.2 = 0
   ·simp only [h6, ne_eq, not_true, if_false, List.append_assoc, List.singleton_append]
    congr 3
    omega
   ·have h7 : (gN g m (p.drop (k + j))).2.2 ≠ 0 := h6
    rw [if_pos h7, if_pos h7, if_pos h7]
  ·have h5 : (g (p.drop k)).2.2 ≠ 0 := h4
   rw [if_pos h5] at hk
   rw [loopF_done hk, if_pos h5, if_pos h5]
end
theorem take_int {α : Type} (l : List α) : l.take ((l.length : Int)).toNat = l := by rw [Int.toNat_natCast, List.take_length]
theorem wire_reader_1_eq {p : List Int} (hb : IsB p) (hl : p.length ≤ 1099511627) {k : Nat} (hk : k ≤ p.length) :
  wire_reader_1 p (k : Int) = some (((gI (p.drop k)).1, (k : Int) + (gI (p.drop k)).2.1, (gI (p.drop k)).2.2), (k : Int) + (gI (p.drop k)).2.1) := by
 obtain ⟨h1, h2, h3⟩ := gI_at (p.drop k) (hb.drop k)
 unfold wire_reader_1
 rw [grd_b ⟨by omega, by omega, Int.le_refl _⟩, take_int, Int.toNat_natCast, wire_GetInt_eq (hb.drop k) (by rw [List.length_drop]; omega), bind_s, wrap_id (by omega) (by omega)]
theorem wire_GetInts_eq {l : List Int} (hb : IsB l) (hl : l.length ≤ 1099511627) : wire_GetInts l = some (gL gI l) := by
 unfold wire_GetInts gL
 rw [wire_count_eq hb hl, bind_s]
 by_cases h : (gC l).2.2 = 0
 ·obtain ⟨n, h1, h2, h3, h4⟩ := gC_inv hb h
  have h5 := congrArg List.length h3
  rw [List.length_append] at h5
  have h0 : ¬ (gC l).2.2 ≠ 0 := by simp [h]
  rw [if_neg (bne0 h), if_neg h0, h1, h2, Int.toNat_natCast, Int.toNat_natCast]
  have := loop_rep dec_int (step := wire_GetInts.l2 (gC l) l) (fun out k i => (k, out, k, i)) hb hl n (by omega) ?_ ?_ n [] (encI (n : Int)).length 0 (by omega) (by omega) rfl
  ·rw [List.nil_append] at this
   exact this
  ·intro out k i hi hk ho
   obtain ⟨u1, u2, u3⟩ := gI_at (l.drop k) (hb.drop k)
   unfold wire_GetInts.l2
   dsimp only
   rw [ite_t (by omega), wire_reader_1_eq hb hl hk, bind_s]
   dsimp only
   by_cases h6 : (gI (l.drop k)).2.2 = 0
   ·rw [if_neg (bne0 h6), if_neg (nn0 h6), grd_b (by simp; omega), wrap_id (by omega) (by omega)]
   ·rw [if_pos (bne1 h6), if_pos (nn1 h6)]
  ·intro out k hk
   unfold wire_GetInts.l2
   dsimp only
   rw [ite_f (by omega)]; rfl
 ·have h0 : (gC l).2.2 ≠ 0 := h
  rw [if_pos (bne1 h), if_pos h0]
theorem wire_GetStrings_eq {l : List Int} (hb : IsB l) (hl : l.length ≤ 1099511627) : wire_GetStrings l = some (gL gB l) := by
 unfold wire_GetStrings gL
 rw [wire_count_eq hb hl, bind_s]
 by_cases h : (gC l).2.2 = 0
 ·obtain ⟨n, h1, h2, h3, h4⟩ := gC_inv hb h
  have h5 := congrArg List.length h3
  rw [List.length_append] at h5
  have h0 : ¬ (gC l).2.2 ≠ 0 := by simp [h]
  rw [if_neg (bne0 h), if_neg h0, h1, h2, Int.toNat_natCast, Int.toNat_natCast]
  have := loop_rep dec_bytes (step := wire_GetStrings.l2 (gC l) l) (fun out k i => (out, k, i)) hb hl n (by omega) ?_ ?_ n [] (encI (n : Int)).length 0 (by omega) (by omega) rfl
  ·rw [List.nil_append] at this
   exact this
  ·intro out k i hi hk ho
   have hd : (l.drop k).length ≤ 1099511627 := by rw [List.length_drop]; omega
   unfold wire_GetStrings.l2
   dsimp only
   rw [ite_t (by omega), grd_b ⟨by omega, by omega, Int.le_refl _⟩, take_int, Int.toNat_natCast, wire_GetBytes_eq (hb.drop k) hd, bind_s]
   by_cases h6 : (gB (l.drop k)).2.2 = 0
   ·obtain ⟨u1, u2⟩ := dec_bytes.used (hb.drop k) hd h6
    rw [if_neg (bne0 h6), if_neg (nn0 h6), grd_b (by simp; omega), wrap_id (n := (k : Int) + (gB (l.drop k)).2.1) (by omega) (by omega), wrap_id (by omega) (by omega)]
   ·rw [if_pos (bne1 h6), if_pos (nn1 h6)]
  ·intro out k hk
   unfold wire_GetStrings.l2
   dsimp only
   rw [ite_f (by omega)]; rfl
 ·have h0 : (gC l).2.2 ≠ 0 := h
  rw [if_pos (bne1 h), if_pos h0]
theorem wire_Bytes_eq {s : List UInt8} (h : s.length ≤ 1099511627) : wire_Bytes s = some (encB s) := by
 have h1 := encI_len (s.length : Int)
 unfold wire_Bytes encB
 rw [wire_Int_eq ⟨by omega, by omega⟩, bind_s, grd_b (by rw [bytesI_len']; omega)]
theorem flatMap_len {α : Type} (e : α → List Int) (B : Nat) : ∀ xs : List α, (∀ x ∈ xs, (e x).length ≤ B) → (xs.flatMap e).length ≤ xs.length * B
 | [], _ => by simp
 | x :: xs, h => by
  have h1 := h x (by simp)
  have h2 := flatMap_len e B xs fun y hy => h y (by simp [hy])
  rw [List.flatMap_cons, List.length_append, List.length_cons, Nat.add_mul]; omega
theorem wire_Ints_eq {xs : List Int} (h : ∀ x ∈ xs, wfI x) (hl : xs.length ≤ 1099511627) : wire_Ints xs = some (encL encI xs) := by
 unfold wire_Ints encL
 rw [wire_Int_eq ⟨by omega, by omega⟩, bind_s]
 have h1 := encI_len (xs.length : Int)
 have := loop_list (l := xs) (step := wire_Ints.l2 xs) (fun s => s.2) (fun s r => s.1 ++ r.flatMap encI) (fun s => (s.1.length : Int) ≤ 9 * s.2 + 9) ?_ ?_ (encI (xs.length : Int), 0) 0 (by dsimp only; omega) rfl (Nat.zero_le _)
 ·simpa using this
 ·rintro ⟨o, s⟩ x r k ho hs hd hx hlt
  dsimp only at ho hs ⊢
  subst hs
  have h2 := encI_len x
  refine .inl ⟨(o ++ encI x, (k : Int) + 1), ?_, rfl, by rw [List.length_append]; omega, by simp⟩
  unfold wire_Ints.l2
  dsimp only
  rw [ite_t (by omega), grd_b ⟨by omega, by omega⟩, hx, wire_Int_eq (h x (mem_drop hd)), bind_s, grd_b (by omega), wrap_id (by omega) (by omega)]
 ·rintro ⟨o, s⟩ ho hs
  dsimp only at ho hs ⊢
  subst hs
  unfold wire_Ints.l2
  dsimp only
  rw [ite_f (by omega)]
  simp [wire_Ints.j1]
theorem wire_Strings_eq {xs : List (List UInt8)} (h : ∀ x ∈ xs, x.length ≤ 65536) (hl : xs.length ≤ 65536) : wire_Strings xs = some (encL encB xs) := by
 unfold wire_Strings encL
 rw [wire_Int_eq ⟨by omega, by omega⟩, bind_s]
 have h1 := encI_len (xs.length : Int)
 have := loop_list (l := xs) (step := wire_Strings.l2 xs) (fun s => s.2) (fun s r => s.1 ++ r.flatMap encB) (fun s => (s.1.length : Int) ≤ 70000 * s.2 + 9) ?_ ?_ (encI (xs.length : Int), 0) 0 (by dsimp only; omega) rfl (Nat.zero_le _)
 ·simpa using this
 ·rintro ⟨o, s⟩ x r k ho hs hd hx hlt
  dsimp only at ho hs ⊢
  subst hs
  have h2 := encI_len (x.length : Int)
  have h3 := h x (mem_drop hd)
  have h4 : (encB x).length ≤ 65545 := by unfold encB; rw [List.length_append, bytesI_len']; omega
  refine .inl ⟨(o ++ encB x, (k : Int) + 1), ?_, rfl, by rw [List.length_append]; omega, by simp⟩
  unfold wire_Strings.l2
  dsimp only
  rw [ite_t (by omega), grd_b ⟨by omega, by omega⟩, hx, wire_Bytes_eq (by omega), bind_s, grd_b (by omega), wrap_id (by omega) (by omega)]
 ·rintro ⟨o, s⟩ ho hs
  dsimp only at ho hs ⊢
  subst hs
  unfold wire_Strings.l2
  dsimp only
  rw [ite_f (by omega)]
  simp [wire_Strings.j1]
end Go.Cu


namespace Go.Cu
def inB (n lo hi : Int) : Bool := decide (lo ≤ n) && decide (n ≤ hi)
def vK (k : Key) : Bool :=
 inB k.Type_ 0 31 && ((k.Value.length : Int) == 32) && (bits .andNot .i64 k.Uses 956 == 0) && inB k.Start 0 k.End && inB k.End 0 1099511627776 && inB k.Version 1 2147483647 && inB k.Parent 0 2147483647
theorem keys_within_eq (a b c : Int) : keys_within a b c = some (inB a b c) := by
 unfold keys_within inB
 by_cases h : b ≤ a <;> simp [h]
theorem ref27_within_eq (a b c : Int) : ref27_within a b c = some (inB a b c) := by
 unfold ref27_within inB
 by_cases h : b ≤ a <;> simp [h]
theorem keys_Valid_eq (k : Key) : keys_Valid k = some (vK k) := by
 unfold keys_Valid vK
 simp only [keys_within_eq, Option.bind_some]
 cases inB k.Type_ 0 31 <;> cases ((k.Value.length : Int) == 32) <;> cases (bits .andNot .i64 k.Uses 956 == 0) <;> cases inB k.Start 0 k.End <;> cases inB k.End 0 1099511627776 <;> cases inB k.Version 1 2147483647 <;> simp
theorem wrap_toNat (r : BitVec 64) : IntKind.i64.wrap (r.toNat : Int) = r.toInt := by
 have h := r.isLt
 by_cases h2 : 2 * r.toNat < 2 ^ 64
 ·rw [wrap_id (by omega) (by omega), BitVec.toInt, if_pos h2]
 ·rw [wrap_big (by omega) (by omega), BitVec.toInt, if_neg h2]
  omega
theorem toInt_ofInt {u : Int} (hu : wfI u) : (BitVec.ofInt 64 u).toInt = u := by
 obtain ⟨h0, h1⟩ := hu
 rw [BitVec.toInt_ofInt, Int.bmod_eq_of_le] <;> omega
theorem bits_same {u : Int} (hu : wfI u) : (bits .and .i64 u 956 == u) = (bits .andNot .i64 u 956 == 0) := by
 have e1 : bits .and .i64 u 956 = (BitVec.ofInt 64 u &&& BitVec.ofInt 64 956).toInt := wrap_toNat _
 have e2 : bits .andNot .i64 u 956 = (BitVec.ofInt 64 u &&& ~~~ BitVec.ofInt 64 956).toInt := wrap_toNat _
 have e3 : u = (BitVec.ofInt 64 u).toInt := (toInt_ofInt hu).symm
 rw [Bool.eq_iff_iff, beq_iff_eq, beq_iff_eq, e1, e2]
 generalize hx : BitVec.ofInt 64 u = x at e3
 rw [e3, show (0 : Int) = (0 : BitVec 64).toInt from rfl, BitVec.toInt_inj, BitVec.toInt_inj]
 generalize BitVec.ofInt 64 956 = m
 constructor
 ·intro h
  apply BitVec.eq_of_getLsbD_eq
  intro i hi
  have := congrArg (fun y => y.getLsbD i) h
  simp only [BitVec.getLsbD_and] at this
  simp only [BitVec.getLsbD_and, BitVec.getLsbD_not, hi, decide_true, Bool.true_and]
  cases hx : x.getLsbD i <;> cases hm : m.getLsbD i <;> simp_all
 ·intro h
  apply BitVec.eq_of_getLsbD_eq
  intro i hi
  have := congrArg (fun y => y.getLsbD i) h
  simp only [BitVec.getLsbD_and, BitVec.getLsbD_not, hi, decide_true, Bool.true_and] at this
  simp only [BitVec.getLsbD_and]
  cases hx : x.getLsbD i <;> cases hm : m.getLsbD i <;> simp_all
theorem ref27_Valid_eq {k : Key} (hu : wfI k.Uses) : ref27_Valid k = some (vK k) := by
 unfold ref27_Valid vK
 simp only [ref27_within_eq, Option.bind_some, bits_same hu]
 have e : (inB k.Start 0 1099511627776 && inB k.End k.Start 1099511627776) = (inB k.Start 0 k.End && inB k.End 0 1099511627776) := by
  unfold inB
  rw [Bool.eq_iff_iff]
  simp
  omega
 have e' : ∀ b : Bool, (inB k.Start 0 1099511627776 && (inB k.End k.Start 1099511627776 && b)) = (inB k.Start 0 k.End && (inB k.End 0 1099511627776 && b)) := by
  intro b; rw [← Bool.and_assoc, e, Bool.and_assoc]
 have e2 : ∀ b : Bool, (if inB k.Start 0 1099511627776 = true then (if inB k.End k.Start 1099511627776 = true then some b else some false) else some false) = some (inB k.Start 0 k.End && (inB k.End 0 1099511627776 && b)) := by
  intro b
  rw [← e']
  cases inB k.Start 0 1099511627776 <;> cases inB k.End k.Start 1099511627776 <;> rfl
 have e3 : (if inB k.Version 1 2147483647 = true then some (inB k.Parent 0 2147483647) else some false) = some (inB k.Version 1 2147483647 && inB k.Parent 0 2147483647) := by
  cases inB k.Version 1 2147483647 <;> rfl
 rw [e3, e2]
 cases inB k.Type_ 0 31 <;> cases ((k.Value.length : Int) == 32) <;> cases (bits .andNot .i64 k.Uses 956 == 0) <;> cases inB k.Start 0 k.End <;> cases inB k.End 0 1099511627776 <;> simp
theorem grd_t {β : Type} {p : Prop} [Decidable p] (h : p) (f : Unit → Option β) : ((grd p).bind f) = f () := by simp [grd, h]
def ixM {α : Type} (q : α → Bool) : Int → List α → Int
 | _, [] => -1
 | k, x :: r => if q x then k else ixM q (k + 1) r
theorem indexKey_eq {l : List Key} {p : Key → Option Bool} {q : Key → Bool} (hl : l.length ≤ 1099511627776) (hp : ∀ x ∈ l, p x = some (q x)) : slices_IndexFunc_Key l p = some (ixM q 0 l) := by
 unfold slices_IndexFunc_Key
 have := loop_list (l := l) (step := slices_IndexFunc_Key.l2 l p) (fun s => s) (fun s r => ixM q s r) (fun _ => True) ?_ ?_ 0 0 trivial rfl (Nat.zero_le _)
 ·simpa using this
 ·intro s x r k _ hk hd hx hlt
  have hk : s = (k : Int) := hk
  subst hk
  have hmem : x ∈ l := by
   have : x ∈ l.drop k := by rw [hd]; simp
   exact List.mem_of_mem_drop this
  unfold slices_IndexFunc_Key.l2
  rw [if_pos (by simpa using hlt), grd_t ⟨by omega, by omega⟩, hx, hp x hmem]
  simp only [Option.bind_some, ixM]
  cases q x with
  | true => exact .inr rfl
  | false =>
   refine .inl ⟨k + 1, ?_, rfl, trivial, rfl⟩
   rw [wrap_id (by omega) (by omega)]; rfl
 ·intro s _ hs
  have hs : s = (l.length : Int) := hs
  subst hs
  unfold slices_IndexFunc_Key.l2
  rw [if_neg (by simp)]
  rfl
theorem ixM_any {α : Type} (q : α → Bool) : ∀ (l : List α) (k : Int), 0 ≤ k → decide (0 ≤ ixM q k l) = l.any q
 | [], k, _ => by simp [ixM]
 | x :: r, k, h => by
  unfold ixM
  cases hq : q x with
  | true => simp [hq, h]
  | false => simp only [Bool.false_eq_true, if_false, List.any_cons, hq, Bool.false_or]; exact ixM_any q r (k + 1) (by omega)
theorem indexInt_eq {l : List Int} {p : Int → Option Bool} {q : Int → Bool} (hl : l.length ≤ 1099511627776) (hp : ∀ x ∈ l, p x = some (q x)) : slices_IndexFunc_int l p = some (ixM q 0 l) := by
 unfold slices_IndexFunc_int
 have := loop_list (l := l) (step := slices_IndexFunc_int.l2 l p) (fun s => s) (fun s r => ixM q s r) (fun _ => True) ?_ ?_ 0 0 trivial rfl (Nat.zero_le _)
 ·simpa using this
 ·intro s x r k _ hk hd hx hlt
  have hk : s = (k : Int) := hk
  subst hk
  unfold slices_IndexFunc_int.l2
  rw [if_pos (by simpa using hlt), grd_t ⟨by omega, by omega⟩, hx, hp x (mem_drop hd)]
  simp only [Option.bind_some, ixM]
  cases q x with
  | true => exact .inr rfl
  | false =>
   refine .inl ⟨k + 1, ?_, rfl, trivial, rfl⟩
   rw [wrap_id (by omega) (by omega)]; rfl
 ·intro s _ hs
  have hs : s = (l.length : Int) := hs
  subst hs
  unfold slices_IndexFunc_int.l2
  rw [if_neg (by simp)]
  rfl
theorem containsInt_eq {l : List Int} {p : Int → Option Bool} {q : Int → Bool} (hl : l.length ≤ 1099511627776) (hp : ∀ x ∈ l, p x = some (q x)) : slices_ContainsFunc_int l p = some (l.any q) := by
 unfold slices_ContainsFunc_int
 rw [indexInt_eq hl hp]
 simp only [Option.bind_some, ixM_any q l 0 (Int.le_refl _)]
theorem containsKey_eq {l : List Key} {p : Key → Option Bool} {q : Key → Bool} (hl : l.length ≤ 1099511627776) (hp : ∀ x ∈ l, p x = some (q x)) : slices_ContainsFunc_Key l p = some (l.any q) := by
 unfold slices_ContainsFunc_Key
 rw [indexKey_eq hl hp]
 simp only [Option.bind_some, ixM_any q l 0 (Int.le_refl _)]
theorem backup_within_1_eq (x m : Int) : backup_within_1 x m = some (!inB x 0 m) := by
 unfold backup_within_1 inB
 by_cases h : x < 0
 ·simp [h, show ¬ (0 ≤ x) by omega]
 ·simp only [h, decide_false, show (0 ≤ x) by omega, decide_true, Bool.true_and, Bool.false_eq_true, if_false, Option.bind_some]
  congr 1
  rw [Bool.eq_iff_iff]
  simp
theorem backup_within_eq {m : Int} {l : List Int} (hl : l.length ≤ 1099511627776) : backup_within m l = some (l.all fun x => inB x 0 m) := by
 unfold backup_within
 rw [containsInt_eq (q := fun x => !inB x 0 m) hl (fun x _ => backup_within_1_eq x m)]
 simp only [Option.bind_some]
 rw [List.all_eq_not_any_not]
def vIds : Int → List Key → Bool
 | _, [] => true
 | last, k :: r => vK k && (decide (last < k.Id) && (decide (k.Id ≤ 2147483647) && vIds k.Id r))
def vHd (b : Backup) : Bool :=
 inB b.Epoch 0 2147483647 && (inB b.Number 0 2147483647 && (inB b.Firmware 0 2147483647 && (inB b.Time 0 1099511627776 && (inB b.Module.length 1 12 && decide ((b.Keys.length : Int) ≤ 4096)))))
def vBk (b : Backup) : Bool := vHd b && vIds 0 b.Keys
structure wfB (b : Backup) : Prop where
 len : b.Keys.length ≤ 1099511627776
 mod : b.Module.length ≤ 1099511627776
 use : ∀ k ∈ b.Keys, wfI k.Uses
theorem bad_key (k : Key) (last : Int) {α : Type} (f : Bool → Option α) :
  (if (!vK k) = true then some true else if decide (k.Id ≤ last) = true then some true else some (decide ((2147483647 : Int) < k.Id))).bind f =
   f (!(vK k && (decide (last < k.Id) && decide (k.Id ≤ 2147483647)))) := by
 cases vK k with
 | false => rfl
 | true =>
  by_cases h : k.Id ≤ last
  ·simp [h, show ¬ last < k.Id by omega]
  ·by_cases h2 : (2147483647 : Int) < k.Id
   ·simp [h, h2, show last < k.Id by omega, show ¬ k.Id ≤ 2147483647 by omega]
   ·simp [h, h2, show last < k.Id by omega, show k.Id ≤ 2147483647 by omega]
theorem backup_Valid_j1 {b : Backup} (h : wfB b) : backup_Valid.j1 b = some (vHd b) := by
 have hm := h.mod
 unfold backup_Valid.j1
 rw [backup_within_eq (by simp), backup_within_eq (by simp), backup_within_eq (by simp), wrap_id (by omega) (by omega)]
 have e : inB ((b.Module.length : Int) - 1) 0 11 = inB b.Module.length 1 12 := by
  unfold inB
  rw [Bool.eq_iff_iff]
  simp
  omega
 simp only [List.all_cons, List.all_nil, Bool.and_true, Option.bind_some, e, vHd]
 cases inB b.Epoch 0 2147483647 <;> cases inB b.Number 0 2147483647 <;> cases inB b.Firmware 0 2147483647 <;> cases inB b.Time 0 1099511627776 <;> cases inB b.Module.length 1 12 <;> rfl
theorem backup_Valid_eq {b : Backup} (h : wfB b) : backup_Valid b = some (vBk b) := by
 unfold backup_Valid vBk
 have hl := h.len
 have := loop_list (l := b.Keys) (step := backup_Valid.l2 b) (fun s => s.2) (fun s r => vHd b && vIds s.1 r) (fun _ => True) ?_ ?_ (0, 0) 0 trivial rfl (Nat.zero_le _)
 ·simpa using this
 ·rintro ⟨last, s⟩ x r k _ hk hd hx hlt
  have hk : s = (k : Int) := hk
  subst hk
  unfold backup_Valid.l2
  dsimp only
  rw [if_pos (by simpa using hlt), grd_t ⟨by omega, by omega⟩, hx, keys_Valid_eq]
  simp only [Option.bind_some]
  rw [bad_key]
  simp only [vIds]
  cases hv : (vK x && (decide (last < x.Id) && decide (x.Id ≤ 2147483647))) with
  | true =>
   refine .inl ⟨(x.Id, k + 1), ?_, rfl, trivial, ?_⟩
   ·rw [if_neg (by simp), wrap_id (by omega) (by omega)]
   ·simp only [← Bool.and_assoc] at hv ⊢
    rw [Bool.and_assoc (vHd b), Bool.and_assoc (vHd b), hv]
    simp
  | false =>
   refine .inr ?_
   rw [if_pos (by simp)]
   simp only [← Bool.and_assoc] at hv ⊢
   rw [Bool.and_assoc (vHd b), Bool.and_assoc (vHd b), hv]
   simp
 ·rintro ⟨last, s⟩ _ hs
  have hs : s = (b.Keys.length : Int) := hs
  subst hs
  unfold backup_Valid.l2
  dsimp only
  rw [if_neg (by simp), backup_Valid_j1 h]
  simp [vIds]
structure wfT (t : Table) : Prop where
 len : t.Keys.length ≤ 1099511627776
 nxt : wfI t.Next
 use : ∀ k ∈ t.Keys, wfI k.Uses
structure inT (t : Table) : Prop where
 nxt : wfI t.Next
 use : ∀ k ∈ t.Keys, wfI k.Uses
end Go.Cu


namespace Go.Cu
def gD (l : List Int) : Vector Int 16 × Int × Int := if l.length < 16 then (Vector.replicate 16 0, 0, 5) else (lv l 0 16, 16, 0)
theorem lv_take (l : List Int) (n : Nat) : lv (l.take n) 0 n = lv l 0 n := by
 unfold lv
 apply Vector.ext
 intro i hi
 simp only [Vector.getElem_ofFn, Nat.zero_add, List.getD, List.getElem?_take, if_pos hi]
theorem lv_toList {l : List Int} {n : Nat} (h : n ≤ l.length) : (lv l 0 n).toList = l.take n := by
 apply List.ext_getElem
 ·simp; omega
 ·intro i h1 h2
  have hi : i < n := by simpa using h1
  have : i < l.length := by omega
  simp [lv, List.getD, this]
theorem backup_digest_eq (l : List Int) : backup_digest l = some (gD l) := by
 unfold backup_digest gD
 by_cases h : l.length < 16
 ·rw [ite_t (by omega), if_pos h]
 ·have e : ((l.take ((16 : Int)).toNat).drop ((0 : Int)).toNat) = l.take 16 := rfl
  rw [ite_f (by omega), if_neg h, grd_b ⟨by decide, by decide, by omega⟩, e, grd_b (by rw [List.length_take]; omega), lv_take]
theorem dec_digest : Dec gD (fun v => v.toList) (fun v => IsB v.toList) where
 enc := by
  intro v r h
  have hv : v.toList.length = 16 := by simp
  unfold gD
  rw [if_neg (by rw [List.length_append]; omega)]
  have : lv (v.toList ++ r) 0 16 = v := by
   apply Vector.toList_inj.1
   rw [lv_toList (by rw [List.length_append]; omega), List.take_append_of_le_length (by omega), List.take_of_length_le (by omega)]
  rw [this, hv]; rfl
 inv := by
  intro l hb hl h
  unfold gD at h ⊢
  split at h
  ·cases h
  ·rename_i h1
   rw [if_neg h1]
   dsimp only
   have e : (lv l 0 16).toList = l.take 16 := lv_toList (by omega)
   have el : (l.take 16).length = 16 := by rw [List.length_take]; omega
   rw [e, el, List.take_append_drop]
   exact ⟨hb.take 16, rfl, rfl⟩
 err := by
  intro l h
  unfold gD at h ⊢
  split
  ·exact .inl rfl
  ·rename_i h1
   rw [if_neg h1] at h
   exact absurd rfl h
 pos := fun v _ => by simp
 isB := fun v h => h
def ckR (x : backup_reader) (ok : Bool) (e : Int) : Bool × backup_reader := if x.e = 0 ∧ ok = false then ((e == 0), { x with e := e }) else ((x.e == 0), x)
theorem check_eq (x : backup_reader) (ok : Bool) (e : Int) : backup_reader_check x ok e = some (ckR x ok e) := by
 unfold backup_reader_check backup_reader_check.j1 ckR
 by_cases h : x.e = 0
 ·cases ok <;> simp [h]
 ·simp [h]
theorem ckR_err {x : backup_reader} (h : x.e ≠ 0) (ok : Bool) (e : Int) : ckR x ok e = (false, x) := by
 unfold ckR
 rw [if_neg (by simp [h])]
 simp [h]
theorem ckR_ok {x : backup_reader} (h : x.e = 0) (e : Int) : ckR x true e = (true, x) := by
 unfold ckR
 rw [if_neg (by simp)]
 simp [h]
theorem ckR_no {x : backup_reader} (h : x.e = 0) {e : Int} (he : e ≠ 0) : ckR x false e = (false, { x with e := e }) := by
 unfold ckR
 rw [if_pos ⟨h, rfl⟩]
 simp [he]
def rdR {α : Type} (d : α) (g : List Int → α × Int × Int) (x : backup_reader) : α × backup_reader :=
 if x.e ≠ 0 then (d, x) else if (g x.rest_).2.2 ≠ 0 then (d, { x with e := (g x.rest_).2.2 }) else ((g x.rest_).1, { x with rest_ := x.rest_.drop (g x.rest_).2.1.toNat })
def whR {α : Type} (d : α) (g : List Int → α × Int × Int) (x : backup_reader) : α × backup_reader :=
 ((rdR d g x).1, (ckR (rdR d g x).2 (((rdR d g x).2.rest_.length : Int) == 0) 6).2)
theorem rdR_err {α : Type} {d : α} {g : List Int → α × Int × Int} {x : backup_reader} (h : x.e ≠ 0) : rdR d g x = (d, x) := by unfold rdR; rw [if_pos h]
theorem whR_err {α : Type} {d : α} {g : List Int → α × Int × Int} {x : backup_reader} (h : x.e ≠ 0) : whR d g x = (d, x) := by
 unfold whR; rw [rdR_err h, ckR_err (by exact h)]
theorem rdR_no {α : Type} {d : α} {g : List Int → α × Int × Int} {x : backup_reader} (h : x.e = 0) (hg : (g x.rest_).2.2 ≠ 0) : rdR d g x = (d, { x with e := (g x.rest_).2.2 }) := by
 unfold rdR; rw [if_neg (by simp [h]), if_pos hg]
theorem rdR_ok {α : Type} {d : α} {g : List Int → α × Int × Int} {x : backup_reader} (h : x.e = 0) (hg : (g x.rest_).2.2 = 0) : rdR d g x = ((g x.rest_).1, { x with rest_ := x.rest_.drop (g x.rest_).2.1.toNat }) := by
 unfold rdR; rw [if_neg (by simp [h]), if_neg (by simp [hg])]
theorem whR_no {α : Type} {d : α} {g : List Int → α × Int × Int} {x : backup_reader} (h : x.e = 0) (hg : (g x.rest_).2.2 ≠ 0) : whR d g x = (d, { x with e := (g x.rest_).2.2 }) := by
 unfold whR; rw [rdR_no h hg, ckR_err (by exact hg)]
theorem whR_more {α : Type} {d : α} {g : List Int → α × Int × Int} {x : backup_reader} (h : x.e = 0) (hg : (g x.rest_).2.2 = 0) (hr : (x.rest_.drop (g x.rest_).2.1.toNat).length ≠ 0) : whR d g x = ((g x.rest_).1, { ({ x with rest_ := x.rest_.drop (g x.rest_).2.1.toNat } : backup_reader) with e := 6 }) := by
 unfold whR
 rw [rdR_ok h hg]
 have : ((((x.rest_.drop (g x.rest_).2.1.toNat).length : Int)) == 0) = false := by simpa using hr
 dsimp only
 rw [this, ckR_no (by exact h) (by decide)]
theorem whR_ok {α : Type} {d : α} {g : List Int → α × Int × Int} {x : backup_reader} (h : x.e = 0) (hg : (g x.rest_).2.2 = 0) (hr : (x.rest_.drop (g x.rest_).2.1.toNat).length = 0) : whR d g x = ((g x.rest_).1, { x with rest_ := x.rest_.drop (g x.rest_).2.1.toNat }) := by
 unfold whR
 rw [rdR_ok h hg]
 have : ((((x.rest_.drop (g x.rest_).2.1.toNat).length : Int)) == 0) = true := by rw [hr]; rfl
 dsimp only
 rw [this, ckR_ok (by exact h)]
theorem rdR_of {α : Type} {e : α → List Int} {V : α → Prop} {d : α} {g : List Int → α × Int × Int} (D : Dec g e V) {x : backup_reader} (hb : IsB x.rest_) (hl : x.rest_.length ≤ 1099511627) {F : α × Int × Int → Bool × backup_reader → Option (α × backup_reader)}
  (hF : ∀ t u, F t u = if (!u.1) = true then some (d, u.2) else (grd (0 ≤ t.2.1 ∧ t.2.1 ≤ (u.2.rest_.length : Int) ∧ (u.2.rest_.length : Int) ≤ (u.2.rest_.length : Int))).bind fun _ => some (t.1, ({ u.2 with rest_ := ((u.2.rest_.take ((u.2.rest_.length : Int)).toNat).drop (t.2.1).toNat) } : backup_reader))) :
  (if (x.e != (0 : Int)) = true then some (d, x) else F (g x.rest_) (ckR x ((g x.rest_).2.2 == (0 : Int)) (g x.rest_).2.2)) = some (rdR d g x) := by
 by_cases h : x.e = 0
 ·rw [if_neg (by simp [h]), hF]
  by_cases hg : (g x.rest_).2.2 = 0
  ·obtain ⟨u1, u2⟩ := D.used hb hl hg
   rw [rdR_ok h hg, hg, show ((0 : Int) == 0) = true from rfl, ckR_ok (by exact h)]
   dsimp only
   rw [if_neg (by simp), grd_b ⟨u1, u2, Int.le_refl _⟩, take_int]
  ·have e : ((g x.rest_).2.2 == (0 : Int)) = false := by simpa using hg
   rw [rdR_no h hg, e, ckR_no (by exact h) hg]
   rfl
 ·rw [if_pos (by simpa using h), rdR_err h]
theorem read_string_eq {x : backup_reader} (hb : IsB x.rest_) (hl : x.rest_.length ≤ 1099511627) : backup_read_string x = some (rdR [] gB x) := by
 unfold backup_read_string
 rw [wire_GetBytes_eq hb hl, bind_s]
 simp only [check_eq, bind_s]
 exact rdR_of (d := []) dec_bytes hb hl (fun t u => rfl)
theorem read_digest_eq {x : backup_reader} (hb : IsB x.rest_) (hl : x.rest_.length ≤ 1099511627) : backup_read_Digest x = some (rdR (Vector.replicate 16 0) gD x) := by
 unfold backup_read_Digest
 rw [backup_digest_eq, bind_s]
 simp only [check_eq, bind_s]
 exact rdR_of (d := Vector.replicate 16 0) dec_digest hb hl (fun t u => rfl)
theorem read_ints_eq {x : backup_reader} (hb : IsB x.rest_) (hl : x.rest_.length ≤ 1099511627) : backup_read_LLint x = some (rdR [] (gL gI) x) := by
 unfold backup_read_LLint
 rw [wire_GetInts_eq hb hl, bind_s]
 simp only [check_eq, bind_s]
 exact rdR_of (d := []) (dec_list dec_int) hb hl (fun t u => rfl)
theorem read_strings_eq {x : backup_reader} (hb : IsB x.rest_) (hl : x.rest_.length ≤ 1099511627) : backup_read_LLstring x = some (rdR [] (gL gB) x) := by
 unfold backup_read_LLstring
 rw [wire_GetStrings_eq hb hl, bind_s]
 simp only [check_eq, bind_s]
 exact rdR_of (d := []) (dec_list dec_bytes) hb hl (fun t u => rfl)
theorem whole_string_eq {x : backup_reader} (hb : IsB x.rest_) (hl : x.rest_.length ≤ 1099511627) : backup_whole_string x = some (whR [] gB x) := by
 unfold backup_whole_string
 rw [read_string_eq hb hl, bind_s, check_eq, bind_s]; rfl
theorem whole_ints_eq {x : backup_reader} (hb : IsB x.rest_) (hl : x.rest_.length ≤ 1099511627) : backup_whole_LLint x = some (whR [] (gL gI) x) := by
 unfold backup_whole_LLint
 rw [read_ints_eq hb hl, bind_s, check_eq, bind_s]; rfl
theorem whole_strings_eq {x : backup_reader} (hb : IsB x.rest_) (hl : x.rest_.length ≤ 1099511627) : backup_whole_LLstring x = some (whR [] (gL gB) x) := by
 unfold backup_whole_LLstring
 rw [read_strings_eq hb hl, bind_s, check_eq, bind_s]; rfl
def zK : Key := ⟨0, 0, [], 0, 0, 0, 0, 0, false⟩
def mkK (n : List Int) (v : List UInt8) : Key := ⟨rd n 0, rd n 1, v, rd n 2, rd n 3, rd n 4, rd n 5, rd n 6, rd n 7 == 1⟩
def pkN (p : List Int) (v : List UInt8) : Key × Int :=
 if (gL gI p).2.2 ≠ 0 then (zK, (gL gI p).2.2)
 else if (p.drop (gL gI p).2.1.toNat).length ≠ 0 then (zK, 6)
 else if (gL gI p).1.length ≠ 8 then (zK, 6)
 else if inB (rd (gL gI p).1 7) 0 1 = true then (mkK (gL gI p).1 v, 0) else (zK, 6)
def pkS (l : List Int) : Key × Int :=
 if (gL gB l).2.2 ≠ 0 then (zK, (gL gB l).2.2)
 else if (l.drop (gL gB l).2.1.toNat).length ≠ 0 then (zK, 6)
 else if (gL gB l).1.length ≠ 2 then (zK, 6)
 else pkN (bytesI (rd (gL gB l).1 0)) (rd (gL gB l).1 1)
theorem key_err {x : backup_reader} (h : x.e ≠ 0) {s : List UInt8} (hs : s.length ≤ 1099511627) : backup_reader_key x s = some (zK, x) := by
 unfold backup_reader_key
 rw [whole_strings_eq (x := ⟨bytesI s, x.e⟩) (bytesI_isB s) (by rw [bytesI_len']; exact hs), bind_s, whR_err (x := ⟨bytesI s, x.e⟩) h, check_eq, ckR_err (x := ⟨bytesI s, x.e⟩) h, bind_s]
 rfl
theorem key_j2 {k : Key} {x y : backup_reader} {t : Bool × backup_reader} : backup_reader_key.j2 k x t y = some (k, { x with e := y.e }) := rfl
theorem within1 (n : Int) : backup_within 1 [n] = some (inB n 0 1) := by
 rw [backup_within_eq (by simp)]; simp
theorem key_num {x : backup_reader} {s v : List UInt8} {l : List (List UInt8)} {t : Bool × backup_reader} (hl : l.length = 2) (hs : rd l 0 = s) (hv : rd l 1 = v) (hsl : s.length ≤ 1099511627) :
  ((grd (0 ≤ (0 : Int) ∧ (0 : Int) < (l.length : Int))).bind fun _ =>
  (backup_whole_LLint (⟨(bytesI (rd l (0 : Int))), (0 : Int)⟩ : backup_reader)).bind fun t46 =>
  (backup_reader_check t46.2 ((t46.1.length : Int) == (8 : Int)) (6 : Int)).bind fun t62 =>
  if t62.1 = true then
   (grd (0 ≤ (7 : Int) ∧ (7 : Int) < (t46.1.length : Int))).bind fun _ =>
   (backup_within (1 : Int) ([(rd t46.1 (7 : Int))] : List Int)).bind fun t76 =>
   (backup_reader_check t62.2 t76 (6 : Int)).bind fun t82 =>
   if t82.1 = true then
    (grd (0 ≤ (0 : Int) ∧ (0 : Int) < (t46.1.length : Int))).bind fun _ =>
    (grd (0 ≤ (1 : Int) ∧ (1 : Int) < (t46.1.length : Int))).bind fun _ =>
    (grd (0 ≤ (1 : Int) ∧ (1 : Int) < (l.length : Int))).bind fun _ =>
    (grd (0 ≤ (2 : Int) ∧ (2 : Int) < (t46.1.length : Int))).bind fun _ =>
    (grd (0 ≤ (3 : Int) ∧ (3 : Int) < (t46.1.length : Int))).bind fun _ =>
    (grd (0 ≤ (4 : Int) ∧ (4 : Int) < (t46.1.length : Int))).bind fun _ =>
    (grd (0 ≤ (5 : Int) ∧ (5 : Int) < (t46.1.length : Int))).bind fun _ =>
    (grd (0 ≤ (6 : Int) ∧ (6 : Int) < (t46.1.length : Int))).bind fun _ =>
    (grd (0 ≤ (7 : Int) ∧ (7 : Int) < (t46.1.length : Int))).bind fun _ =>
    (some (⟨(rd t46.1 (0 : Int)), (rd t46.1 (1 : Int)), (rd l (1 : Int)), (rd t46.1 (2 : Int)), (rd t46.1 (3 : Int)), (rd t46.1 (4 : Int)), (rd t46.1 (5 : Int)), (rd t46.1 (6 : Int)), ((rd t46.1 (7 : Int)) == (1 : Int))⟩ : Key)).bind fun z186 =>
    backup_reader_key.j2 z186 x t t82.2
   else
    backup_reader_key.j2 (⟨(0 : Int), (0 : Int), ([] : List UInt8), (0 : Int), (0 : Int), (0 : Int), (0 : Int), (0 : Int), false⟩ : Key) x t t82.2
  else
   backup_reader_key.j2 (⟨(0 : Int), (0 : Int), ([] : List UInt8), (0 : Int), (0 : Int), (0 : Int), (0 : Int), (0 : Int), false⟩ : Key) x t t62.2) = some ((pkN (bytesI s) v).1, { x with e := (pkN (bytesI s) v).2 }) := by
 have hb : IsB (bytesI s) := bytesI_isB s
 have hbl : (bytesI s).length ≤ 1099511627 := by rw [bytesI_len']; exact hsl
 rw [grd_b ⟨by decide, by omega⟩, hs, hv, whole_ints_eq (x := ⟨bytesI s, 0⟩) hb hbl, bind_s, check_eq, bind_s]
 unfold pkN
 by_cases h1 : (gL gI (bytesI s)).2.2 = 0
 ·have h1' : ¬ (gL gI (bytesI s)).2.2 ≠ 0 := by simp [h1]
  rw [if_neg h1']
  by_cases h2 : ((bytesI s).drop (gL gI (bytesI s)).2.1.toNat).length = 0
  ·have h2' : ¬ ((bytesI s).drop (gL gI (bytesI s)).2.1.toNat).length ≠ 0 := by simpa using h2
   rw [if_neg h2', whR_ok (x := ⟨bytesI s, 0⟩) rfl h1 h2]
   dsimp only
   by_cases h3 : (gL gI (bytesI s)).1.length = 8
   ·have e3 : (((gL gI (bytesI s)).1.length : Int) == (8 : Int)) = true := by rw [h3]; rfl
    rw [if_neg (nnN h3), e3, ckR_ok (by exact rfl), it_tt, grd_b ⟨by decide, by omega⟩, within1, bind_s, check_eq, bind_s]
    cases h4 : inB (rd (gL gI (bytesI s)).1 7) 0 1 with
    | true =>
     rw [it_tt, ckR_ok (by exact rfl), it_tt, grd_b ⟨by decide, by omega⟩, grd_b ⟨by decide, by omega⟩, grd_b ⟨by decide, by omega⟩, grd_b ⟨by decide, by omega⟩, grd_b ⟨by decide, by omega⟩, grd_b ⟨by decide, by omega⟩, grd_b ⟨by decide, by omega⟩, grd_b ⟨by decide, by omega⟩, grd_b ⟨by decide, by omega⟩, bind_s, key_j2]
     rfl
    | false =>
     rw [it_ff, ckR_no (by exact rfl) (by decide), it_ff, key_j2]
     rfl
   ·have e3 : (((gL gI (bytesI s)).1.length : Int) == (8 : Int)) = false := by simpa using (by omega : ¬ ((gL gI (bytesI s)).1.length : Int) = 8)
    rw [if_pos (show _ ≠ _ from h3), e3, ckR_no (by exact rfl) (by decide), it_ff, key_j2]
    rfl
  ·have h2' : ((bytesI s).drop (gL gI (bytesI s)).2.1.toNat).length ≠ 0 := h2
   rw [if_pos h2', whR_more (x := ⟨bytesI s, 0⟩) rfl h1 h2]
   dsimp only
   rw [ckR_err (by show (6 : Int) ≠ 0; decide), it_ff, key_j2]
   rfl
 ·have h1' : (gL gI (bytesI s)).2.2 ≠ 0 := h1
  rw [if_pos h1', whR_no (x := ⟨bytesI s, 0⟩) rfl h1]
  dsimp only
  rw [ckR_err (by exact h1), it_ff, key_j2]
  rfl
theorem dec_strings : Dec (gL gB) (encL encB) (fun xs => (∀ x ∈ xs, x.length ≤ 1099511627) ∧ xs.length ≤ 1099511627) := dec_list dec_bytes
theorem dec_ints : Dec (gL gI) (encL encI) (fun xs => (∀ x ∈ xs, wfI x) ∧ xs.length ≤ 1099511627) := dec_list dec_int
theorem rd_mem {α : Type} [Inhabited α] {l : List α} {k : Nat} (h : k < l.length) : rd l (k : Int) ∈ l := by
 have e : rd l (k : Int) = l[k] := by simp [rd, List.getD, h]
 rw [e]; exact List.getElem_mem h
theorem key_eq {x : backup_reader} (h : x.e = 0) {s : List UInt8} (hs : s.length ≤ 1099511627) : backup_reader_key x s = some ((pkS (bytesI s)).1, { x with e := (pkS (bytesI s)).2 }) := by
 have hb : IsB (bytesI s) := bytesI_isB s
 have hbl : (bytesI s).length ≤ 1099511627 := by rw [bytesI_len']; exact hs
 unfold backup_reader_key pkS
 rw [whole_strings_eq (x := ⟨bytesI s, x.e⟩) hb hbl, bind_s, check_eq, bind_s]
 by_cases h1 : (gL gB (bytesI s)).2.2 = 0
 ·have h1' : ¬ (gL gB (bytesI s)).2.2 ≠ 0 := by simp [h1]
  rw [if_neg h1']
  by_cases h2 : ((bytesI s).drop (gL gB (bytesI s)).2.1.toNat).length = 0
  ·have h2' : ¬ ((bytesI s).drop (gL gB (bytesI s)).2.1.toNat).length ≠ 0 := by simpa using h2
   rw [if_neg h2', whR_ok (x := ⟨bytesI s, x.e⟩) h h1 h2]
   dsimp only
   by_cases h3 : (gL gB (bytesI s)).1.length = 2
   ·have e3 : (((gL gB (bytesI s)).1.length : Int) == (2 : Int)) = true := by rw [h3]; rfl
    rw [if_neg (nnN h3), e3, ckR_ok (by exact h), it_tt]
    have hm := (dec_strings.inv _ hb hbl h1).1.1 _ (rd_mem (k := 0) (by omega : 0 < (gL gB (bytesI s)).1.length))
    exact key_num h3 rfl rfl hm
   ·have e3 : (((gL gB (bytesI s)).1.length : Int) == (2 : Int)) = false := by simpa using (by omega : ¬ ((gL gB (bytesI s)).1.length : Int) = 2)
    rw [if_pos (show _ ≠ _ from h3), e3, ckR_no (by exact h) (by decide), it_ff]
    rfl
  ·have h2' : ((bytesI s).drop (gL gB (bytesI s)).2.1.toNat).length ≠ 0 := h2
   rw [if_pos h2', whR_more (x := ⟨bytesI s, x.e⟩) h h1 h2]
   dsimp only
   rw [ckR_err (by show (6 : Int) ≠ 0; decide), it_ff]
   rfl
 ·have h1' : (gL gB (bytesI s)).2.2 ≠ 0 := h1
  rw [if_pos h1', whR_no (x := ⟨bytesI s, x.e⟩) h h1]
  dsimp only
  rw [ckR_err (by exact h1), it_ff]
  rfl
end Go.Cu


namespace Go.Cu
attribute [local irreducible] macS blkS bits bytesS
theorem xor8_nat {x y : Nat} (hx : x < 256) (hy : y < 256) : bits .xor .u8 (x : Int) (y : Int) = ((x ^^^ y : Nat) : Int) := by
 have h : (x ^^^ y) < 256 := Nat.xor_lt_two_pow (n := 8) hx hy
 unfold bits
 have e1 : (BitVec.ofInt IntKind.u8.bits (x : Int)).toNat = x := by
  show ((x : Int) % (2 ^ 8 : Nat)).toNat = x
  omega
 have e2 : (BitVec.ofInt IntKind.u8.bits (y : Int)).toNat = y := by
  show ((y : Int) % (2 ^ 8 : Nat)).toNat = y
  omega
 simp only [BitVec.toNat_xor, e1, e2]
 exact wrap8_id (by omega) (by omega)
theorem xor8_xor8 {x : Nat} {k : Int} (hx : x < 256) (hk : ∃ y : Nat, y < 256 ∧ k = (y : Int)) : bits .xor .u8 (bits .xor .u8 (x : Int) k) k = (x : Int) := by
 obtain ⟨y, hy, rfl⟩ := hk
 have h : (x ^^^ y) < 256 := Nat.xor_lt_two_pow (n := 8) hx hy
 rw [xor8_nat hx hy, xor8_nat h hy, Nat.xor_assoc, Nat.xor_self, Nat.xor_zero]
theorem xorS_bytes (key n t : List UInt8) : bytesI (xorS key n t) = (List.range' 0 t.length).map (xorB key n t) := by
 unfold xorS
 apply bytesI_intsB
 intro x hx
 obtain ⟨i, _, rfl⟩ := List.mem_map.1 hx
 exact bits8_rng _ _ _
theorem xorS_xorS (key n t : List UInt8) : xorS key n (xorS key n t) = t := by
 have : (List.range' 0 (xorS key n t).length).map (xorB key n (xorS key n t)) = bytesI t := by
  rw [xorS_len, ← rng_take (bytesI t) t.length (bytesI_len t)]
  apply List.map_congr_left
  intro i hi
  have hi : i < t.length := by simp at hi; omega
  have e : rd (bytesI (xorS key n t)) (i : Int) = xorB key n t i := by
   rw [xorS_bytes]
   simp [rd, List.getD, hi]
  have hb : ∃ b : Nat, b < 256 ∧ rd (bytesI t) (i : Int) = (b : Int) := by
   have hl : i < (bytesI t).length := by rw [bytesI_len]; exact hi
   have e : rd (bytesI t) (i : Int) = (bytesI t)[i] := by simp [rd, List.getD, hl]
   have := bytesI_isB t _ (List.getElem_mem hl)
   exact ⟨((bytesI t)[i]).toNat, by omega, by rw [e]; omega⟩
  obtain ⟨b, hb, eb⟩ := hb
  show bits .xor .u8 (rd (bytesI (xorS key n t)) (i : Int)) _ = _
  rw [e]
  unfold xorB
  rw [eb, xor8_xor8 hb (sbyte_nat _ _)]
 show intsB ((List.range' 0 (xorS key n t).length).map (xorB key n (xorS key n t))) = t
 rw [this, intsB_bytesI]
attribute [local irreducible] xorS
theorem sealS_len (key ad text : List UInt8) : (sealS key ad text).length = text.length + 28 := by
 unfold sealS
 rw [List.length_append, List.length_append, nonceS_len, xorS_len, tagS_len]; omega
theorem seal_parts (n c t : List UInt8) (hn : n.length = 12) (ht : t.length = 16) : (n ++ c ++ t).take 12 = n ∧ ((n ++ c ++ t).take ((n ++ c ++ t).length - 16)).drop 12 = c ∧ (n ++ c ++ t).drop ((n ++ c ++ t).length - 16) = t := by
 have hl : (n ++ c ++ t).length - 16 = (n ++ c).length := by simp; omega
 refine ⟨?_, ?_, ?_⟩
 ·rw [List.append_assoc, List.take_append_of_le_length (by omega), List.take_of_length_le (by omega)]
 ·rw [hl, List.take_left, List.drop_append_of_le_length (by omega), List.drop_of_length_le (by omega), List.nil_append]
 ·rw [hl, List.drop_left]
theorem open_seal (key ad text : List UInt8) : openS key ad (sealS key ad text) = (text, 0) := by
 unfold openS sealS
 obtain ⟨h1, h2, h3⟩ := seal_parts (nonceS key ad text) (xorS (encK key) (nonceS key ad text) text) (tagS key (nonceS key ad text) ad (xorS (encK key) (nonceS key ad text) text)) (nonceS_len _ _ _) (tagS_len _ _ _ _)
 simp only [h1, h2, h3, xorS_xorS, if_true]
theorem open_inv (key ad blob t : List UInt8) (hl : 28 ≤ blob.length) (h : openS key ad blob = (t, 0)) : blob = sealS key ad t := by
 unfold openS at h
 simp only at h
 split at h
 ·rename_i h1
  split at h
  ·rename_i h2
   have ht : xorS (encK key) (blob.take 12) ((blob.take (blob.length - 16)).drop 12) = t := (Prod.mk.inj h).1
   rw [ht] at h2
   unfold sealS
   rw [h2, ← ht, xorS_xorS, h1]
   have : (blob.take (blob.length - 16)) = blob.take 12 ++ (blob.take (blob.length - 16)).drop 12 := by
    have := (List.take_append_drop 12 (blob.take (blob.length - 16))).symm
    rw [List.take_take, Nat.min_eq_left (by omega)] at this
    exact this
   rw [← this, List.take_append_drop]
  ·have := (Prod.mk.inj h).2; omega
 ·have := (Prod.mk.inj h).2; omega
end Go.Cu


namespace Go.Cu
attribute [local irreducible] macS blkS bits xorS bytesS sealS
def zB : Backup := ⟨Vector.replicate 16 0, 0, 0, 0, 0, Vector.replicate 16 0, [], []⟩
def mkB (D : Vector Int 16) (n : List Int) (P : Vector Int 16) (M : List UInt8) : Backup := ⟨D, rd n 0, rd n 1, rd n 2, rd n 3, P, M, []⟩
def hdr3 (D : Vector Int 16) (n : List Int) (P : Vector Int 16) (l : List Int) : Backup × Int :=
 if (gB l).2.2 ≠ 0 then (zB, (gB l).2.2)
 else if (l.drop (gB l).2.1.toNat).length ≠ 0 then (zB, 6)
 else if vBk (mkB D n P (gB l).1) = true then (mkB D n P (gB l).1, 0) else (zB, 6)
def hdr2 (D : Vector Int 16) (n : List Int) (l : List Int) : Backup × Int :=
 if (gD l).2.2 ≠ 0 then (zB, (gD l).2.2) else hdr3 D n (gD l).1 (l.drop (gD l).2.1.toNat)
def hdr1 (D : Vector Int 16) (l : List Int) : Backup × Int :=
 if (gL gI l).2.2 ≠ 0 then (zB, (gL gI l).2.2)
 else if (gL gI l).1.length ≠ 4 then (zB, 6)
 else hdr2 D (gL gI l).1 (l.drop (gL gI l).2.1.toNat)
def hdrS (h : List Int) : Backup × Int :=
 if (gD h).2.2 ≠ 0 then (zB, (gD h).2.2) else hdr1 (gD h).1 (h.drop (gD h).2.1.toNat)
def peekS (l : List Int) : Backup × Int := if (gB l).2.2 ≠ 0 then (zB, (gB l).2.2) else hdrS (bytesI (gB l).1)
theorem read_digest_err {x : backup_reader} (h : x.e ≠ 0) : backup_read_Digest x = some (Vector.replicate 16 0, x) := by
 unfold backup_read_Digest
 rw [if_pos (by simpa using h)]
theorem read_string_err {x : backup_reader} (h : x.e ≠ 0) : backup_read_string x = some ([], x) := by
 unfold backup_read_string
 rw [if_pos (by simpa using h)]
theorem read_ints_err {x : backup_reader} (h : x.e ≠ 0) : backup_read_LLint x = some ([], x) := by
 unfold backup_read_LLint
 rw [if_pos (by simpa using h)]
theorem whole_string_err {x : backup_reader} (h : x.e ≠ 0) : backup_whole_string x = some ([], x) := by
 unfold backup_whole_string
 rw [read_string_err h, bind_s, check_eq, ckR_err (by exact h)]; rfl
theorem mk_wf (D : Vector Int 16) (a b c d : Int) (P : Vector Int 16) {M : List UInt8} (h : M.length ≤ 1099511627) : wfB ⟨D, a, b, c, d, P, M, []⟩ := ⟨by simp, by show M.length ≤ _; omega, fun k hk => by cases hk⟩
theorem valid_mk (D : Vector Int 16) (n : List Int) (P : Vector Int 16) {M : List UInt8} (h : M.length ≤ 1099511627) : backup_Valid (⟨D, rd n 0, rd n 1, rd n 2, rd n 3, P, M, []⟩ : Backup) = some (vBk (mkB D n P M)) := backup_Valid_eq (b := mkB D n P M) (mk_wf _ _ _ _ _ _ h)
theorem peek_bad {y : backup_reader} (h : y.e ≠ 0) (D : Vector Int 16) (t6 : List UInt8 × backup_reader) : ∃ b,
  ((backup_read_Digest y).bind fun t177 =>
  (backup_whole_string t177.2).bind fun t185 =>
  (backup_Valid (⟨D, 0, 0, 0, 0, t177.1, t185.1, []⟩ : Backup)).bind fun t193 =>
  (backup_reader_check t185.2 t193 (6 : Int)).bind fun t199 =>
  (some (⟨D, 0, 0, 0, 0, t177.1, t185.1, []⟩ : Backup)).bind fun z208 =>
  some (z208, (⟨({ t6.2 with e := t199.2.e } : backup_reader), t6.1⟩ : backup_blobReader))) = some (b, ⟨{ t6.2 with e := y.e }, t6.1⟩) := by
 rw [read_digest_err h, bind_s, whole_string_err h, bind_s, backup_Valid_eq (mk_wf _ _ _ _ _ _ (by simp)), bind_s, check_eq, ckR_err (by exact h), bind_s, bind_s]
 exact ⟨_, rfl⟩
theorem isB_of {α : Type} {g : List Int → α × Int × Int} {e : α → List Int} {V : α → Prop} (D : Dec g e V) {l : List Int} (hb : IsB l) (hl : l.length ≤ 1099511627) (h : (g l).2.2 = 0) : V (g l).1 := (D.inv l hb hl h).1
theorem peek_eq {l : List Int} (hb : IsB l) (hl : l.length ≤ 1099511627) : ∃ b x, backup_blobReader_peek ⟨⟨l, 0⟩, []⟩ = some (b, x) ∧ x.reader.e = (peekS l).2 ∧ ((peekS l).2 = 0 → b = (peekS l).1 ∧ x.header = (gB l).1 ∧ x.reader.rest_ = l.drop (gB l).2.1.toNat) := by
 unfold backup_blobReader_peek peekS
 dsimp only
 rw [read_string_eq (x := ⟨l, 0⟩) hb hl, bind_s]
 by_cases h1 : (gB l).2.2 = 0
 ·have h1' : ¬ (gB l).2.2 ≠ 0 := by simp [h1]
  rw [if_neg h1', rdR_ok (x := ⟨l, 0⟩) rfl h1]
  dsimp only
  obtain ⟨H, hH⟩ : ∃ H, H = (gB l).1 := ⟨_, rfl⟩
  have hHl : H.length ≤ 1099511627 := by rw [hH]; exact isB_of dec_bytes hb hl h1
  rw [← hH]
  have hI : IsB (bytesI H) := bytesI_isB H
  have hIl : (bytesI H).length ≤ 1099511627 := by rw [bytesI_len']; exact hHl
  generalize bytesI H = p at hI hIl
  rw [read_digest_eq (x := ⟨p, 0⟩) hI hIl, bind_s]
  unfold hdrS
  by_cases h2 : (gD p).2.2 = 0
  ·have h2' : ¬ (gD p).2.2 ≠ 0 := by simp [h2]
   rw [if_neg h2', rdR_ok (x := ⟨p, 0⟩) rfl h2]
   dsimp only
   have hp1 : IsB (p.drop (gD p).2.1.toNat) := hI.drop _
   have hp1l : (p.drop (gD p).2.1.toNat).length ≤ 1099511627 := by rw [List.length_drop]; omega
   generalize (gD p).1 = D
   generalize p.drop (gD p).2.1.toNat = p1 at hp1 hp1l
   rw [read_ints_eq (x := ⟨p1, 0⟩) hp1 hp1l, bind_s]
   unfold hdr1
   by_cases h3 : (gL gI p1).2.2 = 0
   ·have h3' : ¬ (gL gI p1).2.2 ≠ 0 := by simp [h3]
    rw [if_neg h3', rdR_ok (x := ⟨p1, 0⟩) rfl h3, check_eq, bind_s]
    dsimp only
    by_cases h4 : (gL gI p1).1.length = 4
    ·have e4 : (((gL gI p1).1.length : Int) == (4 : Int)) = true := by rw [h4]; rfl
     rw [if_neg (nnN h4), e4, ckR_ok (by exact rfl), it_tt, grd_b ⟨by decide, by omega⟩, grd_b ⟨by decide, by omega⟩, grd_b ⟨by decide, by omega⟩, grd_b ⟨by decide, by omega⟩]
     have hp2 : IsB (p1.drop (gL gI p1).2.1.toNat) := hp1.drop _
     have hp2l : (p1.drop (gL gI p1).2.1.toNat).length ≤ 1099511627 := by rw [List.length_drop]; omega
     generalize (gL gI p1).1 = n
     generalize p1.drop (gL gI p1).2.1.toNat = p2 at hp2 hp2l
     rw [read_digest_eq (x := ⟨p2, 0⟩) hp2 hp2l, bind_s]
     unfold hdr2
     by_cases h5 : (gD p2).2.2 = 0
     ·have h5' : ¬ (gD p2).2.2 ≠ 0 := by simp [h5]
      rw [if_neg h5', rdR_ok (x := ⟨p2, 0⟩) rfl h5]
      dsimp only
      have hp3 : IsB (p2.drop (gD p2).2.1.toNat) := hp2.drop _
      have hp3l : (p2.drop (gD p2).2.1.toNat).length ≤ 1099511627 := by rw [List.length_drop]; omega
      generalize (gD p2).1 = P
      generalize p2.drop (gD p2).2.1.toNat = p3 at hp3 hp3l
      rw [whole_string_eq (x := ⟨p3, 0⟩) hp3 hp3l, bind_s]
      unfold hdr3
      by_cases h6 : (gB p3).2.2 = 0
      ·have h6' : ¬ (gB p3).2.2 ≠ 0 := by simp [h6]
       have hM := isB_of dec_bytes hp3 hp3l h6
       rw [if_neg h6']
       by_cases h7 : (p3.drop (gB p3).2.1.toNat).length = 0
       ·have h7' : ¬ (p3.drop (gB p3).2.1.toNat).length ≠ 0 := by simpa using h7
        rw [if_neg h7', whR_ok (x := ⟨p3, 0⟩) rfl h6 h7]
        dsimp only
        rw [valid_mk D n P hM, bind_s, check_eq, bind_s, bind_s]
        cases hv : vBk (mkB D n P (gB p3).1) with
        | true =>
         rw [ckR_ok (by exact rfl), it_tt]
         exact ⟨_, _, rfl, rfl, fun _ => ⟨rfl, rfl, rfl⟩⟩
        | false =>
         rw [ckR_no (by exact rfl) (by decide), it_ff]
         exact ⟨_, _, rfl, rfl, fun h => by cases h⟩
       ·have h7' : (p3.drop (gB p3).2.1.toNat).length ≠ 0 := h7
        rw [if_pos h7', whR_more (x := ⟨p3, 0⟩) rfl h6 h7]
        dsimp only
        rw [valid_mk D n P hM, bind_s, check_eq, ckR_err (by show (6 : Int) ≠ 0; decide), bind_s, bind_s]
        exact ⟨_, _, rfl, rfl, fun h => by cases h⟩
      ·have h6' : (gB p3).2.2 ≠ 0 := h6
       rw [if_pos h6', whR_no (x := ⟨p3, 0⟩) rfl h6]
       dsimp only
       rw [valid_mk D n P (by simp), bind_s, check_eq, ckR_err (by exact h6), bind_s, bind_s]
       exact ⟨_, _, rfl, rfl, fun h => absurd h h6⟩
     ·have h5' : (gD p2).2.2 ≠ 0 := h5
      rw [if_pos h5', rdR_no (x := ⟨p2, 0⟩) rfl h5]
      dsimp only
      rw [whole_string_err h5, bind_s, valid_mk D n _ (by simp), bind_s, check_eq, ckR_err (by exact h5), bind_s, bind_s]
      exact ⟨_, _, rfl, rfl, fun h => absurd h h5⟩
    ·have e4 : (((gL gI p1).1.length : Int) == (4 : Int)) = false := by simpa using (by omega : ¬ ((gL gI p1).1.length : Int) = 4)
     rw [if_pos (show _ ≠ _ from h4), e4, ckR_no (by exact rfl) (by decide), it_ff]
     dsimp only
     obtain ⟨b, hb⟩ := peek_bad (y := ⟨p1.drop (gL gI p1).2.1.toNat, 6⟩) (by show (6 : Int) ≠ 0; decide) D (H, ⟨l.drop (gB l).2.1.toNat, 0⟩)
     exact ⟨_, _, hb, rfl, fun h => by cases h⟩
   ·have h3' : (gL gI p1).2.2 ≠ 0 := h3
    rw [if_pos h3', rdR_no (x := ⟨p1, 0⟩) rfl h3, check_eq, bind_s]
    dsimp only
    rw [ckR_err (by exact h3), it_ff]
    dsimp only
    obtain ⟨b, hb⟩ := peek_bad (y := ⟨p1, (gL gI p1).2.2⟩) h3 D (H, ⟨l.drop (gB l).2.1.toNat, 0⟩)
    exact ⟨_, _, hb, rfl, fun h => absurd h h3⟩
  ·have h2' : (gD p).2.2 ≠ 0 := h2
   rw [if_pos h2', rdR_no (x := ⟨p, 0⟩) rfl h2]
   dsimp only
   rw [read_ints_err h2, bind_s, check_eq, ckR_err (by exact h2), bind_s, it_ff]
   dsimp only
   obtain ⟨b, hb⟩ := peek_bad (y := ⟨p, (gD p).2.2⟩) h2 (Vector.replicate 16 0) (H, ⟨l.drop (gB l).2.1.toNat, 0⟩)
   exact ⟨_, _, hb, rfl, fun h => absurd h h2⟩
 ·have h1' : (gB l).2.2 ≠ 0 := h1
  rw [if_pos h1', rdR_no (x := ⟨l, 0⟩) rfl h1]
  dsimp only
  rw [read_digest_err h1, bind_s, read_ints_err h1, bind_s, check_eq, ckR_err (by exact h1), bind_s, it_ff]
  dsimp only
  obtain ⟨b, hb⟩ := peek_bad (y := ⟨bytesI [], (gB l).2.2⟩) h1 (Vector.replicate 16 0) ([], ⟨l, (gB l).2.2⟩)
  exact ⟨_, _, hb, rfl, fun h => absurd h h1⟩
def headI (b : Backup) : List Int := b.Domain.toList ++ (encL encI [b.Epoch, b.Number, b.Firmware, b.Time] ++ (b.Policy.toList ++ encB b.Module))
def headS (b : Backup) : List UInt8 := intsB (headI b)
structure wfH (b : Backup) : Prop where
 dom : IsB b.Domain.toList
 pol : IsB b.Policy.toList
 num : wfI b.Epoch ∧ wfI b.Number ∧ wfI b.Firmware ∧ wfI b.Time
 mod : b.Module.length ≤ 1099511627
theorem num4 {b : Backup} (h : wfH b) : (∀ x ∈ [b.Epoch, b.Number, b.Firmware, b.Time], wfI x) ∧ [b.Epoch, b.Number, b.Firmware, b.Time].length ≤ 1099511627 := by
 obtain ⟨h1, h2, h3, h4⟩ := h.num
 refine ⟨?_, by simp⟩
 intro x hx
 simp only [List.mem_cons, List.not_mem_nil, or_false] at hx
 rcases hx with rfl | rfl | rfl | rfl <;> assumption
theorem headI_isB {b : Backup} (h : wfH b) : IsB (headI b) := h.dom.app ((dec_ints.isB _ (num4 h)).app (h.pol.app (dec_bytes.isB _ h.mod)))
theorem drop_left' {α : Type} (a b : List α) : (a ++ b).drop ((a.length : Int)).toNat = b := by rw [Int.toNat_natCast, List.drop_left]
def noK (b : Backup) : Backup := { b with Keys := [] }
theorem vBk_noK {b : Backup} (h : vBk b = true) : vBk (noK b) = true := by
 unfold vBk vHd at h ⊢
 simp only [Bool.and_eq_true] at h ⊢
 obtain ⟨⟨h1, h2, h3, h4, h5, _⟩, _⟩ := h
 exact ⟨⟨h1, h2, h3, h4, h5, by simp [noK]⟩, rfl⟩
theorem hdrS_enc {b : Backup} (h : wfH b) (hv : vBk (noK b) = true) : hdrS (headI b) = (noK b, 0) := by
 have e1 := dec_digest.enc b.Domain (encL encI [b.Epoch, b.Number, b.Firmware, b.Time] ++ (b.Policy.toList ++ encB b.Module)) h.dom
 have e2 := dec_ints.enc [b.Epoch, b.Number, b.Firmware, b.Time] (b.Policy.toList ++ encB b.Module) (num4 h)
 have e3 := dec_digest.enc b.Policy (encB b.Module) h.pol
 have e4 := dec_bytes.enc b.Module [] h.mod
 rw [List.append_nil] at e4
 unfold hdrS headI
 rw [e1]
 dsimp only
 rw [if_neg (by simp), drop_left']
 unfold hdr1
 rw [e2]
 dsimp only
 rw [if_neg (by simp), if_neg (by simp), drop_left']
 unfold hdr2
 rw [e3]
 dsimp only
 rw [if_neg (by simp), drop_left']
 unfold hdr3
 rw [e4]
 dsimp only
 rw [if_neg (by simp), if_neg (by rw [Int.toNat_natCast, List.drop_length]; simp)]
 exact if_pos hv
theorem list4 {l : List Int} (h : l.length = 4) : l = [rd l 0, rd l 1, rd l 2, rd l 3] := by
 match l, h with
 | [a, b, c, d], _ => rfl
theorem list8 {l : List Int} (h : l.length = 8) : l = [rd l 0, rd l 1, rd l 2, rd l 3, rd l 4, rd l 5, rd l 6, rd l 7] := by
 match l, h with
 | [a, b, c, d, e, f, g, h], _ => rfl
theorem list2 {α : Type} [Inhabited α] {l : List α} (h : l.length = 2) : l = [rd l 0, rd l 1] := by
 match l, h with
 | [a, b], _ => rfl
theorem drop_nil_eq {α : Type} {l : List α} {n : Nat} (h : (l.drop n).length = 0) : l.drop n = [] := List.length_eq_zero_iff.1 h
theorem hdrS_inv {p : List Int} (hb : IsB p) (hl : p.length ≤ 1099511627) (h : (hdrS p).2 = 0) : p = headI (hdrS p).1 ∧ vBk (hdrS p).1 = true ∧ (hdrS p).1.Keys = [] ∧ wfH (hdrS p).1 := by
 unfold hdrS at h ⊢
 split at h
 ·rename_i h1; exact absurd h h1
 ·rename_i h1
  rw [if_neg h1]
  obtain ⟨a1, a2, a3⟩ := dec_digest.inv p hb hl (by simpa using h1)
  rw [a2, Int.toNat_natCast] at h ⊢
  have b1 : IsB (p.drop (gD p).1.toList.length) := hb.drop _
  have l1 : (p.drop (gD p).1.toList.length).length ≤ 1099511627 := by rw [List.length_drop]; omega
  generalize (gD p).1 = D at a1 a3 h b1 l1 ⊢
  generalize p.drop D.toList.length = p1 at a1 a3 h b1 l1 ⊢
  unfold hdr1 at h ⊢
  split at h
  ·rename_i h2; exact absurd h h2
  ·rename_i h2
   rw [if_neg h2]
   split at h
   ·cases h
   ·rename_i h3
    rw [if_neg h3]
    obtain ⟨c1, c2, c3⟩ := dec_ints.inv p1 b1 l1 (by simpa using h2)
    rw [c2, Int.toNat_natCast] at h ⊢
    have b2 : IsB (p1.drop (encL encI (gL gI p1).1).length) := b1.drop _
    have l2 : (p1.drop (encL encI (gL gI p1).1).length).length ≤ 1099511627 := by rw [List.length_drop]; omega
    generalize (gL gI p1).1 = n at c1 c3 h b2 l2 h3 ⊢
    generalize p1.drop (encL encI n).length = p2 at c1 c3 h b2 l2 h3 ⊢
    unfold hdr2 at h ⊢
    split at h
    ·rename_i h4; exact absurd h h4
    ·rename_i h4
     rw [if_neg h4]
     obtain ⟨d1, d2, d3⟩ := dec_digest.inv p2 b2 l2 (by simpa using h4)
     rw [d2, Int.toNat_natCast] at h ⊢
     have b3 : IsB (p2.drop (gD p2).1.toList.length) := b2.drop _
     have l3 : (p2.drop (gD p2).1.toList.length).length ≤ 1099511627 := by rw [List.length_drop]; omega
     generalize (gD p2).1 = P at d1 d3 h b3 l3 ⊢
     generalize p2.drop P.toList.length = p3 at d1 d3 h b3 l3 ⊢
     unfold hdr3 at h ⊢
     split at h
     ·rename_i h5; exact absurd h h5
     ·rename_i h5
      rw [if_neg h5]
      split at h
      ·cases h
      ·rename_i h6
       rw [if_neg h6]
       split at h
       ·rename_i h7
        rw [if_pos h7]
        obtain ⟨f1, f2, f3⟩ := dec_bytes.inv p3 b3 l3 (by simpa using h5)
        rw [f2, Int.toNat_natCast] at h6
        have h6 : p3.drop (encB (gB p3).1).length = [] := drop_nil_eq (by simpa using h6)
        rw [h6, List.append_nil] at f3
        have h3 : n.length = 4 := by simpa using h3
        have e4 := list4 h3
        refine ⟨?_, h7, rfl, ⟨a1, d1, ?_, f1⟩⟩
        ·show p = D.toList ++ (encL encI [rd n 0, rd n 1, rd n 2, rd n 3] ++ (P.toList ++ encB (gB p3).1))
         rw [← e4, ← f3, ← d3, ← c3]
         exact a3
        ·have hm : ∀ i : Nat, i < 4 → wfI (rd n (i : Int)) := fun i hi => c1.1 _ (rd_mem (by omega))
         exact ⟨hm 0 (by decide), hm 1 (by decide), hm 2 (by decide), hm 3 (by decide)⟩
       ·cases h
def kyI (k : Key) : List Int := encL encB [intsB (encL encI [k.Id, k.Type_, k.Uses, k.Start, k.End, k.Version, k.Parent, if k.Raw then 1 else 0]), k.Value]
structure wfKy (k : Key) : Prop where
 num : wfI k.Id ∧ wfI k.Type_ ∧ wfI k.Uses ∧ wfI k.Start ∧ wfI k.End ∧ wfI k.Version ∧ wfI k.Parent
 val : k.Value.length ≤ 65536
theorem wf01 (r : Bool) : wfI (if r = true then 1 else 0) := by cases r <;> exact ⟨by decide, by decide⟩
theorem num8 {k : Key} (h : wfKy k) : (∀ x ∈ [k.Id, k.Type_, k.Uses, k.Start, k.End, k.Version, k.Parent, if k.Raw then 1 else 0], wfI x) ∧ [k.Id, k.Type_, k.Uses, k.Start, k.End, k.Version, k.Parent, if k.Raw then 1 else 0].length ≤ 1099511627 := by
 obtain ⟨h1, h2, h3, h4, h5, h6, h7⟩ := h.num
 refine ⟨?_, by simp⟩
 intro x hx
 simp only [List.mem_cons, List.not_mem_nil, or_false] at hx
 rcases hx with rfl | rfl | rfl | rfl | rfl | rfl | rfl | rfl
 ·exact h1
 ·exact h2
 ·exact h3
 ·exact h4
 ·exact h5
 ·exact h6
 ·exact h7
 ·exact wf01 _
theorem ints_len (xs : List Int) : (encL encI xs).length ≤ 9 + xs.length * 9 := by
 have h1 := encI_len (xs.length : Int)
 have h2 := flatMap_len encI 9 xs fun x _ => encI_len x
 unfold encL
 rw [List.length_append]; omega
theorem strs2_len (a b : List UInt8) : (encL encB [a, b]).length ≤ 27 + a.length + b.length := by
 have h1 := encI_len (([a, b] : List (List UInt8)).length : Int)
 have h2 := encI_len (a.length : Int)
 have h3 := encI_len (b.length : Int)
 unfold encL encB
 rw [List.length_append, List.flatMap_cons, List.flatMap_cons, List.flatMap_nil, List.append_nil, List.length_append, List.length_append, List.length_append, bytesI_len', bytesI_len']; omega
def nmI (k : Key) : List Int := encL encI [k.Id, k.Type_, k.Uses, k.Start, k.End, k.Version, k.Parent, if k.Raw then 1 else 0]
theorem nmI_len (k : Key) : (nmI k).length ≤ 81 := ints_len [k.Id, k.Type_, k.Uses, k.Start, k.End, k.Version, k.Parent, if k.Raw then 1 else 0]
theorem kyI_len (k : Key) : (kyI k).length ≤ 108 + k.Value.length := by
 have h1 := strs2_len (intsB (nmI k)) k.Value
 have h2 := nmI_len k
 rw [intsB_len] at h1
 show (encL encB [intsB (nmI k), k.Value]).length ≤ _
 omega
theorem two_ok {k : Key} (h : wfKy k) : (∀ x ∈ [intsB (nmI k), k.Value], x.length ≤ 1099511627) ∧ [intsB (nmI k), k.Value].length ≤ 1099511627 := by
 refine ⟨?_, by simp⟩
 intro x hx
 simp only [List.mem_cons, List.not_mem_nil, or_false] at hx
 rcases hx with rfl | rfl
 ·rw [intsB_len]; have := nmI_len k; omega
 ·have := h.val; omega
theorem kyI_isB {k : Key} (h : wfKy k) : IsB (kyI k) := dec_strings.isB _ (two_ok h)
theorem pkS_enc {k : Key} (h : wfKy k) : pkS (kyI k) = (k, 0) := by
 have e1 := dec_strings.enc [intsB (nmI k), k.Value] [] (two_ok h)
 have e2 := dec_ints.enc [k.Id, k.Type_, k.Uses, k.Start, k.End, k.Version, k.Parent, if k.Raw then 1 else 0] [] (num8 h)
 rw [List.append_nil] at e1 e2
 have hk : kyI k = encL encB [intsB (nmI k), k.Value] := rfl
 have hn : bytesI (intsB (nmI k)) = encL encI [k.Id, k.Type_, k.Uses, k.Start, k.End, k.Version, k.Parent, if k.Raw then 1 else 0] := bytesI_intsB (dec_ints.isB _ (num8 h))
 unfold pkS
 rw [hk, e1]
 dsimp only
 rw [if_neg (by simp), if_neg (by rw [Int.toNat_natCast, List.drop_length]; simp), if_neg (by simp)]
 have r0 : rd [intsB (nmI k), k.Value] 0 = intsB (nmI k) := rfl
 have r1 : rd [intsB (nmI k), k.Value] 1 = k.Value := rfl
 rw [r0, r1, hn]
 unfold pkN
 rw [e2]
 dsimp only
 rw [if_neg (by simp), if_neg (by rw [Int.toNat_natCast, List.drop_length]; simp), if_neg (by simp)]
 have r7 : rd [k.Id, k.Type_, k.Uses, k.Start, k.End, k.Version, k.Parent, if k.Raw then 1 else 0] 7 = if k.Raw then 1 else 0 := rfl
 rw [r7, if_pos (by cases k.Raw <;> decide)]
 unfold mkK
 rw [r7]
 cases k with
 | mk a b c d e f g h r => cases r <;> rfl
theorem pkS_inv {l : List Int} (hb : IsB l) (hl : l.length ≤ 65536) (h : (pkS l).2 = 0) : l = kyI (pkS l).1 ∧ wfKy (pkS l).1 := by
 unfold pkS at h ⊢
 split at h
 ·rename_i h1; exact absurd h h1
 ·rename_i h1
  rw [if_neg h1]
  split at h
  ·cases h
  ·rename_i h2
   rw [if_neg h2]
   split at h
   ·cases h
   ·rename_i h3
    rw [if_neg h3]
    obtain ⟨a1, a2, a3⟩ := dec_strings.inv l hb (by omega) (by simpa using h1)
    have h3 : (gL gB l).1.length = 2 := by simpa using h3
    have e2 := list2 h3
    rw [a2, Int.toNat_natCast] at h2
    have h2 : l.drop (encL encB (gL gB l).1).length = [] := drop_nil_eq (by simpa using h2)
    rw [h2, List.append_nil] at a3
    generalize (gL gB l).1 = xs at a1 a3 h e2 h3 ⊢
    have hs := a1.1 _ (rd_mem (k := 0) (by omega : 0 < xs.length))
    have hv := a1.1 _ (rd_mem (k := 1) (by omega : 1 < xs.length))
    have hlen : l.length = (encL encB xs).length := congrArg List.length a3
    have e2' : xs = [rd xs ((0 : Nat) : Int), rd xs ((1 : Nat) : Int)] := e2
    revert h hs hv e2'
    show (pkN (bytesI (rd xs ((0 : Nat) : Int))) (rd xs ((1 : Nat) : Int))).2 = 0 → _ → _ → _ → l = kyI (pkN (bytesI (rd xs ((0 : Nat) : Int))) (rd xs ((1 : Nat) : Int))).1 ∧ wfKy (pkN (bytesI (rd xs ((0 : Nat) : Int))) (rd xs ((1 : Nat) : Int))).1
    generalize rd xs ((0 : Nat) : Int) = s
    generalize rd xs ((1 : Nat) : Int) = v
    intro h hs hv e2'
    have hvl : v.length ≤ 65536 := by
     rw [e2'] at hlen
     have : v.length ≤ (encL encB [s, v]).length := by
      unfold encL encB
      rw [List.length_append, List.flatMap_cons, List.flatMap_cons, List.flatMap_nil, List.append_nil, List.length_append, List.length_append, List.length_append, bytesI_len', bytesI_len']; omega
     omega
    have sb : IsB (bytesI s) := bytesI_isB s
    have sl : (bytesI s).length ≤ 1099511627 := by rw [bytesI_len']; exact hs
    unfold pkN at h ⊢
    split at h
    ·rename_i h4; exact absurd h h4
    ·rename_i h4
     rw [if_neg h4]
     split at h
     ·cases h
     ·rename_i h5
      rw [if_neg h5]
      split at h
      ·cases h
      ·rename_i h6
       rw [if_neg h6]
       split at h
       ·rename_i h7
        rw [if_pos h7]
        obtain ⟨c1, c2, c3⟩ := dec_ints.inv _ sb sl (by simpa using h4)
        rw [c2, Int.toNat_natCast] at h5
        have h5 : (bytesI s).drop (encL encI (gL gI (bytesI s)).1).length = [] := drop_nil_eq (by simpa using h5)
        rw [h5, List.append_nil] at c3
        have h6 : (gL gI (bytesI s)).1.length = 8 := by simpa using h6
        generalize (gL gI (bytesI s)).1 = n at c1 c3 h6 h7 ⊢
        have e8 := list8 h6
        have hm : ∀ i : Nat, i < 8 → wfI (rd n (i : Int)) := fun i hi => c1.1 _ (rd_mem (by omega))
        have hr : (if (mkK n v).Raw then (1 : Int) else 0) = rd n 7 := by
         show (if (rd n 7 == 1) = true then (1 : Int) else 0) = rd n 7
         unfold inB at h7
         simp only [Bool.and_eq_true, decide_eq_true_eq] at h7
         by_cases hx : rd n 7 = 1
         ·simp [hx]
         ·simp [hx]; omega
        refine ⟨?_, ⟨⟨hm 0 (by decide), hm 1 (by decide), hm 2 (by decide), hm 3 (by decide), hm 4 (by decide), hm 5 (by decide), hm 6 (by decide)⟩, hvl⟩⟩
        have hn : nmI (mkK n v) = bytesI s := by
         unfold nmI
         rw [hr]
         show encL encI [rd n 0, rd n 1, rd n 2, rd n 3, rd n 4, rd n 5, rd n 6, rd n 7] = bytesI s
         rw [← e8]; exact c3.symm
        show l = encL encB [intsB (nmI (mkK n v)), v]
        rw [hn, intsB_bytesI, ← e2']
        exact a3
       ·cases h
def contI (ks : List Key) : List Int := encL encB (ks.map fun k => intsB (kyI k))
def pksS : List (List UInt8) → List Key × Int
 | [] => ([], 0)
 | s :: r =>
  if (pkS (bytesI s)).2 ≠ 0 then ([], (pkS (bytesI s)).2)
  else if (pksS r).2 ≠ 0 then ([], (pksS r).2)
  else ((pkS (bytesI s)).1 :: (pksS r).1, 0)
theorem pksS_enc : ∀ ks : List Key, (∀ k ∈ ks, wfKy k) → pksS (ks.map fun k => intsB (kyI k)) = (ks, 0)
 | [], _ => rfl
 | k :: ks, h => by
  have hk := h k (by simp)
  rw [List.map_cons, pksS, bytesI_intsB (kyI_isB hk), pkS_enc hk, pksS_enc ks fun x hx => h x (by simp [hx])]
  simp
theorem pksS_inv : ∀ xs : List (List UInt8), (∀ x ∈ xs, x.length ≤ 65536) → (pksS xs).2 = 0 → xs = (pksS xs).1.map (fun k => intsB (kyI k)) ∧ (∀ k ∈ (pksS xs).1, wfKy k)
 | [], _, _ => ⟨rfl, (fun k hk => by cases hk)⟩
 | s :: r, hl, h => by
  rw [pksS] at h ⊢
  split at h
  ·rename_i h1; exact absurd h h1
  ·rename_i h1
   rw [if_neg h1]
   split at h
   ·rename_i h2; exact absurd h h2
   ·rename_i h2
    rw [if_neg h2]
    obtain ⟨a1, a2⟩ := pkS_inv (bytesI_isB s) (by rw [bytesI_len']; exact hl s (by simp)) (by simpa using h1)
    obtain ⟨b1, b2⟩ := pksS_inv r (fun x hx => hl x (by simp [hx])) (by simpa using h2)
    refine ⟨?_, ?_⟩
    ·rw [List.map_cons, ← a1, intsB_bytesI]
     exact congrArg (s :: ·) b1
    ·intro k hk
     rcases List.mem_cons.1 hk with rfl | hk
     ·exact a2
     ·exact b2 k hk
end Go.Cu
