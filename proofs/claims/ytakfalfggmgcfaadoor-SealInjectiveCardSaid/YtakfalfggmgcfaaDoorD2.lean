/- Plain laws on the pure functions; no program is named. -/
import Derived.Test.YtakfalfggmgcfaaDoorD1
set_option linter.unusedVariables false
set_option linter.unusedSimpArgs false
/-! Plain laws: one block of the hash, to its end. -/
namespace Go.Cu
def xS (e : Vector Int 4) (k w : Int) : Int :=
  IntKind.u32.wrap (IntKind.u32.wrap (IntKind.u32.wrap (IntKind.u32.wrap (rd e.toList 3 + mixS (rd e.toList 0) 6 11 25) + bits .xor .u32 (bits .and .u32 (rd e.toList 0) (rd e.toList 1)) (bits .and .u32 (bits .xor .u32 IntKind.u32.max (rd e.toList 0)) (rd e.toList 2))) + k) + w)
def yS (v : Vector Int 4) : Int :=
  IntKind.u32.wrap (mixS (rd v.toList 0) 2 13 22 + bits .xor .u32 (bits .xor .u32 (bits .and .u32 (rd v.toList 0) (rd v.toList 1)) (bits .and .u32 (rd v.toList 0) (rd v.toList 2))) (bits .and .u32 (rd v.toList 1) (rd v.toList 2)))
def rndS (w : Vector Int 64) (i : Nat) (s : Vector Int 4 × Vector Int 4) : Vector Int 4 × Vector Int 4 :=
  (#v[IntKind.u32.wrap (xS s.2 (rd hash_constants.toList i) (rd w.toList i) + yS s.1), rd s.1.toList 0, rd s.1.toList 1, rd s.1.toList 2], #v[IntKind.u32.wrap (rd s.1.toList 3 + xS s.2 (rd hash_constants.toList i) (rd w.toList i)), rd s.2.toList 0, rd s.2.toList 1, rd s.2.toList 2])
def finI (v e : Vector Int 4) (i : Nat) (s : Vector Int 8) : Vector Int 8 :=
  vs (vs s i (IntKind.u32.wrap (rd s.toList i + rd v.toList i))) ((i : Int) + 4) (IntKind.u32.wrap (rd (vs s i (IntKind.u32.wrap (rd s.toList i + rd v.toList i))).toList ((i : Int) + 4) + rd e.toList i))
def compS (s : Vector Int 8) (p : List Int) : Vector Int 8 :=
  let r := upF (rndS (schedS p)) 0 64 (lv s.toList 0 4, lv s.toList 4 4)
  upF (finI r.1 r.2) 0 4 s
theorem compress_eq (s : Vector Int 8) (p : List Int) (hp : p.length = 64) : hash_compress s p = some (compS s p) := by
  unfold hash_compress
  rw [schedule_eq p hp, bind_s]
  have hfin : ∀ v e : Vector Int 4, hash_compress.j3 v e s = some (upF (finI v e) 0 4 s) := by
    intro v e
    unfold hash_compress.j3
    refine (loop_up (step := hash_compress.l2 v e) (fun w i => (w, i)) (finI v e) (fun w => w) 4 (fun _ _ => True) ?_ ?_ 4 0 s rfl trivial).1
    · intro i u hi _
      refine ⟨?_, trivial⟩
      unfold hash_compress.l2
      simp only [wrap_id (n := (i : Int) + 4) (by omega) (by omega), wrap_id (n := (i : Int) + 1) (by omega) (by omega)]
      rw [ite_t (by omega), grd_b (by omega), grd_b (by omega), grd_b (by omega), grd_b (by omega), grd_b (by omega), grd_b (by omega)]
      rfl
    · intro u _
      unfold hash_compress.l2
      simp only []
      rw [ite_f (by omega)]; rfl
  refine (loop_up (step := hash_compress.l4 (schedS p) s) (fun w i => (w.1, w.2, i)) (rndS (schedS p)) (fun w => upF (finI w.1 w.2) 0 4 s) 64 (fun _ _ => True) ?_ ?_ 64 0 (lv s.toList 0 4, lv s.toList 4 4) rfl trivial).1
  · intro i u hi _
    refine ⟨?_, trivial⟩
    unfold hash_compress.l4
    simp only [wrap_id (n := (i : Int) + 1) (by omega) (by omega)]
    rw [ite_t (by omega), grd_b (by omega), mix1, bind_s, grd_b (by omega), mix2, bind_s]
    rfl
  · intro u _
    unfold hash_compress.l4
    simp only []
    rw [ite_f (by omega), hfin]; rfl
end Go.Cu
