/- Rules for walks over facts, for any program; no condition. -/
import Derived.Test.YtakfalfggmgcfaaDoorCu6
set_option linter.unusedSimpArgs false
set_option linter.unusedVariables false
/-! Words for printed walks. -/
namespace Go.Cu

theorem if_t {α : Type} {b : Bool} {x y : Option α} {r : α} (hb : b = true) (H : (if b = true then x else y) = some r) : x = some r := by rwa [if_pos hb] at H
theorem if_f {α : Type} {b : Bool} {x y : Option α} {r : α} (hb : b = false) (H : (if b = true then x else y) = some r) : y = some r := by
  rwa [if_neg (by rw [hb]; exact Bool.false_ne_true)] at H
theorem bnd {α β : Type} {x : Option α} {f : α → Option β} {r : β} (H : x.bind f = some r) : ∃ t, x = some t ∧ f t = some r := Option.bind_eq_some_iff.1 H
def grd (p : Prop) [Decidable p] : Option Unit := if p then some () else none
theorem grd_s {β : Type} {p : Prop} [Decidable p] {f : Unit → Option β} {r : β} (H : (grd p).bind f = some r) : p ∧ f () = some r := by
  unfold grd at H
  split at H
  · rename_i h; exact ⟨h, H⟩
  · cases H
theorem map_inr {σ ρ : Type} {o : Option ρ} {x : σ ⊕ ρ} {r : ρ} (H : o.map Sum.inr = some x) (hr : ∀ r', x = .inr r' → r' = r) : o = some r := by
  cases o with
  | none => cases H
  | some y => rw [hr y (by injection H with H; exact H.symm)]
theorem some_r {α : Type} {x r : α} (H : some x = some r) : x = r := Option.some.inj H

/-- integers and such of a row of cells -/
def vI (k : IntKind) {n : Nat} (v : Vector Int n) : List Value := v.toList.map (.int k)
def vB {n : Nat} (v : Vector Bool n) : List Value := v.toList.map .bool
@[simp] theorem vI_length (k : IntKind) {n : Nat} (v : Vector Int n) : (vI k v).length = n := by simp [vI]
@[simp] theorem vB_length {n : Nat} (v : Vector Bool n) : (vB v).length = n := by simp [vB]

def FI (k : IntKind) : Fl Int := ⟨fun x => [.int k x], 1, fun _ => rfl⟩
def FB : Fl Bool := ⟨fun x => [.bool x], 1, fun _ => rfl⟩
def FS : Fl (List UInt8) := ⟨fun x => [str x], 1, fun _ => rfl⟩
def FV (k : IntKind) (n : Nat) : Fl (Vector Int n) := ⟨fun x => vI k x, n, fun _ => by simp⟩

/-- A function value does what a pure function says. -/
def FnS {α β : Type} (P : Program) (M : Heap) (fv : Value) (enc : α → Value) (dec : β → Value) (p : α → Option β) : Prop :=
  ∀ M' w x r, HLe M M' → Sub M' w → p x = some r → CallsV P fv [enc x] w (Post M' w fun _ v => v = dec r)
theorem FnS.mono {α β : Type} {P : Program} {M M' : Heap} {fv : Value} {enc : α → Value} {dec : β → Value} {p : α → Option β} (h : FnS P M fv enc dec p) (hM : HLe M M') : FnS P M' fv enc dec p :=
  fun M2 w x r hle hs hp => h M2 w x r (hM.trans hle) hs hp

section
variable {X : Nat → Prop} {M0 M : Heap} {w0 w : World} {L : List Item}
/-- Some of the items. -/
theorem St.sel (h : St X M0 w0 M (lt L) w) {L' : List Item} (f : List Nat) (hf : f.Nodup) (hl : f.map (fun i => L[i]?) = L'.map some) : St X M0 w0 M (lt L') w := by
  have hlen : f.length = L'.length := by simpa using congrArg List.length hl
  have hget : ∀ (i : Nat) (x : Item), L'[i]? = some x → ∃ j : Nat, f[i]? = some j ∧ L[j]? = some x := by
    intro i x hx
    have := congrArg (fun l => l[i]?) hl
    simp only [List.getElem?_map, hx] at this
    cases hfi : f[i]? with
    | none => rw [hfi] at this; cases this
    | some j => rw [hfi] at this; exact ⟨j, rfl, by simpa using this⟩
  refine h.forget (fun i => f.getD i 0) ?_ ?_
  · intro i j hi hj hij
    obtain ⟨x, hx⟩ := Option.isSome_iff_exists.1 hi
    obtain ⟨y, hy⟩ := Option.isSome_iff_exists.1 hj
    obtain ⟨p, hp, _⟩ := hget i x hx
    obtain ⟨q, hq, _⟩ := hget j y hy
    simp only [List.getD, hp, hq, Option.getD_some] at hij
    subst hij
    exact (List.getElem?_inj (List.getElem?_eq_some_iff.1 hp).1 hf).1 (hp.trans hq.symm)
  · intro i x hx
    obtain ⟨j, hj, hLj⟩ := hget i x hx
    simp only [List.getD, hj, Option.getD_some]
    exact hLj
theorem St.nil (h : St X M0 w0 M (lt L) w) : St X M0 w0 M (lt []) w := h.sel [] (by simp) rfl

end

section rules
variable {c : Cx} {Q : Exit → Act → World → Prop} {l : List (Nat × Value)} {M : Heap} {L : List Item}
variable {ops : Array Oper} {rest : List Oper} {d : Nat} {ty : TypeId} {pos : String} {af : Array Edge} {gd : Option (Nat × Bool)}
/-- A new block that is never written again: it goes to the ghost heap at once. -/
theorem St.newM {X : Nat → Prop} {M0 : Heap} {w0 w : World} {it : Nat → Option Item} (h : St X M0 w0 M it w) (o : Obj) :
    St X M0 w0 (Heap.upd M w.heap.size o) it (w.alloc o) ∧ HLe M (Heap.upd M w.heap.size o) := by
  have hlt : ∀ b o', M b = some o' → b < w.heap.size := fun b o' hb => lt_of_get (h.sub b o' hb)
  have hle : HLe M (Heap.upd M w.heap.size o) := by
    intro b o' hb
    simp only [Heap.upd]
    rw [if_neg (by have := hlt b o' hb; omega)]; exact hb
  refine ⟨h.step ⟨rfl, rfl, rfl, by simp, ?_, ?_, ?_⟩, hle⟩
  · intro k hk _
    exact RowKit.Below.heap_alloc w o k hk
  · intro k hk
    simp only [Heap.upd]; rw [if_neg (by omega)]
  · intro b o' hb
    simp only [Heap.upd] at hb
    split at hb
    · rename_i e; subst e; injection hb with hb; subst hb; exact alloc_get w o
    · rw [RowKit.Below.heap_alloc w o b (hlt b o' hb)]; exact h.sub b o' hb
theorem w_newM {op : Op} {o : Obj} {val : Nat → Value} (hg : Wnt ops l gd) (hd : Nat.blt d c.n = true)
    (hr : ∀ a w, Fr c.n l a → (execOp a.eval ⟨some d, op, ty, pos, af, gd⟩).run c.P w = .ok (.value (val w.heap.size)) (w.alloc o))
    (h : ∀ b M', HLe M M' → M' b = some o → c.W ops rest Q ((d, val b) :: l) M' L) : c.W ops (⟨some d, op, ty, pos, af, gd⟩ :: rest) Q l M L := by
  refine w_op hg hd (Φ := fun v w' => ∃ b M', v = val b ∧ HLe M M' ∧ M' b = some o ∧ St c.X c.M0 c.w0 M' (lt L) w') ?_ ?_
  · intro a w hf hs
    have := hs.newM o
    exact OpOK.val (hr a w hf) ⟨_, _, rfl, this.2, by simp [Heap.upd], this.1⟩
  · rintro v w' ⟨b, M', rfl, h1, h2, h3⟩ a' hf
    exact h b M' h1 h2 a' w' hf h3
theorem w_boxM {T : TypeId} {x : Operand} {v : Value} {A : List Value} (hg : Wnt ops l gd) (hd : Nat.blt d c.n = true) (hx : ev l x = some v) (hA : v.cells = A.toArray)
    (h : ∀ b M', HLe M M' → M' b = some (.cells A.toArray T (0, 0)) → c.W ops rest Q ((d, ptr b 0) :: l) M' L) : c.W ops (⟨some d, .box T x, ty, pos, af, gd⟩ :: rest) Q l M L := by
  refine w_newM (val := fun b => ptr b 0) (o := .cells A.toArray T (0, 0)) hg hd (fun a w hf => ?_) h
  simp [execOp, hf.ev hx, Instr.box, newVar, run_newRow, hA]
theorem w_boxL {T : TypeId} {x : Operand} {v : Value} {A : List Value} (hg : Wnt ops l gd) (hd : Nat.blt d c.n = true) (hx : ev l x = some v) (hA : v.cells = A.toArray)
    (h : ∀ b, c.W ops rest Q ((d, ptr b 0) :: l) M (L ++ [.blk b (.cells A.toArray T (0, 0))])) : c.W ops (⟨some d, .box T x, ty, pos, af, gd⟩ :: rest) Q l M L := by
  refine w_box hg hd hx ?_
  rw [hA]; exact h
theorem w_allocL {T : TypeId} {z : Value} {A : List Value} (hz : TZero c.P T z) (hg : Wnt ops l gd) (hd : Nat.blt d c.n = true) (hA : z.cells = A.toArray)
    (h : ∀ b, c.W ops rest Q ((d, ptr b 0) :: l) M (L ++ [.blk b (.cells A.toArray T (0, 0))])) : c.W ops (⟨some d, .alloc T, ty, pos, af, gd⟩ :: rest) Q l M L := by
  refine w_alloc hz hg hd ?_
  rw [hA]; exact h
end rules

/-- Equality of a struct or an array, as a pure test. -/
def EQ {α : Type} [DecidableEq α] (P : Program) (T : TypeId) (V : α → Value) : Prop :=
  ∀ (ρ : Operand → Value) (dst : Option Tmp) (x y : Operand) (t' ty : TypeId) (pos : String) (af : Array Edge) (gd : Option (Nat × Bool)) (i j : α) (w : World), ρ x = V i → ρ y = V j →
    (execOp ρ ⟨dst, .binOp .eql T x y t', ty, pos, af, gd⟩).run P w = .ok (.value (.bool (decide (i = j)))) w ∧
    (execOp ρ ⟨dst, .binOp .neq T x y t', ty, pos, af, gd⟩).run P w = .ok (.value (.bool (!decide (i = j)))) w
section
variable {P : Program} {w : World} {ρ : Operand → Value} {dst : Option Tmp} {ty : TypeId} {pos : String} {af : Array Edge} {gd : Option (Nat × Bool)}
end
end Go.Cu
