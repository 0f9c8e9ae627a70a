/- Rules for walks over facts, for any program; no condition. -/
import Derived.Test.YtakfalfggmgcfaaDoorCu7
set_option linter.unusedSimpArgs false
set_option linter.unusedVariables false
/-! Slices that the call itself makes: rows. -/
namespace Go.Cu

/-- A slice of flat elements that the call owns. -/
abbrev rowI {α : Type} (F : Fl α) (v : Value) (T : TypeId) (l : List α) : Item := .row v T F.sz l.length (flat F l)
abbrev dead : Item := .row (.slice none 0 0) 0 0 0 []

section st
variable {X : Nat → Prop} {M0 M : Heap} {w0 w : World} {L : List Item}

theorem St.new0 {it : Nat → Option Item} (h : St X M0 w0 M it w) {i : Nat} (hi : it i = none) {T sz : Nat} :
    St X M0 w0 M (fun j => if j = i then some (.row (.slice none 0 0) T sz 0 []) else it j) w := by
  obtain ⟨e, bo, h1, h2, h3⟩ := h
  refine ⟨e, fun j => if j = i then none else bo j, ?_, ?_, ?_⟩
  · intro j k b hj hk
    try simp only at hj hk
    split at hj <;> split at hk <;> first | exact h1 _ _ _ hj hk | contradiction
  · intro j b hj
    try simp only at hj
    split at hj
    · cases hj
    · exact h2 _ _ hj
  · intro j y hy
    try simp only at hy ⊢
    split at hy
    · rename_i p; injection hy with hy; subst hy; rw [if_pos p]; exact ⟨rfl, rfl, rfl⟩
    · rename_i p; rw [if_neg p]; exact h3 j y hy
theorem St.row0 (h : St X M0 w0 M (lt L) w) (T sz : Nat) : St X M0 w0 M (lt (L ++ [.row (.slice none 0 0) T sz 0 []])) w := by
  rw [← lt_push]; exact h.new0 (by simp [lt])

/-- An item is set down. -/
theorem St.kill {it : Nat → Option Item} (h : St X M0 w0 M it w) (i : Nat) : St X M0 w0 M (fun j => if j = i then some dead else it j) w := by
  obtain ⟨e, bo, h1, h2, h3⟩ := h
  refine ⟨e, fun j => if j = i then none else bo j, ?_, ?_, ?_⟩
  · intro j k b hj hk
    try simp only at hj hk
    split at hj <;> split at hk <;> first | exact h1 _ _ _ hj hk | contradiction
  · intro j b hj
    try simp only at hj
    split at hj
    · cases hj
    · exact h2 _ _ hj
  · intro j y hy
    try simp only at hy ⊢
    split at hy
    · rename_i p; injection hy with hy; subst hy; rw [if_pos p]; exact ⟨rfl, rfl, rfl⟩
    · rename_i p; rw [if_neg p]; exact h3 j y hy

/-- A row is handed over: from now on it is data. -/
theorem St.giveRow {α : Type} {F : Fl α} {v : Value} {T : TypeId} {l : List α} {it : Nat → Option Item} (h : St X M0 w0 M it w) {i : Nat} (hi : it i = some (rowI F v T l)) (hX : ∀ b, ¬ X b) :
    ∃ M', St X M0 w0 M' (fun j => if j = i then some dead else it j) w ∧ HLe M M' ∧ RS F M' v l := by
  have hk := h.kill i
  obtain ⟨e, bo, h1, h2, h3⟩ := h
  have hs := h3 i _ hi
  cases hb : bo i with
  | none =>
    rw [hb] at hs
    obtain ⟨e1, _, e3⟩ := hs
    exact ⟨M, hk, HLe.refl M, .inl ⟨e1, List.length_eq_zero_iff.1 e3⟩⟩
  | some b =>
    rw [hb] at hs
    obtain ⟨cap, spare, fr, e1, e2, e3, e4, e5, e6⟩ := hs
    have hbo := h2 i b hb
    have hge : w0.heap.size ≤ b := hbo.1.resolve_right (hX b)
    refine ⟨Heap.upd M b (.cells (flat F l ++ spare).toArray T fr), ⟨⟨e.os, e.tape, e.output, e.size, e.block, ?_, ?_⟩, fun j => if j = i then none else bo j, ?_, ?_, ?_⟩, ?_, ?_⟩
    · intro k hk
      show (if k = b then _ else M k) = _; rw [if_neg (by omega)]; exact e.old k hk
    · intro k o' hk
      unfold Heap.upd at hk
      split at hk
      · rename_i p; subst p; injection hk with hk; subst hk; exact e6
      · exact e.sub k o' hk
    · intro j k c hj hk
      try simp only at hj hk
      split at hj <;> split at hk <;> first | exact h1 _ _ _ hj hk | contradiction
    · intro j c hj
      try simp only at hj
      split at hj
      · cases hj
      · rename_i p
        refine ⟨(h2 j c hj).1, ?_⟩
        show (if c = b then _ else M c) = _
        rw [if_neg, (h2 j c hj).2]
        rintro rfl
        exact p (h1 _ _ _ hj hb)
    · intro j y hy
      try simp only at hy ⊢
      split at hy
      · rename_i p; injection hy with hy; subst hy; rw [if_pos p]; exact ⟨rfl, rfl, rfl⟩
      · rename_i p; rw [if_neg p]; exact h3 j y hy
    · intro k o' hk
      show (if k = b then _ else M k) = _
      split
      · rename_i p; subst p; rw [hbo.2] at hk; cases hk
      · exact hk
    · refine .inr ⟨b, cap, [], spare, T, fr, e1, ?_, e3, ?_⟩
      · show (if b = b then _ else M b) = _
        rw [if_pos rfl]; simp
      · simp at e4 ⊢; omega
end st

section rules
variable {c : Cx} {Q : Exit → Act → World → Prop} {l : List (Nat × Value)} {M : Heap} {L : List Item} {x : Code}
variable {ops : Array Oper} {rest : List Oper} {d : Nat} {ty : TypeId} {pos : String} {af : Array Edge} {gd : Option (Nat × Bool)}

theorem c_row0 (T sz : Nat) (h : c.C x Q l M (L ++ [.row (.slice none 0 0) T sz 0 []])) : c.C x Q l M L := fun a w hf hs => h a w hf (hs.row0 T sz)
theorem w_give {α : Type} {F : Fl α} {v : Value} {T : TypeId} {m : List α} (i : Nat) (hi : L[i]? = some (rowI F v T m)) (hX : ∀ b, ¬ c.X b)
    (h : ∀ M', HLe M M' → RS F M' v m → c.W ops rest Q l M' (L.set i dead)) : c.W ops rest Q l M L := by
  intro a w hf hs
  obtain ⟨M', h1, h2, h3⟩ := hs.giveRow hi hX
  rw [lt_set _ _ _ _ hi] at h1
  exact h M' h2 h3 a w hf h1
theorem n_give {K : Act → World → Prop} {α : Type} {F : Fl α} {v : Value} {T : TypeId} {m : List α} (i : Nat) (hi : L[i]? = some (rowI F v T m)) (hX : ∀ b, ¬ c.X b)
    (h : ∀ M', HLe M M' → RS F M' v m → c.N K l M' (L.set i dead)) : c.N K l M L := by
  intro a w hf hs
  obtain ⟨M', h1, h2, h3⟩ := hs.giveRow hi hX
  rw [lt_set _ _ _ _ hi] at h1
  exact h M' h2 h3 a w hf h1
end rules

/-! ### append -/
theorem nextcap_le (need cap : Nat) (h : cap < need) : Builtin.nextslicecap need cap ≤ 2 * need + 1024 := by
  unfold Builtin.nextslicecap
  split
  · omega
  · split
    · omega
    · have : ∀ k c, c ≤ 2 * need + 1024 → Builtin.growBy need k c ≤ 2 * need + 1024 := by
        intro k
        induction k with
        | zero => intro c hc; simpa [Builtin.growBy] using hc
        | succ k ih =>
          intro c hc
          unfold Builtin.growBy
          split
          · exact hc
          · refine ih _ ?_; omega
      exact this 4 cap (by omega)

theorem run_firstCells_RS {α : Type} {F : Fl α} {P : Program} {M : Heap} {w : World} {v : Value} {l : List α} (h : RS F M v l) (hs : Sub M w) :
    (Builtin.firstCells F.sz l.length v).run P w = .ok (flat F l).toArray w := by
  rcases h with ⟨rfl, rfl⟩ | ⟨b, cap, pre, post, T, fr, rfl, hM, _, _⟩
  · rfl
  · exact run_loadCells_blk (T := T) (fr := fr) (hs _ _ hM) (by simp [← flat_length]) (by simp [flat_length])

section
variable {P : Program} {w : World}
theorem zeroCells_length (z : Array Value) (n : Nat) : (Builtin.zeroCells z n).toList.length = n * z.size := by simp [Builtin.zeroCells]
end

/-- What is appended: some cells that can be read. -/
def Src (P : Program) (M : Heap) (sz : Nat) (v : Value) (n : Nat) (cs : List Value) : Prop :=
  cs.length = n * sz ∧ (∀ u ∈ cs, u.oneCell' = true) ∧ ∀ w, Sub M w → (Builtin.lenOf v).run P w = .ok n w ∧ (Builtin.firstCells sz n v).run P w = .ok cs.toArray w

/-- The cells of the elements are cells. -/
def Fl.One {α : Type} (F : Fl α) : Prop := ∀ x, ∀ u ∈ F.f x, u.oneCell' = true
theorem flat_one {α : Type} {F : Fl α} (h : F.One) (l : List α) : ∀ u ∈ flat F l, u.oneCell' = true := by
  intro u hu
  obtain ⟨x, _, hx⟩ := List.mem_flatMap.1 hu
  exact h x u hx
theorem Src.rs {α : Type} {F : Fl α} (hF : F.One) {P : Program} {M : Heap} {v : Value} {l : List α} (h : RS F M v l) : Src P M F.sz v l.length (flat F l) := by
  refine ⟨flat_length F l, flat_one hF l, fun w hs => ⟨?_, run_firstCells_RS h hs⟩⟩
  obtain ⟨a, c, rfl⟩ := h.slice
  rfl
def bytesI (s : List UInt8) : List Int := s.map fun b => (b.toNat : Int)
theorem flat_bytes (s : List UInt8) : flat (FI .u8) (bytesI s) = s.map fun b => Value.int .u8 b.toNat := by
  induction s with
  | nil => rfl
  | cons b s ih => simp [bytesI, FI] at ih ⊢; exact ih
theorem FI.one (k : IntKind) : (FI k).One := by intro x u hu; simp [FI] at hu; subst hu; rfl
theorem FB.one : FB.One := by intro x u hu; simp [FB] at hu; subst hu; rfl
theorem FS.one : FS.One := by intro x u hu; simp [FS] at hu; subst hu; rfl
theorem FV.one (k : IntKind) (n : Nat) : (FV k n).One := by
  intro x u hu
  simp only [FV, vI, List.mem_map] at hu
  obtain ⟨y, _, rfl⟩ := hu
  rfl
theorem Src.str {P : Program} {M : Heap} (s : List UInt8) : Src P M 1 (str s) s.length (flat (FI .u8) (bytesI s)) := by
  refine ⟨by rw [flat_length]; simp [FI, bytesI], flat_one (FI.one .u8) _, fun w hs => ⟨?_, ?_⟩⟩
  · simp [Builtin.lenOf, Cu.str, size_str]
  · rw [flat_bytes]
    have : (ByteArray.mk s.toArray).extract 0 s.length = ByteArray.mk s.toArray := by
      apply ByteArray.ext; simp
    simp [Builtin.firstCells, Cu.str, this]

theorem add_mul_ptr (b k : Nat) : Addr.add ⟨b, 0, none⟩ k = ⟨b, k, none⟩ := by rw [add_ptr]; simp

theorem run_append {P : Program} {w : World} {M : Heap} {S E : TypeId} {t2 ty : TypeId} {sz nb : Nat} {z : Value} {d2 : TypeDesc} {v v2 : Value} {n m : Nat} {cells cs : List Value} {X : Nat → Prop} {M0 : Heap} {w0 : World} {it : Nat → Option Item} {i : Nat}
    (hst : St X M0 w0 M it w) (hS : P.underlying S = some (.slice E)) (hs : TSize P E sz) (hb : TBytes P E nb) (hnb : nb ≤ 1024) (hz : TZero P E z) (hzs : z.cells.size = sz)
    (ht2 : P.underlying t2 = some d2) (hd2 : (∃ e, d2 = .slice e) ∨ d2 = .string) (hi : it i = some (.row v E sz n cells)) (hsrc : Src P M sz v2 m cs) (hbound : n + m < 68719476736) :
    ∃ v' w', (Builtin.append_ #[S, t2] ty #[v, v2]).run P w = .ok v' w' ∧ St X M0 w0 M (fun j => if j = i then some (.row v' E sz (n + m) (cells ++ cs)) else it j) w' := by
  obtain ⟨hcs, hone, hrun⟩ := hsrc
  obtain ⟨hl, hc⟩ := hrun w hst.sub
  obtain ⟨info, hinfo, hnbi⟩ := hb.info
  have hst' := hst
  obtain ⟨e0, bo, b1, b2, b3⟩ := hst
  have hsat := b3 i _ hi
  -- the new row where it does not fit
  have grow : ∀ (base : Option Addr) (cap : Nat), v = .slice base n cap → cap < n + m → cells.length = n * sz → (Builtin.firstCells sz n v).run P w.drew = .ok cells.toArray w.drew →
      ∃ v' w', (Builtin.append_ #[S, t2] ty #[v, v2]).run P w = .ok v' w' ∧ St X M0 w0 M (fun j => if j = i then some (.row v' E sz (n + m) (cells ++ cs)) else it j) w' := by
    intro base cap hv hcap hcl hold
    obtain ⟨k, hk⟩ : ∃ k, k = w.tape w.drawn (.appendCap (n + m) cap E) % (9223372036854775808 - (n + m)) := ⟨_, rfl⟩
    have hsub1 : Sub M w.drew := hst'.drew.sub
    have hc1 := (hrun _ hsub1).2
    have hn1 : ¬ n + m ≤ cap := by omega
    have hn2 : ¬ ((9223372036854775807 : Int) < (n : Int) + (m : Int)) := by omega
    have hmax : IntKind.i64.max = 9223372036854775807 := by decide
    have hn3 : ¬ (Builtin.nextslicecap (n + m) cap * info.bytes > 2 ^ 48) := by
      have h1 := nextcap_le (n + m) cap hcap
      have h2 : Builtin.nextslicecap (n + m) cap * info.bytes ≤ (2 * (n + m) + 1024) * 1024 := Nat.mul_le_mul h1 (by omega)
      omega
    refine ⟨.slice (some ⟨w.heap.size, 0, none⟩) (n + m) (n + m + k), (w.drew).alloc (.cells (cells.toArray ++ cs.toArray ++ Builtin.zeroCells z.cells (n + m + k - (n + m))) E), ?_, ?_⟩
    · subst hv
      have harr : ∀ zc : Array Value, cells.toArray ++ (cs.toArray ++ zc) = (cells ++ cs).toArray ++ zc := fun zc => by apply Array.ext'; simp
      rcases hd2 with ⟨e2, rfl⟩ | rfl <;>
        simp [harr, Builtin.append_, run_underlying hS, run_underlying ht2, hs.run, hl, hn1, hmax, hn2, hn3, run_typeInfo hinfo, ← hk, hold, hc1, hz.run, run_newRow, Question.forced, Question.cut]
    · have hx : (Item.row (.slice (some ⟨w.heap.size, 0, none⟩) (n + m) (n + m + k)) E sz (n + m) (cells ++ cs)).sat (w.drew.alloc (.cells (cells.toArray ++ cs.toArray ++ Builtin.zeroCells z.cells (n + m + k - (n + m))) E)) (some w.heap.size) := by
        refine ⟨n + m + k, (Builtin.zeroCells z.cells (n + m + k - (n + m))).toList, (0, 0), rfl, ?_, by omega, ?_, by simp, ?_⟩
        · simp [hcl, hcs, Nat.add_mul]
        · rw [zeroCells_length, hzs]; simp [hcl, hcs, Nat.add_mul]
        · refine (alloc_get w.drew _).trans ?_
          congr 2
          apply Array.ext'
          simp
      have h1 := (hst'.drew.kill i)
      -- drop the old item, lay the new one in its place
      have h2 : St X M0 w0 M (fun j => if j = i then none else it j) w.drew := by
        refine h1.forget (fun j => j) (fun _ _ _ _ h => h) ?_
        intro j x hx
        try simp only at hx ⊢
        split at hx
        · cases hx
        · rename_i p; rw [if_neg p]; exact hx
      have h3 := h2.new (i := i) (by simp) hx
      have e : (fun j => if j = i then some (Item.row (.slice (some ⟨w.heap.size, 0, none⟩) (n + m) (n + m + k)) E sz (n + m) (cells ++ cs)) else (fun j => if j = i then none else it j) j) = fun j => if j = i then some (Item.row (.slice (some ⟨w.heap.size, 0, none⟩) (n + m) (n + m + k)) E sz (n + m) (cells ++ cs)) else it j := by
        funext j; by_cases h : j = i <;> simp [h]
      rw [e] at h3
      exact h3
  cases hb' : bo i with
  | none =>
    rw [hb'] at hsat
    obtain ⟨e1, e2, e3⟩ := hsat
    subst e2 e3
    by_cases hm : m = 0
    · subst hm
      have : cs = [] := by simpa using hcs
      subst this
      refine ⟨.slice none 0 0, w, ?_, ?_⟩
      · subst e1
        rcases hd2 with ⟨e2, rfl⟩ | rfl <;> simp [Builtin.append_, run_underlying hS, run_underlying ht2, hs.run, hl, hc]
      · subst e1
        have : (fun j => if j = i then some (Item.row (.slice none 0 0) E sz (0 + 0) ([] ++ [])) else it j) = it := by
          funext j
          by_cases h : j = i
          · subst h; simp [hi]
          · simp [h]
        rw [this]; exact hst'
    · exact grow none 0 e1 (by omega) (by simp) (by rw [e1]; rfl)
  | some b =>
    rw [hb'] at hsat
    obtain ⟨cap, spare, fr, e1, e2, e3, e4, e5, e6⟩ := hsat
    by_cases hfit : n + m ≤ cap
    · have hsl : cs.length ≤ spare.length := by
        have : (n + m) * sz ≤ cap * sz := Nat.mul_le_mul_right _ hfit
        rw [Nat.add_mul] at this
        omega
      have hB : Blk w b (cells ++ spare) E fr := e6
      obtain ⟨w', hr, f1, f2, f3, f4, f5, f6⟩ := run_storeCells (P := P) cs w (cells ++ spare) (n * sz) 0 hB (by simp; omega) (by
        intro j hj; apply e5; simp at hj; omega) hone
      refine ⟨.slice (some ⟨b, 0, none⟩) (n + m) cap, w', ?_, ?_⟩
      · subst e1
        rcases hd2 with ⟨e2', rfl⟩ | rfl <;> simp [Builtin.append_, run_underlying hS, run_underlying ht2, hs.run, hl, hc, hfit, add_mul_ptr, hr]
      · refine hst'.write hi f1 f2 f3 f4 ?_ ?_
        · rintro b' ⟨cap', spare', fr', g1, g2, g3, g4, g5, g6⟩
          rw [e1] at g1
          injection g1 with g1 _ g1'
          injection g1 with g1
          injection g1 with g1
          subst g1 g1'
          refine ⟨f5, cap, spare.drop cs.length, fr, rfl, by simp [e2, hcs, Nat.add_mul], hfit, by simp; omega, e5, ?_⟩
          rw [f6]
          congr 2
          simp only [splice, Nat.add_zero, ← e2]
          simp [List.drop_append]
        · intro v'' T'' sz'' n'' cs'' heq hn
          cases heq
          obtain ⟨g1, _, _⟩ := hn
          rw [e1] at g1; cases g1
    · refine grow (some ⟨b, 0, none⟩) cap e1 (by omega) e2 ?_
      rw [e1]
      have hB : Blk (w.drew) b (cells ++ spare) E fr := e6
      exact run_loadCells_blk hB (by simp [← e2]) e2
end Go.Cu
