/- The pure functions that the Go functions of this seat come to. -/
import Derived.Test.YtakfalfggmgcfaaCu17
set_option linter.unusedVariables false
set_option linter.unusedSimpArgs false
set_option maxHeartbeats 4000000
/-! The functions, as pure functions. -/
namespace Go.Cu
structure Key where
  Id : Int
  Type_ : Int
  Value : (List UInt8)
  Uses : Int
  Start : Int
  End : Int
  Version : Int
  Parent : Int
  Raw : Bool
deriving DecidableEq, Inhabited
def Key.C (x : Key) : List Go.Value := [.int .i64 x.Id, .int .i64 x.Type_, str x.Value, .int .i64 x.Uses, .int .i64 x.Start, .int .i64 x.End, .int .i64 x.Version, .int .i64 x.Parent, .bool x.Raw]
theorem Key.len (x : Key) : (Key.C x).length = 9 := rfl
theorem Key.C_one (x : Key) : ∀ u ∈ Key.C x, u.oneCell' = true := by
  unfold Key.C
  exact (one_cons rfl (one_cons rfl (one_cons rfl (one_cons rfl (one_cons rfl (one_cons rfl (one_cons rfl (one_cons rfl (one_cons rfl one_nil)))))))))
def Key.F : Fl Key := ⟨Key.C, 9, fun x => Key.len x⟩
theorem Key.F_one : Key.F.One := fun x => Key.C_one x
structure Table where
  Next : Int
  Keys : (List Key)
deriving DecidableEq, Inhabited
def Table.C (x : Table) (v0 : Go.Value) : List Go.Value := [.int .i64 x.Next, v0]
theorem Table.len (x : Table) (v0 : Go.Value) : (Table.C x v0).length = 2 := rfl
theorem Table.C_one (x : Table) {v0 : Go.Value} (h0 : v0.oneCell' = true) : ∀ u ∈ Table.C x v0, u.oneCell' = true := by
  unfold Table.C
  exact (one_cons rfl (one_cons h0 one_nil))
structure Backup where
  Domain : (Vector Int 16)
  Epoch : Int
  Number : Int
  Firmware : Int
  Time : Int
  Policy : (Vector Int 16)
  Module : (List UInt8)
  Keys : (List Key)
deriving DecidableEq, Inhabited
def Backup.C (x : Backup) (v0 : Go.Value) : List Go.Value := vI .u8 x.Domain ++ ([.int .i64 x.Epoch, .int .i64 x.Number, .int .i64 x.Firmware, .int .i64 x.Time] ++ (vI .u8 x.Policy ++ ([str x.Module, v0])))
theorem Backup.len (x : Backup) (v0 : Go.Value) : (Backup.C x v0).length = 38 := by simp [Backup.C]
theorem Backup.C_one (x : Backup) {v0 : Go.Value} (h0 : v0.oneCell' = true) : ∀ u ∈ Backup.C x v0, u.oneCell' = true := by
  unfold Backup.C
  exact (one_app (FV.one _ _ _) (one_app (one_cons rfl (one_cons rfl (one_cons rfl (one_cons rfl one_nil)))) (one_app (FV.one _ _ _) (one_cons rfl (one_cons h0 one_nil)))))
theorem Backup.d0_16 (x : Backup) (v0 : Go.Value) : ((Backup.C x v0).drop 0).take 16 = vI .u8 x.Domain := by simp [Backup.C, List.getElem?_append, List.take_append, List.drop_append, List.take_of_length_le, List.drop_of_length_le, splice]
theorem Backup.s0_16 (x : Backup) (v0 : Go.Value) {y : (Vector Int 16)} : splice (Backup.C x v0) 0 (vI .u8 y) = Backup.C { x with Domain := y } v0 := by simp [Backup.C, List.getElem?_append, List.take_append, List.drop_append, List.take_of_length_le, List.drop_of_length_le, splice]
theorem Backup.g16 (x : Backup) (v0 : Go.Value) : (Backup.C x v0)[16]? = some (.int .i64 x.Epoch) := by simp [Backup.C, List.getElem?_append, List.take_append, List.drop_append, List.take_of_length_le, List.drop_of_length_le, splice]
theorem Backup.s16_1 (x : Backup) (v0 : Go.Value) {y : Int} : splice (Backup.C x v0) 16 [.int .i64 y] = Backup.C { x with Epoch := y } v0 := by simp [Backup.C, List.getElem?_append, List.take_append, List.drop_append, List.take_of_length_le, List.drop_of_length_le, splice]
theorem Backup.g17 (x : Backup) (v0 : Go.Value) : (Backup.C x v0)[17]? = some (.int .i64 x.Number) := by simp [Backup.C, List.getElem?_append, List.take_append, List.drop_append, List.take_of_length_le, List.drop_of_length_le, splice]
theorem Backup.s17_1 (x : Backup) (v0 : Go.Value) {y : Int} : splice (Backup.C x v0) 17 [.int .i64 y] = Backup.C { x with Number := y } v0 := by simp [Backup.C, List.getElem?_append, List.take_append, List.drop_append, List.take_of_length_le, List.drop_of_length_le, splice]
theorem Backup.g18 (x : Backup) (v0 : Go.Value) : (Backup.C x v0)[18]? = some (.int .i64 x.Firmware) := by simp [Backup.C, List.getElem?_append, List.take_append, List.drop_append, List.take_of_length_le, List.drop_of_length_le, splice]
theorem Backup.s18_1 (x : Backup) (v0 : Go.Value) {y : Int} : splice (Backup.C x v0) 18 [.int .i64 y] = Backup.C { x with Firmware := y } v0 := by simp [Backup.C, List.getElem?_append, List.take_append, List.drop_append, List.take_of_length_le, List.drop_of_length_le, splice]
theorem Backup.g19 (x : Backup) (v0 : Go.Value) : (Backup.C x v0)[19]? = some (.int .i64 x.Time) := by simp [Backup.C, List.getElem?_append, List.take_append, List.drop_append, List.take_of_length_le, List.drop_of_length_le, splice]
theorem Backup.s19_1 (x : Backup) (v0 : Go.Value) {y : Int} : splice (Backup.C x v0) 19 [.int .i64 y] = Backup.C { x with Time := y } v0 := by simp [Backup.C, List.getElem?_append, List.take_append, List.drop_append, List.take_of_length_le, List.drop_of_length_le, splice]
theorem Backup.d20_16 (x : Backup) (v0 : Go.Value) : ((Backup.C x v0).drop 20).take 16 = vI .u8 x.Policy := by simp [Backup.C, List.getElem?_append, List.take_append, List.drop_append, List.take_of_length_le, List.drop_of_length_le, splice]
theorem Backup.s20_16 (x : Backup) (v0 : Go.Value) {y : (Vector Int 16)} : splice (Backup.C x v0) 20 (vI .u8 y) = Backup.C { x with Policy := y } v0 := by simp [Backup.C, List.getElem?_append, List.take_append, List.drop_append, List.take_of_length_le, List.drop_of_length_le, splice]
theorem Backup.g36 (x : Backup) (v0 : Go.Value) : (Backup.C x v0)[36]? = some (str x.Module) := by simp [Backup.C, List.getElem?_append, List.take_append, List.drop_append, List.take_of_length_le, List.drop_of_length_le, splice]
theorem Backup.s36_1 (x : Backup) (v0 : Go.Value) {y : (List UInt8)} : splice (Backup.C x v0) 36 [str y] = Backup.C { x with Module := y } v0 := by simp [Backup.C, List.getElem?_append, List.take_append, List.drop_append, List.take_of_length_le, List.drop_of_length_le, splice]
theorem Backup.g37 (x : Backup) (v0 : Go.Value) : (Backup.C x v0)[37]? = some (v0) := by simp [Backup.C, List.getElem?_append, List.take_append, List.drop_append, List.take_of_length_le, List.drop_of_length_le, splice]
theorem Backup.s37_1 (x : Backup) (v0 : Go.Value) {y : (List Key)} {u0 : Go.Value} : splice (Backup.C x v0) 37 [u0] = Backup.C { x with Keys := y } u0 := by simp [Backup.C, List.getElem?_append, List.take_append, List.drop_append, List.take_of_length_le, List.drop_of_length_le, splice]
theorem Backup.d0_38 (x : Backup) (v0 : Go.Value) : ((Backup.C x v0).drop 0).take 38 = Backup.C x v0 := by rw [List.drop_zero, List.take_of_length_le]; rw [Backup.len]; exact Nat.le_refl _
structure restore_Place where
  Domain : (Vector Int 16)
  Policy : (Vector Int 16)
  Firmware : Int
  Number : Int
deriving DecidableEq, Inhabited
def restore_Place.C (x : restore_Place) : List Go.Value := vI .u8 x.Domain ++ (vI .u8 x.Policy ++ ([.int .i64 x.Firmware, .int .i64 x.Number]))
theorem restore_Place.len (x : restore_Place) : (restore_Place.C x).length = 34 := by simp [restore_Place.C]
theorem restore_Place.C_one (x : restore_Place) : ∀ u ∈ restore_Place.C x, u.oneCell' = true := by
  unfold restore_Place.C
  exact (one_app (FV.one _ _ _) (one_app (FV.one _ _ _) (one_cons rfl (one_cons rfl one_nil))))
def restore_Place.F : Fl restore_Place := ⟨restore_Place.C, 34, fun x => restore_Place.len x⟩
theorem restore_Place.F_one : restore_Place.F.One := fun x => restore_Place.C_one x
theorem restore_Place.d0_16 (x : restore_Place) : ((restore_Place.C x).drop 0).take 16 = vI .u8 x.Domain := by simp [restore_Place.C, List.getElem?_append, List.take_append, List.drop_append, List.take_of_length_le, List.drop_of_length_le, splice]
theorem restore_Place.s0_16 (x : restore_Place) {y : (Vector Int 16)} : splice (restore_Place.C x) 0 (vI .u8 y) = restore_Place.C { x with Domain := y } := by simp [restore_Place.C, List.getElem?_append, List.take_append, List.drop_append, List.take_of_length_le, List.drop_of_length_le, splice]
theorem restore_Place.d16_16 (x : restore_Place) : ((restore_Place.C x).drop 16).take 16 = vI .u8 x.Policy := by simp [restore_Place.C, List.getElem?_append, List.take_append, List.drop_append, List.take_of_length_le, List.drop_of_length_le, splice]
theorem restore_Place.s16_16 (x : restore_Place) {y : (Vector Int 16)} : splice (restore_Place.C x) 16 (vI .u8 y) = restore_Place.C { x with Policy := y } := by simp [restore_Place.C, List.getElem?_append, List.take_append, List.drop_append, List.take_of_length_le, List.drop_of_length_le, splice]
theorem restore_Place.g32 (x : restore_Place) : (restore_Place.C x)[32]? = some (.int .i64 x.Firmware) := by simp [restore_Place.C, List.getElem?_append, List.take_append, List.drop_append, List.take_of_length_le, List.drop_of_length_le, splice]
theorem restore_Place.s32_1 (x : restore_Place) {y : Int} : splice (restore_Place.C x) 32 [.int .i64 y] = restore_Place.C { x with Firmware := y } := by simp [restore_Place.C, List.getElem?_append, List.take_append, List.drop_append, List.take_of_length_le, List.drop_of_length_le, splice]
theorem restore_Place.g33 (x : restore_Place) : (restore_Place.C x)[33]? = some (.int .i64 x.Number) := by simp [restore_Place.C, List.getElem?_append, List.take_append, List.drop_append, List.take_of_length_le, List.drop_of_length_le, splice]
theorem restore_Place.s33_1 (x : restore_Place) {y : Int} : splice (restore_Place.C x) 33 [.int .i64 y] = restore_Place.C { x with Number := y } := by simp [restore_Place.C, List.getElem?_append, List.take_append, List.drop_append, List.take_of_length_le, List.drop_of_length_le, splice]
theorem restore_Place.d0_34 (x : restore_Place) : ((restore_Place.C x).drop 0).take 34 = restore_Place.C x := by rw [List.drop_zero, List.take_of_length_le]; rw [restore_Place.len]; exact Nat.le_refl _
structure ref37_Planned where
  T : Table
  Ids : (List Int)
  E_ : Int
deriving DecidableEq, Inhabited
def ref37_Planned.C (x : ref37_Planned) (v0 v1 : Go.Value) : List Go.Value := Table.C x.T v0 ++ ([v1, .int .i64 x.E_])
theorem ref37_Planned.len (x : ref37_Planned) (v0 v1 : Go.Value) : (ref37_Planned.C x v0 v1).length = 4 := rfl
theorem ref37_Planned.C_one (x : ref37_Planned) {v0 v1 : Go.Value} (h0 : v0.oneCell' = true) (h1 : v1.oneCell' = true) : ∀ u ∈ ref37_Planned.C x v0 v1, u.oneCell' = true := by
  unfold ref37_Planned.C
  exact (one_app (Table.C_one _ h0) (one_cons h1 (one_cons rfl one_nil)))
structure ref37_Place where
  Domain : (Vector Int 16)
  Policy : (Vector Int 16)
  Firmware : Int
  Number : Int
deriving DecidableEq, Inhabited
def ref37_Place.C (x : ref37_Place) : List Go.Value := vI .u8 x.Domain ++ (vI .u8 x.Policy ++ ([.int .i64 x.Firmware, .int .i64 x.Number]))
theorem ref37_Place.len (x : ref37_Place) : (ref37_Place.C x).length = 34 := by simp [ref37_Place.C]
theorem ref37_Place.C_one (x : ref37_Place) : ∀ u ∈ ref37_Place.C x, u.oneCell' = true := by
  unfold ref37_Place.C
  exact (one_app (FV.one _ _ _) (one_app (FV.one _ _ _) (one_cons rfl (one_cons rfl one_nil))))
def ref37_Place.F : Fl ref37_Place := ⟨ref37_Place.C, 34, fun x => ref37_Place.len x⟩
theorem ref37_Place.F_one : ref37_Place.F.One := fun x => ref37_Place.C_one x
theorem ref37_Place.d0_16 (x : ref37_Place) : ((ref37_Place.C x).drop 0).take 16 = vI .u8 x.Domain := by simp [ref37_Place.C, List.getElem?_append, List.take_append, List.drop_append, List.take_of_length_le, List.drop_of_length_le, splice]
theorem ref37_Place.s0_16 (x : ref37_Place) {y : (Vector Int 16)} : splice (ref37_Place.C x) 0 (vI .u8 y) = ref37_Place.C { x with Domain := y } := by simp [ref37_Place.C, List.getElem?_append, List.take_append, List.drop_append, List.take_of_length_le, List.drop_of_length_le, splice]
theorem ref37_Place.d16_16 (x : ref37_Place) : ((ref37_Place.C x).drop 16).take 16 = vI .u8 x.Policy := by simp [ref37_Place.C, List.getElem?_append, List.take_append, List.drop_append, List.take_of_length_le, List.drop_of_length_le, splice]
theorem ref37_Place.s16_16 (x : ref37_Place) {y : (Vector Int 16)} : splice (ref37_Place.C x) 16 (vI .u8 y) = ref37_Place.C { x with Policy := y } := by simp [ref37_Place.C, List.getElem?_append, List.take_append, List.drop_append, List.take_of_length_le, List.drop_of_length_le, splice]
theorem ref37_Place.g32 (x : ref37_Place) : (ref37_Place.C x)[32]? = some (.int .i64 x.Firmware) := by simp [ref37_Place.C, List.getElem?_append, List.take_append, List.drop_append, List.take_of_length_le, List.drop_of_length_le, splice]
theorem ref37_Place.s32_1 (x : ref37_Place) {y : Int} : splice (ref37_Place.C x) 32 [.int .i64 y] = ref37_Place.C { x with Firmware := y } := by simp [ref37_Place.C, List.getElem?_append, List.take_append, List.drop_append, List.take_of_length_le, List.drop_of_length_le, splice]
theorem ref37_Place.g33 (x : ref37_Place) : (ref37_Place.C x)[33]? = some (.int .i64 x.Number) := by simp [ref37_Place.C, List.getElem?_append, List.take_append, List.drop_append, List.take_of_length_le, List.drop_of_length_le, splice]
theorem ref37_Place.s33_1 (x : ref37_Place) {y : Int} : splice (ref37_Place.C x) 33 [.int .i64 y] = ref37_Place.C { x with Number := y } := by simp [ref37_Place.C, List.getElem?_append, List.take_append, List.drop_append, List.take_of_length_le, List.drop_of_length_le, splice]
theorem ref37_Place.d0_34 (x : ref37_Place) : ((ref37_Place.C x).drop 0).take 34 = ref37_Place.C x := by rw [List.drop_zero, List.take_of_length_le]; rw [ref37_Place.len]; exact Nat.le_refl _
structure ref37_pair where
  of_ : Int
  to_ : Int
deriving DecidableEq, Inhabited
def ref37_pair.C (x : ref37_pair) : List Go.Value := [.int .i64 x.of_, .int .i64 x.to_]
theorem ref37_pair.len (x : ref37_pair) : (ref37_pair.C x).length = 2 := rfl
theorem ref37_pair.C_one (x : ref37_pair) : ∀ u ∈ ref37_pair.C x, u.oneCell' = true := by
  unfold ref37_pair.C
  exact (one_cons rfl (one_cons rfl one_nil))
def ref37_pair.F : Fl ref37_pair := ⟨ref37_pair.C, 2, fun x => ref37_pair.len x⟩
theorem ref37_pair.F_one : ref37_pair.F.One := fun x => ref37_pair.C_one x
structure ref27_Added where
  T : Table
  Id : Int
  E_ : Int
deriving DecidableEq, Inhabited
def ref27_Added.C (x : ref27_Added) (v0 : Go.Value) : List Go.Value := Table.C x.T v0 ++ ([.int .i64 x.Id, .int .i64 x.E_])
theorem ref27_Added.len (x : ref27_Added) (v0 : Go.Value) : (ref27_Added.C x v0).length = 4 := rfl
theorem ref27_Added.C_one (x : ref27_Added) {v0 : Go.Value} (h0 : v0.oneCell' = true) : ∀ u ∈ ref27_Added.C x v0, u.oneCell' = true := by
  unfold ref27_Added.C
  exact (one_app (Table.C_one _ h0) (one_cons rfl (one_cons rfl one_nil)))
noncomputable def law37_few (p0 : Table) (p1 : Backup) : Option Bool :=
  (
    if (decide ((p0.Keys.length : Int) ≤ (40 : Int))) then
      if (decide ((p1.Keys.length : Int) ≤ (40 : Int))) then
        some (decide ((p1.Module.length : Int) ≤ (100 : Int)))
      else
        some false
    else
      some false).bind fun t14 =>
  some (t14)
noncomputable def ref27_within (p0 : Int) (p1 : Int) (p2 : Int) : Option Bool :=
  (
    if (decide (p1 ≤ p0)) then
      some (decide (p0 ≤ p2))
    else
      some false).bind fun t2 =>
  some (t2)
noncomputable def ref27_Valid (p0 : Key) : Option Bool :=
  (
    (ref27_within p0.Type_ (0 : Int) (31 : Int)).bind fun t9 =>
    if t9 then
      if ((p0.Value.length : Int) == (32 : Int)) then
        if ((bits .and .i64 p0.Uses (956 : Int)) == p0.Uses) then
          (ref27_within p0.Start (0 : Int) (1099511627776 : Int)).bind fun t18 =>
          if t18 then
            (ref27_within p0.End p0.Start (1099511627776 : Int)).bind fun t25 =>
            if t25 then
              (ref27_within p0.Version (1 : Int) (2147483647 : Int)).bind fun t32 =>
              if t32 then
                (ref27_within p0.Parent (0 : Int) (2147483647 : Int)).bind fun t39 =>
                some t39
              else
                some false
            else
              some false
          else
            some false
        else
          some false
      else
        some false
    else
      some false).bind fun t6 =>
  some (t6)
noncomputable def ref27_ValidTable.j1  : Option Bool :=
  some (true)
noncomputable def ref27_ValidTable.l2 (p0 : Table) (s26 : (Int × Int)) : Option ((Int × Int) ⊕ Bool) :=
  if (decide (s26.2 < (p0.Keys.length : Int))) then
    (grd (0 ≤ s26.2 ∧ s26.2 < (p0.Keys.length : Int))).bind fun _ =>
    (ref27_Valid (rd p0.Keys s26.2)).bind fun t39 =>
    (
      if (!t39) then
        some true
      else
        if (decide (((rd p0.Keys s26.2).Id) ≤ s26.1)) then
          some true
        else
          if (decide (p0.Next ≤ ((rd p0.Keys s26.2).Id))) then
            some true
          else
            some (decide (p0.Next ≤ ((rd p0.Keys s26.2).Parent)))).bind fun t46 =>
    if t46 then
      some (.inr (false))
    else
      some (.inl ((rd p0.Keys s26.2).Id, (IntKind.i64.wrap (s26.2 + (1 : Int)))))
  else
    (ref27_ValidTable.j1 ).map Sum.inr
noncomputable def ref27_ValidTable (p0 : Table) : Option Bool :=
  (
    if (decide ((4096 : Int) < (p0.Keys.length : Int))) then
      some true
    else
      (ref27_within p0.Next (1 : Int) (2147483647 : Int)).bind fun t13 =>
      some (!t13)).bind fun t9 =>
  if t9 then
    some (false)
  else
    loopF (ref27_ValidTable.l2 p0) ((0 : Int), (0 : Int))
/-- The string n times over. -/
noncomputable def strings_Repeat (p0 : List UInt8) (p1 : Int) : Option (List UInt8) :=
  (grd (0 ≤ p1 ∧ p1 ≤ 9223372036854775807 ∧ p0.length * p1.toNat ≤ 140737488355328)).bind fun _ =>
  some (repL p0 p1.toNat)
noncomputable def keys_within (p0 : Int) (p1 : Int) (p2 : Int) : Option Bool :=
  (
    if (decide (p1 ≤ p0)) then
      some (decide (p0 ≤ p2))
    else
      some false).bind fun t2 =>
  some (t2)
noncomputable def keys_Valid (p0 : Key) : Option Bool :=
  (
    (keys_within p0.Type_ (0 : Int) (31 : Int)).bind fun t9 =>
    if t9 then
      if ((p0.Value.length : Int) == (32 : Int)) then
        if ((bits .andNot .i64 p0.Uses (956 : Int)) == (0 : Int)) then
          (keys_within p0.Start (0 : Int) p0.End).bind fun t18 =>
          if t18 then
            (keys_within p0.End (0 : Int) (1099511627776 : Int)).bind fun t25 =>
            if t25 then
              (keys_within p0.Version (1 : Int) (2147483647 : Int)).bind fun t32 =>
              if t32 then
                (keys_within p0.Parent (0 : Int) (2147483647 : Int)).bind fun t39 =>
                some t39
              else
                some false
            else
              some false
          else
            some false
        else
          some false
      else
        some false
    else
      some false).bind fun t6 =>
  some (t6)
noncomputable def backup_within_1 (p0 : Int) (c0_ : Int) : Option Bool :=
  (
    if (decide (p0 < (0 : Int))) then
      some true
    else
      some (decide (c0_ < p0))).bind fun t2 =>
  some (t2)
noncomputable def slices_IndexFunc_int.j1  : Option Int :=
  some ((-1 : Int))
noncomputable def slices_IndexFunc_int.l2 (p0 : (List Int)) (p1 : (Int → Option Bool)) (s8 : Int) : Option (Int ⊕ Int) :=
  if (decide (s8 < (p0.length : Int))) then
    (grd (0 ≤ s8 ∧ s8 < (p0.length : Int))).bind fun _ =>
    (p1 (rd p0 s8)).bind fun t20 =>
    if t20 then
      some (.inr (s8))
    else
      some (.inl (IntKind.i64.wrap (s8 + (1 : Int))))
  else
    (slices_IndexFunc_int.j1 ).map Sum.inr
noncomputable def slices_IndexFunc_int (p0 : (List Int)) (p1 : (Int → Option Bool)) : Option Int :=
  loopF (slices_IndexFunc_int.l2 p0 p1) (0 : Int)
noncomputable def slices_ContainsFunc_int (p0 : (List Int)) (p1 : (Int → Option Bool)) : Option Bool :=
  (slices_IndexFunc_int p0 p1).bind fun t5 =>
  some ((decide ((0 : Int) ≤ t5)))
noncomputable def backup_within (p0 : Int) (p1 : (List Int)) : Option Bool :=
  (slices_ContainsFunc_int p1 (fun x => backup_within_1 x p0)).bind fun t9 =>
  some ((!t9))
noncomputable def backup_Valid.j1 (p0 : Backup) : Option Bool :=
  (
    (backup_within (2147483647 : Int) ([p0.Epoch, p0.Number, p0.Firmware] : List Int)).bind fun t19 =>
    if t19 then
      (backup_within (1099511627776 : Int) ([p0.Time] : List Int)).bind fun t31 =>
      if t31 then
        (backup_within (11 : Int) ([(IntKind.i64.wrap ((p0.Module.length : Int) - (1 : Int)))] : List Int)).bind fun t43 =>
        if t43 then
          some (decide ((p0.Keys.length : Int) ≤ (4096 : Int)))
        else
          some false
      else
        some false
    else
      some false).bind fun t11 =>
  some (t11)
noncomputable def backup_Valid.l2 (p0 : Backup) (s51 : (Int × Int)) : Option ((Int × Int) ⊕ Bool) :=
  if (decide (s51.2 < (p0.Keys.length : Int))) then
    (grd (0 ≤ s51.2 ∧ s51.2 < (p0.Keys.length : Int))).bind fun _ =>
    (
      (keys_Valid (rd p0.Keys s51.2)).bind fun t67 =>
      if (!t67) then
        some true
      else
        if (decide (((rd p0.Keys s51.2).Id) ≤ s51.1)) then
          some true
        else
          some (decide ((2147483647 : Int) < ((rd p0.Keys s51.2).Id)))).bind fun t64 =>
    if t64 then
      some (.inr (false))
    else
      some (.inl ((rd p0.Keys s51.2).Id, (IntKind.i64.wrap (s51.2 + (1 : Int)))))
  else
    (backup_Valid.j1 p0).map Sum.inr
noncomputable def backup_Valid (p0 : Backup) : Option Bool :=
  loopF (backup_Valid.l2 p0) ((0 : Int), (0 : Int))
noncomputable def slices_Clone_Key (p0 : (List Key)) : Option (List Key) :=
  (grd (([] : List Key).length + p0.length < 68719476736)).bind fun _ =>
  some ((([] : List Key) ++ p0))
noncomputable def restore_Twin_1 (p0 : Key) (c0_ : Key) : Option Bool :=
  some ((decide (({ ({ p0 with Id := c0_.Id } : Key) with Parent := c0_.Parent } : Key) = c0_)))
noncomputable def slices_IndexFunc_Key.j1  : Option Int :=
  some ((-1 : Int))
noncomputable def slices_IndexFunc_Key.l2 (p0 : (List Key)) (p1 : (Key → Option Bool)) (s8 : Int) : Option (Int ⊕ Int) :=
  if (decide (s8 < (p0.length : Int))) then
    (grd (0 ≤ s8 ∧ s8 < (p0.length : Int))).bind fun _ =>
    (p1 (rd p0 s8)).bind fun t20 =>
    if t20 then
      some (.inr (s8))
    else
      some (.inl (IntKind.i64.wrap (s8 + (1 : Int))))
  else
    (slices_IndexFunc_Key.j1 ).map Sum.inr
noncomputable def slices_IndexFunc_Key (p0 : (List Key)) (p1 : (Key → Option Bool)) : Option Int :=
  loopF (slices_IndexFunc_Key.l2 p0 p1) (0 : Int)
noncomputable def restore_Twin (p0 : Table) (p1 : Key) : Option (Int × Bool) :=
  (slices_IndexFunc_Key p0.Keys (fun x => restore_Twin_1 x p1)).bind fun t13 =>
  if (decide (t13 < (0 : Int))) then
    some (((0 : Int), false))
  else
    (grd (0 ≤ t13 ∧ t13 < (p0.Keys.length : Int))).bind fun _ =>
    some (((rd p0.Keys t13).Id, true))
noncomputable def slices_Clip_Key (p0 : (List Key)) : Option (List Key) :=
  some (p0)
noncomputable def keys_Add (p0 : Table) (p1 : Key) : Option (Table × Int × Int) :=
  (
    (keys_Valid p1).bind fun t14 =>
    if (!t14) then
      some true
    else
      some (decide (p0.Next ≤ p1.Parent))).bind fun t11 =>
  if t11 then
    some (((⟨(0 : Int), ([] : (List Key))⟩ : Table), (0 : Int), (1 : Int)))
  else
    (
      if (decide ((4096 : Int) ≤ (p0.Keys.length : Int))) then
        some true
      else
        some (decide ((2147483647 : Int) ≤ p0.Next))).bind fun t23 =>
    if t23 then
      some (((⟨(0 : Int), ([] : (List Key))⟩ : Table), (0 : Int), (2 : Int)))
    else
      (slices_Clip_Key p0.Keys).bind fun t47 =>
      (grd (0 < ([({ p1 with Id := p0.Next } : Key)] : List Key).length ∧ t47.length + ([({ p1 with Id := p0.Next } : Key)] : List Key).length < 68719476736)).bind fun _ =>
      some (((⟨(IntKind.i64.wrap (p0.Next + (1 : Int))), (t47 ++ ([({ p1 with Id := p0.Next } : Key)] : List Key))⟩ : Table), p0.Next, (0 : Int)))
noncomputable def restore_Plan.j1 (x38 : Table) (x41 : (List Int)) : Option (Table × (List Int) × Int) :=
  some ((x38, x41, (0 : Int)))
noncomputable def restore_Plan.j2 (x61 : Table) (x64 : (List (Int × Int))) (x65 : (List Int)) (s50 : (Table × (List (Int × Int)) × (List Int) × Int)) : Option ((Table × (List (Int × Int)) × (List Int) × Int) ⊕ (Table × (List Int) × Int)) :=
  some (.inl (x61, x64, x65, (IntKind.i64.wrap (s50.2.2.2 + (1 : Int)))))
noncomputable def restore_Plan.l3 (p1 : Backup) (p2 : Int) (s50 : (Table × (List (Int × Int)) × (List Int) × Int)) : Option ((Table × (List (Int × Int)) × (List Int) × Int) ⊕ (Table × (List Int) × Int)) :=
  if (decide (s50.2.2.2 < (p1.Keys.length : Int))) then
    (grd (0 ≤ s50.2.2.2 ∧ s50.2.2.2 < (p1.Keys.length : Int))).bind fun _ =>
    if (decide (((rd p1.Keys s50.2.2.2).End) ≤ p2)) then
      restore_Plan.j2 s50.1 s50.2.1 s50.2.2.1 s50
    else
      (restore_Twin s50.1 (rd p1.Keys s50.2.2.2)).bind fun t77 =>
      if t77.2 then
        restore_Plan.j2 s50.1 (mput s50.2.1 ((rd p1.Keys s50.2.2.2).Id) t77.1) s50.2.2.1 s50
      else
        (keys_Add s50.1 ({ (rd p1.Keys s50.2.2.2) with Parent := (mget s50.2.1 ((rd p1.Keys s50.2.2.2).Parent)) } : Key)).bind fun t89 =>
        if (t89.2.2 != (0 : Int)) then
          some (.inr (((⟨(0 : Int), ([] : (List Key))⟩ : Table), ([] : (List Int)), t89.2.2)))
        else
          (grd (s50.2.2.1.length + ([t89.2.1] : List Int).length < 68719476736)).bind fun _ =>
          restore_Plan.j2 t89.1 (mput s50.2.1 ((rd p1.Keys s50.2.2.2).Id) t89.2.1) (s50.2.2.1 ++ ([t89.2.1] : List Int)) s50
  else
    (restore_Plan.j1 s50.1 s50.2.2.1).map Sum.inr
noncomputable def restore_Plan (p0 : Table) (p1 : Backup) (p2 : Int) : Option (Table × (List Int) × Int) :=
  (
    (backup_Valid p1).bind fun t16 =>
    if (!t16) then
      some true
    else
      if (decide (p2 < (0 : Int))) then
        some true
      else
        some (decide ((1099511627776 : Int) < p2))).bind fun t13 =>
  if t13 then
    some (((⟨(0 : Int), ([] : (List Key))⟩ : Table), ([] : (List Int)), (1 : Int)))
  else
    (slices_Clone_Key p0.Keys).bind fun t27 =>
    loopF (restore_Plan.l3 p1 p2) (({ p0 with Keys := t27 } : Table), ([] : List (Int × Int)), ([] : (List Int)), (0 : Int))
noncomputable def restore_Admit (p0 : restore_Place) (p1 : Backup) : Option Int :=
  (backup_Valid p1).bind fun t14 =>
  if (!t14) then
    some ((1 : Int))
  else
    if (!(decide (p0 = ({ ({ ({ ({ (default : restore_Place) with Domain := p1.Domain } : restore_Place) with Policy := p1.Policy } : restore_Place) with Firmware := p0.Firmware } : restore_Place) with Number := p0.Number } : restore_Place)))) then
      some ((10 : Int))
    else
      (
        if (decide (p0.Firmware < p1.Firmware)) then
          some true
        else
          some (decide (p1.Number < p0.Number))).bind fun t25 =>
      if t25 then
        some ((20 : Int))
      else
        some ((0 : Int))
noncomputable def ref27_Same.j1  : Option Bool :=
  some (true)
noncomputable def ref27_Same.l2 (p0 : Table) (p1 : Table) (s25 : Int) : Option (Int ⊕ Bool) :=
  if (decide (s25 < (p0.Keys.length : Int))) then
    (grd (0 ≤ s25 ∧ s25 < (p0.Keys.length : Int))).bind fun _ =>
    (grd (0 ≤ s25 ∧ s25 < (p1.Keys.length : Int))).bind fun _ =>
    if (!(decide ((rd p0.Keys s25) = (rd p1.Keys s25)))) then
      some (.inr (false))
    else
      some (.inl (IntKind.i64.wrap (s25 + (1 : Int))))
  else
    (ref27_Same.j1 ).map Sum.inr
noncomputable def ref27_Same (p0 : Table) (p1 : Table) : Option Bool :=
  (
    if (p0.Next != p1.Next) then
      some true
    else
      some ((p0.Keys.length : Int) != (p1.Keys.length : Int))).bind fun t15 =>
  if t15 then
    some (false)
  else
    loopF (ref27_Same.l2 p0 p1) (0 : Int)
noncomputable def restore_Holds_1 (p0 : Key) (c0_ : Table) (c1_ : Int) : Option Bool :=
  (restore_Twin c0_ p0).bind fun t9 =>
  (
    if (decide (c1_ < p0.End)) then
      some (!t9.2)
    else
      some false).bind fun t15 =>
  some (t15)
noncomputable def slices_ContainsFunc_Key (p0 : (List Key)) (p1 : (Key → Option Bool)) : Option Bool :=
  (slices_IndexFunc_Key p0 p1).bind fun t5 =>
  some ((decide ((0 : Int) ≤ t5)))
noncomputable def restore_Holds (p0 : Table) (p1 : Backup) (p2 : Int) : Option Bool :=
  (slices_ContainsFunc_Key p1.Keys (fun x => restore_Holds_1 x p0 p2)).bind fun t19 =>
  some ((!t19))
noncomputable def law37_sanity  : Option Bool :=
  (strings_Repeat ([118] : List UInt8) (32 : Int)).bind fun t3 =>
  (some ({ ({ ({ ({ ({ ({ ({ ({ (default : Backup) with Domain := (Vector.replicate 16 (0 : Int)) } : Backup) with Epoch := (0 : Int) } : Backup) with Firmware := (0 : Int) } : Backup) with Time := (0 : Int) } : Backup) with Policy := (Vector.replicate 16 (0 : Int)) } : Backup) with Number := (2 : Int) } : Backup) with Module := ([109] : List UInt8) } : Backup) with Keys := ([(⟨(1 : Int), (0 : Int), t3, (0 : Int), (1 : Int), (9 : Int), (1 : Int), (0 : Int), false⟩ : Key), (⟨(4 : Int), (0 : Int), t3, (0 : Int), (1 : Int), (9 : Int), (2 : Int), (1 : Int), false⟩ : Key), (⟨(6 : Int), (0 : Int), t3, (0 : Int), (1 : Int), (5 : Int), (1 : Int), (0 : Int), false⟩ : Key)] : List Key) } : Backup)).bind fun z31 =>
  (restore_Plan (⟨(2 : Int), ([(⟨(1 : Int), (0 : Int), t3, (0 : Int), (1 : Int), (9 : Int), (1 : Int), (0 : Int), false⟩ : Key)] : List Key)⟩ : Table) z31 (5 : Int)).bind fun t36 =>
  (
    if (t36.2.2 != (0 : Int)) then
      some true
    else
      if ((t36.2.1.length : Int) != (1 : Int)) then
        some true
      else
        some ((t36.1.Keys.length : Int) != (2 : Int))).bind fun t48 =>
  if t48 then
    some (false)
  else
    (restore_Plan t36.1 z31 (5 : Int)).bind fun t56 =>
    (restore_Twin t36.1 (⟨(4 : Int), (0 : Int), t3, (0 : Int), (1 : Int), (9 : Int), (2 : Int), (1 : Int), false⟩ : Key)).bind fun t68 =>
    (restore_Twin (⟨(2 : Int), ([(⟨(1 : Int), (0 : Int), t3, (0 : Int), (1 : Int), (9 : Int), (1 : Int), (0 : Int), false⟩ : Key)] : List Key)⟩ : Table) (⟨(4 : Int), (0 : Int), t3, (0 : Int), (1 : Int), (9 : Int), (2 : Int), (1 : Int), false⟩ : Key)).bind fun t75 =>
    (some ({ ({ ({ ({ (default : restore_Place) with Domain := (Vector.replicate 16 (0 : Int)) } : restore_Place) with Policy := (Vector.replicate 16 (0 : Int)) } : restore_Place) with Firmware := (0 : Int) } : restore_Place) with Number := (2 : Int) } : restore_Place)).bind fun z86 =>
    (restore_Admit ({ ({ ({ ({ (default : restore_Place) with Domain := (Vector.replicate 16 (0 : Int)) } : restore_Place) with Policy := (Vector.replicate 16 (0 : Int)) } : restore_Place) with Firmware := (0 : Int) } : restore_Place) with Number := (3 : Int) } : restore_Place) z31).bind fun t90 =>
    (restore_Admit ({ ({ ({ ({ (default : restore_Place) with Domain := (Vector.replicate 16 (0 : Int)) } : restore_Place) with Firmware := (0 : Int) } : restore_Place) with Number := (2 : Int) } : restore_Place) with Policy := (#v[(1 : Int), 0, 0, 0, 0, 0, 0, 0, 0, 0, 0, 0, 0, 0, 0, 0] : Vector Int 16) } : restore_Place) z31).bind fun t97 =>
    (
      (grd (0 ≤ (0 : Int) ∧ (0 : Int) < (t36.2.1.length : Int))).bind fun _ =>
      if ((rd t36.2.1 (0 : Int)) == (2 : Int)) then
        (grd (0 ≤ (1 : Int) ∧ (1 : Int) < (t36.1.Keys.length : Int))).bind fun _ =>
        if (decide ((rd t36.1.Keys (1 : Int)) = (⟨(2 : Int), (0 : Int), t3, (0 : Int), (1 : Int), (9 : Int), (2 : Int), (1 : Int), false⟩ : Key))) then
          if (t36.1.Next == (3 : Int)) then
            if ((t56.2.1.length : Int) == (0 : Int)) then
              if (t56.2.2 == (0 : Int)) then
                (ref27_Same t36.1 t56.1).bind fun t2683 =>
                if t2683 then
                  if (t68.1 == (2 : Int)) then
                    if t68.2 then
                      if (!t75.2) then
                        (restore_Holds t36.1 z31 (5 : Int)).bind fun t2749 =>
                        if t2749 then
                          (restore_Holds (⟨(2 : Int), ([(⟨(1 : Int), (0 : Int), t3, (0 : Int), (1 : Int), (9 : Int), (1 : Int), (0 : Int), false⟩ : Key)] : List Key)⟩ : Table) z31 (5 : Int)).bind fun t2774 =>
                          if (!t2774) then
                            (restore_Holds (⟨(2 : Int), ([(⟨(1 : Int), (0 : Int), t3, (0 : Int), (1 : Int), (9 : Int), (1 : Int), (0 : Int), false⟩ : Key)] : List Key)⟩ : Table) z31 (9 : Int)).bind fun t2803 =>
                            if t2803 then
                              (restore_Admit z86 z31).bind fun t2828 =>
                              if (t2828 == (0 : Int)) then
                                if (t90 == (20 : Int)) then
                                  if (t97 == (10 : Int)) then
                                    (restore_Admit z86 ({ ({ ({ ({ ({ ({ ({ ({ (default : Backup) with Domain := (Vector.replicate 16 (0 : Int)) } : Backup) with Epoch := (0 : Int) } : Backup) with Number := (0 : Int) } : Backup) with Firmware := (0 : Int) } : Backup) with Time := (0 : Int) } : Backup) with Policy := (Vector.replicate 16 (0 : Int)) } : Backup) with Module := ([] : List UInt8) } : Backup) with Keys := ([] : (List Key)) } : Backup)).bind fun t2887 =>
                                    some (t2887 == (1 : Int))
                                  else
                                    some false
                                else
                                  some false
                              else
                                some false
                            else
                              some false
                          else
                            some false
                        else
                          some false
                      else
                        some false
                    else
                      some false
                  else
                    some false
                else
                  some false
              else
                some false
            else
              some false
          else
            some false
        else
          some false
      else
        some false).bind fun t103 =>
    some (t103)
noncomputable def ref36_within (p0 : Int) (p1 : Int) : Option Bool :=
  (
    if (decide ((0 : Int) ≤ p0)) then
      some (decide (p0 ≤ p1))
    else
      some false).bind fun t2 =>
  some (t2)
noncomputable def ref36_Valid.j1  : Option Bool :=
  some (true)
noncomputable def ref36_Valid.l2 (p0 : Backup) (s49 : (Int × Int)) : Option ((Int × Int) ⊕ Bool) :=
  if (decide (s49.2 < (p0.Keys.length : Int))) then
    (grd (0 ≤ s49.2 ∧ s49.2 < (p0.Keys.length : Int))).bind fun _ =>
    (ref27_Valid (rd p0.Keys s49.2)).bind fun t60 =>
    (
      if (!t60) then
        some true
      else
        (grd (0 ≤ s49.2 ∧ s49.2 < (p0.Keys.length : Int))).bind fun _ =>
        if (decide (((rd p0.Keys s49.2).Id) ≤ s49.1)) then
          some true
        else
          (grd (0 ≤ s49.2 ∧ s49.2 < (p0.Keys.length : Int))).bind fun _ =>
          some (decide ((2147483647 : Int) < ((rd p0.Keys s49.2).Id)))).bind fun t67 =>
    if t67 then
      some (.inr (false))
    else
      (grd (0 ≤ s49.2 ∧ s49.2 < (p0.Keys.length : Int))).bind fun _ =>
      some (.inl ((rd p0.Keys s49.2).Id, (IntKind.i64.wrap (s49.2 + (1 : Int)))))
  else
    (ref36_Valid.j1 ).map Sum.inr
noncomputable def ref36_Valid (p0 : Backup) : Option Bool :=
  (
    (ref36_within p0.Epoch (2147483647 : Int)).bind fun t12 =>
    if (!t12) then
      some true
    else
      (ref36_within p0.Number (2147483647 : Int)).bind fun t19 =>
      if (!t19) then
        some true
      else
        (ref36_within p0.Firmware (2147483647 : Int)).bind fun t26 =>
        if (!t26) then
          some true
        else
          (ref36_within p0.Time (1099511627776 : Int)).bind fun t33 =>
          if (!t33) then
            some true
          else
            if (decide ((p0.Module.length : Int) < (1 : Int))) then
              some true
            else
              if (decide ((12 : Int) < (p0.Module.length : Int))) then
                some true
              else
                some (decide ((4096 : Int) < (p0.Keys.length : Int)))).bind fun t9 =>
  if t9 then
    some (false)
  else
    loopF (ref36_Valid.l2 p0) ((0 : Int), (0 : Int))
noncomputable def ref37_alike (p0 : Key) (p1 : Key) : Option Bool :=
  some ((decide (({ ({ p0 with Id := p1.Id } : Key) with Parent := p1.Parent } : Key) = p1)))
noncomputable def ref37_Twin.j1  : Option (Int × Bool) :=
  some (((0 : Int), false))
noncomputable def ref37_Twin.l2 (p0 : Table) (p1 : Key) (s16 : Int) : Option (Int ⊕ (Int × Bool)) :=
  if (decide (s16 < (p0.Keys.length : Int))) then
    (grd (0 ≤ s16 ∧ s16 < (p0.Keys.length : Int))).bind fun _ =>
    (ref37_alike (rd p0.Keys s16) p1).bind fun t47 =>
    if t47 then
      (grd (0 ≤ s16 ∧ s16 < (p0.Keys.length : Int))).bind fun _ =>
      some (.inr (((rd p0.Keys s16).Id, true)))
    else
      some (.inl (IntKind.i64.wrap (s16 + (1 : Int))))
  else
    (ref37_Twin.j1 ).map Sum.inr
noncomputable def ref37_Twin (p0 : Table) (p1 : Key) : Option (Int × Bool) :=
  loopF (ref37_Twin.l2 p0 p1) (0 : Int)
noncomputable def ref27_Add (p0 : Table) (p1 : Key) : Option ref27_Added :=
  (ref27_Valid p1).bind fun t11 =>
  (
    if (!t11) then
      some true
    else
      some (decide (p0.Next ≤ p1.Parent))).bind fun t18 =>
  if t18 then
    some ((⟨(⟨(0 : Int), ([] : (List Key))⟩ : Table), (0 : Int), (1 : Int)⟩ : ref27_Added))
  else
    (
      if (decide ((4096 : Int) ≤ (p0.Keys.length : Int))) then
        some true
      else
        some (decide ((2147483647 : Int) ≤ p0.Next))).bind fun t25 =>
    if t25 then
      some ((⟨(⟨(0 : Int), ([] : (List Key))⟩ : Table), (0 : Int), (2 : Int)⟩ : ref27_Added))
    else
      (grd (([] : (List Key)).length + p0.Keys.length < 68719476736)).bind fun _ =>
      (grd ((([] : (List Key)) ++ p0.Keys).length + ([({ p1 with Id := p0.Next } : Key)] : List Key).length < 68719476736)).bind fun _ =>
      some ((⟨(⟨(IntKind.i64.wrap (p0.Next + (1 : Int))), ((([] : (List Key)) ++ p0.Keys) ++ ([({ p1 with Id := p0.Next } : Key)] : List Key))⟩ : Table), p0.Next, (0 : Int)⟩ : ref27_Added))
noncomputable def ref37_Plan.j1 (x37 : ref37_Planned) : Option ref37_Planned :=
  some (x37)
noncomputable def ref37_Plan.j2 (x64 : ref37_Planned) (x68 : (List ref37_pair)) (s52 : (ref37_Planned × (List ref37_pair) × Int)) : Option ((ref37_Planned × (List ref37_pair) × Int) ⊕ ref37_Planned) :=
  some (.inl (x64, x68, (IntKind.i64.wrap (s52.2.2 + (1 : Int)))))
noncomputable def ref37_Plan.j3 (s52 : (ref37_Planned × (List ref37_pair) × Int)) (p1 : Backup) (x97 : Int) : Option ((ref37_Planned × (List ref37_pair) × Int) ⊕ ref37_Planned) :=
  (grd (s52.2.1.length + ([(⟨(rd p1.Keys s52.2.2).Id, s52.1.T.Next⟩ : ref37_pair)] : List ref37_pair).length < 68719476736)).bind fun _ =>
  (ref27_Add s52.1.T ({ (rd p1.Keys s52.2.2) with Parent := x97 } : Key)).bind fun t110 =>
  if (t110.E_ != (0 : Int)) then
    some (.inr ((⟨(⟨(0 : Int), ([] : (List Key))⟩ : Table), ([] : (List Int)), t110.E_⟩ : ref37_Planned)))
  else
    (grd (s52.1.Ids.length + ([t110.Id] : List Int).length < 68719476736)).bind fun _ =>
    ref37_Plan.j2 ({ ({ s52.1 with T := t110.T } : ref37_Planned) with Ids := (s52.1.Ids ++ ([t110.Id] : List Int)) } : ref37_Planned) (s52.2.1 ++ ([(⟨(rd p1.Keys s52.2.2).Id, s52.1.T.Next⟩ : ref37_pair)] : List ref37_pair)) s52
noncomputable def ref37_Plan.j4 (x142 : Int) (s134 : (Int × Int)) : Option ((Int × Int) ⊕ ((ref37_Planned × (List ref37_pair) × Int) ⊕ ref37_Planned)) :=
  some (.inl (x142, (IntKind.i64.wrap (s134.2 + (1 : Int)))))
noncomputable def ref37_Plan.l5 (s52 : (ref37_Planned × (List ref37_pair) × Int)) (p1 : Backup) (s134 : (Int × Int)) : Option ((Int × Int) ⊕ ((ref37_Planned × (List ref37_pair) × Int) ⊕ ref37_Planned)) :=
  if (decide (s134.2 < (s52.2.1.length : Int))) then
    (grd (0 ≤ s134.2 ∧ s134.2 < (s52.2.1.length : Int))).bind fun _ =>
    if (((rd s52.2.1 s134.2).of_) == ((rd p1.Keys s52.2.2).Parent)) then
      (grd (0 ≤ s134.2 ∧ s134.2 < (s52.2.1.length : Int))).bind fun _ =>
      ref37_Plan.j4 ((rd s52.2.1 s134.2).to_) s134
    else
      ref37_Plan.j4 s134.1 s134
  else
    (ref37_Plan.j3 s52 p1 s134.1).map Sum.inr
noncomputable def ref37_Plan.l6 (p1 : Backup) (p2 : Int) (s52 : (ref37_Planned × (List ref37_pair) × Int)) : Option ((ref37_Planned × (List ref37_pair) × Int) ⊕ ref37_Planned) :=
  if (decide (s52.2.2 < (p1.Keys.length : Int))) then
    (grd (0 ≤ s52.2.2 ∧ s52.2.2 < (p1.Keys.length : Int))).bind fun _ =>
    if (decide (((rd p1.Keys s52.2.2).End) ≤ p2)) then
      ref37_Plan.j2 s52.1 s52.2.1 s52
    else
      (ref37_Twin s52.1.T (rd p1.Keys s52.2.2)).bind fun t79 =>
      if t79.2 then
        (grd (s52.2.1.length + ([(⟨(rd p1.Keys s52.2.2).Id, t79.1⟩ : ref37_pair)] : List ref37_pair).length < 68719476736)).bind fun _ =>
        ref37_Plan.j2 s52.1 (s52.2.1 ++ ([(⟨(rd p1.Keys s52.2.2).Id, t79.1⟩ : ref37_pair)] : List ref37_pair)) s52
      else
        loopF (ref37_Plan.l5 s52 p1) ((0 : Int), (0 : Int))
  else
    (ref37_Plan.j1 s52.1).map Sum.inr
noncomputable def ref37_Plan (p0 : Table) (p1 : Backup) (p2 : Int) : Option ref37_Planned :=
  (ref36_Valid p1).bind fun t16 =>
  (
    if (!t16) then
      some true
    else
      if (decide (p2 < (0 : Int))) then
        some true
      else
        some (decide ((1099511627776 : Int) < p2))).bind fun t23 =>
  if t23 then
    some ((⟨(⟨(0 : Int), ([] : (List Key))⟩ : Table), ([] : (List Int)), (1 : Int)⟩ : ref37_Planned))
  else
    (grd (([] : (List Key)).length + p0.Keys.length < 68719476736)).bind fun _ =>
    loopF (ref37_Plan.l6 p1 p2) ((⟨(⟨p0.Next, (([] : (List Key)) ++ p0.Keys)⟩ : Table), ([] : (List Int)), (0 : Int)⟩ : ref37_Planned), ([] : (List ref37_pair)), (0 : Int))
noncomputable def ref01_SameInts.j1  : Option Bool :=
  some (true)
noncomputable def ref01_SameInts.l2 (p0 : (List Int)) (p1 : (List Int)) (s14 : Int) : Option (Int ⊕ Bool) :=
  if (decide (s14 < (p0.length : Int))) then
    (grd (0 ≤ s14 ∧ s14 < (p0.length : Int))).bind fun _ =>
    (grd (0 ≤ s14 ∧ s14 < (p1.length : Int))).bind fun _ =>
    if ((rd p0 s14) != (rd p1 s14)) then
      some (.inr (false))
    else
      some (.inl (IntKind.i64.wrap (s14 + (1 : Int))))
  else
    (ref01_SameInts.j1 ).map Sum.inr
noncomputable def ref01_SameInts (p0 : (List Int)) (p1 : (List Int)) : Option Bool :=
  if ((p0.length : Int) != (p1.length : Int)) then
    some (false)
  else
    loopF (ref01_SameInts.l2 p0 p1) (0 : Int)
noncomputable def ref37_Holds.j1  : Option Bool :=
  some (true)
noncomputable def ref37_Holds.l2 (p1 : Backup) (p0 : Table) (p2 : Int) (s18 : Int) : Option (Int ⊕ Bool) :=
  if (decide (s18 < (p1.Keys.length : Int))) then
    (grd (0 ≤ s18 ∧ s18 < (p1.Keys.length : Int))).bind fun _ =>
    (ref37_Twin p0 (rd p1.Keys s18)).bind fun t49 =>
    (
      (grd (0 ≤ s18 ∧ s18 < (p1.Keys.length : Int))).bind fun _ =>
      if (decide (p2 < ((rd p1.Keys s18).End))) then
        some (!t49.2)
      else
        some false).bind fun t73 =>
    if t73 then
      some (.inr (false))
    else
      some (.inl (IntKind.i64.wrap (s18 + (1 : Int))))
  else
    (ref37_Holds.j1 ).map Sum.inr
noncomputable def ref37_Holds (p0 : Table) (p1 : Backup) (p2 : Int) : Option Bool :=
  loopF (ref37_Holds.l2 p1 p0 p2) (0 : Int)
noncomputable def ref37_Admit (p0 : ref37_Place) (p1 : Backup) : Option Int :=
  (ref36_Valid p1).bind fun t13 =>
  if (!t13) then
    some ((1 : Int))
  else
    (
      if (!(decide (p1.Domain = p0.Domain))) then
        some true
      else
        some (!(decide (p1.Policy = p0.Policy)))).bind fun t24 =>
    if t24 then
      some ((10 : Int))
    else
      (
        if (decide (p0.Firmware < p1.Firmware)) then
          some true
        else
          some (decide (p1.Number < p0.Number))).bind fun t31 =>
      if t31 then
        some ((20 : Int))
      else
        some ((0 : Int))
noncomputable def law37_RestoreMatchesSpec (p0 : Table) (p1 : Backup) (p2 : Key) (p3 : Int) (p4 : restore_Place) : Option Bool :=
  (
    (law37_few p0 p1).bind fun t26 =>
    if (!t26) then
      some true
    else
      (ref27_ValidTable p0).bind fun t33 =>
      some (!t33)).bind fun t23 =>
  if t23 then
    (law37_sanity).bind fun t41 =>
    some (t41)
  else
    (restore_Plan p0 p1 p3).bind fun t48 =>
    (ref37_Plan p0 p1 p3).bind fun t60 =>
    (restore_Twin p0 p2).bind fun t72 =>
    (ref37_Twin p0 p2).bind fun t79 =>
    (
      (ref27_Same t48.1 t60.T).bind fun t88 =>
      if t88 then
        if (t48.1.Next == t60.T.Next) then
          (ref01_SameInts t48.2.1 t60.Ids).bind fun t96 =>
          if t96 then
            some (t48.2.2 == t60.E_)
          else
            some false
        else
          some false
      else
        some false).bind fun t85 =>
    (
      (law37_sanity).bind fun t918 =>
      if t918 then
        if t85 then
          if (t72.1 == t79.1) then
            if (t72.2 == t79.2) then
              (restore_Holds p0 p1 p3).bind fun t992 =>
              (ref37_Holds p0 p1 p3).bind fun t1013 =>
              if (t992 == t1013) then
                (restore_Admit p4 p1).bind fun t1043 =>
                (ref37_Admit ({ ({ ({ ({ (default : ref37_Place) with Domain := p4.Domain } : ref37_Place) with Policy := p4.Policy } : ref37_Place) with Firmware := p4.Firmware } : ref37_Place) with Number := p4.Number } : ref37_Place) p1).bind fun t1092 =>
                some (t1043 == t1092)
              else
                some false
            else
              some false
          else
            some false
        else
          some false
      else
        some false).bind fun t103 =>
    some (t103)
noncomputable def law37_RestoreHolds (p0 : Table) (p1 : Backup) (p2 : Int) (p3 : Int) : Option Bool :=
  (
    (law37_few p0 p1).bind fun t18 =>
    if (!t18) then
      some true
    else
      (ref27_ValidTable p0).bind fun t25 =>
      some (!t25)).bind fun t15 =>
  if t15 then
    (law37_sanity).bind fun t33 =>
    some (t33)
  else
    (restore_Plan p0 p1 p2).bind fun t40 =>
    if (t40.2.2 != (0 : Int)) then
      (
        (law37_sanity).bind fun t66 =>
        if t66 then
          if ((t40.1.Keys.length : Int) == (0 : Int)) then
            if (t40.1.Next == (0 : Int)) then
              some ((t40.2.1.length : Int) == (0 : Int))
            else
              some false
          else
            some false
        else
          some false).bind fun t54 =>
      some (t54)
    else
      (
        (ref27_ValidTable t40.1).bind fun t195 =>
        if (!t195) then
          some true
        else
          (restore_Holds t40.1 p1 p2).bind fun t202 =>
          if (!t202) then
            some true
          else
            if (decide (p2 ≤ p3)) then
              (restore_Holds t40.1 p1 p3).bind fun t210 =>
              some (!t210)
            else
              some false).bind fun t76 =>
      if t76 then
        some (false)
      else
        (restore_Plan t40.1 p1 p2).bind fun t103 =>
        (
          if (t103.2.2 != (0 : Int)) then
            some true
          else
            if ((t103.2.1.length : Int) != (0 : Int)) then
              some true
            else
              (ref27_Same t40.1 t103.1).bind fun t188 =>
              some (!t188)).bind fun t115 =>
        if t115 then
          some (false)
        else
          (
            if (decide (p3 < p2)) then
              some true
            else
              some (decide ((1099511627776 : Int) < p3))).bind fun t129 =>
          if t129 then
            (law37_sanity).bind fun t135 =>
            some (t135)
          else
            (restore_Plan t40.1 p1 p3).bind fun t142 =>
            (
              (law37_sanity).bind fun t170 =>
              if t170 then
                if (t142.2.2 == (0 : Int)) then
                  if ((t142.2.1.length : Int) == (0 : Int)) then
                    (ref27_Same t40.1 t142.1).bind fun t179 =>
                    some t179
                  else
                    some false
                else
                  some false
              else
                some false).bind fun t152 =>
            some (t152)
noncomputable def law37_RestoreNarrow.j1  : Option Bool :=
  (law37_sanity).bind fun t73 =>
  some (t73)
noncomputable def law37_RestoreNarrow.j2 (s80 : Int) : Option (Int ⊕ Bool) :=
  some (.inl (IntKind.i64.wrap (s80 + (1 : Int))))
noncomputable def law37_RestoreNarrow.j3 (t40 : (Table × (List Int) × Int)) (p0 : Table) (s80 : Int) (x96 : Bool) (x100 : Bool) (p2 : Int) : Option (Int ⊕ Bool) :=
  (
    if (((rd t40.1.Keys (IntKind.i64.wrap ((p0.Keys.length : Int) + s80))).Id) != (rd t40.2.1 s80)) then
      some true
    else
      if ((rd t40.2.1 s80) != (IntKind.i64.wrap (p0.Next + s80))) then
        some true
      else
        if (!x96) then
          some true
        else
          if (!x100) then
            some true
          else
            some (decide (((rd t40.1.Keys (IntKind.i64.wrap ((p0.Keys.length : Int) + s80))).End) ≤ p2))).bind fun t103 =>
  if t103 then
    some (.inr (false))
  else
    law37_RestoreNarrow.j2 s80
noncomputable def law37_RestoreNarrow.l4 (t40 : (Table × (List Int) × Int)) (p0 : Table) (s80 : Int) (x96 : Bool) (p2 : Int) (s116 : (Bool × Int)) : Option ((Bool × Int) ⊕ (Int ⊕ Bool)) :=
  if (decide (s116.2 < (((t40.1.Keys.take ((IntKind.i64.wrap ((p0.Keys.length : Int) + s80))).toNat).drop ((0 : Int)).toNat).length : Int))) then
    (grd (0 ≤ s116.2 ∧ s116.2 < (((t40.1.Keys.take ((IntKind.i64.wrap ((p0.Keys.length : Int) + s80))).toNat).drop ((0 : Int)).toNat).length : Int))).bind fun _ =>
    if s116.1 then
      some (.inl (true, (IntKind.i64.wrap (s116.2 + (1 : Int)))))
    else
      some (.inl ((((rd ((t40.1.Keys.take ((IntKind.i64.wrap ((p0.Keys.length : Int) + s80))).toNat).drop ((0 : Int)).toNat) s116.2).Id) == ((rd t40.1.Keys (IntKind.i64.wrap ((p0.Keys.length : Int) + s80))).Parent)), (IntKind.i64.wrap (s116.2 + (1 : Int)))))
  else
    (law37_RestoreNarrow.j3 t40 p0 s80 x96 s116.1 p2).map Sum.inr
noncomputable def law37_RestoreNarrow.j5 (p0 : Table) (s80 : Int) (t40 : (Table × (List Int) × Int)) (x96 : Bool) (p2 : Int) : Option (Int ⊕ Bool) :=
  (grd (0 ≤ (0 : Int) ∧ (0 : Int) ≤ (IntKind.i64.wrap ((p0.Keys.length : Int) + s80)) ∧ (IntKind.i64.wrap ((p0.Keys.length : Int) + s80)) ≤ (t40.1.Keys.length : Int))).bind fun _ =>
  loopF (law37_RestoreNarrow.l4 t40 p0 s80 x96 p2) ((((rd t40.1.Keys (IntKind.i64.wrap ((p0.Keys.length : Int) + s80))).Parent) == (0 : Int)), (0 : Int))
noncomputable def law37_RestoreNarrow.l6 (p1 : Backup) (t40 : (Table × (List Int) × Int)) (p0 : Table) (s80 : Int) (p2 : Int) (s130 : (Bool × Int)) : Option ((Bool × Int) ⊕ (Int ⊕ Bool)) :=
  if (decide (s130.2 < (p1.Keys.length : Int))) then
    (grd (0 ≤ s130.2 ∧ s130.2 < (p1.Keys.length : Int))).bind fun _ =>
    if s130.1 then
      some (.inl (true, (IntKind.i64.wrap (s130.2 + (1 : Int)))))
    else
      some (.inl ((decide ((rd t40.1.Keys (IntKind.i64.wrap ((p0.Keys.length : Int) + s80))) = ({ ({ (rd p1.Keys s130.2) with Id := (rd t40.1.Keys (IntKind.i64.wrap ((p0.Keys.length : Int) + s80))).Id } : Key) with Parent := (rd t40.1.Keys (IntKind.i64.wrap ((p0.Keys.length : Int) + s80))).Parent } : Key))), (IntKind.i64.wrap (s130.2 + (1 : Int)))))
  else
    (law37_RestoreNarrow.j5 p0 s80 t40 s130.1 p2).map Sum.inr
noncomputable def law37_RestoreNarrow.l7 (t40 : (Table × (List Int) × Int)) (p0 : Table) (p1 : Backup) (p2 : Int) (s80 : Int) : Option (Int ⊕ Bool) :=
  if (decide (s80 < (t40.2.1.length : Int))) then
    (grd (0 ≤ s80 ∧ s80 < (t40.2.1.length : Int))).bind fun _ =>
    (grd (0 ≤ (IntKind.i64.wrap ((p0.Keys.length : Int) + s80)) ∧ (IntKind.i64.wrap ((p0.Keys.length : Int) + s80)) < (t40.1.Keys.length : Int))).bind fun _ =>
    loopF (law37_RestoreNarrow.l6 p1 t40 p0 s80 p2) (false, (0 : Int))
  else
    (law37_RestoreNarrow.j1 ).map Sum.inr
noncomputable def law37_RestoreNarrow.j8 (t40 : (Table × (List Int) × Int)) (p0 : Table) (p1 : Backup) (p2 : Int) : Option Bool :=
  loopF (law37_RestoreNarrow.l7 t40 p0 p1 p2) (0 : Int)
noncomputable def law37_RestoreNarrow.l9 (p0 : Table) (t40 : (Table × (List Int) × Int)) (p1 : Backup) (p2 : Int) (s169 : Int) : Option (Int ⊕ Bool) :=
  if (decide (s169 < (p0.Keys.length : Int))) then
    (grd (0 ≤ s169 ∧ s169 < (p0.Keys.length : Int))).bind fun _ =>
    (grd (0 ≤ s169 ∧ s169 < (t40.1.Keys.length : Int))).bind fun _ =>
    if (!(decide ((rd t40.1.Keys s169) = (rd p0.Keys s169)))) then
      some (.inr (false))
    else
      some (.inl (IntKind.i64.wrap (s169 + (1 : Int))))
  else
    (law37_RestoreNarrow.j8 t40 p0 p1 p2).map Sum.inr
noncomputable def law37_RestoreNarrow (p0 : Table) (p1 : Backup) (p2 : Int) : Option Bool :=
  (
    (law37_few p0 p1).bind fun t18 =>
    if (!t18) then
      some true
    else
      (ref27_ValidTable p0).bind fun t25 =>
      some (!t25)).bind fun t15 =>
  if t15 then
    (law37_sanity).bind fun t33 =>
    some (t33)
  else
    (restore_Plan p0 p1 p2).bind fun t40 =>
    if (t40.2.2 != (0 : Int)) then
      (law37_sanity).bind fun t55 =>
      some (t55)
    else
      (
        if ((t40.1.Keys.length : Int) != (IntKind.i64.wrap ((p0.Keys.length : Int) + (t40.2.1.length : Int)))) then
          some true
        else
          some (t40.1.Next != (IntKind.i64.wrap (p0.Next + (t40.2.1.length : Int))))).bind fun t62 =>
      if t62 then
        some (false)
      else
        loopF (law37_RestoreNarrow.l9 p0 t40 p1 p2) (0 : Int)
noncomputable def law37_RestoreAdmits (p0 : restore_Place) (p1 : Backup) : Option Bool :=
  (
    (law37_few (⟨(0 : Int), ([] : (List Key))⟩ : Table) p1).bind fun t13 =>
    if (!t13) then
      some true
    else
      (ref36_Valid p1).bind fun t20 =>
      some (!t20)).bind fun t10 =>
  if t10 then
    (law37_sanity).bind fun t28 =>
    some (t28)
  else
    (restore_Admit p0 p1).bind fun t35 =>
    (
      if (!(decide (p1.Domain = p0.Domain))) then
        some true
      else
        some (!(decide (p1.Policy = p0.Policy)))).bind fun t42 =>
    if t42 then
      (
        (law37_sanity).bind fun t57 =>
        if t57 then
          some (t35 == (10 : Int))
        else
          some false).bind fun t47 =>
      some (t47)
    else
      (
        if (decide (p0.Firmware < p1.Firmware)) then
          some true
        else
          some (decide (p1.Number < p0.Number))).bind fun t64 =>
      if t64 then
        (
          (law37_sanity).bind fun t79 =>
          if t79 then
            some (t35 == (20 : Int))
          else
            some false).bind fun t69 =>
        some (t69)
      else
        (
          (law37_sanity).bind fun t104 =>
          if t104 then
            if (t35 == (0 : Int)) then
              (restore_Admit ({ p0 with Number := (IntKind.i64.wrap (p1.Number + (1 : Int))) } : restore_Place) p1).bind fun t112 =>
              some (t112 == (20 : Int))
            else
              some false
          else
            some false).bind fun t87 =>
        some (t87)
end Go.Cu
