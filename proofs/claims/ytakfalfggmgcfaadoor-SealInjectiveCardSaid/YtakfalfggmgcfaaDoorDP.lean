/- The pure functions that the Go functions of this seat come to. -/
import Derived.Test.YtakfalfggmgcfaaDoorCu25
set_option linter.unusedVariables false
set_option linter.unusedSimpArgs false
set_option maxHeartbeats 4000000
/-! The functions, as pure functions. -/
namespace Go.Cu
structure hash_Stream where
  state : (Vector Int 8)
  block : (Vector Int 64)
  n : Int
deriving DecidableEq, Inhabited
def hash_Stream.C (x : hash_Stream) : List Go.Value := vI .u32 x.state ++ (vI .u8 x.block ++ ([.int .u64 x.n]))
theorem hash_Stream.len (x : hash_Stream) : (hash_Stream.C x).length = 73 := by simp [hash_Stream.C]
theorem hash_Stream.C_one (x : hash_Stream) : ∀ u ∈ hash_Stream.C x, u.oneCell' = true := by
  unfold hash_Stream.C
  exact (one_app (FV.one _ _ _) (one_app (FV.one _ _ _) (one_cons rfl one_nil)))
def hash_Stream.F : Fl hash_Stream := ⟨hash_Stream.C, 73, fun x => hash_Stream.len x⟩
theorem hash_Stream.F_one : hash_Stream.F.One := fun x => hash_Stream.C_one x
theorem hash_Stream.d0_8 (x : hash_Stream) : ((hash_Stream.C x).drop 0).take 8 = vI .u32 x.state := by simp [hash_Stream.C, List.getElem?_append, List.take_append, List.drop_append, List.take_of_length_le, List.drop_of_length_le, splice]
theorem hash_Stream.s0_8 (x : hash_Stream) {y : (Vector Int 8)} : splice (hash_Stream.C x) 0 (vI .u32 y) = hash_Stream.C { x with state := y } := by simp [hash_Stream.C, List.getElem?_append, List.take_append, List.drop_append, List.take_of_length_le, List.drop_of_length_le, splice]
theorem hash_Stream.d8_64 (x : hash_Stream) : ((hash_Stream.C x).drop 8).take 64 = vI .u8 x.block := by simp [hash_Stream.C, List.getElem?_append, List.take_append, List.drop_append, List.take_of_length_le, List.drop_of_length_le, splice]
theorem hash_Stream.s8_64 (x : hash_Stream) {y : (Vector Int 64)} : splice (hash_Stream.C x) 8 (vI .u8 y) = hash_Stream.C { x with block := y } := by simp [hash_Stream.C, List.getElem?_append, List.take_append, List.drop_append, List.take_of_length_le, List.drop_of_length_le, splice]
theorem hash_Stream.g72 (x : hash_Stream) : (hash_Stream.C x)[72]? = some (.int .u64 x.n) := by simp [hash_Stream.C, List.getElem?_append, List.take_append, List.drop_append, List.take_of_length_le, List.drop_of_length_le, splice]
theorem hash_Stream.s72_1 (x : hash_Stream) {y : Int} : splice (hash_Stream.C x) 72 [.int .u64 y] = hash_Stream.C { x with n := y } := by simp [hash_Stream.C, List.getElem?_append, List.take_append, List.drop_append, List.take_of_length_le, List.drop_of_length_le, splice]
theorem hash_Stream.d0_73 (x : hash_Stream) : ((hash_Stream.C x).drop 0).take 73 = hash_Stream.C x := by rw [List.drop_zero, List.take_of_length_le]; rw [hash_Stream.len]; exact Nat.le_refl _
/-- The constants of the hash. -/
def ref02_constants : Vector Int 64 := #v[1116352408, 1899447441, 3049323471, 3921009573, 961987163, 1508970993, 2453635748, 2870763221, 3624381080, 310598401, 607225278, 1426881987, 1925078388, 2162078206, 2614888103, 3248222580, 3835390401, 4022224774, 264347078, 604807628, 770255983, 1249150122, 1555081692, 1996064986, 2554220882, 2821834349, 2952996808, 3210313671, 3336571891, 3584528711, 113926993, 338241895, 666307205, 773529912, 1294757372, 1396182291, 1695183700, 1986661051, 2177026350, 2456956037, 2730485921, 2820302411, 3259730800, 3345764771, 3516065817, 3600352804, 4094571909, 275423344, 430227734, 506948616, 659060556, 883997877, 958139571, 1322822218, 1537002063, 1747873779, 1955562222, 2024104815, 2227730452, 2361852424, 2428436474, 2756734187, 3204031479, 3329325298]
/-- The constants of the hash. -/
def hash_constants : Vector Int 64 := #v[1116352408, 1899447441, 3049323471, 3921009573, 961987163, 1508970993, 2453635748, 2870763221, 3624381080, 310598401, 607225278, 1426881987, 1925078388, 2162078206, 2614888103, 3248222580, 3835390401, 4022224774, 264347078, 604807628, 770255983, 1249150122, 1555081692, 1996064986, 2554220882, 2821834349, 2952996808, 3210313671, 3336571891, 3584528711, 113926993, 338241895, 666307205, 773529912, 1294757372, 1396182291, 1695183700, 1986661051, 2177026350, 2456956037, 2730485921, 2820302411, 3259730800, 3345764771, 3516065817, 3600352804, 4094571909, 275423344, 430227734, 506948616, 659060556, 883997877, 958139571, 1322822218, 1537002063, 1747873779, 1955562222, 2024104815, 2227730452, 2361852424, 2428436474, 2756734187, 3204031479, 3329325298]
noncomputable def law04_few.j1 (x5 : Int) : Option Bool :=
  some ((decide (x5 ≤ (3000 : Int))))
noncomputable def law04_few.l2 (p0 : (List (List UInt8))) (s10 : (Int × Int)) : Option ((Int × Int) ⊕ Bool) :=
  if (decide (s10.2 < (p0.length : Int))) then
    (grd (0 ≤ s10.2 ∧ s10.2 < (p0.length : Int))).bind fun _ =>
    some (.inl ((IntKind.i64.wrap (s10.1 + ((rd p0 s10.2).length : Int))), (IntKind.i64.wrap (s10.2 + (1 : Int)))))
  else
    (law04_few.j1 s10.1).map Sum.inr
noncomputable def law04_few (p0 : (List (List UInt8))) : Option Bool :=
  loopF (law04_few.l2 p0) ((0 : Int), (0 : Int))
/-- The string n times over. -/
noncomputable def strings_Repeat (p0 : List UInt8) (p1 : Int) : Option (List UInt8) :=
  (grd (0 ≤ p1 ∧ p1 ≤ 9223372036854775807 ∧ p0.length * p1.toNat ≤ 140737488355328)).bind fun _ =>
  some (repL p0 p1.toNat)
noncomputable def hash_Begin  : Option hash_Stream :=
  (some ({ ({ ({ (default : hash_Stream) with block := (Vector.replicate 64 (0 : Int)) } : hash_Stream) with n := (0 : Int) } : hash_Stream) with state := (#v[(1779033703 : Int), (3144134277 : Int), (1013904242 : Int), (2773480762 : Int), (1359893119 : Int), (2600822924 : Int), (528734635 : Int), (1541459225 : Int)] : Vector Int 8) } : hash_Stream)).bind fun z4 =>
  some (z4)
noncomputable def bits_RotateLeft32 (p0 : Int) (p1 : Int) : Option Int :=
  (grd (¬ (bits .and .u64 (IntKind.u64.wrap p1) (31 : Int)) < 0)).bind fun _ =>
  (grd (¬ (IntKind.u64.wrap ((32 : Int) - (bits .and .u64 (IntKind.u64.wrap p1) (31 : Int)))) < 0)).bind fun _ =>
  some ((bits .or .u32 (shlI .u32 p0 (bits .and .u64 (IntKind.u64.wrap p1) (31 : Int))) (shrI .u32 p0 (IntKind.u64.wrap ((32 : Int) - (bits .and .u64 (IntKind.u64.wrap p1) (31 : Int)))))))
noncomputable def hash_schedule.j1 (x7 : (Vector Int 64)) : Option (Vector Int 64) :=
  some (x7)
noncomputable def hash_schedule.j2 (x20 : (Vector Int 64)) (s12 : ((Vector Int 64) × Int)) : Option (((Vector Int 64) × Int) ⊕ (Vector Int 64)) :=
  some (.inl (x20, (IntKind.i64.wrap (s12.2 + (1 : Int)))))
noncomputable def hash_schedule.j3 (s12 : ((Vector Int 64) × Int)) : Option (((Vector Int 64) × Int) ⊕ (Vector Int 64)) :=
  (grd (0 ≤ (IntKind.i64.wrap (s12.2 - (15 : Int))) ∧ (IntKind.i64.wrap (s12.2 - (15 : Int))) < (64 : Int))).bind fun _ =>
  (grd (0 ≤ (IntKind.i64.wrap (s12.2 - (2 : Int))) ∧ (IntKind.i64.wrap (s12.2 - (2 : Int))) < (64 : Int))).bind fun _ =>
  (bits_RotateLeft32 (rd s12.1.toList (IntKind.i64.wrap (s12.2 - (15 : Int)))) (-7 : Int)).bind fun t62 =>
  (bits_RotateLeft32 (rd s12.1.toList (IntKind.i64.wrap (s12.2 - (15 : Int)))) (-18 : Int)).bind fun t68 =>
  (bits_RotateLeft32 (rd s12.1.toList (IntKind.i64.wrap (s12.2 - (2 : Int)))) (-17 : Int)).bind fun t75 =>
  (bits_RotateLeft32 (rd s12.1.toList (IntKind.i64.wrap (s12.2 - (2 : Int)))) (-19 : Int)).bind fun t81 =>
  (grd (0 ≤ (IntKind.i64.wrap (s12.2 - (16 : Int))) ∧ (IntKind.i64.wrap (s12.2 - (16 : Int))) < (64 : Int))).bind fun _ =>
  (grd (0 ≤ (IntKind.i64.wrap (s12.2 - (7 : Int))) ∧ (IntKind.i64.wrap (s12.2 - (7 : Int))) < (64 : Int))).bind fun _ =>
  (grd (0 ≤ s12.2 ∧ s12.2 < (64 : Int))).bind fun _ =>
  (some (vs s12.1 s12.2 (IntKind.u32.wrap ((IntKind.u32.wrap ((IntKind.u32.wrap ((rd s12.1.toList (IntKind.i64.wrap (s12.2 - (16 : Int)))) + (bits .xor .u32 (bits .xor .u32 t62 t68) (shrI .u32 (rd s12.1.toList (IntKind.i64.wrap (s12.2 - (15 : Int)))) (3 : Int))))) + (rd s12.1.toList (IntKind.i64.wrap (s12.2 - (7 : Int)))))) + (bits .xor .u32 (bits .xor .u32 t75 t81) (shrI .u32 (rd s12.1.toList (IntKind.i64.wrap (s12.2 - (2 : Int)))) (10 : Int))))))).bind fun z135 =>
  hash_schedule.j2 z135 s12
noncomputable def hash_schedule.j4 (x140 : (Vector Int 64)) (s12 : ((Vector Int 64) × Int)) : Option (((Vector Int 64) × Int) ⊕ (Vector Int 64)) :=
  hash_schedule.j2 x140 s12
noncomputable def hash_schedule.l5 (p0 : (List Int)) (s12 : ((Vector Int 64) × Int)) (s147 : ((Vector Int 64) × Int)) : Option (((Vector Int 64) × Int) ⊕ (((Vector Int 64) × Int) ⊕ (Vector Int 64))) :=
  if (decide (s147.2 < (((p0.take ((IntKind.i64.wrap ((IntKind.i64.wrap ((4 : Int) * s12.2)) + (4 : Int)))).toNat).drop ((IntKind.i64.wrap ((4 : Int) * s12.2))).toNat).length : Int))) then
    (grd (0 ≤ s147.2 ∧ s147.2 < (((p0.take ((IntKind.i64.wrap ((IntKind.i64.wrap ((4 : Int) * s12.2)) + (4 : Int)))).toNat).drop ((IntKind.i64.wrap ((4 : Int) * s12.2))).toNat).length : Int))).bind fun _ =>
    (grd (0 ≤ s12.2 ∧ s12.2 < (64 : Int))).bind fun _ =>
    (grd (0 ≤ s12.2 ∧ s12.2 < (64 : Int))).bind fun _ =>
    (some (vs s147.1 s12.2 (bits .or .u32 (shlI .u32 (rd s147.1.toList s12.2) (8 : Int)) (IntKind.u32.wrap (rd ((p0.take ((IntKind.i64.wrap ((IntKind.i64.wrap ((4 : Int) * s12.2)) + (4 : Int)))).toNat).drop ((IntKind.i64.wrap ((4 : Int) * s12.2))).toNat) s147.2))))).bind fun z160 =>
    some (.inl (z160, (IntKind.i64.wrap (s147.2 + (1 : Int)))))
  else
    (hash_schedule.j4 s147.1 s12).map Sum.inr
noncomputable def hash_schedule.l6 (p0 : (List Int)) (s12 : ((Vector Int 64) × Int)) : Option (((Vector Int 64) × Int) ⊕ (Vector Int 64)) :=
  if (decide (s12.2 < (64 : Int))) then
    if (decide (s12.2 < (16 : Int))) then
      (grd (0 ≤ (IntKind.i64.wrap ((4 : Int) * s12.2)) ∧ (IntKind.i64.wrap ((4 : Int) * s12.2)) ≤ (IntKind.i64.wrap ((IntKind.i64.wrap ((4 : Int) * s12.2)) + (4 : Int))) ∧ (IntKind.i64.wrap ((IntKind.i64.wrap ((4 : Int) * s12.2)) + (4 : Int))) ≤ (p0.length : Int))).bind fun _ =>
      loopF (hash_schedule.l5 p0 s12) (s12.1, (0 : Int))
    else
      hash_schedule.j3 s12
  else
    (hash_schedule.j1 s12.1).map Sum.inr
noncomputable def hash_schedule (p0 : (List Int)) : Option (Vector Int 64) :=
  loopF (hash_schedule.l6 p0) ((Vector.replicate 64 (0 : Int)), (0 : Int))
noncomputable def hash_mix (p0 : Int) (p1 : Int) (p2 : Int) (p3 : Int) : Option Int :=
  (bits_RotateLeft32 p0 (IntKind.i64.wrap (0 - p1))).bind fun t3 =>
  (bits_RotateLeft32 p0 (IntKind.i64.wrap (0 - p2))).bind fun t9 =>
  (bits_RotateLeft32 p0 (IntKind.i64.wrap (0 - p3))).bind fun t15 =>
  some ((bits .xor .u32 (bits .xor .u32 t3 t9) t15))
noncomputable def hash_compress.j1 (x54 : (Vector Int 8)) : Option (Vector Int 8) :=
  some (x54)
noncomputable def hash_compress.l2 (x50 : (Vector Int 4)) (x51 : (Vector Int 4)) (s59 : ((Vector Int 8) × Int)) : Option (((Vector Int 8) × Int) ⊕ (Vector Int 8)) :=
  if (decide (s59.2 < (4 : Int))) then
    (grd (0 ≤ s59.2 ∧ s59.2 < (8 : Int))).bind fun _ =>
    (grd (0 ≤ s59.2 ∧ s59.2 < (4 : Int))).bind fun _ =>
    (grd (0 ≤ s59.2 ∧ s59.2 < (8 : Int))).bind fun _ =>
    (grd (0 ≤ (IntKind.i64.wrap (s59.2 + (4 : Int))) ∧ (IntKind.i64.wrap (s59.2 + (4 : Int))) < (8 : Int))).bind fun _ =>
    (grd (0 ≤ s59.2 ∧ s59.2 < (4 : Int))).bind fun _ =>
    (grd (0 ≤ (IntKind.i64.wrap (s59.2 + (4 : Int))) ∧ (IntKind.i64.wrap (s59.2 + (4 : Int))) < (8 : Int))).bind fun _ =>
    (some (vs (vs s59.1 s59.2 (IntKind.u32.wrap ((rd s59.1.toList s59.2) + (rd x50.toList s59.2)))) (IntKind.i64.wrap (s59.2 + (4 : Int))) (IntKind.u32.wrap ((rd (vs s59.1 s59.2 (IntKind.u32.wrap ((rd s59.1.toList s59.2) + (rd x50.toList s59.2)))).toList (IntKind.i64.wrap (s59.2 + (4 : Int)))) + (rd x51.toList s59.2))))).bind fun z123 =>
    some (.inl (z123, (IntKind.i64.wrap (s59.2 + (1 : Int)))))
  else
    (hash_compress.j1 s59.1).map Sum.inr
noncomputable def hash_compress.j3 (x50 : (Vector Int 4)) (x51 : (Vector Int 4)) (p0 : (Vector Int 8)) : Option (Vector Int 8) :=
  loopF (hash_compress.l2 x50 x51) (p0, (0 : Int))
noncomputable def hash_compress.l4 (t7 : (Vector Int 64)) (p0 : (Vector Int 8)) (s127 : ((Vector Int 4) × (Vector Int 4) × Int)) : Option (((Vector Int 4) × (Vector Int 4) × Int) ⊕ (Vector Int 8)) :=
  if (decide (s127.2.2 < (64 : Int))) then
    (grd (0 ≤ s127.2.2 ∧ s127.2.2 < (64 : Int))).bind fun _ =>
    (hash_mix (rd s127.2.1.toList (0 : Int)) (6 : Int) (11 : Int) (25 : Int)).bind fun t152 =>
    (grd (0 ≤ s127.2.2 ∧ s127.2.2 < (64 : Int))).bind fun _ =>
    (hash_mix (rd s127.1.toList (0 : Int)) (2 : Int) (13 : Int) (22 : Int)).bind fun t235 =>
    some (.inl ((#v[(IntKind.u32.wrap ((IntKind.u32.wrap ((IntKind.u32.wrap ((IntKind.u32.wrap ((IntKind.u32.wrap ((rd s127.2.1.toList (3 : Int)) + t152)) + (bits .xor .u32 (bits .and .u32 (rd s127.2.1.toList (0 : Int)) (rd s127.2.1.toList (1 : Int))) (bits .and .u32 (bits .xor .u32 IntKind.u32.max (rd s127.2.1.toList (0 : Int))) (rd s127.2.1.toList (2 : Int)))))) + (rd hash_constants.toList s127.2.2))) + (rd t7.toList s127.2.2))) + (IntKind.u32.wrap (t235 + (bits .xor .u32 (bits .xor .u32 (bits .and .u32 (rd s127.1.toList (0 : Int)) (rd s127.1.toList (1 : Int))) (bits .and .u32 (rd s127.1.toList (0 : Int)) (rd s127.1.toList (2 : Int)))) (bits .and .u32 (rd s127.1.toList (1 : Int)) (rd s127.1.toList (2 : Int)))))))), (rd s127.1.toList (0 : Int)), (rd s127.1.toList (1 : Int)), (rd s127.1.toList (2 : Int))] : Vector Int 4), (#v[(IntKind.u32.wrap ((rd s127.1.toList (3 : Int)) + (IntKind.u32.wrap ((IntKind.u32.wrap ((IntKind.u32.wrap ((IntKind.u32.wrap ((rd s127.2.1.toList (3 : Int)) + t152)) + (bits .xor .u32 (bits .and .u32 (rd s127.2.1.toList (0 : Int)) (rd s127.2.1.toList (1 : Int))) (bits .and .u32 (bits .xor .u32 IntKind.u32.max (rd s127.2.1.toList (0 : Int))) (rd s127.2.1.toList (2 : Int)))))) + (rd hash_constants.toList s127.2.2))) + (rd t7.toList s127.2.2))))), (rd s127.2.1.toList (0 : Int)), (rd s127.2.1.toList (1 : Int)), (rd s127.2.1.toList (2 : Int))] : Vector Int 4), (IntKind.i64.wrap (s127.2.2 + (1 : Int)))))
  else
    (hash_compress.j3 s127.1 s127.2.1 p0).map Sum.inr
noncomputable def hash_compress (p0 : (Vector Int 8)) (p1 : (List Int)) : Option (Vector Int 8) :=
  (hash_schedule p1).bind fun t7 =>
  loopF (hash_compress.l4 t7 p0) ((lv p0.toList ((0 : Int)).toNat 4), (lv p0.toList ((4 : Int)).toNat 4), (0 : Int))
noncomputable def hash_Stream_Add.j1 (x4 : hash_Stream) : Option hash_Stream :=
  some (x4)
noncomputable def hash_Stream_Add.l2  (s8 : (hash_Stream × (List UInt8))) : Option ((hash_Stream × (List UInt8)) ⊕ hash_Stream) :=
  if (!(s8.2 == ([] : List UInt8))) then
    (grd (0 ≤ (IntKind.i64.wrap (Int.tmod s8.1.n (64 : Int))) ∧ (IntKind.i64.wrap (Int.tmod s8.1.n (64 : Int))) < (64 : Int) ∧ (IntKind.i64.wrap (Int.tmod s8.1.n (64 : Int))) ≤ (64 : Int) ∧ (64 : Int) ≤ (64 : Int))).bind fun _ =>
    (grd (0 ≤ (((bytesI s8.2).take (((64 : Int)).toNat - ((IntKind.i64.wrap (Int.tmod s8.1.n (64 : Int)))).toNat)).length : Int) ∧ (((bytesI s8.2).take (((64 : Int)).toNat - ((IntKind.i64.wrap (Int.tmod s8.1.n (64 : Int)))).toNat)).length : Int) ≤ (s8.2.length : Int) ∧ (s8.2.length : Int) ≤ (s8.2.length : Int))).bind fun _ =>
    if ((IntKind.i64.wrap ((IntKind.i64.wrap (Int.tmod s8.1.n (64 : Int))) + (((bytesI s8.2).take (((64 : Int)).toNat - ((IntKind.i64.wrap (Int.tmod s8.1.n (64 : Int)))).toNat)).length : Int))) == (64 : Int)) then
      (hash_compress s8.1.state (((vcp s8.1.block ((IntKind.i64.wrap (Int.tmod s8.1.n (64 : Int)))).toNat ((bytesI s8.2).take (((64 : Int)).toNat - ((IntKind.i64.wrap (Int.tmod s8.1.n (64 : Int)))).toNat))).toList.take ((64 : Int)).toNat).drop ((0 : Int)).toNat)).bind fun t39 =>
      some (.inl (({ ({ ({ s8.1 with block := (vcp s8.1.block ((IntKind.i64.wrap (Int.tmod s8.1.n (64 : Int)))).toNat ((bytesI s8.2).take (((64 : Int)).toNat - ((IntKind.i64.wrap (Int.tmod s8.1.n (64 : Int)))).toNat))) } : hash_Stream) with n := (IntKind.u64.wrap (s8.1.n + (IntKind.u64.wrap (((bytesI s8.2).take (((64 : Int)).toNat - ((IntKind.i64.wrap (Int.tmod s8.1.n (64 : Int)))).toNat)).length : Int)))) } : hash_Stream) with state := t39 } : hash_Stream), ((s8.2.take ((s8.2.length : Int)).toNat).drop ((((bytesI s8.2).take (((64 : Int)).toNat - ((IntKind.i64.wrap (Int.tmod s8.1.n (64 : Int)))).toNat)).length : Int)).toNat)))
    else
      some (.inl (({ ({ s8.1 with block := (vcp s8.1.block ((IntKind.i64.wrap (Int.tmod s8.1.n (64 : Int)))).toNat ((bytesI s8.2).take (((64 : Int)).toNat - ((IntKind.i64.wrap (Int.tmod s8.1.n (64 : Int)))).toNat))) } : hash_Stream) with n := (IntKind.u64.wrap (s8.1.n + (IntKind.u64.wrap (((bytesI s8.2).take (((64 : Int)).toNat - ((IntKind.i64.wrap (Int.tmod s8.1.n (64 : Int)))).toNat)).length : Int)))) } : hash_Stream), ((s8.2.take ((s8.2.length : Int)).toNat).drop ((((bytesI s8.2).take (((64 : Int)).toNat - ((IntKind.i64.wrap (Int.tmod s8.1.n (64 : Int)))).toNat)).length : Int)).toNat)))
  else
    (hash_Stream_Add.j1 s8.1).map Sum.inr
noncomputable def hash_Stream_Add (p0 : hash_Stream) (p1 : (List UInt8)) : Option hash_Stream :=
  loopF (hash_Stream_Add.l2) (p0, p1)
noncomputable def hash_Stream_Sum.j1 (x27 : (Vector Int 32)) : Option (Vector Int 32) :=
  some (x27)
noncomputable def hash_Stream_Sum.l2 (t19 : hash_Stream) (s32 : ((Vector Int 32) × Int)) : Option (((Vector Int 32) × Int) ⊕ (Vector Int 32)) :=
  if (decide (s32.2 < (32 : Int))) then
    (grd (0 ≤ (IntKind.i64.wrap (Int.tdiv s32.2 (4 : Int))) ∧ (IntKind.i64.wrap (Int.tdiv s32.2 (4 : Int))) < (8 : Int))).bind fun _ =>
    (grd (¬ (IntKind.i64.wrap ((24 : Int) - (IntKind.i64.wrap ((8 : Int) * (Int.tmod s32.2 (4 : Int)))))) < 0)).bind fun _ =>
    (grd (0 ≤ s32.2 ∧ s32.2 < (32 : Int))).bind fun _ =>
    (some (vs s32.1 s32.2 (IntKind.u8.wrap (shrI .u32 (rd t19.state.toList (IntKind.i64.wrap (Int.tdiv s32.2 (4 : Int)))) (IntKind.i64.wrap ((24 : Int) - (IntKind.i64.wrap ((8 : Int) * (Int.tmod s32.2 (4 : Int)))))))))).bind fun z45 =>
    some (.inl (z45, (IntKind.i64.wrap (s32.2 + (1 : Int)))))
  else
    (hash_Stream_Sum.j1 s32.1).map Sum.inr
noncomputable def hash_Stream_Sum.j3 (p0 : hash_Stream) (x11 : (List Int)) : Option (Vector Int 32) :=
  (hash_Stream_Add p0 (intsB x11)).bind fun t19 =>
  loopF (hash_Stream_Sum.l2 t19) ((Vector.replicate 32 (0 : Int)), (0 : Int))
noncomputable def hash_Stream_Sum.l4 (p0 : hash_Stream) (s49 : ((List Int) × Int)) : Option (((List Int) × Int) ⊕ (Vector Int 32)) :=
  if (decide (s49.2 < (8 : Int))) then
    (grd (¬ (IntKind.i64.wrap ((56 : Int) - (IntKind.i64.wrap ((8 : Int) * s49.2)))) < 0)).bind fun _ =>
    (grd (s49.1.length + ([(IntKind.u8.wrap (shrI .u64 (IntKind.u64.wrap ((8 : Int) * p0.n)) (IntKind.i64.wrap ((56 : Int) - (IntKind.i64.wrap ((8 : Int) * s49.2))))))] : List Int).length < 68719476736)).bind fun _ =>
    some (.inl ((s49.1 ++ ([(IntKind.u8.wrap (shrI .u64 (IntKind.u64.wrap ((8 : Int) * p0.n)) (IntKind.i64.wrap ((56 : Int) - (IntKind.i64.wrap ((8 : Int) * s49.2))))))] : List Int)), (IntKind.i64.wrap (s49.2 + (1 : Int)))))
  else
    (hash_Stream_Sum.j3 p0 s49.1).map Sum.inr
noncomputable def hash_Stream_Sum.j5 (p0 : hash_Stream) (x7 : (List Int)) : Option (Vector Int 32) :=
  loopF (hash_Stream_Sum.l4 p0) (x7, (0 : Int))
noncomputable def hash_Stream_Sum.l6 (p0 : hash_Stream) (s68 : (List Int)) : Option ((List Int) ⊕ (Vector Int 32)) :=
  if ((Int.tmod (IntKind.i64.wrap ((IntKind.i64.wrap p0.n) + (s68.length : Int))) (64 : Int)) != (56 : Int)) then
    (grd (s68.length + ([(0 : Int)] : List Int).length < 68719476736)).bind fun _ =>
    some (.inl (s68 ++ ([(0 : Int)] : List Int)))
  else
    (hash_Stream_Sum.j5 p0 s68).map Sum.inr
noncomputable def hash_Stream_Sum (p0 : hash_Stream) : Option (Vector Int 32) :=
  loopF (hash_Stream_Sum.l6 p0) ([(128 : Int)] : List Int)
noncomputable def hash_Sum (p0 : (List Int)) : Option (Vector Int 32) :=
  (hash_Begin).bind fun t9 =>
  (hash_Stream_Add t9 (intsB p0)).bind fun t24 =>
  (hash_Stream_Sum t24).bind fun t30 =>
  some (t30)
noncomputable def hash_Mac_1.j1 (x14 : (Vector Int 64)) : Option (List UInt8) :=
  some ((intsB ((x14.toList.take ((64 : Int)).toNat).drop ((0 : Int)).toNat)))
noncomputable def hash_Mac_1.l2 (p0 : Int) (s19 : ((Vector Int 64) × Int)) : Option (((Vector Int 64) × Int) ⊕ (List UInt8)) :=
  if (decide (s19.2 < (64 : Int))) then
    (grd (0 ≤ s19.2 ∧ s19.2 < (64 : Int))).bind fun _ =>
    (grd (0 ≤ s19.2 ∧ s19.2 < (64 : Int))).bind fun _ =>
    some (.inl ((vs s19.1 s19.2 (bits .xor .u8 (rd s19.1.toList s19.2) p0)), (IntKind.i64.wrap (s19.2 + (1 : Int)))))
  else
    (hash_Mac_1.j1 s19.1).map Sum.inr
noncomputable def hash_Mac_1 (p0 : Int) (c0_ : (List UInt8)) : Option (List UInt8) :=
  loopF (hash_Mac_1.l2 p0) ((vcp (Vector.replicate 64 (0 : Int)) ((0 : Int)).toNat ((bytesI c0_).take (((64 : Int)).toNat - ((0 : Int)).toNat))), (0 : Int))
noncomputable def hash_Mac.j1 (x3 : (List UInt8)) (p1 : (List UInt8)) : Option (List UInt8) :=
  (hash_Begin).bind fun t11 =>
  (hash_Mac_1 (54 : Int) x3).bind fun t17 =>
  (hash_Stream_Add t11 t17).bind fun t23 =>
  (hash_Stream_Add t23 p1).bind fun t29 =>
  (hash_Stream_Sum t29).bind fun t35 =>
  (hash_Begin).bind fun t46 =>
  (hash_Mac_1 (92 : Int) x3).bind fun t57 =>
  (hash_Stream_Add t46 t57).bind fun t67 =>
  (hash_Stream_Add t67 (intsB ((t35.toList.take ((32 : Int)).toNat).drop ((0 : Int)).toNat))).bind fun t82 =>
  (hash_Stream_Sum t82).bind fun t91 =>
  some ((intsB ((t91.toList.take ((32 : Int)).toNat).drop ((0 : Int)).toNat)))
noncomputable def hash_Mac (p0 : (List UInt8)) (p1 : (List UInt8)) : Option (List UInt8) :=
  if (decide ((64 : Int) < (p0.length : Int))) then
    (hash_Sum (bytesI p0)).bind fun t113 =>
    hash_Mac.j1 (intsB ((t113.toList.take ((32 : Int)).toNat).drop ((0 : Int)).toNat)) p1
  else
    hash_Mac.j1 p0 p1
noncomputable def seal_Keys (p0 : (List UInt8)) : Option ((List UInt8) × (List UInt8) × Int) :=
  if ((p0.length : Int) != (32 : Int)) then
    some ((([] : List UInt8), ([] : List UInt8), (1 : Int)))
  else
    (hash_Mac p0 ([101, 110, 99] : List UInt8)).bind fun t7 =>
    (hash_Mac p0 ([109, 97, 99] : List UInt8)).bind fun t13 =>
    some ((t7, t13, (0 : Int)))
noncomputable def wire_Int.j1 (x14 : (List Int)) : Option (List Int) :=
  some x14
noncomputable def wire_Int.l2 (x3 : Int) (x4 : Int) (s20 : ((List Int) × Int)) : Option (((List Int) × Int) ⊕ (List Int)) :=
  if (decide ((0 : Int) ≤ s20.2)) then
    (grd (¬ (IntKind.i64.wrap ((8 : Int) * s20.2)) < 0)).bind fun _ =>
    (grd (s20.1.length + ([(bits .xor .u8 (IntKind.u8.wrap (shrI .u64 x3 (IntKind.i64.wrap ((8 : Int) * s20.2)))) x4)] : List Int).length < 68719476736)).bind fun _ =>
    some (.inl ((s20.1 ++ ([(bits .xor .u8 (IntKind.u8.wrap (shrI .u64 x3 (IntKind.i64.wrap ((8 : Int) * s20.2)))) x4)] : List Int)), (IntKind.i64.wrap (s20.2 - (1 : Int)))))
  else
    (wire_Int.j1 s20.1).map Sum.inr
noncomputable def wire_Int.j3 (x3 : Int) (x4 : Int) (x9 : Int) : Option (List Int) :=
  loopF (wire_Int.l2 x3 x4) (([(bits .xor .u8 (IntKind.u8.wrap (IntKind.i64.wrap ((128 : Int) + x9))) x4)] : List Int), (IntKind.i64.wrap (x9 - (1 : Int))))
noncomputable def wire_Int.l4 (x3 : Int) (x4 : Int) (s38 : Int) : Option (Int ⊕ (List Int)) :=
  if (decide ((0 : Int) < s38)) then
    (grd (¬ (IntKind.i64.wrap ((8 : Int) * (IntKind.i64.wrap (s38 - (1 : Int))))) < 0)).bind fun _ =>
    if (decide ((0 : Int) < (shrI .u64 x3 (IntKind.i64.wrap ((8 : Int) * (IntKind.i64.wrap (s38 - (1 : Int)))))))) then
      (wire_Int.j3 x3 x4 s38).map Sum.inr
    else
      some (.inl (IntKind.i64.wrap (s38 - (1 : Int))))
  else
    (wire_Int.j3 x3 x4 s38).map Sum.inr
noncomputable def wire_Int.j5 (x3 : Int) (x4 : Int) : Option (List Int) :=
  loopF (wire_Int.l4 x3 x4) (8 : Int)
noncomputable def wire_Int (p0 : Int) : Option (List Int) :=
  if (decide (p0 < (0 : Int))) then
    wire_Int.j5 (bits .xor .u64 IntKind.u64.max (IntKind.u64.wrap p0)) (255 : Int)
  else
    wire_Int.j5 (IntKind.u64.wrap p0) (0 : Int)
noncomputable def wire_Bytes (p0 : (List UInt8)) : Option (List Int) :=
  (wire_Int (p0.length : Int)).bind fun t3 =>
  (grd (t3.length + (bytesI p0).length < 68719476736)).bind fun _ =>
  some (t3 ++ (bytesI p0))
/-- The strings one after the other, with the separator between. -/
noncomputable def strings_Join (p0 : List (List UInt8)) (p1 : List UInt8) : Option (List UInt8) :=
  (grd (p0.length ≤ 140737488355328 ∧ (p1.intercalate p0).length ≤ 140737488355328)).bind fun _ =>
  some (p1.intercalate p0)
noncomputable def seal_code (p0 : (List UInt8)) (p1 : Int) (p2 : (List (List UInt8))) : Option (List UInt8) :=
  (strings_Join p2 ([] : List UInt8)).bind fun t5 =>
  (hash_Mac p0 t5).bind fun t11 =>
  (grd (0 ≤ (0 : Int) ∧ (0 : Int) ≤ p1 ∧ p1 ≤ (t11.length : Int))).bind fun _ =>
  some (((t11.take (p1).toNat).drop ((0 : Int)).toNat))
noncomputable def cipher_get (p0 : (List UInt8)) : Option Int :=
  (grd (0 ≤ (0 : Int) ∧ (0 : Int) < (p0.length : Int))).bind fun _ =>
  (grd (0 ≤ (1 : Int) ∧ (1 : Int) < (p0.length : Int))).bind fun _ =>
  (grd (0 ≤ (2 : Int) ∧ (2 : Int) < (p0.length : Int))).bind fun _ =>
  (grd (0 ≤ (3 : Int) ∧ (3 : Int) < (p0.length : Int))).bind fun _ =>
  some ((bits .or .u32 (bits .or .u32 (bits .or .u32 (IntKind.u32.wrap (sbyte p0 (0 : Int))) (shlI .u32 (IntKind.u32.wrap (sbyte p0 (1 : Int))) (8 : Int))) (shlI .u32 (IntKind.u32.wrap (sbyte p0 (2 : Int))) (16 : Int))) (shlI .u32 (IntKind.u32.wrap (sbyte p0 (3 : Int))) (24 : Int))))
noncomputable def cipher_State.j1 (x14 : (Vector Int 16)) : Option ((Vector Int 16) × Int) :=
  some ((x14, (0 : Int)))
noncomputable def cipher_State.l2 (p2 : (List UInt8)) (s19 : ((Vector Int 16) × Int)) : Option (((Vector Int 16) × Int) ⊕ ((Vector Int 16) × Int)) :=
  if (decide (s19.2 < (3 : Int))) then
    (grd (0 ≤ (IntKind.i64.wrap ((4 : Int) * s19.2)) ∧ (IntKind.i64.wrap ((4 : Int) * s19.2)) ≤ (p2.length : Int) ∧ (p2.length : Int) ≤ (p2.length : Int))).bind fun _ =>
    (cipher_get ((p2.take ((p2.length : Int)).toNat).drop ((IntKind.i64.wrap ((4 : Int) * s19.2))).toNat)).bind fun t30 =>
    (grd (0 ≤ (IntKind.i64.wrap ((13 : Int) + s19.2)) ∧ (IntKind.i64.wrap ((13 : Int) + s19.2)) < (16 : Int))).bind fun _ =>
    some (.inl ((vs s19.1 (IntKind.i64.wrap ((13 : Int) + s19.2)) t30), (IntKind.i64.wrap (s19.2 + (1 : Int)))))
  else
    (cipher_State.j1 s19.1).map Sum.inr
noncomputable def cipher_State.j3 (p2 : (List UInt8)) (x11 : (Vector Int 16)) : Option ((Vector Int 16) × Int) :=
  loopF (cipher_State.l2 p2) (x11, (0 : Int))
noncomputable def cipher_State.l4 (p0 : (List UInt8)) (p2 : (List UInt8)) (s38 : ((Vector Int 16) × Int)) : Option (((Vector Int 16) × Int) ⊕ ((Vector Int 16) × Int)) :=
  if (decide (s38.2 < (8 : Int))) then
    (grd (0 ≤ (IntKind.i64.wrap ((4 : Int) * s38.2)) ∧ (IntKind.i64.wrap ((4 : Int) * s38.2)) ≤ (p0.length : Int) ∧ (p0.length : Int) ≤ (p0.length : Int))).bind fun _ =>
    (cipher_get ((p0.take ((p0.length : Int)).toNat).drop ((IntKind.i64.wrap ((4 : Int) * s38.2))).toNat)).bind fun t49 =>
    (grd (0 ≤ (IntKind.i64.wrap ((4 : Int) + s38.2)) ∧ (IntKind.i64.wrap ((4 : Int) + s38.2)) < (16 : Int))).bind fun _ =>
    some (.inl ((vs s38.1 (IntKind.i64.wrap ((4 : Int) + s38.2)) t49), (IntKind.i64.wrap (s38.2 + (1 : Int)))))
  else
    (cipher_State.j3 p2 s38.1).map Sum.inr
noncomputable def cipher_State (p0 : (List UInt8)) (p1 : Int) (p2 : (List UInt8)) : Option ((Vector Int 16) × Int) :=
  (
    if ((p0.length : Int) != (32 : Int)) then
      some true
    else
      some ((p2.length : Int) != (12 : Int))).bind fun t4 =>
  if t4 then
    some (((Vector.replicate 16 (0 : Int)), (1 : Int)))
  else
    loopF (cipher_State.l4 p0 p2) ((#v[(1634760805 : Int), (857760878 : Int), (2036477234 : Int), (1797285236 : Int), 0, 0, 0, 0, 0, 0, 0, 0, p1, 0, 0, 0] : Vector Int 16), (0 : Int))
noncomputable def cipher_quarter (p : (Vector Int 16)) (i0 : Int) (i1 : Int) (i2 : Int) (i3 : Int) : Option (Vector Int 16) :=
  (bits_RotateLeft32 (bits .xor .u32 (rd (vs p i0 (IntKind.u32.wrap ((rd p.toList i0) + (rd p.toList i1)))).toList i3) (rd (vs p i0 (IntKind.u32.wrap ((rd p.toList i0) + (rd p.toList i1)))).toList i0)) (16 : Int)).bind fun t51 =>
  (some (vs (vs (vs p i0 (IntKind.u32.wrap ((rd p.toList i0) + (rd p.toList i1)))) i3 t51) i2 (IntKind.u32.wrap ((rd (vs (vs p i0 (IntKind.u32.wrap ((rd p.toList i0) + (rd p.toList i1)))) i3 t51).toList i2) + (rd (vs (vs p i0 (IntKind.u32.wrap ((rd p.toList i0) + (rd p.toList i1)))) i3 t51).toList i3))))).bind fun z84 =>
  (bits_RotateLeft32 (bits .xor .u32 (rd z84.toList i1) (rd z84.toList i2)) (12 : Int)).bind fun t114 =>
  (bits_RotateLeft32 (bits .xor .u32 (rd (vs (vs z84 i1 t114) i0 (IntKind.u32.wrap ((rd (vs z84 i1 t114).toList i0) + (rd (vs z84 i1 t114).toList i1)))).toList i3) (rd (vs (vs z84 i1 t114) i0 (IntKind.u32.wrap ((rd (vs z84 i1 t114).toList i0) + (rd (vs z84 i1 t114).toList i1)))).toList i0)) (8 : Int)).bind fun t174 =>
  (some (vs (vs (vs (vs z84 i1 t114) i0 (IntKind.u32.wrap ((rd (vs z84 i1 t114).toList i0) + (rd (vs z84 i1 t114).toList i1)))) i3 t174) i2 (IntKind.u32.wrap ((rd (vs (vs (vs z84 i1 t114) i0 (IntKind.u32.wrap ((rd (vs z84 i1 t114).toList i0) + (rd (vs z84 i1 t114).toList i1)))) i3 t174).toList i2) + (rd (vs (vs (vs z84 i1 t114) i0 (IntKind.u32.wrap ((rd (vs z84 i1 t114).toList i0) + (rd (vs z84 i1 t114).toList i1)))) i3 t174).toList i3))))).bind fun z207 =>
  (bits_RotateLeft32 (bits .xor .u32 (rd z207.toList i1) (rd z207.toList i2)) (7 : Int)).bind fun t236 =>
  some (vs z207 i1 t236)
noncomputable def cipher_Rounds.j1 (x4 : (Vector Int 16)) : Option (Vector Int 16) :=
  some (x4)
noncomputable def cipher_Rounds.j2 (x17 : (Vector Int 16)) (s9 : ((Vector Int 16) × Int)) : Option (((Vector Int 16) × Int) ⊕ (Vector Int 16)) :=
  some (.inl (x17, (IntKind.i64.wrap (s9.2 + (1 : Int)))))
noncomputable def cipher_Rounds.l3 (s9 : ((Vector Int 16) × Int)) (s24 : ((Vector Int 16) × Int)) : Option (((Vector Int 16) × Int) ⊕ (((Vector Int 16) × Int) ⊕ (Vector Int 16))) :=
  if (decide (s24.2 < (4 : Int))) then
    (grd (0 ≤ s24.2 ∧ s24.2 < (16 : Int))).bind fun _ =>
    (grd (0 ≤ (IntKind.i64.wrap ((4 : Int) + (Int.tmod (IntKind.i64.wrap (s24.2 + (1 : Int))) (4 : Int)))) ∧ (IntKind.i64.wrap ((4 : Int) + (Int.tmod (IntKind.i64.wrap (s24.2 + (1 : Int))) (4 : Int)))) < (16 : Int))).bind fun _ =>
    (grd (0 ≤ (IntKind.i64.wrap ((8 : Int) + (Int.tmod (IntKind.i64.wrap (s24.2 + (2 : Int))) (4 : Int)))) ∧ (IntKind.i64.wrap ((8 : Int) + (Int.tmod (IntKind.i64.wrap (s24.2 + (2 : Int))) (4 : Int)))) < (16 : Int))).bind fun _ =>
    (grd (0 ≤ (IntKind.i64.wrap ((12 : Int) + (Int.tmod (IntKind.i64.wrap (s24.2 + (3 : Int))) (4 : Int)))) ∧ (IntKind.i64.wrap ((12 : Int) + (Int.tmod (IntKind.i64.wrap (s24.2 + (3 : Int))) (4 : Int)))) < (16 : Int))).bind fun _ =>
    (cipher_quarter s24.1 s24.2 (IntKind.i64.wrap ((4 : Int) + (Int.tmod (IntKind.i64.wrap (s24.2 + (1 : Int))) (4 : Int)))) (IntKind.i64.wrap ((8 : Int) + (Int.tmod (IntKind.i64.wrap (s24.2 + (2 : Int))) (4 : Int)))) (IntKind.i64.wrap ((12 : Int) + (Int.tmod (IntKind.i64.wrap (s24.2 + (3 : Int))) (4 : Int))))).bind fun t92 =>
    some (.inl (t92, (IntKind.i64.wrap (s24.2 + (1 : Int)))))
  else
    (cipher_Rounds.j2 s24.1 s9).map Sum.inr
noncomputable def cipher_Rounds.j4 (s9 : ((Vector Int 16) × Int)) (x20 : (Vector Int 16)) : Option (((Vector Int 16) × Int) ⊕ (Vector Int 16)) :=
  loopF (cipher_Rounds.l3 s9) (x20, (0 : Int))
noncomputable def cipher_Rounds.l5 (s9 : ((Vector Int 16) × Int)) (s97 : ((Vector Int 16) × Int)) : Option (((Vector Int 16) × Int) ⊕ (((Vector Int 16) × Int) ⊕ (Vector Int 16))) :=
  if (decide (s97.2 < (4 : Int))) then
    (grd (0 ≤ s97.2 ∧ s97.2 < (16 : Int))).bind fun _ =>
    (grd (0 ≤ (IntKind.i64.wrap ((4 : Int) + s97.2)) ∧ (IntKind.i64.wrap ((4 : Int) + s97.2)) < (16 : Int))).bind fun _ =>
    (grd (0 ≤ (IntKind.i64.wrap ((8 : Int) + s97.2)) ∧ (IntKind.i64.wrap ((8 : Int) + s97.2)) < (16 : Int))).bind fun _ =>
    (grd (0 ≤ (IntKind.i64.wrap ((12 : Int) + s97.2)) ∧ (IntKind.i64.wrap ((12 : Int) + s97.2)) < (16 : Int))).bind fun _ =>
    (cipher_quarter s97.1 s97.2 (IntKind.i64.wrap ((4 : Int) + s97.2)) (IntKind.i64.wrap ((8 : Int) + s97.2)) (IntKind.i64.wrap ((12 : Int) + s97.2))).bind fun t147 =>
    some (.inl (t147, (IntKind.i64.wrap (s97.2 + (1 : Int)))))
  else
    (cipher_Rounds.j4 s9 s97.1).map Sum.inr
noncomputable def cipher_Rounds.l6  (s9 : ((Vector Int 16) × Int)) : Option (((Vector Int 16) × Int) ⊕ (Vector Int 16)) :=
  if (decide (s9.2 < (10 : Int))) then
    loopF (cipher_Rounds.l5 s9) (s9.1, (0 : Int))
  else
    (cipher_Rounds.j1 s9.1).map Sum.inr
noncomputable def cipher_Rounds (p0 : (Vector Int 16)) : Option (Vector Int 16) :=
  loopF (cipher_Rounds.l6) (p0, (0 : Int))
noncomputable def cipher_put (p0 : (List Int)) (p1 : Int) : Option (List Int) :=
  (grd (p0.length + ([(IntKind.u8.wrap p1), (IntKind.u8.wrap (shrI .u32 p1 (8 : Int))), (IntKind.u8.wrap (shrI .u32 p1 (16 : Int))), (IntKind.u8.wrap (shrI .u32 p1 (24 : Int)))] : List Int).length < 68719476736)).bind fun _ =>
  some (p0 ++ ([(IntKind.u8.wrap p1), (IntKind.u8.wrap (shrI .u32 p1 (8 : Int))), (IntKind.u8.wrap (shrI .u32 p1 (16 : Int))), (IntKind.u8.wrap (shrI .u32 p1 (24 : Int)))] : List Int))
noncomputable def cipher_Block.j1 (x17 : (List Int)) : Option ((List UInt8) × Int) :=
  some (((intsB x17), (0 : Int)))
noncomputable def cipher_Block.l2 (t26 : (Vector Int 16)) (t3 : ((Vector Int 16) × Int)) (s32 : ((List Int) × Int)) : Option (((List Int) × Int) ⊕ ((List UInt8) × Int)) :=
  if (decide (s32.2 < (16 : Int))) then
    (grd (0 ≤ s32.2 ∧ s32.2 < (16 : Int))).bind fun _ =>
    (grd (0 ≤ s32.2 ∧ s32.2 < (16 : Int))).bind fun _ =>
    (cipher_put s32.1 (IntKind.u32.wrap ((rd t26.toList s32.2) + (rd t3.1.toList s32.2)))).bind fun t45 =>
    some (.inl (t45, (IntKind.i64.wrap (s32.2 + (1 : Int)))))
  else
    (cipher_Block.j1 s32.1).map Sum.inr
noncomputable def cipher_Block (p0 : (List UInt8)) (p1 : Int) (p2 : (List UInt8)) : Option ((List UInt8) × Int) :=
  (cipher_State p0 p1 p2).bind fun t3 =>
  if (t3.2 != (0 : Int)) then
    some ((([] : List UInt8), t3.2))
  else
    (grd (0 ≤ (0 : Int) ∧ (0 : Int) ≤ (64 : Int) ∧ (64 : Int) < 68719476736)).bind fun _ =>
    (cipher_Rounds t3.1).bind fun t26 =>
    loopF (cipher_Block.l2 t26 t3) ((List.replicate ((0 : Int)).toNat (0 : Int)), (0 : Int))
noncomputable def cipher_Xor.j1 (x16 : (List Int)) : Option ((List UInt8) × Int) :=
  some (((intsB x16), (0 : Int)))
noncomputable def cipher_Xor.j2 (s25 : ((List Int) × Int × (List UInt8) × Int)) (x37 : (List UInt8)) (x36 : Int) : Option (((List Int) × Int × (List UInt8) × Int) ⊕ ((List UInt8) × Int)) :=
  (grd (0 ≤ s25.2.2.2 ∧ s25.2.2.2 < (s25.1.length : Int))).bind fun _ =>
  (grd (0 ≤ (Int.tmod s25.2.2.2 (64 : Int)) ∧ (Int.tmod s25.2.2.2 (64 : Int)) < (x37.length : Int))).bind fun _ =>
  (grd (0 ≤ s25.2.2.2 ∧ s25.2.2.2 < (s25.1.length : Int))).bind fun _ =>
  some (.inl ((wr s25.1 s25.2.2.2 (bits .xor .u8 (rd s25.1 s25.2.2.2) (sbyte x37 (Int.tmod s25.2.2.2 (64 : Int))))), x36, x37, (IntKind.i64.wrap (s25.2.2.2 + (1 : Int)))))
noncomputable def cipher_Xor.l3 (p3 : (List UInt8)) (p0 : (List UInt8)) (p2 : (List UInt8)) (s25 : ((List Int) × Int × (List UInt8) × Int)) : Option (((List Int) × Int × (List UInt8) × Int) ⊕ ((List UInt8) × Int)) :=
  if (decide (s25.2.2.2 < ((bytesI p3).length : Int))) then
    if ((Int.tmod s25.2.2.2 (64 : Int)) == (0 : Int)) then
      (cipher_Block p0 s25.2.1 p2).bind fun t75 =>
      cipher_Xor.j2 s25 t75.1 (IntKind.u32.wrap (s25.2.1 + (1 : Int)))
    else
      cipher_Xor.j2 s25 s25.2.2.1 s25.2.1
  else
    (cipher_Xor.j1 s25.1).map Sum.inr
noncomputable def cipher_Xor (p0 : (List UInt8)) (p1 : Int) (p2 : (List UInt8)) (p3 : (List UInt8)) : Option ((List UInt8) × Int) :=
  (cipher_State p0 p1 p2).bind fun t4 =>
  if (t4.2 != (0 : Int)) then
    some ((([] : List UInt8), t4.2))
  else
    loopF (cipher_Xor.l3 p3 p0 p2) ((bytesI p3), p1, ([] : List UInt8), (0 : Int))
noncomputable def seal_Seal (p0 : (List UInt8)) (p1 : (List UInt8)) (p2 : (List UInt8)) : Option ((List UInt8) × Int) :=
  (seal_Keys p0).bind fun t3 =>
  if (t3.2.2 != (0 : Int)) then
    some ((([] : List UInt8), t3.2.2))
  else
    (
      if (decide ((1048576 : Int) < (p1.length : Int))) then
        some true
      else
        some (decide ((1048576 : Int) < (p2.length : Int)))).bind fun t13 =>
    if t13 then
      some ((([] : List UInt8), (2 : Int)))
    else
      (wire_Bytes p1).bind fun t20 =>
      (seal_code t3.2.1 (12 : Int) ([([110, 111, 110, 99, 101] : List UInt8), (intsB t20), p2] : List (List UInt8))).bind fun t34 =>
      (cipher_Xor t3.1 (1 : Int) t34 p2).bind fun t41 =>
      (grd (t34.length + t41.1.length ≤ 9223372036854775807)).bind fun _ =>
      (seal_code t3.2.1 (16 : Int) ([([116, 97, 103] : List UInt8), t34, (intsB t20), t41.1] : List (List UInt8))).bind fun t54 =>
      (grd ((t34 ++ t41.1).length + t54.length ≤ 9223372036854775807)).bind fun _ =>
      some ((((t34 ++ t41.1) ++ t54), (0 : Int)))
noncomputable def seal_Open (p0 : (List UInt8)) (p1 : (List UInt8)) (p2 : (List UInt8)) : Option ((List UInt8) × Int) :=
  (seal_Keys p0).bind fun t3 =>
  if (t3.2.2 != (0 : Int)) then
    some ((([] : List UInt8), t3.2.2))
  else
    (
      if (decide ((1048576 : Int) < (p1.length : Int))) then
        some true
      else
        some (decide ((1048604 : Int) < (p2.length : Int)))).bind fun t13 =>
    if t13 then
      some ((([] : List UInt8), (2 : Int)))
    else
      if (decide ((p2.length : Int) < (28 : Int))) then
        some ((([] : List UInt8), (5 : Int)))
      else
        (wire_Bytes p1).bind fun t23 =>
        (grd (0 ≤ (0 : Int) ∧ (0 : Int) ≤ (12 : Int) ∧ (12 : Int) ≤ (p2.length : Int))).bind fun _ =>
        (grd (0 ≤ (12 : Int) ∧ (12 : Int) ≤ (IntKind.i64.wrap ((p2.length : Int) - (16 : Int))) ∧ (IntKind.i64.wrap ((p2.length : Int) - (16 : Int))) ≤ (p2.length : Int))).bind fun _ =>
        (seal_code t3.2.1 (16 : Int) ([([116, 97, 103] : List UInt8), ((p2.take ((12 : Int)).toNat).drop ((0 : Int)).toNat), (intsB t23), ((p2.take ((IntKind.i64.wrap ((p2.length : Int) - (16 : Int)))).toNat).drop ((12 : Int)).toNat)] : List (List UInt8))).bind fun t85 =>
        (grd (0 ≤ (IntKind.i64.wrap ((p2.length : Int) - (16 : Int))) ∧ (IntKind.i64.wrap ((p2.length : Int) - (16 : Int))) ≤ (p2.length : Int) ∧ (p2.length : Int) ≤ (p2.length : Int))).bind fun _ =>
        if (!(t85 == ((p2.take ((p2.length : Int)).toNat).drop ((IntKind.i64.wrap ((p2.length : Int) - (16 : Int)))).toNat))) then
          some ((([] : List UInt8), (8 : Int)))
        else
          (cipher_Xor t3.1 (1 : Int) ((p2.take ((12 : Int)).toNat).drop ((0 : Int)).toNat) ((p2.take ((IntKind.i64.wrap ((p2.length : Int) - (16 : Int)))).toNat).drop ((12 : Int)).toNat)).bind fun t110 =>
          (seal_code t3.2.1 (12 : Int) ([([110, 111, 110, 99, 101] : List UInt8), (intsB t23), t110.1] : List (List UInt8))).bind fun t123 =>
          if (!(t123 == ((p2.take ((12 : Int)).toNat).drop ((0 : Int)).toNat))) then
            some ((([] : List UInt8), (8 : Int)))
          else
            some ((t110.1, (0 : Int)))
noncomputable def ref02_padded.j1 (x21 : (List Int)) : Option (List Int) :=
  some (x21)
noncomputable def ref02_padded.l2 (p0 : (List Int)) (s30 : ((List Int) × Int)) : Option (((List Int) × Int) ⊕ (List Int)) :=
  if (decide (s30.2 < (8 : Int))) then
    (grd (¬ (IntKind.i64.wrap ((56 : Int) - (IntKind.i64.wrap ((8 : Int) * s30.2)))) < 0)).bind fun _ =>
    (grd (s30.1.length + ([(IntKind.u8.wrap (shrI .u64 (IntKind.u64.wrap ((8 : Int) * (IntKind.u64.wrap (p0.length : Int)))) (IntKind.i64.wrap ((56 : Int) - (IntKind.i64.wrap ((8 : Int) * s30.2))))))] : List Int).length < 68719476736)).bind fun _ =>
    some (.inl ((s30.1 ++ ([(IntKind.u8.wrap (shrI .u64 (IntKind.u64.wrap ((8 : Int) * (IntKind.u64.wrap (p0.length : Int)))) (IntKind.i64.wrap ((56 : Int) - (IntKind.i64.wrap ((8 : Int) * s30.2))))))] : List Int)), (IntKind.i64.wrap (s30.2 + (1 : Int)))))
  else
    (ref02_padded.j1 s30.1).map Sum.inr
noncomputable def ref02_padded.j3 (p0 : (List Int)) (x16 : (List Int)) : Option (List Int) :=
  loopF (ref02_padded.l2 p0) (x16, (0 : Int))
noncomputable def ref02_padded.l4 (p0 : (List Int)) (s48 : (List Int)) : Option ((List Int) ⊕ (List Int)) :=
  if ((Int.tmod (s48.length : Int) (64 : Int)) != (56 : Int)) then
    (grd (s48.length + ([(0 : Int)] : List Int).length < 68719476736)).bind fun _ =>
    some (.inl (s48 ++ ([(0 : Int)] : List Int)))
  else
    (ref02_padded.j3 p0 s48).map Sum.inr
noncomputable def ref02_padded (p0 : (List Int)) : Option (List Int) :=
  (grd (([] : List Int).length + p0.length < 68719476736)).bind fun _ =>
  (grd ((([] : List Int) ++ p0).length + ([(128 : Int)] : List Int).length < 68719476736)).bind fun _ =>
  loopF (ref02_padded.l4 p0) ((([] : List Int) ++ p0) ++ ([(128 : Int)] : List Int))
noncomputable def ref02_rotr (p0 : Int) (p1 : Int) : Option Int :=
  (grd (¬ p1 < 0)).bind fun _ =>
  (grd (¬ (IntKind.i64.wrap ((32 : Int) - p1)) < 0)).bind fun _ =>
  some ((bits .or .u32 (shrI .u32 p0 p1) (shlI .u32 p0 (IntKind.i64.wrap ((32 : Int) - p1)))))
noncomputable def ref02_words.j1 (x10 : (Vector Int 64)) : Option (Vector Int 64) :=
  some (x10)
noncomputable def ref02_words.l2  (s15 : ((Vector Int 64) × Int)) : Option (((Vector Int 64) × Int) ⊕ (Vector Int 64)) :=
  if (decide (s15.2 < (64 : Int))) then
    (grd (0 ≤ (IntKind.i64.wrap (s15.2 - (15 : Int))) ∧ (IntKind.i64.wrap (s15.2 - (15 : Int))) < (64 : Int))).bind fun _ =>
    (ref02_rotr (rd s15.1.toList (IntKind.i64.wrap (s15.2 - (15 : Int)))) (7 : Int)).bind fun t40 =>
    (grd (0 ≤ (IntKind.i64.wrap (s15.2 - (15 : Int))) ∧ (IntKind.i64.wrap (s15.2 - (15 : Int))) < (64 : Int))).bind fun _ =>
    (ref02_rotr (rd s15.1.toList (IntKind.i64.wrap (s15.2 - (15 : Int)))) (18 : Int)).bind fun t61 =>
    (grd (0 ≤ (IntKind.i64.wrap (s15.2 - (15 : Int))) ∧ (IntKind.i64.wrap (s15.2 - (15 : Int))) < (64 : Int))).bind fun _ =>
    (grd (0 ≤ (IntKind.i64.wrap (s15.2 - (2 : Int))) ∧ (IntKind.i64.wrap (s15.2 - (2 : Int))) < (64 : Int))).bind fun _ =>
    (ref02_rotr (rd s15.1.toList (IntKind.i64.wrap (s15.2 - (2 : Int)))) (17 : Int)).bind fun t112 =>
    (grd (0 ≤ (IntKind.i64.wrap (s15.2 - (2 : Int))) ∧ (IntKind.i64.wrap (s15.2 - (2 : Int))) < (64 : Int))).bind fun _ =>
    (ref02_rotr (rd s15.1.toList (IntKind.i64.wrap (s15.2 - (2 : Int)))) (19 : Int)).bind fun t133 =>
    (grd (0 ≤ (IntKind.i64.wrap (s15.2 - (2 : Int))) ∧ (IntKind.i64.wrap (s15.2 - (2 : Int))) < (64 : Int))).bind fun _ =>
    (grd (0 ≤ (IntKind.i64.wrap (s15.2 - (16 : Int))) ∧ (IntKind.i64.wrap (s15.2 - (16 : Int))) < (64 : Int))).bind fun _ =>
    (grd (0 ≤ (IntKind.i64.wrap (s15.2 - (7 : Int))) ∧ (IntKind.i64.wrap (s15.2 - (7 : Int))) < (64 : Int))).bind fun _ =>
    (grd (0 ≤ s15.2 ∧ s15.2 < (64 : Int))).bind fun _ =>
    (some (vs s15.1 s15.2 (IntKind.u32.wrap ((IntKind.u32.wrap ((IntKind.u32.wrap ((rd s15.1.toList (IntKind.i64.wrap (s15.2 - (16 : Int)))) + (bits .xor .u32 (bits .xor .u32 t40 t61) (shrI .u32 (rd s15.1.toList (IntKind.i64.wrap (s15.2 - (15 : Int)))) (3 : Int))))) + (rd s15.1.toList (IntKind.i64.wrap (s15.2 - (7 : Int)))))) + (bits .xor .u32 (bits .xor .u32 t112 t133) (shrI .u32 (rd s15.1.toList (IntKind.i64.wrap (s15.2 - (2 : Int)))) (10 : Int))))))).bind fun z216 =>
    some (.inl (z216, (IntKind.i64.wrap (s15.2 + (1 : Int)))))
  else
    (ref02_words.j1 s15.1).map Sum.inr
noncomputable def ref02_words.j3 (x7 : (Vector Int 64)) : Option (Vector Int 64) :=
  loopF (ref02_words.l2) (x7, (16 : Int))
noncomputable def ref02_words.l4 (p0 : (List Int)) (s220 : ((Vector Int 64) × Int)) : Option (((Vector Int 64) × Int) ⊕ (Vector Int 64)) :=
  if (decide (s220.2 < (16 : Int))) then
    (grd (0 ≤ (IntKind.i64.wrap ((4 : Int) * s220.2)) ∧ (IntKind.i64.wrap ((4 : Int) * s220.2)) < (p0.length : Int))).bind fun _ =>
    (grd (0 ≤ (IntKind.i64.wrap ((IntKind.i64.wrap ((4 : Int) * s220.2)) + (1 : Int))) ∧ (IntKind.i64.wrap ((IntKind.i64.wrap ((4 : Int) * s220.2)) + (1 : Int))) < (p0.length : Int))).bind fun _ =>
    (grd (0 ≤ (IntKind.i64.wrap ((IntKind.i64.wrap ((4 : Int) * s220.2)) + (2 : Int))) ∧ (IntKind.i64.wrap ((IntKind.i64.wrap ((4 : Int) * s220.2)) + (2 : Int))) < (p0.length : Int))).bind fun _ =>
    (grd (0 ≤ (IntKind.i64.wrap ((IntKind.i64.wrap ((4 : Int) * s220.2)) + (3 : Int))) ∧ (IntKind.i64.wrap ((IntKind.i64.wrap ((4 : Int) * s220.2)) + (3 : Int))) < (p0.length : Int))).bind fun _ =>
    (grd (0 ≤ s220.2 ∧ s220.2 < (64 : Int))).bind fun _ =>
    (some (vs s220.1 s220.2 (bits .or .u32 (bits .or .u32 (bits .or .u32 (shlI .u32 (IntKind.u32.wrap (rd p0 (IntKind.i64.wrap ((4 : Int) * s220.2)))) (24 : Int)) (shlI .u32 (IntKind.u32.wrap (rd p0 (IntKind.i64.wrap ((IntKind.i64.wrap ((4 : Int) * s220.2)) + (1 : Int))))) (16 : Int))) (shlI .u32 (IntKind.u32.wrap (rd p0 (IntKind.i64.wrap ((IntKind.i64.wrap ((4 : Int) * s220.2)) + (2 : Int))))) (8 : Int))) (IntKind.u32.wrap (rd p0 (IntKind.i64.wrap ((IntKind.i64.wrap ((4 : Int) * s220.2)) + (3 : Int)))))))).bind fun z339 =>
    some (.inl (z339, (IntKind.i64.wrap (s220.2 + (1 : Int)))))
  else
    (ref02_words.j3 s220.1).map Sum.inr
noncomputable def ref02_words (p0 : (List Int)) : Option (Vector Int 64) :=
  loopF (ref02_words.l4 p0) ((Vector.replicate 64 (0 : Int)), (0 : Int))
noncomputable def ref02_Sum.j1 (x21 : (Vector Int 32)) : Option (Vector Int 32) :=
  some (x21)
noncomputable def ref02_Sum.l2 (x16 : (Vector Int 8)) (s26 : ((Vector Int 32) × Int)) : Option (((Vector Int 32) × Int) ⊕ (Vector Int 32)) :=
  if (decide (s26.2 < (32 : Int))) then
    (grd (0 ≤ (IntKind.i64.wrap (Int.tdiv s26.2 (4 : Int))) ∧ (IntKind.i64.wrap (Int.tdiv s26.2 (4 : Int))) < (8 : Int))).bind fun _ =>
    (grd (¬ (IntKind.i64.wrap ((24 : Int) - (IntKind.i64.wrap ((8 : Int) * (Int.tmod s26.2 (4 : Int)))))) < 0)).bind fun _ =>
    (grd (0 ≤ s26.2 ∧ s26.2 < (32 : Int))).bind fun _ =>
    (some (vs s26.1 s26.2 (IntKind.u8.wrap (shrI .u32 (rd x16.toList (IntKind.i64.wrap (Int.tdiv s26.2 (4 : Int)))) (IntKind.i64.wrap ((24 : Int) - (IntKind.i64.wrap ((8 : Int) * (Int.tmod s26.2 (4 : Int)))))))))).bind fun z38 =>
    some (.inl (z38, (IntKind.i64.wrap (s26.2 + (1 : Int)))))
  else
    (ref02_Sum.j1 s26.1).map Sum.inr
noncomputable def ref02_Sum.j3 (x16 : (Vector Int 8)) : Option (Vector Int 32) :=
  loopF (ref02_Sum.l2 x16) ((Vector.replicate 32 (0 : Int)), (0 : Int))
noncomputable def ref02_Sum.j4 (x50 : (Vector Int 8)) (s42 : ((Vector Int 8) × Int)) : Option (((Vector Int 8) × Int) ⊕ (Vector Int 32)) :=
  some (.inl (x50, (IntKind.i64.wrap (s42.2 + (64 : Int)))))
noncomputable def ref02_Sum.l5 (x66 : (Vector Int 8)) (s42 : ((Vector Int 8) × Int)) (s70 : ((Vector Int 8) × Int)) : Option (((Vector Int 8) × Int) ⊕ (((Vector Int 8) × Int) ⊕ (Vector Int 32))) :=
  if (decide (s70.2 < (8 : Int))) then
    (grd (0 ≤ s70.2 ∧ s70.2 < (8 : Int))).bind fun _ =>
    (grd (0 ≤ s70.2 ∧ s70.2 < (8 : Int))).bind fun _ =>
    (grd (0 ≤ s70.2 ∧ s70.2 < (8 : Int))).bind fun _ =>
    some (.inl ((vs s70.1 s70.2 (IntKind.u32.wrap ((rd s70.1.toList s70.2) + (rd x66.toList s70.2)))), (IntKind.i64.wrap (s70.2 + (1 : Int)))))
  else
    (ref02_Sum.j4 s70.1 s42).map Sum.inr
noncomputable def ref02_Sum.j6 (x66 : (Vector Int 8)) (s42 : ((Vector Int 8) × Int)) : Option (((Vector Int 8) × Int) ⊕ (Vector Int 32)) :=
  loopF (ref02_Sum.l5 x66 s42) (s42.1, (0 : Int))
noncomputable def ref02_Sum.l7 (t57 : (Vector Int 64)) (s42 : ((Vector Int 8) × Int)) (s110 : ((Vector Int 8) × Int)) : Option (((Vector Int 8) × Int) ⊕ (((Vector Int 8) × Int) ⊕ (Vector Int 32))) :=
  if (decide (s110.2 < (64 : Int))) then
    (ref02_rotr (rd s110.1.toList (4 : Int)) (6 : Int)).bind fun t133 =>
    (ref02_rotr (rd s110.1.toList (4 : Int)) (11 : Int)).bind fun t147 =>
    (ref02_rotr (rd s110.1.toList (4 : Int)) (25 : Int)).bind fun t165 =>
    (grd (0 ≤ s110.2 ∧ s110.2 < (64 : Int))).bind fun _ =>
    (grd (0 ≤ s110.2 ∧ s110.2 < (64 : Int))).bind fun _ =>
    (ref02_rotr (rd s110.1.toList (0 : Int)) (2 : Int)).bind fun t259 =>
    (ref02_rotr (rd s110.1.toList (0 : Int)) (13 : Int)).bind fun t273 =>
    (ref02_rotr (rd s110.1.toList (0 : Int)) (22 : Int)).bind fun t291 =>
    some (.inl ((#v[(IntKind.u32.wrap ((IntKind.u32.wrap ((IntKind.u32.wrap ((IntKind.u32.wrap ((IntKind.u32.wrap ((rd s110.1.toList (7 : Int)) + (bits .xor .u32 (bits .xor .u32 t133 t147) t165))) + (bits .xor .u32 (bits .and .u32 (rd s110.1.toList (4 : Int)) (rd s110.1.toList (5 : Int))) (bits .and .u32 (bits .xor .u32 (rd s110.1.toList (4 : Int)) (4294967295 : Int)) (rd s110.1.toList (6 : Int)))))) + (rd ref02_constants.toList s110.2))) + (rd t57.toList s110.2))) + (IntKind.u32.wrap ((bits .xor .u32 (bits .xor .u32 t259 t273) t291) + (bits .xor .u32 (bits .xor .u32 (bits .and .u32 (rd s110.1.toList (0 : Int)) (rd s110.1.toList (1 : Int))) (bits .and .u32 (rd s110.1.toList (0 : Int)) (rd s110.1.toList (2 : Int)))) (bits .and .u32 (rd s110.1.toList (1 : Int)) (rd s110.1.toList (2 : Int)))))))), (rd s110.1.toList (0 : Int)), (rd s110.1.toList (1 : Int)), (rd s110.1.toList (2 : Int)), (IntKind.u32.wrap ((rd s110.1.toList (3 : Int)) + (IntKind.u32.wrap ((IntKind.u32.wrap ((IntKind.u32.wrap ((IntKind.u32.wrap ((rd s110.1.toList (7 : Int)) + (bits .xor .u32 (bits .xor .u32 t133 t147) t165))) + (bits .xor .u32 (bits .and .u32 (rd s110.1.toList (4 : Int)) (rd s110.1.toList (5 : Int))) (bits .and .u32 (bits .xor .u32 (rd s110.1.toList (4 : Int)) (4294967295 : Int)) (rd s110.1.toList (6 : Int)))))) + (rd ref02_constants.toList s110.2))) + (rd t57.toList s110.2))))), (rd s110.1.toList (4 : Int)), (rd s110.1.toList (5 : Int)), (rd s110.1.toList (6 : Int))] : Vector Int 8), (IntKind.i64.wrap (s110.2 + (1 : Int)))))
  else
    (ref02_Sum.j6 s110.1 s42).map Sum.inr
noncomputable def ref02_Sum.l8 (t8 : (List Int)) (s42 : ((Vector Int 8) × Int)) : Option (((Vector Int 8) × Int) ⊕ (Vector Int 32)) :=
  if (decide (s42.2 < (t8.length : Int))) then
    (grd (0 ≤ s42.2 ∧ s42.2 ≤ (IntKind.i64.wrap (s42.2 + (64 : Int))) ∧ (IntKind.i64.wrap (s42.2 + (64 : Int))) ≤ (t8.length : Int))).bind fun _ =>
    (ref02_words ((t8.take ((IntKind.i64.wrap (s42.2 + (64 : Int)))).toNat).drop (s42.2).toNat)).bind fun t57 =>
    loopF (ref02_Sum.l7 t57 s42) (s42.1, (0 : Int))
  else
    (ref02_Sum.j3 s42.1).map Sum.inr
noncomputable def ref02_Sum (p0 : (List Int)) : Option (Vector Int 32) :=
  (ref02_padded p0).bind fun t8 =>
  loopF (ref02_Sum.l8 t8) ((#v[(1779033703 : Int), (3144134277 : Int), (1013904242 : Int), (2773480762 : Int), (1359893119 : Int), (2600822924 : Int), (528734635 : Int), (1541459225 : Int)] : Vector Int 8), (0 : Int))
noncomputable def ref02_Bytes32.j1 (x7 : (List Int)) : Option (List UInt8) :=
  some ((intsB x7))
noncomputable def ref02_Bytes32.l2 (p0 : (Vector Int 32)) (s16 : ((List Int) × Int)) : Option (((List Int) × Int) ⊕ (List UInt8)) :=
  if (decide (s16.2 < (32 : Int))) then
    (grd (0 ≤ s16.2 ∧ s16.2 < (32 : Int))).bind fun _ =>
    (grd (s16.1.length + ([(rd p0.toList s16.2)] : List Int).length < 68719476736)).bind fun _ =>
    some (.inl ((s16.1 ++ ([(rd p0.toList s16.2)] : List Int)), (IntKind.i64.wrap (s16.2 + (1 : Int)))))
  else
    (ref02_Bytes32.j1 s16.1).map Sum.inr
noncomputable def ref02_Bytes32 (p0 : (Vector Int 32)) : Option (List UInt8) :=
  loopF (ref02_Bytes32.l2 p0) (([] : (List Int)), (0 : Int))
noncomputable def ref02_padKey.j1 (x7 : (List Int)) : Option (List Int) :=
  some x7
noncomputable def ref02_padKey.j2 (s13 : ((List Int) × Int)) (x24 : Int) (p1 : Int) : Option (((List Int) × Int) ⊕ (List Int)) :=
  (grd (s13.1.length + ([(bits .xor .u8 x24 p1)] : List Int).length < 68719476736)).bind fun _ =>
  some (.inl ((s13.1 ++ ([(bits .xor .u8 x24 p1)] : List Int)), (IntKind.i64.wrap (s13.2 + (1 : Int)))))
noncomputable def ref02_padKey.l3 (x3 : (List UInt8)) (p1 : Int) (s13 : ((List Int) × Int)) : Option (((List Int) × Int) ⊕ (List Int)) :=
  if (decide (s13.2 < (64 : Int))) then
    if (decide (s13.2 < (x3.length : Int))) then
      (grd (0 ≤ s13.2 ∧ s13.2 < (x3.length : Int))).bind fun _ =>
      ref02_padKey.j2 s13 (sbyte x3 s13.2) p1
    else
      ref02_padKey.j2 s13 (0 : Int) p1
  else
    (ref02_padKey.j1 s13.1).map Sum.inr
noncomputable def ref02_padKey.j4 (x3 : (List UInt8)) (p1 : Int) : Option (List Int) :=
  loopF (ref02_padKey.l3 x3 p1) (([] : (List Int)), (0 : Int))
noncomputable def ref02_padKey (p0 : (List UInt8)) (p1 : Int) : Option (List Int) :=
  if (decide ((64 : Int) < (p0.length : Int))) then
    (ref02_Sum (bytesI p0)).bind fun t43 =>
    (ref02_Bytes32 t43).bind fun t49 =>
    ref02_padKey.j4 t49 p1
  else
    ref02_padKey.j4 p0 p1
noncomputable def ref02_Mac (p0 : (List UInt8)) (p1 : (List UInt8)) : Option (List UInt8) :=
  (ref02_padKey p0 (54 : Int)).bind fun t3 =>
  (grd (t3.length + (bytesI p1).length < 68719476736)).bind fun _ =>
  (ref02_padKey p0 (92 : Int)).bind fun t12 =>
  (ref02_Sum (t3 ++ (bytesI p1))).bind fun t21 =>
  (ref02_Bytes32 t21).bind fun t27 =>
  (grd (t12.length + (bytesI t27).length < 68719476736)).bind fun _ =>
  (ref02_Sum (t12 ++ (bytesI t27))).bind fun t39 =>
  (ref02_Bytes32 t39).bind fun t45 =>
  some (t45)
noncomputable def ref04_Keys (p0 : (List UInt8)) : Option ((List UInt8) × (List UInt8) × Int) :=
  if ((p0.length : Int) != (32 : Int)) then
    some ((([] : List UInt8), ([] : List UInt8), (1 : Int)))
  else
    (ref02_Mac p0 ([101, 110, 99] : List UInt8)).bind fun t7 =>
    (ref02_Mac p0 ([109, 97, 99] : List UInt8)).bind fun t13 =>
    some ((t7, t13, (0 : Int)))
noncomputable def ref01_Int.j1 (x17 : (List Int)) : Option (List Int) :=
  some x17
noncomputable def ref01_Int.j2 (s23 : ((List Int) × Int)) (x35 : Int) : Option (((List Int) × Int) ⊕ (List Int)) :=
  (grd (s23.1.length + ([x35] : List Int).length < 68719476736)).bind fun _ =>
  some (.inl ((s23.1 ++ ([x35] : List Int)), (IntKind.i64.wrap (s23.2 - (1 : Int)))))
noncomputable def ref01_Int.l3 (x7 : (List Int)) (p0 : Int) (s23 : ((List Int) × Int)) : Option (((List Int) × Int) ⊕ (List Int)) :=
  if (decide ((0 : Int) ≤ s23.2)) then
    (grd (0 ≤ s23.2 ∧ s23.2 < (x7.length : Int))).bind fun _ =>
    if (decide (p0 < (0 : Int))) then
      ref01_Int.j2 s23 (IntKind.u8.wrap ((255 : Int) - (rd x7 s23.2)))
    else
      ref01_Int.j2 s23 (rd x7 s23.2)
  else
    (ref01_Int.j1 s23.1).map Sum.inr
noncomputable def ref01_Int.j4 (x7 : (List Int)) (p0 : Int) (x13 : (List Int)) : Option (List Int) :=
  loopF (ref01_Int.l3 x7 p0) (x13, (IntKind.i64.wrap ((x7.length : Int) - (1 : Int))))
noncomputable def ref01_Int.j5 (p0 : Int) (x7 : (List Int)) : Option (List Int) :=
  if (decide ((0 : Int) ≤ p0)) then
    (grd (([] : (List Int)).length + ([(IntKind.u8.wrap (IntKind.i64.wrap ((128 : Int) + (x7.length : Int))))] : List Int).length < 68719476736)).bind fun _ =>
    ref01_Int.j4 x7 p0 (([] : (List Int)) ++ ([(IntKind.u8.wrap (IntKind.i64.wrap ((128 : Int) + (x7.length : Int))))] : List Int))
  else
    (grd (([] : (List Int)).length + ([(IntKind.u8.wrap (IntKind.i64.wrap ((127 : Int) - (x7.length : Int))))] : List Int).length < 68719476736)).bind fun _ =>
    ref01_Int.j4 x7 p0 (([] : (List Int)) ++ ([(IntKind.u8.wrap (IntKind.i64.wrap ((127 : Int) - (x7.length : Int))))] : List Int))
noncomputable def ref01_Int.l6 (p0 : Int) (s63 : ((List Int) × Int)) : Option (((List Int) × Int) ⊕ (List Int)) :=
  if (decide ((0 : Int) < s63.2)) then
    (grd (s63.1.length + ([(IntKind.u8.wrap (Int.tmod s63.2 (256 : Int)))] : List Int).length < 68719476736)).bind fun _ =>
    some (.inl ((s63.1 ++ ([(IntKind.u8.wrap (Int.tmod s63.2 (256 : Int)))] : List Int)), (IntKind.i64.wrap (Int.tdiv s63.2 (256 : Int)))))
  else
    (ref01_Int.j5 p0 s63.1).map Sum.inr
noncomputable def ref01_Int.j7 (p0 : Int) (x3 : Int) : Option (List Int) :=
  loopF (ref01_Int.l6 p0) (([] : (List Int)), x3)
noncomputable def ref01_Int (p0 : Int) : Option (List Int) :=
  if (decide (p0 < (0 : Int))) then
    ref01_Int.j7 p0 (IntKind.i64.wrap ((-1 : Int) - p0))
  else
    ref01_Int.j7 p0 p0
noncomputable def ref01_Bytes (p0 : (List UInt8)) : Option (List Int) :=
  (ref01_Int (p0.length : Int)).bind fun t3 =>
  (grd (t3.length + (bytesI p0).length < 68719476736)).bind fun _ =>
  some (t3 ++ (bytesI p0))
noncomputable def ref04_nonce (p0 : (List UInt8)) (p1 : (List UInt8)) (p2 : (List UInt8)) : Option (List UInt8) :=
  (ref01_Bytes p1).bind fun t3 =>
  (grd (([110, 111, 110, 99, 101] : List UInt8).length + (intsB t3).length ≤ 9223372036854775807)).bind fun _ =>
  (grd ((([110, 111, 110, 99, 101] : List UInt8) ++ (intsB t3)).length + p2.length ≤ 9223372036854775807)).bind fun _ =>
  (ref02_Mac p0 ((([110, 111, 110, 99, 101] : List UInt8) ++ (intsB t3)) ++ p2)).bind fun t13 =>
  (grd (0 ≤ (0 : Int) ∧ (0 : Int) ≤ (12 : Int) ∧ (12 : Int) ≤ (t13.length : Int))).bind fun _ =>
  some (((t13.take ((12 : Int)).toNat).drop ((0 : Int)).toNat))
noncomputable def ref03_word (p0 : (List UInt8)) : Option Int :=
  (grd (0 ≤ (0 : Int) ∧ (0 : Int) < (p0.length : Int))).bind fun _ =>
  (grd (0 ≤ (1 : Int) ∧ (1 : Int) < (p0.length : Int))).bind fun _ =>
  (grd (0 ≤ (2 : Int) ∧ (2 : Int) < (p0.length : Int))).bind fun _ =>
  (grd (0 ≤ (3 : Int) ∧ (3 : Int) < (p0.length : Int))).bind fun _ =>
  some ((IntKind.u32.wrap ((IntKind.u32.wrap ((IntKind.u32.wrap ((IntKind.u32.wrap (sbyte p0 (0 : Int))) + (shlI .u32 (IntKind.u32.wrap (sbyte p0 (1 : Int))) (8 : Int)))) + (shlI .u32 (IntKind.u32.wrap (sbyte p0 (2 : Int))) (16 : Int)))) + (shlI .u32 (IntKind.u32.wrap (sbyte p0 (3 : Int))) (24 : Int)))))
noncomputable def ref03_State.j1 (x23 : (Vector Int 16)) : Option ((Vector Int 16) × Int) :=
  some ((x23, (0 : Int)))
noncomputable def ref03_State.l2 (p2 : (List UInt8)) (s28 : ((Vector Int 16) × Int)) : Option (((Vector Int 16) × Int) ⊕ ((Vector Int 16) × Int)) :=
  if (decide (s28.2 < (3 : Int))) then
    (grd (0 ≤ (IntKind.i64.wrap ((4 : Int) * s28.2)) ∧ (IntKind.i64.wrap ((4 : Int) * s28.2)) ≤ (p2.length : Int) ∧ (p2.length : Int) ≤ (p2.length : Int))).bind fun _ =>
    (ref03_word ((p2.take ((p2.length : Int)).toNat).drop ((IntKind.i64.wrap ((4 : Int) * s28.2))).toNat)).bind fun t38 =>
    (grd (0 ≤ (IntKind.i64.wrap ((13 : Int) + s28.2)) ∧ (IntKind.i64.wrap ((13 : Int) + s28.2)) < (16 : Int))).bind fun _ =>
    some (.inl ((vs s28.1 (IntKind.i64.wrap ((13 : Int) + s28.2)) t38), (IntKind.i64.wrap (s28.2 + (1 : Int)))))
  else
    (ref03_State.j1 s28.1).map Sum.inr
noncomputable def ref03_State.j3 (p2 : (List UInt8)) (x19 : (Vector Int 16)) (p1 : Int) : Option ((Vector Int 16) × Int) :=
  loopF (ref03_State.l2 p2) ((vs x19 (12 : Int) p1), (0 : Int))
noncomputable def ref03_State.l4 (p0 : (List UInt8)) (p2 : (List UInt8)) (p1 : Int) (s46 : ((Vector Int 16) × Int)) : Option (((Vector Int 16) × Int) ⊕ ((Vector Int 16) × Int)) :=
  if (decide (s46.2 < (8 : Int))) then
    (grd (0 ≤ (IntKind.i64.wrap ((4 : Int) * s46.2)) ∧ (IntKind.i64.wrap ((4 : Int) * s46.2)) ≤ (p0.length : Int) ∧ (p0.length : Int) ≤ (p0.length : Int))).bind fun _ =>
    (ref03_word ((p0.take ((p0.length : Int)).toNat).drop ((IntKind.i64.wrap ((4 : Int) * s46.2))).toNat)).bind fun t56 =>
    (grd (0 ≤ (IntKind.i64.wrap ((4 : Int) + s46.2)) ∧ (IntKind.i64.wrap ((4 : Int) + s46.2)) < (16 : Int))).bind fun _ =>
    some (.inl ((vs s46.1 (IntKind.i64.wrap ((4 : Int) + s46.2)) t56), (IntKind.i64.wrap (s46.2 + (1 : Int)))))
  else
    (ref03_State.j3 p2 s46.1 p1).map Sum.inr
noncomputable def ref03_State (p0 : (List UInt8)) (p1 : Int) (p2 : (List UInt8)) : Option ((Vector Int 16) × Int) :=
  (
    if ((p0.length : Int) != (32 : Int)) then
      some true
    else
      some ((p2.length : Int) != (12 : Int))).bind fun t6 =>
  if t6 then
    some (((Vector.replicate 16 (0 : Int)), (1 : Int)))
  else
    (some (vs (vs (vs (vs (Vector.replicate 16 (0 : Int)) (0 : Int) (1634760805 : Int)) (1 : Int) (857760878 : Int)) (2 : Int) (2036477234 : Int)) (3 : Int) (1797285236 : Int))).bind fun z16 =>
    loopF (ref03_State.l4 p0 p2 p1) (z16, (0 : Int))
noncomputable def ref03_Order  : Option (List (List Int)) :=
  some (([([(0 : Int), (4 : Int), (8 : Int), (12 : Int)] : List Int), ([(1 : Int), (5 : Int), (9 : Int), (13 : Int)] : List Int), ([(2 : Int), (6 : Int), (10 : Int), (14 : Int)] : List Int), ([(3 : Int), (7 : Int), (11 : Int), (15 : Int)] : List Int), ([(0 : Int), (5 : Int), (10 : Int), (15 : Int)] : List Int), ([(1 : Int), (6 : Int), (11 : Int), (12 : Int)] : List Int), ([(2 : Int), (7 : Int), (8 : Int), (13 : Int)] : List Int), ([(3 : Int), (4 : Int), (9 : Int), (14 : Int)] : List Int)] : (List (List Int))))
noncomputable def ref03_rotl (p0 : Int) (p1 : Int) : Option Int :=
  (grd (¬ p1 < 0)).bind fun _ =>
  (grd (¬ (IntKind.i64.wrap ((32 : Int) - p1)) < 0)).bind fun _ =>
  some ((bits .or .u32 (shlI .u32 p0 p1) (shrI .u32 p0 (IntKind.i64.wrap ((32 : Int) - p1)))))
noncomputable def ref03_quarter (p0 : (Vector Int 16)) (p1 : Int) (p2 : Int) (p3 : Int) (p4 : Int) : Option (Vector Int 16) :=
  (grd (0 ≤ p1 ∧ p1 < (16 : Int))).bind fun _ =>
  (grd (0 ≤ p2 ∧ p2 < (16 : Int))).bind fun _ =>
  (grd (0 ≤ p1 ∧ p1 < (16 : Int))).bind fun _ =>
  (grd (0 ≤ p4 ∧ p4 < (16 : Int))).bind fun _ =>
  (grd (0 ≤ p1 ∧ p1 < (16 : Int))).bind fun _ =>
  (ref03_rotl (bits .xor .u32 (rd (vs p0 p1 (IntKind.u32.wrap ((rd p0.toList p1) + (rd p0.toList p2)))).toList p4) (rd (vs p0 p1 (IntKind.u32.wrap ((rd p0.toList p1) + (rd p0.toList p2)))).toList p1)) (16 : Int)).bind fun t64 =>
  (grd (0 ≤ p4 ∧ p4 < (16 : Int))).bind fun _ =>
  (grd (0 ≤ p3 ∧ p3 < (16 : Int))).bind fun _ =>
  (grd (0 ≤ p4 ∧ p4 < (16 : Int))).bind fun _ =>
  (grd (0 ≤ p3 ∧ p3 < (16 : Int))).bind fun _ =>
  (some (vs (vs (vs p0 p1 (IntKind.u32.wrap ((rd p0.toList p1) + (rd p0.toList p2)))) p4 t64) p3 (IntKind.u32.wrap ((rd (vs (vs p0 p1 (IntKind.u32.wrap ((rd p0.toList p1) + (rd p0.toList p2)))) p4 t64).toList p3) + (rd (vs (vs p0 p1 (IntKind.u32.wrap ((rd p0.toList p1) + (rd p0.toList p2)))) p4 t64).toList p4))))).bind fun z106 =>
  (grd (0 ≤ p2 ∧ p2 < (16 : Int))).bind fun _ =>
  (grd (0 ≤ p3 ∧ p3 < (16 : Int))).bind fun _ =>
  (ref03_rotl (bits .xor .u32 (rd z106.toList p2) (rd z106.toList p3)) (12 : Int)).bind fun t138 =>
  (grd (0 ≤ p2 ∧ p2 < (16 : Int))).bind fun _ =>
  (grd (0 ≤ p1 ∧ p1 < (16 : Int))).bind fun _ =>
  (grd (0 ≤ p2 ∧ p2 < (16 : Int))).bind fun _ =>
  (grd (0 ≤ p1 ∧ p1 < (16 : Int))).bind fun _ =>
  (grd (0 ≤ p4 ∧ p4 < (16 : Int))).bind fun _ =>
  (grd (0 ≤ p1 ∧ p1 < (16 : Int))).bind fun _ =>
  (ref03_rotl (bits .xor .u32 (rd (vs (vs z106 p2 t138) p1 (IntKind.u32.wrap ((rd (vs z106 p2 t138).toList p1) + (rd (vs z106 p2 t138).toList p2)))).toList p4) (rd (vs (vs z106 p2 t138) p1 (IntKind.u32.wrap ((rd (vs z106 p2 t138).toList p1) + (rd (vs z106 p2 t138).toList p2)))).toList p1)) (8 : Int)).bind fun t209 =>
  (grd (0 ≤ p4 ∧ p4 < (16 : Int))).bind fun _ =>
  (grd (0 ≤ p3 ∧ p3 < (16 : Int))).bind fun _ =>
  (grd (0 ≤ p4 ∧ p4 < (16 : Int))).bind fun _ =>
  (grd (0 ≤ p3 ∧ p3 < (16 : Int))).bind fun _ =>
  (some (vs (vs (vs (vs z106 p2 t138) p1 (IntKind.u32.wrap ((rd (vs z106 p2 t138).toList p1) + (rd (vs z106 p2 t138).toList p2)))) p4 t209) p3 (IntKind.u32.wrap ((rd (vs (vs (vs z106 p2 t138) p1 (IntKind.u32.wrap ((rd (vs z106 p2 t138).toList p1) + (rd (vs z106 p2 t138).toList p2)))) p4 t209).toList p3) + (rd (vs (vs (vs z106 p2 t138) p1 (IntKind.u32.wrap ((rd (vs z106 p2 t138).toList p1) + (rd (vs z106 p2 t138).toList p2)))) p4 t209).toList p4))))).bind fun z251 =>
  (grd (0 ≤ p2 ∧ p2 < (16 : Int))).bind fun _ =>
  (grd (0 ≤ p3 ∧ p3 < (16 : Int))).bind fun _ =>
  (ref03_rotl (bits .xor .u32 (rd z251.toList p2) (rd z251.toList p3)) (7 : Int)).bind fun t283 =>
  (grd (0 ≤ p2 ∧ p2 < (16 : Int))).bind fun _ =>
  some ((vs z251 p2 t283))
noncomputable def ref03_Rounds.j1 (x13 : (Vector Int 16)) : Option (Vector Int 16) :=
  some (x13)
noncomputable def ref03_Rounds.j2 (x26 : (Vector Int 16)) (s18 : ((Vector Int 16) × Int)) : Option (((Vector Int 16) × Int) ⊕ (Vector Int 16)) :=
  some (.inl (x26, (IntKind.i64.wrap (s18.2 + (1 : Int)))))
noncomputable def ref03_Rounds.l3 (t5 : (List (List Int))) (s18 : ((Vector Int 16) × Int)) (s30 : ((Vector Int 16) × Int)) : Option (((Vector Int 16) × Int) ⊕ (((Vector Int 16) × Int) ⊕ (Vector Int 16))) :=
  if (decide (s30.2 < (t5.length : Int))) then
    (grd (0 ≤ s30.2 ∧ s30.2 < (t5.length : Int))).bind fun _ =>
    (grd (0 ≤ (0 : Int) ∧ (0 : Int) < ((rd t5 s30.2).length : Int))).bind fun _ =>
    (grd (0 ≤ s30.2 ∧ s30.2 < (t5.length : Int))).bind fun _ =>
    (grd (0 ≤ (1 : Int) ∧ (1 : Int) < ((rd t5 s30.2).length : Int))).bind fun _ =>
    (grd (0 ≤ s30.2 ∧ s30.2 < (t5.length : Int))).bind fun _ =>
    (grd (0 ≤ (2 : Int) ∧ (2 : Int) < ((rd t5 s30.2).length : Int))).bind fun _ =>
    (grd (0 ≤ s30.2 ∧ s30.2 < (t5.length : Int))).bind fun _ =>
    (grd (0 ≤ (3 : Int) ∧ (3 : Int) < ((rd t5 s30.2).length : Int))).bind fun _ =>
    (ref03_quarter s30.1 (rd (rd t5 s30.2) (0 : Int)) (rd (rd t5 s30.2) (1 : Int)) (rd (rd t5 s30.2) (2 : Int)) (rd (rd t5 s30.2) (3 : Int))).bind fun t149 =>
    some (.inl (t149, (IntKind.i64.wrap (s30.2 + (1 : Int)))))
  else
    (ref03_Rounds.j2 s30.1 s18).map Sum.inr
noncomputable def ref03_Rounds.l4 (t5 : (List (List Int))) (s18 : ((Vector Int 16) × Int)) : Option (((Vector Int 16) × Int) ⊕ (Vector Int 16)) :=
  if (decide (s18.2 < (10 : Int))) then
    loopF (ref03_Rounds.l3 t5 s18) (s18.1, (0 : Int))
  else
    (ref03_Rounds.j1 s18.1).map Sum.inr
noncomputable def ref03_Rounds (p0 : (Vector Int 16)) : Option (Vector Int 16) :=
  (ref03_Order).bind fun t5 =>
  loopF (ref03_Rounds.l4 t5) (p0, (0 : Int))
noncomputable def ref03_Block.j1 (x23 : (List Int)) : Option ((List UInt8) × Int) :=
  some (((intsB x23), (0 : Int)))
noncomputable def ref03_Block.l2 (t3 : ((Vector Int 16) × Int)) (t15 : (Vector Int 16)) (s32 : ((List Int) × Int)) : Option (((List Int) × Int) ⊕ ((List UInt8) × Int)) :=
  if (decide (s32.2 < (16 : Int))) then
    (grd (0 ≤ s32.2 ∧ s32.2 < (16 : Int))).bind fun _ =>
    (grd (0 ≤ s32.2 ∧ s32.2 < (16 : Int))).bind fun _ =>
    (grd (s32.1.length + ([(IntKind.u8.wrap (IntKind.u32.wrap ((rd t3.1.toList s32.2) + (rd t15.toList s32.2)))), (IntKind.u8.wrap (shrI .u32 (IntKind.u32.wrap ((rd t3.1.toList s32.2) + (rd t15.toList s32.2))) (8 : Int))), (IntKind.u8.wrap (shrI .u32 (IntKind.u32.wrap ((rd t3.1.toList s32.2) + (rd t15.toList s32.2))) (16 : Int))), (IntKind.u8.wrap (shrI .u32 (IntKind.u32.wrap ((rd t3.1.toList s32.2) + (rd t15.toList s32.2))) (24 : Int)))] : List Int).length < 68719476736)).bind fun _ =>
    some (.inl ((s32.1 ++ ([(IntKind.u8.wrap (IntKind.u32.wrap ((rd t3.1.toList s32.2) + (rd t15.toList s32.2)))), (IntKind.u8.wrap (shrI .u32 (IntKind.u32.wrap ((rd t3.1.toList s32.2) + (rd t15.toList s32.2))) (8 : Int))), (IntKind.u8.wrap (shrI .u32 (IntKind.u32.wrap ((rd t3.1.toList s32.2) + (rd t15.toList s32.2))) (16 : Int))), (IntKind.u8.wrap (shrI .u32 (IntKind.u32.wrap ((rd t3.1.toList s32.2) + (rd t15.toList s32.2))) (24 : Int)))] : List Int)), (IntKind.i64.wrap (s32.2 + (1 : Int)))))
  else
    (ref03_Block.j1 s32.1).map Sum.inr
noncomputable def ref03_Block (p0 : (List UInt8)) (p1 : Int) (p2 : (List UInt8)) : Option ((List UInt8) × Int) :=
  (ref03_State p0 p1 p2).bind fun t3 =>
  if (t3.2 != (0 : Int)) then
    some ((([] : List UInt8), t3.2))
  else
    (ref03_Rounds t3.1).bind fun t15 =>
    loopF (ref03_Block.l2 t3 t15) (([] : (List Int)), (0 : Int))
noncomputable def ref03_Xor.j1 (x15 : (List Int)) : Option ((List UInt8) × Int) :=
  some (((intsB x15), (0 : Int)))
noncomputable def ref03_Xor.j2 (s23 : ((List Int) × Int × (List UInt8))) (x40 : (List Int)) : Option (((List Int) × Int × (List UInt8)) ⊕ ((List UInt8) × Int)) :=
  (grd (0 ≤ (if (s23.2.2.length : Int) < (64 : Int) then (s23.2.2.length : Int) else (64 : Int)) ∧ (if (s23.2.2.length : Int) < (64 : Int) then (s23.2.2.length : Int) else (64 : Int)) ≤ (s23.2.2.length : Int) ∧ (s23.2.2.length : Int) ≤ (s23.2.2.length : Int))).bind fun _ =>
  some (.inl (x40, (IntKind.u32.wrap (s23.2.1 + (1 : Int))), ((s23.2.2.take ((s23.2.2.length : Int)).toNat).drop ((if (s23.2.2.length : Int) < (64 : Int) then (s23.2.2.length : Int) else (64 : Int))).toNat)))
noncomputable def ref03_Xor.l3 (s23 : ((List Int) × Int × (List UInt8))) (t33 : ((List UInt8) × Int)) (s47 : ((List Int) × Int)) : Option (((List Int) × Int) ⊕ (((List Int) × Int × (List UInt8)) ⊕ ((List UInt8) × Int))) :=
  if (decide (s47.2 < (if (s23.2.2.length : Int) < (64 : Int) then (s23.2.2.length : Int) else (64 : Int)))) then
    (grd (0 ≤ s47.2 ∧ s47.2 < (s23.2.2.length : Int))).bind fun _ =>
    (grd (0 ≤ s47.2 ∧ s47.2 < (t33.1.length : Int))).bind fun _ =>
    (grd (s47.1.length + ([(bits .xor .u8 (sbyte s23.2.2 s47.2) (sbyte t33.1 s47.2))] : List Int).length < 68719476736)).bind fun _ =>
    some (.inl ((s47.1 ++ ([(bits .xor .u8 (sbyte s23.2.2 s47.2) (sbyte t33.1 s47.2))] : List Int)), (IntKind.i64.wrap (s47.2 + (1 : Int)))))
  else
    (ref03_Xor.j2 s23 s47.1).map Sum.inr
noncomputable def ref03_Xor.l4 (p0 : (List UInt8)) (p2 : (List UInt8)) (s23 : ((List Int) × Int × (List UInt8))) : Option (((List Int) × Int × (List UInt8)) ⊕ ((List UInt8) × Int)) :=
  if (decide ((0 : Int) < (s23.2.2.length : Int))) then
    (ref03_Block p0 s23.2.1 p2).bind fun t33 =>
    loopF (ref03_Xor.l3 s23 t33) (s23.1, (0 : Int))
  else
    (ref03_Xor.j1 s23.1).map Sum.inr
noncomputable def ref03_Xor (p0 : (List UInt8)) (p1 : Int) (p2 : (List UInt8)) (p3 : (List UInt8)) : Option ((List UInt8) × Int) :=
  (ref03_State p0 p1 p2).bind fun t3 =>
  if (t3.2 != (0 : Int)) then
    some ((([] : List UInt8), t3.2))
  else
    loopF (ref03_Xor.l4 p0 p2) (([] : (List Int)), p1, p3)
noncomputable def ref04_tag (p0 : (List UInt8)) (p1 : (List UInt8)) (p2 : (List UInt8)) (p3 : (List UInt8)) : Option (List UInt8) :=
  (grd (([116, 97, 103] : List UInt8).length + p1.length ≤ 9223372036854775807)).bind fun _ =>
  (ref01_Bytes p2).bind fun t4 =>
  (grd ((([116, 97, 103] : List UInt8) ++ p1).length + (intsB t4).length ≤ 9223372036854775807)).bind fun _ =>
  (grd (((([116, 97, 103] : List UInt8) ++ p1) ++ (intsB t4)).length + p3.length ≤ 9223372036854775807)).bind fun _ =>
  (ref02_Mac p0 (((([116, 97, 103] : List UInt8) ++ p1) ++ (intsB t4)) ++ p3)).bind fun t14 =>
  (grd (0 ≤ (0 : Int) ∧ (0 : Int) ≤ (16 : Int) ∧ (16 : Int) ≤ (t14.length : Int))).bind fun _ =>
  some (((t14.take ((16 : Int)).toNat).drop ((0 : Int)).toNat))
noncomputable def ref04_Seal (p0 : (List UInt8)) (p1 : (List UInt8)) (p2 : (List UInt8)) : Option ((List UInt8) × Int) :=
  (ref04_Keys p0).bind fun t3 =>
  if (t3.2.2 != (0 : Int)) then
    some ((([] : List UInt8), t3.2.2))
  else
    (
      if (decide ((1048576 : Int) < (p1.length : Int))) then
        some true
      else
        some (decide ((1048576 : Int) < (p2.length : Int)))).bind fun t14 =>
    if t14 then
      some ((([] : List UInt8), (2 : Int)))
    else
      (ref04_nonce t3.2.1 p1 p2).bind fun t21 =>
      (ref03_Xor t3.1 (1 : Int) t21 p2).bind fun t28 =>
      (grd (t21.length + t28.1.length ≤ 9223372036854775807)).bind fun _ =>
      (ref04_tag t3.2.1 t21 p1 t28.1).bind fun t36 =>
      (grd ((t21 ++ t28.1).length + t36.length ≤ 9223372036854775807)).bind fun _ =>
      some ((((t21 ++ t28.1) ++ t36), (0 : Int)))
noncomputable def law04_sanity  : Option Bool :=
  (strings_Repeat ([107] : List UInt8) (32 : Int)).bind fun t3 =>
  (seal_Seal t3 ([97] : List UInt8) ([116, 101, 120, 116] : List UInt8)).bind fun t10 =>
  (seal_Open t3 ([97] : List UInt8) t10.1).bind fun t17 =>
  (seal_Open t3 ([98] : List UInt8) t10.1).bind fun t24 =>
  (strings_Repeat ([120] : List UInt8) (27 : Int)).bind fun t31 =>
  (seal_Open t3 ([97] : List UInt8) t31).bind fun t37 =>
  (grd (0 ≤ (1 : Int) ∧ (1 : Int) ≤ (t3.length : Int) ∧ (t3.length : Int) ≤ (t3.length : Int))).bind fun _ =>
  (seal_Seal ((t3.take ((t3.length : Int)).toNat).drop ((1 : Int)).toNat) ([97] : List UInt8) ([] : List UInt8)).bind fun t45 =>
  (seal_Keys t3).bind fun t52 =>
  (ref04_Seal t3 ([97] : List UInt8) ([116, 101, 120, 116] : List UInt8)).bind fun t59 =>
  (
    if ((t10.1.length : Int) == (32 : Int)) then
      if (t10.1 == t59.1) then
        if (t10.2 == (0 : Int)) then
          if (t17.1 == ([116, 101, 120, 116] : List UInt8)) then
            if (t17.2 == (0 : Int)) then
              if (t24.2 == (8 : Int)) then
                if (t37.2 == (5 : Int)) then
                  if (t45.2 == (1 : Int)) then
                    if ((t52.1.length : Int) == (32 : Int)) then
                      if ((t52.2.1.length : Int) == (32 : Int)) then
                        if (!(t52.1 == t52.2.1)) then
                          some (t52.2.2 == (0 : Int))
                        else
                          some false
                      else
                        some false
                    else
                      some false
                  else
                    some false
                else
                  some false
              else
                some false
            else
              some false
          else
            some false
        else
          some false
      else
        some false
    else
      some false).bind fun t65 =>
  some (t65)
noncomputable def law04_SealMatchesSpec (p0 : (List UInt8)) (p1 : (List UInt8)) (p2 : (List UInt8)) : Option Bool :=
  (law04_few ([p0, p1, p2] : List (List UInt8))).bind fun t9 =>
  if (!t9) then
    (law04_sanity).bind fun t17 =>
    some (t17)
  else
    (seal_Keys p0).bind fun t24 =>
    (ref04_Keys p0).bind fun t31 =>
    (seal_Seal p0 p1 p2).bind fun t38 =>
    (ref04_Seal p0 p1 p2).bind fun t45 =>
    (
      (law04_sanity).bind fun t65 =>
      if t65 then
        if (t24.1 == t31.1) then
          if (t24.2.1 == t31.2.1) then
            if (t24.2.2 == t31.2.2) then
              if (t38.1 == t45.1) then
                some (t38.2 == t45.2)
              else
                some false
            else
              some false
          else
            some false
        else
          some false
      else
        some false).bind fun t51 =>
    some (t51)
noncomputable def ref04_Open (p0 : (List UInt8)) (p1 : (List UInt8)) (p2 : (List UInt8)) : Option ((List UInt8) × Int) :=
  (ref04_Keys p0).bind fun t3 =>
  if (t3.2.2 != (0 : Int)) then
    some ((([] : List UInt8), t3.2.2))
  else
    (
      if (decide ((1048576 : Int) < (p1.length : Int))) then
        some true
      else
        some (decide ((1048604 : Int) < (p2.length : Int)))).bind fun t14 =>
    if t14 then
      some ((([] : List UInt8), (2 : Int)))
    else
      if (decide ((p2.length : Int) < (28 : Int))) then
        some ((([] : List UInt8), (5 : Int)))
      else
        (grd (0 ≤ (0 : Int) ∧ (0 : Int) ≤ (12 : Int) ∧ (12 : Int) ≤ (p2.length : Int))).bind fun _ =>
        (grd (0 ≤ (12 : Int) ∧ (12 : Int) ≤ (IntKind.i64.wrap ((p2.length : Int) - (16 : Int))) ∧ (IntKind.i64.wrap ((p2.length : Int) - (16 : Int))) ≤ (p2.length : Int))).bind fun _ =>
        (grd (0 ≤ (IntKind.i64.wrap ((p2.length : Int) - (16 : Int))) ∧ (IntKind.i64.wrap ((p2.length : Int) - (16 : Int))) ≤ (p2.length : Int) ∧ (p2.length : Int) ≤ (p2.length : Int))).bind fun _ =>
        (ref04_tag t3.2.1 ((p2.take ((12 : Int)).toNat).drop ((0 : Int)).toNat) p1 ((p2.take ((IntKind.i64.wrap ((p2.length : Int) - (16 : Int)))).toNat).drop ((12 : Int)).toNat)).bind fun t59 =>
        if (!(((p2.take ((p2.length : Int)).toNat).drop ((IntKind.i64.wrap ((p2.length : Int) - (16 : Int)))).toNat) == t59)) then
          some ((([] : List UInt8), (8 : Int)))
        else
          (ref03_Xor t3.1 (1 : Int) ((p2.take ((12 : Int)).toNat).drop ((0 : Int)).toNat) ((p2.take ((IntKind.i64.wrap ((p2.length : Int) - (16 : Int)))).toNat).drop ((12 : Int)).toNat)).bind fun t75 =>
          (ref04_nonce t3.2.1 p1 t75.1).bind fun t83 =>
          if (!(t83 == ((p2.take ((12 : Int)).toNat).drop ((0 : Int)).toNat))) then
            some ((([] : List UInt8), (8 : Int)))
          else
            some ((t75.1, (0 : Int)))
noncomputable def law04_SealOpensAsSpecified (p0 : (List UInt8)) (p1 : (List UInt8)) (p2 : (List UInt8)) : Option Bool :=
  (law04_few ([p0, p1, p2] : List (List UInt8))).bind fun t9 =>
  if (!t9) then
    (law04_sanity).bind fun t17 =>
    some (t17)
  else
    (seal_Open p0 p1 p2).bind fun t24 =>
    (ref04_Open p0 p1 p2).bind fun t31 =>
    (
      (law04_sanity).bind fun t48 =>
      if t48 then
        if (t24.1 == t31.1) then
          some (t24.2 == t31.2)
        else
          some false
      else
        some false).bind fun t37 =>
    some (t37)
noncomputable def law04_SealRoundTrip (p0 : (List UInt8)) (p1 : (List UInt8)) (p2 : (List UInt8)) : Option Bool :=
  (law04_few ([p0, p1, p2] : List (List UInt8))).bind fun t9 =>
  if (!t9) then
    (law04_sanity).bind fun t17 =>
    some (t17)
  else
    (seal_Seal p0 p1 p2).bind fun t24 =>
    if (t24.2 != (0 : Int)) then
      (
        (law04_sanity).bind fun t45 =>
        if t45 then
          if (t24.1 == ([] : List UInt8)) then
            if (t24.2 == (1 : Int)) then
              some ((p0.length : Int) != (32 : Int))
            else
              some false
          else
            some false
        else
          some false).bind fun t33 =>
      some (t33)
    else
      (seal_Open p0 p1 t24.1).bind fun t55 =>
      (
        (law04_sanity).bind fun t73 =>
        if t73 then
          if (t55.1 == p2) then
            if (t55.2 == (0 : Int)) then
              some ((t24.1.length : Int) == (IntKind.i64.wrap ((p2.length : Int) + (28 : Int))))
            else
              some false
          else
            some false
        else
          some false).bind fun t61 =>
      some (t61)
noncomputable def law04_SealChanged (p0 : (List UInt8)) (p1 : (List UInt8)) (p2 : (List UInt8)) (p3 : (List UInt8)) : Option Bool :=
  (law04_few ([p0, p1, p2, p3] : List (List UInt8))).bind fun t9 =>
  if (!t9) then
    (law04_sanity).bind fun t17 =>
    some (t17)
  else
    (seal_Seal p0 p1 p2).bind fun t24 =>
    (
      if (t24.2 != (0 : Int)) then
        some true
      else
        some (t24.1 == p3)).bind fun t31 =>
    if t31 then
      (law04_sanity).bind fun t37 =>
      some (t37)
    else
      (seal_Open p0 p1 p3).bind fun t44 =>
      (
        (law04_sanity).bind fun t61 =>
        if t61 then
          if (t44.2 != (0 : Int)) then
            some true
          else
            some (!(t44.1 == p2))
        else
          some false).bind fun t50 =>
      some (t50)
noncomputable def law04_SealInjective (p0 : (List UInt8)) (p1 : (List UInt8)) (p2 : (List UInt8)) (p3 : (List UInt8)) (p4 : (List UInt8)) : Option Bool :=
  (law04_few ([p0, p1, p2, p3, p4] : List (List UInt8))).bind fun t9 =>
  if (!t9) then
    (law04_sanity).bind fun t17 =>
    some (t17)
  else
    (seal_Seal p0 p1 p2).bind fun t24 =>
    (seal_Seal p0 p3 p4).bind fun t31 =>
    (
      (law04_sanity).bind fun t50 =>
      if t50 then
        if (t24.2 == t31.2) then
          if (t24.2 != (0 : Int)) then
            some true
          else
            if (!(t24.1 == t31.1)) then
              some true
            else
              some (p2 == p4)
        else
          some false
      else
        some false).bind fun t37 =>
    some (t37)
end Go.Cu
