/- Plain laws on the pure functions; no program is named. -/
import Derived.Test.YtakfalfggmgcfaaDoorD12
set_option linter.unusedVariables false
set_option linter.unusedSimpArgs false
/-! Plain laws: sealing and opening. -/
namespace Go.Cu
attribute [local irreducible] macS xorS bytesS blkS bits
def encK (key : List UInt8) : List UInt8 := macS key [101, 110, 99]
def macK (key : List UInt8) : List UInt8 := macS key [109, 97, 99]
def nonceS (key ad text : List UInt8) : List UInt8 := (macS (macK key) ([110, 111, 110, 99, 101] ++ bytesS ad ++ text)).take 12
def tagS (key n ad c : List UInt8) : List UInt8 := (macS (macK key) ([116, 97, 103] ++ n ++ bytesS ad ++ c)).take 16
def sealS (key ad text : List UInt8) : List UInt8 := nonceS key ad text ++ xorS (encK key) (nonceS key ad text) text ++ tagS key (nonceS key ad text) ad (xorS (encK key) (nonceS key ad text) text)
def openS (key ad blob : List UInt8) : List UInt8 × Int :=
  let n := blob.take 12
  let c := (blob.take (blob.length - 16)).drop 12
  if tagS key n ad c = blob.drop (blob.length - 16) then
    let t := xorS (encK key) n c
    if nonceS key ad t = n then (t, 0) else ([], 8)
  else ([], 8)
theorem encK_len (key : List UInt8) : (encK key).length = 32 := macS_len _ _
theorem macK_len (key : List UInt8) : (macK key).length = 32 := macS_len _ _
theorem nonceS_len (key ad text : List UInt8) : (nonceS key ad text).length = 12 := by unfold nonceS; simp [macS_len]
theorem tagS_len (key n ad c : List UInt8) : (tagS key n ad c).length = 16 := by unfold tagS; simp [macS_len]
theorem Keys_ok (key : List UInt8) (h : key.length < 68719470000) : seal_Keys key = some (if key.length = 32 then (encK key, macK key, 0) else ([], [], 1)) := by
  unfold seal_Keys
  by_cases hk : key.length = 32
  · rw [if_neg (by simp; omega), Mac_ok _ _ (by omega) (by simp), bind_s, Mac_ok _ _ (by omega) (by simp), bind_s, if_pos hk]; rfl
  · rw [if_pos (by simp; omega), if_neg hk]
theorem ref_Keys_ok (key : List UInt8) (h : key.length < 68719470000) : ref04_Keys key = some (if key.length = 32 then (encK key, macK key, 0) else ([], [], 1)) := by
  unfold ref04_Keys
  by_cases hk : key.length = 32
  · rw [if_neg (by simp; omega), ref02_Mac_ok _ _ (by omega) (by simp), bind_s, ref02_Mac_ok _ _ (by omega) (by simp), bind_s, if_pos hk]; rfl
  · rw [if_pos (by simp; omega), if_neg hk]
theorem drop0 {α : Type} (l : List α) (n : Nat) : ((l.take n).drop (0 : Int).toNat) = l.take n := rfl
theorem code_ok (m : List UInt8) (n : Nat) (ps : List (List UInt8)) (hm : m.length = 32) (hn : n ≤ 32) (hp : ps.length ≤ 10) (hl : (([] : List UInt8).intercalate ps).length < 68719460000) :
    seal_code m (n : Int) ps = some ((macS m (([] : List UInt8).intercalate ps)).take n) := by
  unfold seal_code strings_Join
  rw [grd_b (by constructor <;> omega), bind_s, Mac_ok _ _ (by omega) (by omega), bind_s, grd_b (by rw [macS_len]; omega)]
  rfl
theorem code12 (m : List UInt8) (ps : List (List UInt8)) (hm : m.length = 32) (hp : ps.length ≤ 10) (hl : (([] : List UInt8).intercalate ps).length < 68719460000) : seal_code m 12 ps = some ((macS m (([] : List UInt8).intercalate ps)).take 12) := code_ok m 12 ps hm (by decide) hp hl
theorem code16 (m : List UInt8) (ps : List (List UInt8)) (hm : m.length = 32) (hp : ps.length ≤ 10) (hl : (([] : List UInt8).intercalate ps).length < 68719460000) : seal_code m 16 ps = some ((macS m (([] : List UInt8).intercalate ps)).take 16) := code_ok m 16 ps hm (by decide) hp hl
theorem inter3 (a b c : List UInt8) : ([] : List UInt8).intercalate [a, b, c] = a ++ b ++ c := by simp [List.intercalate]
theorem inter4 (a b c d : List UInt8) : ([] : List UInt8).intercalate [a, b, c, d] = a ++ b ++ c ++ d := by simp [List.intercalate]
theorem nonce_code (key ad text : List UInt8) (h1 : ad.length < 65536) (h2 : text.length < 65536) : seal_code (macK key) 12 [[110, 111, 110, 99, 101], bytesS ad, text] = some (nonceS key ad text) := by
  have hb := bytesS_len ad
  rw [code12 _ _ (macK_len _) (by simp) (by rw [inter3]; simp; omega), inter3]; rfl
theorem tag_code (key n ad c : List UInt8) (h1 : ad.length < 65536) (h2 : c.length < 65536) (h3 : n.length ≤ 12) : seal_code (macK key) 16 [[116, 97, 103], n, bytesS ad, c] = some (tagS key n ad c) := by
  have hb := bytesS_len ad
  rw [code16 _ _ (macK_len _) (by simp) (by rw [inter4]; simp; omega), inter4]; rfl
theorem Seal_ok (key ad text : List UInt8) (h0 : key.length < 65536) (h1 : ad.length < 65536) (h2 : text.length < 65536) :
    seal_Seal key ad text = some (if key.length = 32 then (sealS key ad text, 0) else ([], 1)) := by
  unfold seal_Seal
  rw [Keys_ok _ (by omega), bind_s]
  by_cases hk : key.length = 32
  · simp only [if_pos hk]
    obtain ⟨l, e1, e2⟩ := wire_Bytes_ok ad h1
    have hn := nonceS_len key ad text
    have hx := xorS_len (encK key) (nonceS key ad text) text
    rw [if_neg (by simp), ite_f (by omega), bind_s, ite_f (by omega), e1, bind_s, e2, nonce_code key ad text h1 h2, bind_s, Xor_ok _ _ _ (encK_len _) hn (by omega), bind_s, grd_b (by simp only; omega), tag_code key _ ad _ h1 (by simp only; omega) (by omega), bind_s,
      grd_b (by simp only [List.length_append]; rw [tagS_len]; omega)]
    rfl
  · simp only [if_neg hk]
    rw [if_pos (by simp)]
theorem ref_nonce_ok (key ad text : List UInt8) (h1 : ad.length < 65536) (h2 : text.length < 65536) : ref04_nonce (macK key) ad text = some (nonceS key ad text) := by
  have hb := bytesS_len ad
  obtain ⟨l, e1, e2⟩ := ref_Bytes_ok ad h1
  unfold ref04_nonce
  rw [e1, bind_s, e2, grd_b (by simp; omega), grd_b (by simp; omega), ref02_Mac_ok _ _ (by rw [macK_len]; decide) (by simp; omega), bind_s, grd_b (by rw [macS_len]; omega)]
  rfl
theorem ref_tag_ok (key n ad c : List UInt8) (h1 : ad.length < 65536) (h2 : c.length < 65536) (h3 : n.length ≤ 12) : ref04_tag (macK key) n ad c = some (tagS key n ad c) := by
  have hb := bytesS_len ad
  obtain ⟨l, e1, e2⟩ := ref_Bytes_ok ad h1
  unfold ref04_tag
  rw [grd_b (by simp; omega), e1, bind_s, e2, grd_b (by simp; omega), grd_b (by simp; omega), ref02_Mac_ok _ _ (by rw [macK_len]; decide) (by simp; omega), bind_s, grd_b (by rw [macS_len]; omega)]
  rfl
theorem ref_Seal_ok (key ad text : List UInt8) (h0 : key.length < 65536) (h1 : ad.length < 65536) (h2 : text.length < 65536) :
    ref04_Seal key ad text = some (if key.length = 32 then (sealS key ad text, 0) else ([], 1)) := by
  unfold ref04_Seal
  rw [ref_Keys_ok _ (by omega), bind_s]
  by_cases hk : key.length = 32
  · simp only [if_pos hk]
    have hn := nonceS_len key ad text
    have hx := xorS_len (encK key) (nonceS key ad text) text
    rw [if_neg (by simp), ite_f (by omega), bind_s, ite_f (by omega), ref_nonce_ok key ad text h1 h2, bind_s, ref_Xor_ok _ _ _ (encK_len _) hn (by omega), bind_s, grd_b (by simp only; omega), ref_tag_ok key _ ad _ h1 (by simp only; omega) (by omega), bind_s,
      grd_b (by simp only [List.length_append]; rw [tagS_len]; omega)]
    rfl
  · simp only [if_neg hk]
    rw [if_pos (by simp)]
def openR (key ad blob : List UInt8) : List UInt8 × Int := if key.length = 32 then (if blob.length < 28 then ([], 5) else openS key ad blob) else ([], 1)
theorem cuts (b : List UInt8) (h : 28 ≤ b.length) (hb : b.length < 65536) : IntKind.i64.wrap ((b.length : Int) - 16) = ((b.length - 16 : Nat) : Int) := by
  rw [wrap_id (by omega) (by omega)]; omega
theorem Open_ok (key ad blob : List UInt8) (h0 : key.length < 65536) (h1 : ad.length < 65536) (h2 : blob.length < 65536) : seal_Open key ad blob = some (openR key ad blob) := by
  unfold seal_Open openR
  rw [Keys_ok _ (by omega), bind_s]
  by_cases hk : key.length = 32
  · simp only [if_pos hk]
    obtain ⟨l, e1, e2⟩ := wire_Bytes_ok ad h1
    rw [if_neg (by simp), ite_f (by omega), bind_s, ite_f (by omega)]
    by_cases hs : blob.length < 28
    · rw [ite_t (by omega), if_pos hs]
    · have hc := cuts blob (by omega) h2
      rw [ite_f (by omega), if_neg hs, e1, bind_s, e2]
      simp only [hc, Int.toNat_natCast]
      obtain ⟨n, hn⟩ : ∃ n, n = blob.take 12 := ⟨_, rfl⟩
      obtain ⟨c, hcc⟩ : ∃ c, c = (blob.take (blob.length - 16)).drop 12 := ⟨_, rfl⟩
      have hnl : n.length = 12 := by rw [hn]; simp; omega
      have hcl : c.length < 65536 := by rw [hcc]; simp; omega
      have e3 : ((blob.take (12 : Int).toNat).drop (0 : Int).toNat) = n := by rw [hn]; rfl
      have e4 : ((blob.take (blob.length - 16)).drop (12 : Int).toNat) = c := by rw [hcc]; rfl
      rw [grd_b (by omega), grd_b (by omega), e3, e4, tag_code key n ad c h1 hcl (by omega), bind_s, grd_b (by omega), List.take_length]
      unfold openS
      simp only [← hn, ← hcc]
      by_cases ht : tagS key n ad c = blob.drop (blob.length - 16)
      · rw [if_neg (by simp [ht]), if_pos ht, Xor_ok _ _ _ (encK_len _) hnl (by omega), bind_s, nonce_code key ad _ h1 (by simp only; rw [xorS_len]; exact hcl), bind_s]
        by_cases hno : nonceS key ad (xorS (encK key) n c) = n
        · rw [if_neg (by simp [hno]), if_pos hno]
        · rw [if_pos (by simp [hno]), if_neg hno]
      · rw [if_pos (by simp [ht]), if_neg ht]
  · simp only [if_neg hk]
    rw [if_pos (by simp)]
theorem ref_Open_ok (key ad blob : List UInt8) (h0 : key.length < 65536) (h1 : ad.length < 65536) (h2 : blob.length < 65536) : ref04_Open key ad blob = some (openR key ad blob) := by
  unfold ref04_Open openR
  rw [ref_Keys_ok _ (by omega), bind_s]
  by_cases hk : key.length = 32
  · simp only [if_pos hk]
    rw [if_neg (by simp), ite_f (by omega), bind_s, ite_f (by omega)]
    by_cases hs : blob.length < 28
    · rw [ite_t (by omega), if_pos hs]
    · have hc := cuts blob (by omega) h2
      rw [ite_f (by omega), if_neg hs]
      simp only [hc, Int.toNat_natCast]
      obtain ⟨n, hn⟩ : ∃ n, n = blob.take 12 := ⟨_, rfl⟩
      obtain ⟨c, hcc⟩ : ∃ c, c = (blob.take (blob.length - 16)).drop 12 := ⟨_, rfl⟩
      have hnl : n.length = 12 := by rw [hn]; simp; omega
      have hcl : c.length < 65536 := by rw [hcc]; simp; omega
      have e3 : ((blob.take (12 : Int).toNat).drop (0 : Int).toNat) = n := by rw [hn]; rfl
      have e4 : ((blob.take (blob.length - 16)).drop (12 : Int).toNat) = c := by rw [hcc]; rfl
      rw [grd_b (by omega), grd_b (by omega), grd_b (by omega), e3, e4, ref_tag_ok key n ad c h1 hcl (by omega), bind_s, List.take_length]
      unfold openS
      simp only [← hn, ← hcc]
      by_cases ht : tagS key n ad c = blob.drop (blob.length - 16)
      · rw [if_neg (by simp [ht]), if_pos ht, ref_Xor_ok _ _ _ (encK_len _) hnl (by omega), bind_s, ref_nonce_ok key ad _ h1 (by simp only; rw [xorS_len]; exact hcl), bind_s]
        by_cases hno : nonceS key ad (xorS (encK key) n c) = n
        · rw [if_neg (by simp [hno]), if_pos hno]
        · rw [if_pos (by simp [hno]), if_neg hno]
      · rw [if_pos (by simp [Ne.symm ht]), if_neg ht]
  · simp only [if_neg hk]
    rw [if_pos (by simp)]
end Go.Cu
