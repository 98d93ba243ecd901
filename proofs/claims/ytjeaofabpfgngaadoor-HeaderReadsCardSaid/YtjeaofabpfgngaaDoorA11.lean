/-
  What Encode writes, in plain Lean: a record is 512 bytes; a plain header is said alike by all three forms.
  No condition.
-/
import Derived.Test.YtjeaofabpfgngaaDoorA10
namespace Go.Proofs.YtjeaofabpfgngaaDoor
open Go.KE

theorem putAt_get {rs bs : List UInt8} {o : Nat} (h : o + bs.length ≤ rs.length) (i : Nat) : (putAt rs o bs)[i]? = if o ≤ i ∧ i < o + bs.length then bs[i - o]? else rs[i]? := by
  have ht : (rs.take o).length = o := by rw [List.length_take]; omega
  unfold putAt
  rw [List.append_assoc]
  by_cases h1 : i < o
  · rw [List.getElem?_append_left (by omega), if_neg (by omega), List.getElem?_take, if_pos h1]
  · rw [List.getElem?_append_right (by omega), ht]
    by_cases h2 : i < o + bs.length
    · rw [List.getElem?_append_left (by omega), if_pos (by omega)]
    · rw [List.getElem?_append_right (by omega), if_neg (by omega), List.getElem?_drop]
      congr 1; omega

theorem textsGo_length (h : Hdr) : ∀ (m k : Nat) (rs rs' : List UInt8), rs.length = 512 → textsGo h m k rs = some rs' → rs'.length = 512
  | 0, _, rs, rs', hl, he => by rw [textsGo] at he; rw [← Option.some.inj he]; exact hl
  | m + 1, k, rs, rs', hl, he => by
    rw [textsGo] at he
    obtain ⟨h1, h2, h3⟩ := t_ok k
    split at he
    · cases he
    · have hsl : (txt h k).1.data.toList.length = (txt h k).1.size := by simp
      exact textsGo_length h m _ _ _ (by rw [putAt_length (by omega)]; exact hl) he
theorem numsGo_length (h : Hdr) : ∀ (m k : Nat) (rs rs' : List UInt8), rs.length = 512 → numsGo h m k rs = some rs' → rs'.length = 512
  | 0, _, rs, rs', hl, he => by rw [numsGo] at he; rw [← Option.some.inj he]; exact hl
  | m + 1, k, rs, rs', hl, he => by
    rw [numsGo] at he
    obtain ⟨h1, h2, h3, h4⟩ := n_ok k
    split at he
    · exact numsGo_length h m _ _ _ hl he
    · split at he
      · cases he
      · rename_i bs hbs
        have hbl := formField_length hbs (by omega)
        split at he
        · cases he
        · exact numsGo_length h m _ _ _ (by rw [putAt_length (by omega)]; exact hl) he
theorem magic_length (f : Int) : (magicOf f).length = 8 := by
  unfold magicOf
  split
  · rfl
  · split <;> rfl
theorem zero_length : zero512.length = 512 := List.length_replicate

/-- The record before its sum. -/
def bare (h : Hdr) (rs : List UInt8) : List UInt8 := putAt (putAt rs 156 [h.typ]) 257 (magicOf h.form)
theorem bare_length {h : Hdr} {rs : List UInt8} (hl : rs.length = 512) : (bare h rs).length = 512 := by
  have h1 : (putAt rs 156 [h.typ]).length = 512 := by rw [putAt_length (by simp; omega)]; exact hl
  have h2 := magic_length h.form
  rw [bare, putAt_length (by omega)]; exact h1

structure EncOk (h : Hdr) (rs rs2 : List UInt8) : Prop where
  form : h.form = 1 ∨ h.form = 2 ∨ h.form = 3
  said : saidB h = false
  typ : h.typ ≠ 0
  texts : textsGo h 5 0 zero512 = some rs
  nums : numsGo h 7 0 rs = some rs2
theorem EncOk.enc {h : Hdr} {rs rs2 : List UInt8} (k : EncOk h rs rs2) : encode h = (putSum (bare h rs2), 0) := by
  unfold encode
  rw [if_neg (by simp [k.form, k.said]), if_neg k.typ, k.texts]
  dsimp only
  rw [k.nums]
  rfl
theorem EncOk.length {h : Hdr} {rs rs2 : List UInt8} (k : EncOk h rs rs2) : rs2.length = 512 := numsGo_length h _ _ _ _ (textsGo_length h _ _ _ _ zero_length k.texts) k.nums
theorem encode_cases (h : Hdr) : (∃ rs rs2, EncOk h rs rs2) ∨ ((encode h).1 = zero512 ∧ (encode h).2 ≠ 0) := by
  unfold encode
  by_cases h1 : ¬ (h.form = 1 ∨ h.form = 2 ∨ h.form = 3) ∨ saidB h = true
  · rw [if_pos h1]; exact .inr ⟨rfl, by simp⟩
  rw [if_neg h1]
  by_cases h2 : h.typ = 0
  · rw [if_pos h2]; exact .inr ⟨rfl, by simp⟩
  rw [if_neg h2]
  cases h3 : textsGo h 5 0 zero512 with
  | none => exact .inr ⟨rfl, by simp⟩
  | some rs =>
    dsimp only
    cases h4 : numsGo h 7 0 rs with
    | none => exact .inr ⟨rfl, by simp⟩
    | some rs2 =>
      rw [not_or, Classical.not_not, Bool.not_eq_true] at h1
      exact .inl ⟨rs, rs2, h1.1, h1.2, h2, h3, h4⟩
theorem encode_length (h : Hdr) : (encode h).1.length = 512 := by
  rcases encode_cases h with ⟨rs, rs2, k⟩ | ⟨k, _⟩
  · rw [k.enc]; exact putSum_length (bare_length k.length)
  · rw [k]; exact zero_length

theorem putSum_get {rs : List UInt8} (hl : rs.length = 512) {i : Nat} (hi : i < 148 ∨ 156 ≤ i) : (putSum rs)[i]? = rs[i]? := by
  obtain ⟨hs0, hs1⟩ := sums_le rs hl
  obtain ⟨bs, hbs, hbl⟩ := octField_small _ hs0 hs1
  rw [putSum, hbs]
  show (putAt rs 148 (bs ++ [32]))[i]? = _
  have : (bs ++ [32]).length = 8 := by simp [hbl]
  rw [putAt_get (by omega), if_neg (by omega)]
theorem bare_get {h : Hdr} {rs : List UInt8} (hl : rs.length = 512) {i : Nat} (hi : i < 257) : (bare h rs)[i]? = if i = 156 then some h.typ else rs[i]? := by
  have h1 : (putAt rs 156 [h.typ]).length = 512 := by rw [putAt_length (by simp; omega)]; exact hl
  have h2 := magic_length h.form
  rw [bare, putAt_get (by omega), if_neg (by omega), putAt_get (by simp; omega)]
  by_cases h3 : i = 156
  · subst h3; simp
  · rw [if_neg h3, if_neg (by simp; omega)]
theorem enc_typ {h : Hdr} (he : (encode h).2 = 0) : (encode h).1[156]? = some h.typ := by
  rcases encode_cases h with ⟨rs, rs2, k⟩ | ⟨_, k⟩
  · rw [k.enc]
    show (putSum (bare h rs2))[156]? = _
    rw [putSum_get (bare_length k.length) (.inr (by omega)), bare_get k.length (by omega), if_pos rfl]
  · exact absurd he k
end Go.Proofs.YtjeaofabpfgngaaDoor
