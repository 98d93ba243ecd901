/-
  A plain header is said alike by all three forms, in plain Lean.
  No condition.
-/
import Derived.Test.YtjeaofabpfgngaaDoorA11
namespace Go.Proofs.YtjeaofabpfgngaaDoor
open Go.KE

/-- A header with nothing that only some forms have. -/
def plain (h : Hdr) (f : Int) : Hdr := { h with form := f, pre := ⟨#[]⟩, user := ⟨#[]⟩, group := ⟨#[]⟩, major := 0, minor := 0 }

theorem txt_plain (h : Hdr) (f : Int) (k : Nat) : (txt (plain h f) k).1 = (txt (plain h 1) k).1 := by
  unfold txt; split <;> rfl
theorem num_plain (h : Hdr) (f : Int) (k : Nat) : num (plain h f) k = num (plain h 1) k := by
  unfold num; split <;> rfl
theorem texts_plain (h : Hdr) (f : Int) : ∀ (m k : Nat) (rs : List UInt8), textsGo (plain h f) m k rs = textsGo (plain h 1) m k rs
  | 0, _, _ => rfl
  | m + 1, k, rs => by rw [textsGo, textsGo, txt_plain h f k, texts_plain h f m]

theorem said_plain {h : Hdr} {f : Int} (hf : f = 2 ∨ f = 3) (hs : saidB (plain h 1) = false) : saidB (plain h f) = false := by
  unfold saidB at hs
  rw [Bool.or_eq_false_iff, List.any_eq_false, List.any_eq_false] at hs
  obtain ⟨h1, h2⟩ := hs
  have e0 : badTxt 1 (h.name, [1, 2, 3]) = false := by
    have := h1 0 (by simp)
    rw [Bool.not_eq_true] at this
    exact this
  have e1 : badTxt 1 (h.link, [1, 2, 3]) = false := by
    have := h1 1 (by simp)
    rw [Bool.not_eq_true] at this
    exact this
  have n0 : badTxt f (⟨#[]⟩, [2, 3]) = false := by simp [badTxt]; decide
  have n1 : badTxt f (⟨#[]⟩, [2]) = false := by simp [badTxt]; decide
  have c0 : badTxt f (h.name, [1, 2, 3]) = false := by
    rcases hf with rfl | rfl <;> simpa [badTxt] using e0
  have c1 : badTxt f (h.link, [1, 2, 3]) = false := by
    rcases hf with rfl | rfl <;> simpa [badTxt] using e1
  refine said_no (fun j hj => ?_) (fun j hj => ?_)
  · obtain rfl | rfl | rfl | rfl | rfl : j = 0 ∨ j = 1 ∨ j = 2 ∨ j = 3 ∨ j = 4 := by omega
    · exact c0
    · exact c1
    · exact n0
    · exact n0
    · exact n1
  · have hf1 : ¬ f < 1 := by omega
    obtain rfl | rfl | rfl | rfl | rfl | rfl | rfl : j = 0 ∨ j = 1 ∨ j = 2 ∨ j = 3 ∨ j = 4 ∨ j = 5 ∨ j = 6 := by omega
    all_goals simp [badNum, num, plain, hf1]

theorem oct0 : oct 0 = [48] := oct_lt (by omega)
def z8 : List UInt8 := [48, 48, 48, 48, 48, 48, 48, 0]
theorem octField0 : octField 0 8 = some z8 := by
  have h : octI 0 = ⟨#[48]⟩ := by simp [octI, oct0]
  simp [octField, h, zeros]
  decide
theorem form_oct {f n : Int} {w : Nat} {bs : List UInt8} (h : octField n w = some bs) : formField f n w = some bs := by
  unfold formField
  split
  · rw [numField, h]
  · exact h

/-- The numbers that all forms have. -/
theorem nums_plain {h : Hdr} {f : Int} (hf : f = 2 ∨ f = 3) : ∀ (m k : Nat) (rs rs2 : List UInt8), m + k = 7 → k ≤ 5 → numsGo (plain h 1) m k rs = some rs2 →
    numsGo (plain h f) m k rs = some (putAt (putAt rs2 329 z8) 337 z8)
  | 0, k, _, _, hm, hk, _ => by omega
  | m + 1, k, rs, rs2, hm, hk, he => by
    rw [numsGo] at he ⊢
    have hf1 : (plain h f).form = f := rfl
    rw [num_plain, hf1]
    have h1 : (plain h 1).form = 1 := rfl
    rw [h1] at he
    by_cases h5 : k = 5
    · subst h5
      obtain rfl : m = 1 := by omega
      rw [if_pos (by simp [num])] at he
      rw [if_neg (by simp [num]; omega)]
      have e5 : (num (plain h 1) 5).1 = 0 := rfl
      have e6 : (num (plain h 1) 6).1 = 0 := rfl
      rw [e5]
      show (match formField f 0 8 with | none => none | some bs => if (0 : Int) < 0 ∧ nAt 5 ≠ 136 then none else numsGo (plain h f) 1 6 (putAt rs (nAt 5) bs)) = _
      rw [form_oct octField0]
      dsimp only
      rw [if_neg (by omega), numsGo, num_plain, hf1, if_neg (by simp [num]; omega), e6]
      show (match formField f 0 8 with | none => none | some bs => if (0 : Int) < 0 ∧ nAt 6 ≠ 136 then none else numsGo (plain h f) 0 7 (putAt (putAt rs (nAt 5) z8) (nAt 6) bs)) = _
      rw [form_oct octField0]
      dsimp only
      rw [if_neg (by omega), numsGo]
      rw [numsGo, h1, if_pos (by simp [num]), numsGo] at he
      rw [Option.some.inj he]; rfl
    · have hk5 : k < 5 := by omega
      have hn2 : (num (plain h 1) k).2 = 1 := by
        obtain rfl | rfl | rfl | rfl | rfl : k = 0 ∨ k = 1 ∨ k = 2 ∨ k = 3 ∨ k = 4 := by omega
        all_goals rfl
      rw [hn2] at he ⊢
      rw [if_neg (by omega)] at he
      rw [if_neg (by omega)]
      have ho : formField 1 (num (plain h 1) k).1 (nLen k) = octField (num (plain h 1) k).1 (nLen k) := if_neg (by omega)
      rw [ho] at he
      cases hoc : octField (num (plain h 1) k).1 (nLen k) with
      | none => rw [hoc] at he; cases he
      | some bs =>
        rw [hoc] at he
        rw [form_oct hoc]
        dsimp only at he ⊢
        split at he
        · cases he
        · rename_i hc
          rw [if_neg hc]
          exact nums_plain hf m (k + 1) _ _ (by omega) (by omega) he

theorem plain_ok {h : Hdr} {f : Int} (hf : f = 2 ∨ f = 3) {rs rs2 : List UInt8} (k : EncOk (plain h 1) rs rs2) : EncOk (plain h f) rs (putAt (putAt rs2 329 z8) 337 z8) where
  form := .inr hf
  said := said_plain hf k.said
  typ := k.typ
  texts := by rw [texts_plain]; exact k.texts
  nums := nums_plain hf 7 0 _ _ rfl (by omega) k.nums

/-- The law: said alike. -/
theorem forms_alike {h : Hdr} {f : Int} (hf : f = 2 ∨ f = 3) (he : (encode (plain h 1)).2 = 0) :
    (encode (plain h f)).2 = 0 ∧ ∀ i, (i < 148 ∨ 156 ≤ i ∧ i < 257) → (encode (plain h f)).1[i]? = (encode (plain h 1)).1[i]? := by
  rcases encode_cases (plain h 1) with ⟨rs, rs2, k⟩ | ⟨_, k⟩
  · have k2 := plain_ok hf k
    refine ⟨by rw [k2.enc], fun i hi => ?_⟩
    have hl := k.length
    have hz : z8.length = 8 := rfl
    have hl1 : (putAt rs2 329 z8).length = 512 := by rw [putAt_length (by omega)]; exact hl
    have key : (putAt (putAt rs2 329 z8) 337 z8)[i]? = rs2[i]? := by
      rw [putAt_get (by omega), if_neg (by omega), putAt_get (by omega), if_neg (by omega)]
    rw [k.enc, k2.enc]
    show (putSum _)[i]? = (putSum _)[i]?
    rw [putSum_get (bare_length k2.length) (by omega), putSum_get (bare_length hl) (by omega), bare_get k2.length (by omega), bare_get hl (by omega), key]
    rfl
  · exact absurd he k

/-- The header that the law asks at last. -/
def lastHdr : Hdr := ⟨3, ⟨#[97]⟩, ⟨#[]⟩, 0, 0, 0, 0, 0, 53, ⟨#[]⟩, ⟨#[]⟩, ⟨#[]⟩, 0, 0⟩
theorem octField012 : octField 0 12 = some [48, 48, 48, 48, 48, 48, 48, 48, 48, 48, 48, 0] := by
  have h : octI 0 = ⟨#[48]⟩ := by simp [octI, oct0]
  simp [octField, h, zeros]
  decide
theorem last_ok : (encode lastHdr).2 = 0 := by
  have hs : saidB lastHdr = false := by decide +kernel
  have ht : textsGo lastHdr 5 0 zero512 = some (putAt (putAt (putAt (putAt (putAt zero512 0 [97]) 157 []) 265 []) 297 []) 345 []) := rfl
  unfold encode
  rw [if_neg (by rw [hs]; simp [lastHdr]), if_neg (by decide), ht]
  dsimp only
  generalize putAt (putAt (putAt (putAt (putAt zero512 0 [97]) 157 []) 265 []) 297 []) 345 [] = rs
  have hn : ∀ rs, ∃ rs', numsGo lastHdr 7 0 rs = some rs' := by
    intro rs
    have f8 : formField lastHdr.form 0 8 = some z8 := form_oct octField0
    have f12 := form_oct (f := lastHdr.form) octField012
    apply Exists.intro
    rw [numsGo, if_neg (by decide)]
    show (match formField lastHdr.form 0 8 with | none => none | some bs => if (0 : Int) < 0 ∧ nAt 0 ≠ 136 then none else numsGo lastHdr 6 1 (putAt rs (nAt 0) bs)) = _
    rw [f8]; dsimp only; rw [if_neg (by omega)]
    rw [numsGo, if_neg (by decide)]
    show (match formField lastHdr.form 0 8 with | none => none | some bs => if (0 : Int) < 0 ∧ nAt 1 ≠ 136 then none else numsGo lastHdr 5 2 (putAt _ (nAt 1) bs)) = _
    rw [f8]; dsimp only; rw [if_neg (by omega)]
    rw [numsGo, if_neg (by decide)]
    show (match formField lastHdr.form 0 8 with | none => none | some bs => if (0 : Int) < 0 ∧ nAt 2 ≠ 136 then none else numsGo lastHdr 4 3 (putAt _ (nAt 2) bs)) = _
    rw [f8]; dsimp only; rw [if_neg (by omega)]
    rw [numsGo, if_neg (by decide)]
    show (match formField lastHdr.form 0 12 with | none => none | some bs => if (0 : Int) < 0 ∧ nAt 3 ≠ 136 then none else numsGo lastHdr 3 4 (putAt _ (nAt 3) bs)) = _
    rw [f12]; dsimp only; rw [if_neg (by omega)]
    rw [numsGo, if_neg (by decide)]
    show (match formField lastHdr.form 0 12 with | none => none | some bs => if (0 : Int) < 0 ∧ nAt 4 ≠ 136 then none else numsGo lastHdr 2 5 (putAt _ (nAt 4) bs)) = _
    rw [f12]; dsimp only; rw [if_neg (by omega)]
    rw [numsGo, if_neg (by decide)]
    show (match formField lastHdr.form 0 8 with | none => none | some bs => if (0 : Int) < 0 ∧ nAt 5 ≠ 136 then none else numsGo lastHdr 1 6 (putAt _ (nAt 5) bs)) = _
    rw [f8]; dsimp only; rw [if_neg (by omega)]
    rw [numsGo, if_neg (by decide)]
    show (match formField lastHdr.form 0 8 with | none => none | some bs => if (0 : Int) < 0 ∧ nAt 6 ≠ 136 then none else numsGo lastHdr 0 7 (putAt _ (nAt 6) bs)) = _
    rw [f8]; dsimp only; rw [if_neg (by omega), numsGo]
  obtain ⟨rs', hn⟩ := hn rs
  rw [hn]
end Go.Proofs.YtjeaofabpfgngaaDoor
