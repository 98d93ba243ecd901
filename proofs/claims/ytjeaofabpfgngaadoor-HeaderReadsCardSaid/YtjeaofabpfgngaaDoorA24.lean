/-
  The reference's can walked: whether a form has what a header says.
  No condition.
-/
import Derived.Test.YtjeaofabpfgngaaDoorA23
import Derived.Test.YtjeaofabpfgngaaDoorK11
namespace Go.Proofs.YtjeaofabpfgngaaDoor
open Go.KE

theorem hasZ_append : ∀ (a b : List UInt8), hasZ (a ++ b) = (hasZ a || hasZ b)
  | [], b => by simp [hasZ]
  | c :: r, b => by rw [List.cons_append, hasZ, hasZ, hasZ_append r b, Bool.or_assoc]
def anyZ (h : Hdr) : Bool := hasZ h.name.data.toList || hasZ h.link.data.toList || hasZ h.user.data.toList || hasZ h.group.data.toList || hasZ h.pre.data.toList
def allTexts (h : Hdr) : ByteArray := h.name ++ h.link ++ h.user ++ h.group ++ h.pre
theorem anyZ_eq (h : Hdr) : hasZ (allTexts h).data.toList = anyZ h := by
  simp [allTexts, anyZ, ByteArray.data_append, hasZ_append, Bool.or_assoc]
theorem hasZ_index : ∀ l : List UInt8, decide (0 ≤ Lib.indexByte l 0) = hasZ l
  | [] => by simp [Lib.indexByte, hasZ]
  | c :: r => by
    have ih := hasZ_index r
    have hc := c.toNat_lt
    by_cases h0 : c = 0
    · subst h0; simp [Lib.indexByte, hasZ]
    · have h1 : c.toNat ≠ 0 := fun e => h0 (UInt8.toNat_inj.1 e)
      rw [hasZ, ← ih, decide_eq_false h1, Bool.false_or]
      have h2 : Lib.indexByte (c :: r) 0 = if Lib.indexByte r 0 = -1 then -1 else Lib.indexByte r 0 + 1 := by
        simp [Lib.indexByte, h0]
      have h3 : ∀ l : List UInt8, -1 ≤ Lib.indexByte l 0 := by
        intro l
        induction l with
        | nil => simp [Lib.indexByte]
        | cons c r ih =>
          simp only [Lib.indexByte]
          split
          · omega
          · split <;> simp_all <;> omega
      have h4 := h3 r
      rw [h2]
      split
      · rw [decide_eq_false (by omega), decide_eq_false (by omega)]
      · rw [decide_eq_true (by omega), decide_eq_true (by omega)]
def lacks (h : Hdr) : Bool := (decide (h.form = 1) && (decide (h.user ≠ ⟨#[]⟩) || decide (h.group ≠ ⟨#[]⟩) || decide (h.major ≠ 0) || decide (h.minor ≠ 0))) || (decide (h.form ≠ 2) && decide (h.pre ≠ ⟨#[]⟩))
theorem saidB_eq (h : Hdr) (hf : h.form = 1 ∨ h.form = 2 ∨ h.form = 3) : saidB h = (anyZ h || lacks h) := by
  have r5 : List.range 5 = [0, 1, 2, 3, 4] := rfl
  have r7 : List.range 7 = [0, 1, 2, 3, 4, 5, 6] := rfl
  unfold saidB
  rw [r5, r7]
  simp only [List.any_cons, List.any_nil, badTxt, badNum, txt, num, hasZ_index, anyZ, lacks]
  rcases hf with e | e | e
  all_goals
    rw [e]
    simp
    generalize hasZ h.name.data.toList = z1
    generalize hasZ h.link.data.toList = z2
    generalize hasZ h.user.data.toList = z3
    generalize hasZ h.group.data.toList = z4
    generalize hasZ h.pre.data.toList = z5
    cases z1 <;> cases z2 <;> cases z3 <;> cases z4 <;> cases z5 <;> simp [Bool.or_assoc]
  generalize (!decide (h.pre = { data := #[] })) = q
  cases q <;> simp

def canB (h : Hdr) : Bool := decide (h.form = 1 ∨ h.form = 2 ∨ h.form = 3) && !saidB h
theorem canB_eq (h : Hdr) (hf : h.form = 1 ∨ h.form = 2 ∨ h.form = 3) : canB h = (!anyZ h && !lacks h) := by
  rw [canB, saidB_eq h hf, decide_eq_true hf]
  cases anyZ h <;> cases lacks h <;> rfl

set_option maxHeartbeats 1000000 in
theorem can_any (F : Fr) (h : Hdr) (hs : h.name.size + h.link.size + h.user.size + h.group.size + h.pre.size ≤ 9223372036854775807) :
    Does Tryd.prog 25 [.agg (hdrCells h).toArray] F [] (fun v L' => L' = [] ∧ v = .bool (canB h)) := by
  refine Does_clear (p := fun v => v = _) ?_
  refine Does_of (n := 59) Tryd.func25 rfl rfl (by simp) ?_
  refine goW ?_
  refine a_box fun b1 => ?_
  by_cases hf : h.form = 1 ∨ h.form = 2 ∨ h.form = 3
  rotate_left
  · have hc : canB h = false := by rw [canB, decide_eq_false hf]; rfl
    rw [hc]
    by_cases h1 : h.form < 1
    · refine goL ?_
      exact a_ret1 rfl
    · refine goL ?_
      exact a_ret1 rfl
  rw [canB_eq h hf]
  have e1 : (h.name ++ h.link).size = h.name.size + h.link.size := ByteArray.size_append
  have e2 : (h.name ++ h.link ++ h.user).size = h.name.size + h.link.size + h.user.size := by rw [ByteArray.size_append, e1]
  have e3 : (h.name ++ h.link ++ h.user ++ h.group).size = h.name.size + h.link.size + h.user.size + h.group.size := by rw [ByteArray.size_append, e2]
  have e4 : (allTexts h).size = h.name.size + h.link.size + h.user.size + h.group.size + h.pre.size := by rw [allTexts, ByteArray.size_append, e3]
  refine goL ?_
  refine a_call (zero_any _ (allTexts h) (by omega)) ?_
  rintro v L' ⟨rfl, rfl⟩
  rw [anyZ_eq]
  cases hz : anyZ h
  rotate_left
  · refine goL ?_
    exact a_ret1 rfl
  simp only [Bool.not_false, Bool.true_and]
  by_cases hf1 : h.form = 1
  · have hl : lacks h = ((decide (h.user ≠ ⟨#[]⟩) || decide (h.group ≠ ⟨#[]⟩) || decide (h.major ≠ 0) || decide (h.minor ≠ 0)) || decide (h.pre ≠ ⟨#[]⟩)) := by
      rw [lacks, hf1]; rfl
    rw [hl]
    by_cases hu : h.user ≠ ⟨#[]⟩
    · rw [decide_eq_true hu]
      refine goL ?_
      exact a_ret1 rfl
    by_cases hg : h.group ≠ ⟨#[]⟩
    · rw [decide_eq_true hg, Bool.or_true]
      have hu' := Classical.not_not.1 hu
      refine goL ?_
      exact a_ret1 rfl
    have hu' := Classical.not_not.1 hu
    have hg' := Classical.not_not.1 hg
    by_cases hma : h.major = 0
    rotate_left
    · rw [decide_eq_true hma, Bool.or_true]
      refine goL ?_
      exact a_ret1 rfl
    by_cases hmi : h.minor = 0
    rotate_left
    · rw [decide_eq_true hmi, Bool.or_true]
      refine goL ?_
      exact a_ret1 rfl
    rw [decide_eq_false hu, decide_eq_false hg, decide_eq_false (by simpa using hma), decide_eq_false (by simpa using hmi)]
    by_cases hp : h.pre = ⟨#[]⟩
    · rw [decide_eq_false (by simpa using hp)]
      refine goL ?_
      exact a_ret1 rfl
    · rw [decide_eq_true hp]
      refine goL ?_
      exact a_ret1 rfl
  · have hl : lacks h = (decide (h.form ≠ 2) && decide (h.pre ≠ ⟨#[]⟩)) := by
      rw [lacks, decide_eq_false hf1]; rfl
    rw [hl]
    by_cases hf2 : h.form = 2
    · rw [decide_eq_false (by simpa using hf2)]
      refine goL ?_
      exact a_ret1 rfl
    · rw [decide_eq_true hf2]
      by_cases hp : h.pre = ⟨#[]⟩
      · rw [decide_eq_false (by simpa using hp)]
        refine goL ?_
        exact a_ret1 rfl
      · rw [decide_eq_true hp]
        refine goL ?_
        exact a_ret1 rfl
end Go.Proofs.YtjeaofabpfgngaaDoor
