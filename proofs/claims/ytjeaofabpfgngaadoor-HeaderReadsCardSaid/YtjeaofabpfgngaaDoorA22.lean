/-
  The reference's fields are the program's: plain Lean.
  No condition.
-/
import Derived.Test.YtjeaofabpfgngaaDoorA21
namespace Go.Proofs.YtjeaofabpfgngaaDoor
open Go.KE

/-! ### octal -/
theorem oct_bound (n : Nat) : n < 8 ^ (oct n).length := by
  induction n using Nat.strongRecOn with
  | _ n ih =>
    by_cases h : n < 8
    · rw [oct_lt h]; simpa using h
    · rw [oct_ge h, List.length_append]
      have := ih (n / 8) (by omega)
      simp only [List.length_cons, List.length_nil, Nat.zero_add, Nat.pow_succ]
      omega
theorem refOct_eq (n : Int) (w : Nat) (hw : 2 ≤ w) : refOct n w = octField n w := by
  obtain ⟨k, rfl⟩ : ∃ k, w = k + 2 := ⟨w - 2, by omega⟩
  unfold refOct octField
  by_cases hn : n < 0
  · rw [if_pos hn, if_pos (.inl hn)]
  rw [if_neg hn, octGo_snd, show k + 2 - 1 = k + 1 from rfl]
  have h2 := octI_size (n := n) (by omega)
  have e : n.toNat = n.natAbs := by omega
  have e2 : (octI n).data.toList = oct n.natAbs := by rw [octI, if_neg (by omega)]; simp
  rw [e2, h2, e]
  by_cases hlt : n.natAbs < 8 ^ (k + 1)
  · have hl := oct_length k n.natAbs hlt
    rw [if_pos (Nat.div_eq_of_lt hlt), if_neg (by omega)]
    rw [octGo_fst k _ _ hlt]
  · have hb := oct_bound n.natAbs
    have hl : ¬ (oct n.natAbs).length ≤ k + 1 := fun h => hlt (Nat.lt_of_lt_of_le hb (Nat.pow_le_pow_right (by omega) h))
    rw [if_neg (by
      have := Nat.div_pos (Nat.le_of_not_lt hlt) (Nat.pow_pos (n := k + 1) (show 0 < 8 by omega))
      show ¬ n.natAbs / 8 ^ (k + 1) = 0
      omega), if_pos (.inr (by omega))]

/-! ### binary -/
theorem refBinary_cons (c : UInt8) (r : List UInt8) : refBinary (c :: r) = if r.length = 0 ∨ c.toNat < 128 then (0, 120) else
    match rbDrop (fillOf (decide (64 ≤ c.toNat % 128))) ((if 64 ≤ c.toNat % 128 then c else c - 128) :: r) with
    | none => (0, 121)
    | some l => rbEnd (decide (64 ≤ c.toNat % 128)) (rbPad (fillOf (decide (64 ≤ c.toNat % 128))) l) := rfl
def refBytes (n : Int) (w : Nat) : List UInt8 :=
  match beGo w n [] with
  | [] => []
  | c :: r => if 0 ≤ n ∧ c.toNat < 64 then (c + 128) :: r else c :: r
def refBinField (n : Int) (w : Nat) : Option (List UInt8) :=
  if (refBinary (refBytes n w)).2 ≠ 0 ∨ (refBinary (refBytes n w)).1 ≠ n then none else some (refBytes n w)

theorem beGo_head : ∀ (k : Nat) (v : Int) (suf : List UInt8), ∃ r, beGo (k + 1) v suf = lowByte (v.fdiv (256 ^ k)) :: r
  | 0, v, suf => ⟨suf, by simp [beGo]⟩
  | k + 1, v, suf => by
    obtain ⟨r, hr⟩ := beGo_head k (v.fdiv 256) (lowByte v :: suf)
    refine ⟨r, ?_⟩
    rw [beGo, hr]
    congr 2
    have hp : (0 : Int) ≤ 256 ^ k := Int.pow_nonneg (by decide)
    have hp1 : (0 : Int) ≤ 256 ^ (k + 1) := Int.pow_nonneg (by decide)
    rw [Int.fdiv_eq_ediv_of_nonneg _ hp, Int.fdiv_eq_ediv_of_nonneg _ hp1, Int.fdiv_eq_ediv_of_nonneg _ (show (0 : Int) ≤ 256 by decide), Int.ediv_ediv_of_nonneg (by decide), Int.pow_succ, Int.mul_comm]
theorem byte_or1 : ∀ n : Fin 256, n.val < 128 → bitsOf .or .u8 (n.val : Int) 128 = ((n.val + 128 : Nat) : Int) := by decide +kernel
theorem byte_or2 : ∀ n : Fin 256, ¬ n.val < 128 → bitsOf .or .u8 (n.val : Int) 128 = (n.val : Int) := by decide +kernel
theorem orByte_eq (c : UInt8) : (orByte c).toNat = if c.toNat < 128 then c.toNat + 128 else c.toNat := by
  have hc := c.toNat_lt
  have h1 := byte_or1 (fin c)
  have h2 := byte_or2 (fin c)
  simp only [fin] at h1 h2
  unfold orByte
  by_cases hlt : c.toNat < 128
  · rw [if_pos hlt, h1 hlt]; simp; omega
  · rw [if_neg hlt, h2 hlt]; simp
/-- The first byte that is written: of a number from 0 up below 128; of one below 0 from 128 up. -/
theorem be_first (n : Int) (h : Fits .i64 n) (w : Nat) (hw : w = 8 ∨ w = 12) : ∃ c r, beGo w n [] = c :: r ∧ r.length + 1 = w ∧ (0 ≤ n → c.toNat < 128) ∧ (n < 0 → 128 ≤ c.toNat) ∧ (w = 12 → 0 ≤ n → c.toNat = 0) := by
  simp only [Fits] at h
  obtain ⟨k, rfl⟩ : ∃ k, w = k + 1 := ⟨w - 1, by omega⟩
  obtain ⟨r, hr⟩ := beGo_head k n []
  have hlen := beGo_length (k + 1) n []
  rw [hr] at hlen
  refine ⟨_, r, hr, by simpa using hlen, ?_⟩
  have hval : ∀ z : Int, (lowByte z).toNat = (z % 256).toNat := fun z => by
    unfold lowByte
    simp
    omega
  rw [hval]
  rcases hw with hw | hw
  · obtain rfl : k = 7 := by omega
    rw [Int.fdiv_eq_ediv_of_nonneg _ (by decide), show (256 : Int) ^ 7 = 72057594037927936 by decide]
    refine ⟨fun _ => by omega, fun _ => by omega, fun hh => by omega⟩
  · obtain rfl : k = 11 := by omega
    rw [Int.fdiv_eq_ediv_of_nonneg _ (by decide), show (256 : Int) ^ 11 = 309485009821345068724781056 by decide]
    refine ⟨fun _ => by omega, fun _ => by omega, fun _ _ => by omega⟩

theorem refBinField_eq (n : Int) (h : Fits .i64 n) (w : Nat) (hw : w = 8 ∨ w = 12) : refBinField n w = binField n w := by
  obtain ⟨c, r, hc, hl, h0, h1, h12⟩ := be_first n h w hw
  have ho := orByte_eq c
  have hc255 := c.toNat_lt
  unfold refBinField binField
  have e0 : refBytes n w = if 0 ≤ n ∧ c.toNat < 64 then (c + 128) :: r else c :: r := by unfold refBytes; rw [hc]
  have e00 : binBytes n w = orByte c :: r := by unfold binBytes; rw [hc]; rfl
  rw [refBinary_eq, e0, e00]
  by_cases hneg : n < 0
  · have hge := h1 hneg
    rw [if_neg (by omega)] at ho
    obtain hoc : orByte c = c := UInt8.toNat_inj.1 ho
    rw [if_neg (show ¬ (0 ≤ n ∧ c.toNat < 64) from fun hh => by omega), hoc]
  · have hlt := h0 (by omega)
    rw [if_pos hlt] at ho
    by_cases h64 : c.toNat < 64
    · have e : orByte c = c + 128 := by
        apply UInt8.toNat_inj.1
        rw [ho, UInt8.toNat_add]; simp; omega
      rw [if_pos (show 0 ≤ n ∧ c.toNat < 64 from ⟨by omega, h64⟩), e]
    · rw [if_neg (show ¬ (0 ≤ n ∧ c.toNat < 64) from fun hh => h64 hh.2)]
      have hw8 : w = 8 := by
        rcases hw with hw | hw
        · exact hw
        · have := h12 hw (by omega); omega
      -- the reference sees no binary field; the program reads a number below 0
      have e1 : (binary (c :: r)).2 ≠ 0 := by
        rw [← refBinary_eq, refBinary_cons, if_pos (.inr hlt)]
        simp
      have e2 : (binary (orByte c :: r)).1 < 0 := by
        rw [← refBinary_eq, refBinary_cons]
        have hb : decide (64 ≤ (orByte c).toNat % 128) = true := by rw [ho]; simp; omega
        rw [if_neg (by rw [ho]; omega), hb, if_pos (by simpa using hb)]
        rw [rbDrop_short _ _ (by simp; omega)]
        have hp : rbPad (fillOf true) (orByte c :: r) = orByte c :: r := by
          rw [rbPad]
          simp only [List.length_cons]
          rw [show 8 - (r.length + 1) = 0 by omega]; rfl
        dsimp only
        rw [hp, rbEnd, if_pos (by simp [YtjeaofabpfgngaaDoor.hb, ho])]
        have hbe : be (orByte c :: r) = (orByte c).toNat * 256 ^ 7 + be r := by rw [be, show r.length = 7 by omega]
        have hr := be_lt r
        rw [show r.length = 7 by omega] at hr
        dsimp only
        rw [wrap64_val, hbe, ho]
        simp only [show (256 : Nat) ^ 7 = 72057594037927936 by decide] at hr ⊢
        rw [if_pos (by omega)]
        omega
      rw [if_pos (.inl e1), if_pos (.inr (by omega))]
end Go.Proofs.YtjeaofabpfgngaaDoor
