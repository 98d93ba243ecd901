/-
  Octal fields read, by the program and by the reference.
  No condition.
-/
import Derived.Test.YtjeaofabpfgngaaDoorA29
import Derived.Test.YtjeaofabpfgngaaDoorK13
namespace Go.Proofs.YtjeaofabpfgngaaDoor
open Go.KE

def isD (c : UInt8) : Bool := decide (48 ≤ c.toNat ∧ c.toNat ≤ 55)
def spanD : List UInt8 → Nat
  | [] => 0
  | c :: r => if isD c then spanD r + 1 else 0
def octN (l : List UInt8) : Nat := l.foldl (fun n c => n * 8 + (c.toNat - 48)) 0
/-- What an octal field says, and the code. -/
def octal (bs : List UInt8) : Int × Int :=
  if ((dropB (isB 32) bs).drop (spanD (dropB (isB 32) bs))).any (fun c => !isSp c) then (0, 120) else (octN ((dropB (isB 32) bs).take (spanD (dropB (isB 32) bs))), 0)

theorem octN_snoc (l : List UInt8) (c : UInt8) : octN (l ++ [c]) = octN l * 8 + (c.toNat - 48) := by
  simp [octN, List.foldl_append]
theorem spanD_le : ∀ l : List UInt8, spanD l ≤ l.length
  | [] => Nat.le_refl _
  | c :: r => by
    rw [spanD]
    have := spanD_le r
    split
    · simp; omega
    · omega
theorem spanD_all : ∀ (l : List UInt8) (i : Nat) (c : UInt8), i < spanD l → l[i]? = some c → isD c = true
  | [], i, c, h, _ => by simp [spanD] at h
  | d :: r, i, c, h, hc => by
    rw [spanD] at h
    by_cases hd : isD d = true
    · rw [if_pos hd] at h
      cases i with
      | zero => obtain rfl : d = c := by simpa using hc
                exact hd
      | succ i => exact spanD_all r i c (by omega) (by simpa using hc)
    · rw [if_neg hd] at h; omega
theorem octN_take_lt (l : List UInt8) : ∀ i, i ≤ spanD l → octN (l.take i) < 8 ^ i
  | 0, _ => by simp [octN]
  | i + 1, h => by
    have hi : i < l.length := by have := spanD_le l; omega
    have h1 := octN_take_lt l i (by omega)
    have h2 := spanD_all l i _ (by omega) (List.getElem?_eq_getElem hi)
    simp only [isD, decide_eq_true_eq] at h2
    rw [List.take_succ_eq_append_getElem hi, octN_snoc, Nat.pow_succ]
    omega
theorem pow8 {k : Nat} (h : k ≤ 12) : 8 ^ k ≤ 68719476736 := by
  have : 8 ^ k ≤ 8 ^ 12 := Nat.pow_le_pow_right (by omega) h
  simpa using this
theorem any_iff {l : List UInt8} : l.any (fun c => !isSp c) = true ↔ ∃ c ∈ l, isSp c = false := by
  rw [List.any_eq_true]
  simp

set_option maxRecDepth 10000 in
set_option maxHeartbeats 2000000 in
theorem octal_any (F : Fr) (b : Nat) {lc : List Value} {t : TypeId} {fr : Nat × Nat} (hF : F.mem b (.cells lc.toArray t fr)) (o cap : Nat) (bs : List UInt8) (hc : Cut lc o bs.length (bvs bs)) (hcap : bs.length ≤ cap) (hl : bs.length ≤ 12) :
    Does Tryd.prog 62 [.slice (some ⟨b, o, none⟩) bs.length cap] F [] (fun v L' => L' = [] ∧ v = .tuple #[i64 (octal bs).1, i64 (octal bs).2]) := by
  refine Does_of (n := 59) Tryd.func62 rfl rfl (by simp) ?_
  refine goW ?_
  refine a_call (trimLeft_any _ b (Fr.inl hF) _ cap bs hcap (.of_cut hc) (by omega)) ?_
  rintro v L' ⟨rfl, ad, cap', rfl, hcap', hs⟩
  have hoct : octal bs = if ((dropB (isB 32) bs).drop (spanD (dropB (isB 32) bs))).any (fun c => !isSp c) then (0, 120) else ((octN ((dropB (isB 32) bs).take (spanD (dropB (isB 32) bs))) : Int), 0) := rfl
  have hl' : (dropB (isB 32) bs).length ≤ 12 := Nat.le_trans (dropB_len _ _) hl
  generalize dropB (isB 32) bs = l at *
  refine goL ?_
  have hsp := spanD_le l
  refine a_loopJ (α := Nat) (β := Unit) 0 (fun k => k ≤ l.length ∧ spanD l = k + spanD (l.drop k)) (fun k => [(4, i64 k)]) (fun _ => []) (fun k => l.length - k) 0 ⟨Nat.zero_le _, by simp⟩
    (fun _ => True) (fun _ => [(4, i64 (spanD l))]) (fun _ => []) ?_ ?_
  · rintro k ⟨hk, hsk⟩
    by_cases hlt : k < l.length
    · have hg := List.getElem?_eq_getElem hlt
      obtain ⟨a, ha, hca⟩ := hs k _ hg
      subst ha
      rw [List.drop_eq_getElem_cons hlt, spanD] at hsk
      generalize l[k] = c at *
      have hc255 := c.toNat_lt
      by_cases hd : isD c = true
      · rw [if_pos hd] at hsk
        simp only [isD, decide_eq_true_eq] at hd
        obtain ⟨hd1, hd2⟩ := hd
        refine goW ?_
        refine a_ld hca ?_
        refine goL ?_
        refine a_ld hca ?_
        refine goL ?_
        exact a_next (k + 1) ⟨by omega, by omega⟩ (by omega)
      · rw [if_neg hd] at hsk
        have hk0 : (k : Int) = spanD l := by omega
        simp only [isD, decide_eq_true_eq] at hd
        refine goW ?_
        refine a_ld hca ?_
        by_cases hd1 : 48 ≤ c.toNat
        · have hd2 : ¬ c.toNat ≤ 55 := fun h => hd ⟨hd1, h⟩
          refine goL ?_
          refine a_ld hca ?_
          refine goL ?_
          exact a_out () trivial (hs := ⟨congrArg (fun z => some (Value.int .i64 z)) hk0, by (repeat (first | exact trivial | refine ⟨rfl, ?_⟩)); done⟩)
        · refine goL ?_
          exact a_out () trivial (hs := ⟨congrArg (fun z => some (Value.int .i64 z)) hk0, by (repeat (first | exact trivial | refine ⟨rfl, ?_⟩)); done⟩)
    · obtain rfl : k = l.length := by omega
      rw [List.drop_length, spanD, Nat.add_zero] at hsk
      have hk0 : ((l.length : Nat) : Int) = spanD l := by omega
      refine goW ?_
      exact a_out () trivial (hs := ⟨congrArg (fun z => some (Value.int .i64 z)) hk0, by (repeat (first | exact trivial | refine ⟨rfl, ?_⟩)); done⟩)
  rintro _ -
  refine goQ ?_
  refine a_slG (spanD l) ?_
  have hdl : l.length - spanD l = (l.drop (spanD l)).length := by rw [List.length_drop]
  have hs2 := hs.drop (spanD l) cap' hcap'
  rw [hdl]
  refine a_call (trim_any _ b (Fr.inl hF) (slAddr ad (spanD l) cap') (cap' - spanD l) (l.drop (spanD l)) (by rw [List.length_drop]; omega) hs2 (by rw [List.length_drop]; omega)) ?_
  rintro v L' ⟨rfl, ad2, m, cap2, rfl, hm⟩
  rw [← any_iff] at hm
  by_cases hbad : (l.drop (spanD l)).any (fun c => !isSp c) = true
  · rw [if_pos hbad] at hoct
    have hm2 := hm.2 hbad
    refine goL ?_
    refine a_ret2 ⟨rfl, ?_⟩
    rw [hoct]
  rw [if_neg hbad] at hoct
  have hm0 : m = 0 := by
    rcases Nat.eq_zero_or_pos m with h | h
    · exact h
    · exact absurd (hm.1 h) hbad
  subst hm0
  clear hm hbad hs2
  refine goL ?_
  refine a_loopK (α := Nat × Nat) (fun (i, m) => i ≤ spanD l ∧ m = octN (l.take i)) (fun (i, m) => [(40, i64 i), (5, i64 m)]) (fun _ => []) (fun (i, _) => spanD l - i) (0, 0) ⟨Nat.zero_le _, rfl⟩ ?_
  rintro ⟨i, m⟩ ⟨hi, hm⟩
  refine goW ?_
  refine KW_if rfl (fun h => ?_) (fun h => ?_)
  · have hi' : i < spanD l := by
      have : (i : Int) < ((spanD l : Nat) : Int) := h
      omega
    have hlt : i < l.length := by omega
    have hg := List.getElem?_eq_getElem hlt
    obtain ⟨a, ha, hca⟩ := hs i _ hg
    subst ha
    have hd := spanD_all l i _ hi' hg
    simp only [isD, decide_eq_true_eq] at hd
    obtain ⟨hd1, hd2⟩ := hd
    have h8 := octN_take_lt l i hi
    have hp := pow8 (k := i) (by omega)
    rw [← hm] at h8
    have hsn : octN (l.take (i + 1)) = m * 8 + (l[i].toNat - 48) := by
      rw [List.take_succ_eq_append_getElem hlt, octN_snoc, ← hm]
    generalize l[i] = c at *
    have hq : (9223372036854775807 - ((c.toNat : Int) - 48)) / 8 ≥ 1152921504606846968 := by omega
    refine goW ?_
    refine a_ld hca ?_
    refine goL ?_
    refine a_pure (p_quo' rfl rfl (by omega) (by omega) (by simp only [Fits]; omega)) ?_
    refine goL ?_
    refine a_next (i + 1, m * 8 + (c.toNat - 48)) ⟨by omega, hsn.symm⟩ (by show spanD l - (i + 1) < spanD l - i; omega) (hE := ⟨rfl, ?_, by (repeat (first | exact trivial | refine ⟨rfl, ?_⟩)); done⟩)
    exact congrArg (fun z => some (Value.int .i64 z)) (by show (8 : Int) * m + (c.toNat - 48) = ((m * 8 + (c.toNat - 48) : Nat) : Int); omega)
  · obtain rfl : i = spanD l := by
      have : ¬ (i : Int) < ((spanD l : Nat) : Int) := h
      omega
    refine goW ?_
    refine a_ret2 ⟨rfl, ?_⟩
    rw [hoct, hm]
end Go.Proofs.YtjeaofabpfgngaaDoor
