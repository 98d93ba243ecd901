/-
  The reference's small functions of layer 12: width, PutOctal, PutText.
  No condition.
-/
import Derived.Test.YtjeaofabpfgngaaDoorA11
namespace Go.Proofs.YtjeaofabpfgngaaDoor
open Go.KE

theorem width_any (F : Fr) (w : Nat) (h1 : 2 ≤ w) (h2 : w ≤ 512) : Does Tryd.prog 76 [i64 w] F [] (fun v L' => L' = [] ∧ v = .bool true) := by
  refine Does_of (n := 9) Tryd.func76 rfl rfl (by simp) ?_
  refine goW ?_
  refine a_ret1 ⟨rfl, rfl⟩

def octGo : Nat → Nat → List UInt8 → List UInt8 × Nat
  | 0, n, suf => (suf, n)
  | k + 1, n, suf => octGo k (n / 8) (UInt8.ofNat (48 + n % 8) :: suf)
theorem octGo_snd : ∀ (k n : Nat) (suf : List UInt8), (octGo k n suf).2 = n / 8 ^ k
  | 0, n, suf => by simp [octGo]
  | k + 1, n, suf => by rw [octGo, octGo_snd k, Nat.pow_succ', Nat.div_div_eq_div_mul]
theorem octGo_zero : ∀ (k : Nat) (suf : List UInt8), (octGo k 0 suf).1 = zeros k ++ suf
  | 0, suf => rfl
  | k + 1, suf => by
    rw [octGo, octGo_zero k]
    show zeros k ++ 48 :: suf = _
    rw [zeros, zeros, List.replicate_succ', List.append_assoc]; rfl
theorem octGo_fst : ∀ (k n : Nat) (suf : List UInt8), n < 8 ^ (k + 1) → (octGo (k + 1) n suf).1 = zeros (k + 1 - (oct n).length) ++ oct n ++ suf
  | 0, n, suf, h => by
    rw [oct_lt (by omega), octGo, octGo]
    rw [show n % 8 = n by omega]; rfl
  | k + 1, n, suf, h => by
    rw [octGo]
    by_cases h8 : n < 8
    · rw [oct_lt h8, show n / 8 = 0 by omega, octGo_zero, show n % 8 = n by omega]
      simp
    · rw [oct_ge h8, octGo_fst k (n / 8) _ (by rw [Nat.pow_succ] at h; omega)]
      have := oct_length k (n / 8) (by rw [Nat.pow_succ] at h; omega)
      simp

def refOct (n : Int) (w : Nat) : Option (List UInt8) :=
  if n < 0 then none else if (octGo (w - 1) n.toNat [0]).2 = 0 then some (octGo (w - 1) n.toNat [0]).1 else none

set_option maxHeartbeats 1000000 in
theorem refPutOctal_any (F : Fr) (n : Int) (h : Fits .i64 n) (w : Nat) (h1 : 2 ≤ w) (h2 : w ≤ 512) :
    Does Tryd.prog 60 [i64 n, i64 w] F [] (FieldR (refOct n w)) := by
  simp only [Fits] at h
  refine Does_of (n := 33) Tryd.func60 rfl rfl (by simp) ?_
  refine goW ?_
  refine a_call (width_any _ w h1 h2) ?_
  rintro v L' ⟨rfl, rfl⟩
  unfold FieldR refOct
  by_cases hn : n < 0
  · rw [if_pos hn]
    refine goL ?_
    refine a_ret2 ⟨rfl, rfl⟩
  rw [if_neg hn]
  refine goL ?_
  refine KL_m (.none rfl) rfl (m_make rfl rfl rfl (by omega) (by omega) (by omega) (by omega)) fun b _ => ?_
  refine goL ?_
  refine a_loop (α := Nat × Nat × List UInt8 × Int) (fun (i, m, suf, j) => j = (i : Int) - 1 ∧ i + suf.length = w ∧ octGo i m suf = octGo (w - 1) n.toNat [0] ∧ m ≤ n.toNat)
    (fun (_, m, _, j) => [(7, i64 j), (0, i64 m), (6, .slice (some ⟨b, 0, none⟩) w w)])
    (fun (i, _, suf, _) => [(b, .cells (arrZ i suf).toArray 5 (0, 0))]) (fun (i, _, _, _) => i) (w - 1, n.toNat, [0], (w : Int) - 2) ⟨by omega, by simp; omega, rfl, Nat.le_refl _⟩ ?_ ?_ ?_
  rotate_left
  · exact ⟨rfl, congrArg (fun z => some (Value.int .i64 z)) (by omega), rfl, trivial⟩
  · obtain ⟨k, rfl⟩ : ∃ k, w = k + 1 := ⟨w - 1, by omega⟩
    simp [arrZ, bvs, List.replicate_succ']
    rfl
  rintro ⟨i, m, suf, j⟩ ⟨hj, hi, hv, hm⟩
  refine goW ?_
  refine KW_if rfl (fun h3 => ?_) (fun h3 => ?_)
  · obtain ⟨i, rfl⟩ : ∃ j, i = j + 1 := ⟨i - 1, by omega⟩
    obtain rfl : j = i := by omega
    refine goW ?_
    have e1 : Int.tmod (m : Int) 8 = ((m % 8 : Nat) : Int) := by rw [Int.tmod_eq_emod_of_nonneg (by omega)]; omega
    have e2 : IntKind.i64.wrap (Int.tdiv (m : Int) 8) = ((m / 8 : Nat) : Int) := by
      rw [Int.tdiv_eq_ediv_of_nonneg (by omega)]
      exact (Fits.wrap (k := .i64) (by simp only [Fits]; omega)).trans (by omega)
    have e3 : ((48 : Int) + (m % 8 : Nat)) = ((UInt8.ofNat (48 + m % 8)).toNat : Int) := by
      simp; omega
    refine KL_p (.none rfl) rfl (e1 ▸ p_rem rfl rfl (by omega)) ?_
    refine goL ?_
    rw [e3]
    refine KL_s (.none rfl) (s_store rfl rfl rfl rfl .head (arrZ_patch (c := UInt8.ofNat (48 + m % 8))) (oneCells_of rfl)) ?_
    refine goL ?_
    refine KL_p (.none rfl) rfl (e2 ▸ p_quo rfl rfl (by omega)) ?_
    refine goL ?_
    refine a_next (i, m / 8, UInt8.ofNat (48 + m % 8) :: suf, (i : Int) - 1) ⟨rfl, by simp; omega, hv, by omega⟩ (by show i < i + 1; omega)
  · obtain rfl : i = 0 := by omega
    rw [octGo] at hv
    by_cases hm0 : m = 0
    · subst hm0
      rw [← hv, if_pos rfl]
      refine goW ?_
      have hw : suf.length = w := by omega
      refine a_ret2 ⟨_, ⟨⟨b, w, [], (0, 0)⟩, ⟨by simp [bvs_length], by simp [bvs_length, hw], Nat.le_of_eq hw, Thaw.zero _⟩, by rw [hw], ?_⟩, rfl⟩
      simp [slL, arrZ]
    · rw [← hv, if_neg hm0]
      refine goW ?_
      refine KQ_clear ?_
      refine a_ret2 ⟨rfl, rfl⟩
end Go.Proofs.YtjeaofabpfgngaaDoor
