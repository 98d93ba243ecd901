/-
  satchel/field: Sums, PutSum.
  Condition: math/bits.deBruijn64tab holds what the library's text lays.
-/
import Derived.Test.YtjeaofabpfgngaaDoorA6
namespace Go.Proofs.YtjeaofabpfgngaaDoor
open Go.KE

def sumB (i : Nat) (c : UInt8) : Int := if 148 ≤ i ∧ i < 156 then 32 else c.toNat
def sumsGo : Nat → List UInt8 → Int → Int → Int × Int
  | _, [], u, s => (u, s)
  | i, c :: r, u, s => sumsGo (i + 1) r (u + sumB i c) (s + IntKind.i8.wrap (sumB i c))
def sums (rs : List UInt8) : Int × Int := sumsGo 0 rs 0 0

theorem sumB_le (i : Nat) (c : UInt8) : 0 ≤ sumB i c ∧ sumB i c ≤ 255 := by
  have := c.toNat_lt
  unfold sumB
  split <;> omega
theorem wrap8_le (x : Int) : -128 ≤ IntKind.i8.wrap x ∧ IntKind.i8.wrap x ≤ 127 := by
  simp only [IntKind.wrap, IntKind.bits, IntKind.signed]
  by_cases h : x % 2 ^ 8 ≥ 2 ^ (8 - 1)
  · simp; omega
  · simp; omega

set_option maxRecDepth 10000 in
set_option maxHeartbeats 1000000 in
theorem sums_any (F : Fr) (rs : List UInt8) (hl : rs.length = 512) :
    Does Tryd.prog 56 [.agg (bvs rs).toArray] F [] (fun v L' => L' = [] ∧ v = .tuple #[i64 (sums rs).1, i64 (sums rs).2]) := by
  refine Does_of (n := 31) Tryd.func56 rfl rfl (by simp) ?_
  refine goW ?_
  refine a_box fun b => ?_
  refine goL ?_
  have hcut : Cut (bvs rs) 0 512 (bvs rs) := hl ▸ Cut_all rs
  refine KL_p (.none rfl) rfl (p_load_agg rfl (.own (.head _)) hcut) ?_
  refine goL ?_
  refine a_loop (α := Nat × Int × Int) (fun (i, u, s) => i ≤ 512 ∧ sumsGo i (rs.drop i) u s = sums rs ∧ 0 ≤ u ∧ u ≤ 255 * i ∧ -128 * i ≤ s ∧ s ≤ 127 * i)
    (fun (i, u, s) => [(9, i64 i), (4, i64 u), (5, i64 s), (8, .agg (bvs rs).toArray)])
    (fun _ => [(b, .cells (bvs rs).toArray 24 (0, 0))]) (fun (i, _, _) => 512 - i) (0, 0, 0) ⟨by omega, rfl, by simp, by simp, by simp, by simp⟩ ?_
  rintro ⟨i, u, s⟩ ⟨hi, hv, hu0, hu1, hs0, hs1⟩
  refine goW ?_
  refine KW_if rfl (fun h => ?_) (fun h => ?_)
  · have hi' : i < rs.length := by omega
    have hci : (bvs rs)[i]? = some (bv rs[i]) := bvs_at (List.getElem?_eq_getElem hi')
    have hdr : rs.drop i = rs[i] :: rs.drop (i + 1) := List.drop_eq_getElem_cons hi'
    rw [hdr] at hv
    simp only [sumsGo] at hv
    generalize rs[i] = x at *
    have hx255 := x.toNat_lt
    refine goW ?_
    refine KL_p (.none rfl) rfl (p_index_arr rfl rfl (by omega) (by omega) hci) ?_
    have hw := wrap8_le x.toNat
    have hcase : (148 ≤ i ∧ i < 156) ∨ (¬ (148 ≤ i ∧ i < 156)) := by omega
    rcases hcase with hcase | hcase
    · have e : sumB i x = 32 := by rw [sumB, if_pos hcase]
      rw [e, show IntKind.i8.wrap 32 = 32 by decide] at hv
      obtain ⟨hc1, hc2⟩ := hcase
      refine goL ?_
      refine a_next (i + 1, u + 32, s + 32) ⟨by omega, hv, by omega, by omega, by omega, by omega⟩ (by show 512 - (i + 1) < 512 - i; omega)
    · have e : sumB i x = x.toNat := by rw [sumB, if_neg hcase]
      rw [e] at hv
      have hcase : i < 148 ∨ 156 ≤ i := by omega
      rcases hcase with hcase | hcase
      · refine goL ?_
        refine a_next (i + 1, u + x.toNat, s + IntKind.i8.wrap x.toNat) ⟨by omega, hv, by omega, by omega, by omega, by omega⟩ (by show 512 - (i + 1) < 512 - i; omega)
      · refine goL ?_
        refine a_next (i + 1, u + x.toNat, s + IntKind.i8.wrap x.toNat) ⟨by omega, hv, by omega, by omega, by omega, by omega⟩ (by show 512 - (i + 1) < 512 - i; omega)
  · obtain rfl : i = 512 := by omega
    rw [← hl, List.drop_length] at hv
    refine goW ?_
    refine KQ_clear ?_
    refine a_ret2 ⟨rfl, ?_⟩
    rw [← hv]; rfl
end Go.Proofs.YtjeaofabpfgngaaDoor
