/-
  The law HeaderByte walked.
  Conditions: the package-level variables hold what the program's text lays.
-/
import Derived.Test.YtjeaofabpfgngaaDoorA39
import Derived.Test.YtjeaofabpfgngaaDoorA41
namespace Go.Proofs.YtjeaofabpfgngaaDoor
open Go.KE

theorem xor_byte (x : UInt8) (y : UInt8) : bitsOf .xor .u8 x.toNat y.toNat = ((x ^^^ y).toNat : Int) := by
  have hlt := (x ^^^ y).toNat_lt
  have hx := x.toNat_lt
  have hy := y.toNat_lt
  have e : (BitVec.ofInt 8 (x.toNat : Int) ^^^ BitVec.ofInt 8 (y.toNat : Int)).toNat = (x ^^^ y).toNat := by
    rw [BitVec.toNat_xor, UInt8.toNat_xor]
    simp
  show IntKind.u8.wrap ((BitVec.ofInt 8 (x.toNat : Int) ^^^ BitVec.ofInt 8 (y.toNat : Int)).toNat : Int) = _
  rw [e]
  simp only [IntKind.wrap, IntKind.bits, IntKind.signed]
  simp
  rw [← UInt8.toNat_xor]
  omega
theorem xor_ne {x y : UInt8} (h : y.toNat ≠ 0) : x ^^^ y ≠ x := by
  intro e
  have : y = 0 := by
    have h2 := congrArg (x ^^^ ·) e
    simpa [← UInt8.xor_assoc] using h2
  subst this
  exact h rfl

set_option maxRecDepth 10000 in
set_option maxHeartbeats 8000000 in
theorem byte_any (F : Fr) (hg : Glob F) (hg10 : GC F 10 (u8s deBr)) (h : Hdr) (hf : HFits h) (p : Int) (hp : Fits .i64 p) (y : UInt8) :
    Does Tryd.prog 7 [.agg (hdrCells h).toArray, i64 p, .int .u8 y.toNat] F [] (fun v L' => L' = [] ∧ v = .bool true) := by
  have hel := encode_length h
  have hy := y.toNat_lt
  simp only [Fits] at hp
  refine Does_clear (p := fun v => v = _) ?_
  refine Does_of (n := 72) Tryd.func7 rfl rfl (by simp) ?_
  refine goW ?_
  refine a_box fun b1 => ?_
  refine goL ?_
  refine a_call (encode_any _ (hg.plus _) (hg10.plus _) h hf) ?_
  rintro v L' ⟨rfl, rfl⟩
  refine goL ?_
  refine a_alloc fun b3 => ?_
  refine KL_s (.none rfl) (s_store (l' := bvs (encode h).1) rfl rfl rfl (by rw [bvs_length]; exact hel) .head (Patch_all (by rw [bvs_length, hel]; rfl)) (oneCells_bvs _)) ?_
  have hz5 : zero512.length = 512 := zero_length
  have hdz := decode_zero
  obtain ⟨Z, hZ⟩ : ∃ Z, zero512 = Z := ⟨_, rfl⟩
  rw [hZ] at hz5 hdz
  have hcz : Cut (bvs Z) 0 512 (bvs Z) := hz5 ▸ Cut_all Z
  have hcase : (encode h).2 ≠ 0 ∨ ((encode h).2 = 0 ∧ p < 0) ∨ ((encode h).2 = 0 ∧ 512 ≤ p) ∨ ((encode h).2 = 0 ∧ 148 ≤ p ∧ p < 156) ∨ ((encode h).2 = 0 ∧ 0 ≤ p ∧ p < 148 ∧ (y.toNat : Int) = 0) ∨ ((encode h).2 = 0 ∧ 156 ≤ p ∧ p < 512 ∧ (y.toNat : Int) = 0) ∨ ((encode h).2 = 0 ∧ 0 ≤ p ∧ p < 148 ∧ ¬ (y.toNat : Int) = 0) ∨ ((encode h).2 = 0 ∧ 156 ≤ p ∧ p < 512 ∧ ¬ (y.toNat : Int) = 0) := by omega
  have hlaw : (encode h).2 = 0 → ∀ (i : Nat) (c : UInt8), i < 148 ∨ 156 ≤ i → (encode h).1[i]? = some c → ¬ (y.toNat : Int) = 0 → (decode (putAt (encode h).1 i [c ^^^ y])).2.2 = 131 ∨ (sums (putAt (encode h).1 i [c ^^^ y])).2 = saidF (putAt (encode h).1 i [c ^^^ y]) :=
    fun hc i c hi hic hy0 => byte_law hc hi hic (xor_ne (by omega))
  generalize encode h = en at *
  obtain ⟨rs, code⟩ := en
  dsimp only at *
  rcases hcase with hc | ⟨rfl, hc⟩ | ⟨rfl, hc⟩ | ⟨rfl, hc, hc2⟩ | ⟨rfl, hc, hc2, hc3⟩ | ⟨rfl, hc, hc2, hc3⟩ | ⟨rfl, hc, hc2, hc3⟩ | ⟨rfl, hc, hc2, hc3⟩
  · refine goL ?_
    rw [← bvs_zero, hZ]
    refine a_call (decode_any _ (hg.plus _) Z hz5) ?_
    rintro v L' ⟨rfl, hv⟩
    unfold DecR at hv
    rw [hdz] at hv
    dsimp only at hv
    subst hv
    refine goL ?_
    refine a_alloc fun b9 => ?_
    refine KL_s (.none rfl) (s_store (l' := hdrCells noHdr) rfl rfl rfl rfl .head (Patch_hdr noHdr noHdr) (hdr_one noHdr)) ?_
    refine goL ?_
    exact a_ret1 rfl
  · refine goL ?_
    rw [← bvs_zero, hZ]
    refine a_call (decode_any _ (hg.plus _) Z hz5) ?_
    rintro v L' ⟨rfl, hv⟩
    unfold DecR at hv
    rw [hdz] at hv
    dsimp only at hv
    subst hv
    refine goL ?_
    refine a_alloc fun b9 => ?_
    refine KL_s (.none rfl) (s_store (l' := hdrCells noHdr) rfl rfl rfl rfl .head (Patch_hdr noHdr noHdr) (hdr_one noHdr)) ?_
    refine goL ?_
    exact a_ret1 rfl
  · refine goL ?_
    rw [← bvs_zero, hZ]
    refine a_call (decode_any _ (hg.plus _) Z hz5) ?_
    rintro v L' ⟨rfl, hv⟩
    unfold DecR at hv
    rw [hdz] at hv
    dsimp only at hv
    subst hv
    refine goL ?_
    refine a_alloc fun b9 => ?_
    refine KL_s (.none rfl) (s_store (l' := hdrCells noHdr) rfl rfl rfl rfl .head (Patch_hdr noHdr noHdr) (hdr_one noHdr)) ?_
    refine goL ?_
    exact a_ret1 rfl
  · refine goL ?_
    rw [← bvs_zero, hZ]
    refine a_call (decode_any _ (hg.plus _) Z hz5) ?_
    rintro v L' ⟨rfl, hv⟩
    unfold DecR at hv
    rw [hdz] at hv
    dsimp only at hv
    subst hv
    refine goL ?_
    refine a_alloc fun b9 => ?_
    refine KL_s (.none rfl) (s_store (l' := hdrCells noHdr) rfl rfl rfl rfl .head (Patch_hdr noHdr noHdr) (hdr_one noHdr)) ?_
    refine goL ?_
    exact a_ret1 rfl
  · refine goL ?_
    rw [← bvs_zero, hZ]
    refine a_call (decode_any _ (hg.plus _) Z hz5) ?_
    rintro v L' ⟨rfl, hv⟩
    unfold DecR at hv
    rw [hdz] at hv
    dsimp only at hv
    subst hv
    refine goL ?_
    refine a_alloc fun b9 => ?_
    refine KL_s (.none rfl) (s_store (l' := hdrCells noHdr) rfl rfl rfl rfl .head (Patch_hdr noHdr noHdr) (hdr_one noHdr)) ?_
    refine goL ?_
    exact a_ret1 rfl
  · refine goL ?_
    rw [← bvs_zero, hZ]
    refine a_call (decode_any _ (hg.plus _) Z hz5) ?_
    rintro v L' ⟨rfl, hv⟩
    unfold DecR at hv
    rw [hdz] at hv
    dsimp only at hv
    subst hv
    refine goL ?_
    refine a_alloc fun b9 => ?_
    refine KL_s (.none rfl) (s_store (l' := hdrCells noHdr) rfl rfl rfl rfl .head (Patch_hdr noHdr noHdr) (hdr_one noHdr)) ?_
    refine goL ?_
    exact a_ret1 rfl
  · obtain ⟨i, rfl⟩ : ∃ i : Nat, p = (i : Int) := ⟨p.toNat, by omega⟩
    have hi5 : i < rs.length := by omega
    have hci : (bvs rs)[i]? = some (bv rs[i]) := bvs_at (List.getElem?_eq_getElem hi5)
    have hl2 := hlaw rfl i rs[i] (by omega) (List.getElem?_eq_getElem hi5) hc3
    generalize rs[i] = x at *
    have hx := xor_byte x y
    have hpt := patch_at rs [x ^^^ y] i (by simp; omega)
    have hpl : (putAt rs i [x ^^^ y]).length = 512 := by rw [putAt_length (by simp; omega)]; exact hel
    refine goL ?_
    refine KL_p (.none rfl) rfl (p_load rfl (.own (.head _)) hci) ?_
    refine goL ?_
    refine KL_p (.none rfl) rfl (p_xor rfl rfl) ?_
    rw [hx]
    refine goL ?_
    refine KL_s (.none rfl) (s_store (l' := bvs (putAt rs i [x ^^^ y])) rfl rfl rfl rfl .head hpt (oneCells_of rfl)) ?_
    generalize putAt rs i [x ^^^ y] = R at *
    have hcut : Cut (bvs R) 0 512 (bvs R) := hpl ▸ Cut_all R
    refine goL ?_
    refine a_ldA hcut ?_
    refine a_call (decode_any _ (hg.plus _) R hpl) ?_
    rintro v L' ⟨rfl, hv⟩
    unfold DecR at hv
    subst hv
    refine goL ?_
    refine a_alloc fun b12 => ?_
    refine KL_s (.none rfl) (s_store (l' := hdrCells (decode R).1) rfl rfl rfl rfl .head (Patch_hdr noHdr (decode R).1) (hdr_one (decode R).1)) ?_
    generalize (decode R).1 = g at *
    generalize (decode R).2.1 = place at *
    by_cases h131 : (decode R).2.2 = 131
    · rw [h131]
      refine goL ?_
      refine x_start (N := 10) [(b12, .cells (hdrCells g).toArray 23 (0, 0)), (b3, .cells (bvs R).toArray 24 (0, 0)), (b1, .cells (hdrCells h).toArray 23 (0, 0))] ?_
      refine goX ?_
      exact a_ret1 rfl
    · have hsum := hl2.resolve_left h131
      generalize (decode R).2.2 = code2 at *
      refine goL ?_
      refine x_start (N := 10) [(b12, .cells (hdrCells g).toArray 23 (0, 0)), (b3, .cells (bvs R).toArray 24 (0, 0)), (b1, .cells (hdrCells h).toArray 23 (0, 0))] ?_
      refine goX ?_
      refine x_ldA hcut ?_
      refine y_at ?_
      refine y_p 5 (p_load_agg rfl (.own (.tail _ (.head _))) hcut) ?_
      refine y_call 4 (signed_any _ R hpl) ?_
      rintro v L' ⟨rfl, rfl⟩
      refine y_back (N := 10) 6 ?_
      refine x_call (said16_any _ R hpl) ?_
      rintro v L' ⟨rfl, rfl⟩
      rw [hsum]
      refine goX ?_
      exact a_ret1 rfl
  · obtain ⟨i, rfl⟩ : ∃ i : Nat, p = (i : Int) := ⟨p.toNat, by omega⟩
    have hi5 : i < rs.length := by omega
    have hci : (bvs rs)[i]? = some (bv rs[i]) := bvs_at (List.getElem?_eq_getElem hi5)
    have hl2 := hlaw rfl i rs[i] (by omega) (List.getElem?_eq_getElem hi5) hc3
    generalize rs[i] = x at *
    have hx := xor_byte x y
    have hpt := patch_at rs [x ^^^ y] i (by simp; omega)
    have hpl : (putAt rs i [x ^^^ y]).length = 512 := by rw [putAt_length (by simp; omega)]; exact hel
    refine goL ?_
    refine KL_p (.none rfl) rfl (p_load rfl (.own (.head _)) hci) ?_
    refine goL ?_
    refine KL_p (.none rfl) rfl (p_xor rfl rfl) ?_
    rw [hx]
    refine goL ?_
    refine KL_s (.none rfl) (s_store (l' := bvs (putAt rs i [x ^^^ y])) rfl rfl rfl rfl .head hpt (oneCells_of rfl)) ?_
    generalize putAt rs i [x ^^^ y] = R at *
    have hcut : Cut (bvs R) 0 512 (bvs R) := hpl ▸ Cut_all R
    refine goL ?_
    refine a_ldA hcut ?_
    refine a_call (decode_any _ (hg.plus _) R hpl) ?_
    rintro v L' ⟨rfl, hv⟩
    unfold DecR at hv
    subst hv
    refine goL ?_
    refine a_alloc fun b12 => ?_
    refine KL_s (.none rfl) (s_store (l' := hdrCells (decode R).1) rfl rfl rfl rfl .head (Patch_hdr noHdr (decode R).1) (hdr_one (decode R).1)) ?_
    generalize (decode R).1 = g at *
    generalize (decode R).2.1 = place at *
    by_cases h131 : (decode R).2.2 = 131
    · rw [h131]
      refine goL ?_
      refine x_start (N := 10) [(b12, .cells (hdrCells g).toArray 23 (0, 0)), (b3, .cells (bvs R).toArray 24 (0, 0)), (b1, .cells (hdrCells h).toArray 23 (0, 0))] ?_
      refine goX ?_
      exact a_ret1 rfl
    · have hsum := hl2.resolve_left h131
      generalize (decode R).2.2 = code2 at *
      refine goL ?_
      refine x_start (N := 10) [(b12, .cells (hdrCells g).toArray 23 (0, 0)), (b3, .cells (bvs R).toArray 24 (0, 0)), (b1, .cells (hdrCells h).toArray 23 (0, 0))] ?_
      refine goX ?_
      refine x_ldA hcut ?_
      refine y_at ?_
      refine y_p 5 (p_load_agg rfl (.own (.tail _ (.head _))) hcut) ?_
      refine y_call 4 (signed_any _ R hpl) ?_
      rintro v L' ⟨rfl, rfl⟩
      refine y_back (N := 10) 6 ?_
      refine x_call (said16_any _ R hpl) ?_
      rintro v L' ⟨rfl, rfl⟩
      rw [hsum]
      refine goX ?_
      exact a_ret1 rfl
end Go.Proofs.YtjeaofabpfgngaaDoor
