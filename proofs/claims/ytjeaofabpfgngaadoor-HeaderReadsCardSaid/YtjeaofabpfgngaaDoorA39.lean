/-
  The law HeaderBack walked.
  Conditions: the package-level variables hold what the program's text lays.
-/
import Derived.Test.YtjeaofabpfgngaaDoorA34
import Derived.Test.YtjeaofabpfgngaaDoorA37
import Derived.Test.YtjeaofabpfgngaaDoorA38
namespace Go.Proofs.YtjeaofabpfgngaaDoor
open Go.KE

/-! ### headers whose numbers have one digit -/
theorem octI_small {n : Int} (h0 : 0 ≤ n) (h1 : n < 8) : (octI n).size = 1 := by
  rw [octI_size h0, oct_lt (by omega)]; rfl
theorem octField_one {n : Int} {w : Nat} (h0 : 0 ≤ n) (h1 : n < 8) (hw : 2 ≤ w) : ∃ bs, octField n w = some bs := by
  have := octI_small h0 h1
  rw [octField, if_neg (by omega)]
  exact ⟨_, rfl⟩
theorem formField_one {f n : Int} {w : Nat} (h0 : 0 ≤ n) (h1 : n < 8) (hw : 2 ≤ w) : ∃ bs, formField f n w = some bs := by
  obtain ⟨bs, h⟩ := octField_one h0 h1 hw
  unfold formField
  split
  · exact ⟨bs, by rw [numField, h]⟩
  · exact ⟨bs, h⟩
theorem textsGo_some (h : Hdr) (hs : ∀ k, (txt h k).1.size ≤ tLen k) : ∀ (m k : Nat) (rs : List UInt8), ∃ rs', textsGo h m k rs = some rs'
  | 0, _, rs => ⟨rs, rfl⟩
  | m + 1, k, rs => by
    have := hs k
    rw [textsGo, if_neg (by omega)]
    exact textsGo_some h hs m (k + 1) _
theorem numsGo_some (h : Hdr) (hs : ∀ k, 0 ≤ (num h k).1 ∧ (num h k).1 < 8) : ∀ (m k : Nat) (rs : List UInt8), ∃ rs', numsGo h m k rs = some rs'
  | 0, _, rs => ⟨rs, rfl⟩
  | m + 1, k, rs => by
    obtain ⟨h0, h1⟩ := hs k
    have hw := n_ok k
    rw [numsGo]
    split
    · exact numsGo_some h hs m (k + 1) _
    · obtain ⟨bs, hb⟩ := formField_one (f := h.form) (w := nLen k) h0 h1 (by omega)
      rw [hb]
      dsimp only
      rw [if_neg (by omega)]
      exact numsGo_some h hs m (k + 1) _
theorem encode_some {h : Hdr} (hf : h.form = 1 ∨ h.form = 2 ∨ h.form = 3) (hs : saidB h = false) (ht : h.typ ≠ 0) (h1 : ∀ k, (txt h k).1.size ≤ tLen k) (h2 : ∀ k, 0 ≤ (num h k).1 ∧ (num h k).1 < 8) : ∃ rs rs2, EncOk h rs rs2 := by
  obtain ⟨rs, e1⟩ := textsGo_some h h1 5 0 zero512
  obtain ⟨rs2, e2⟩ := numsGo_some h h2 7 0 rs
  exact ⟨rs, rs2, hf, hs, ht, e1, e2⟩

/-- The header that the law asks where the given one cannot be written. -/
def backHdr : Hdr := ⟨2, ⟨#[97]⟩, ⟨#[112]⟩, 7, 0, 0, 0, 0, 53, ⟨#[]⟩, ⟨#[]⟩, ⟨#[]⟩, 0, 0⟩
theorem backHdr_ok : ∃ rs rs2, EncOk backHdr rs rs2 := by
  refine encode_some (.inr (.inl rfl)) (by decide +kernel) (by decide) (fun k => ?_) (fun k => ?_)
  · match k with
    | 0 => decide
    | 1 => decide
    | 2 => decide
    | 3 => decide
    | k + 4 => exact (by decide : (⟨#[112]⟩ : ByteArray).size ≤ 155)
  · match k with
    | 0 => decide
    | 1 => decide
    | 2 => decide
    | 3 => decide
    | 4 => decide
    | 5 => decide
    | k + 6 => exact (by decide : (0 : Int) ≤ 0 ∧ (0 : Int) < 8)
theorem back_ok : (encode backHdr).2 = 0 := by
  obtain ⟨_, _, k⟩ := backHdr_ok
  rw [k.enc]
theorem backHdr_fits : HFits backHdr where
  form := by simp [backHdr, Fits]
  mode := by simp [backHdr, Fits]
  uid := by simp [backHdr, Fits]
  gid := by simp [backHdr, Fits]
  size := by simp [backHdr, Fits]
  time := by simp [backHdr, Fits]
  major := by simp [backHdr, Fits]
  minor := by simp [backHdr, Fits]
  texts := fun k => by
    have h0 : (⟨#[97]⟩ : ByteArray).size ≤ 9223372036854775807 := by decide
    have h1 : (⟨#[112]⟩ : ByteArray).size ≤ 9223372036854775807 := by decide
    have hz : (⟨#[]⟩ : ByteArray).size ≤ 9223372036854775807 := by decide
    unfold txt
    split
    · exact h0
    · exact hz
    · exact hz
    · exact hz
    · exact h1

theorem built_back : Tryd.prog.built 23 [(0, i64 2), (1, .string ⟨#[97]⟩), (2, .string ⟨#[112]⟩), (8, .int .u8 53), (3, i64 7)] = some (hdrCells backHdr).toArray := by kernel_rfl

attribute [-instance] instTBProgOfNatTypeIdConsListValueIntI64IntNilStringMkToArrayUInt8U8_1 in
set_option maxRecDepth 10000 in
set_option maxHeartbeats 4000000 in
theorem back_any (F : Fr) (hg : Glob F) (hg10 : GC F 10 (u8s deBr)) (h : Hdr) (hf : HFits h) :
    Does Tryd.prog 6 [.agg (hdrCells h).toArray] F [] (fun v L' => L' = [] ∧ v = .bool true) := by
  have hel := encode_length h
  refine Does_clear (p := fun v => v = _) ?_
  refine Does_of (n := 64) Tryd.func6 rfl rfl (by simp) ?_
  refine goW ?_
  refine a_box fun b1 => ?_
  refine goL ?_
  refine a_call (encode_any _ (hg.plus _) (hg10.plus _) h hf) ?_
  rintro v L' ⟨rfl, rfl⟩
  refine goL ?_
  refine a_alloc fun b3 => ?_
  refine KL_s (.none rfl) (s_store (l' := bvs (encode h).1) rfl rfl rfl (by rw [bvs_length]; exact hel) .head (Patch_all (by rw [bvs_length, hel]; rfl)) (oneCells_bvs _)) ?_
  by_cases hc : (encode h).2 = 0
  · have hdec := decode_encode hc
    rw [hc]
    generalize (encode h).1 = rs at *
    have hcut : Cut (bvs rs) 0 512 (bvs rs) := hel ▸ Cut_all rs
    refine goL ?_
    refine a_ldA hcut ?_
    refine a_call (decode_any _ (hg.plus _) rs hel) ?_
    rintro v L' ⟨rfl, hv⟩
    unfold DecR at hv
    rw [hdec] at hv
    dsimp only at hv
    subst hv
    refine goL ?_
    refine a_alloc fun b5 => ?_
    refine KL_s (.none rfl) (s_store (l' := hdrCells h) rfl rfl rfl rfl .head (Patch_hdr noHdr h) (hdr_one h)) ?_
    refine goL ?_
    refine KL_p (.none rfl) rfl (p_eq_hdr rfl rfl) ?_
    refine goL ?_
    exact a_ret1 rfl
  · refine goL ?_
    refine KL_p (.none rfl) rfl (p_build rfl built_back) ?_
    refine goL ?_
    have hel2 := encode_length backHdr
    refine a_call (encode_any _ (hg.plus _) (hg10.plus _) backHdr backHdr_fits) ?_
    rintro v L' ⟨rfl, rfl⟩
    have hdec := decode_encode back_ok
    rw [back_ok]
    generalize (encode backHdr).1 = rs at *
    have hcut : Cut (bvs rs) 0 512 (bvs rs) := hel2 ▸ Cut_all rs
    refine goL ?_
    refine a_alloc fun b8 => ?_
    refine KL_s (.none rfl) (s_store (l' := bvs rs) rfl rfl rfl (by rw [bvs_length]; exact hel2) .head (Patch_all (by rw [bvs_length, hel2]; rfl)) (oneCells_bvs _)) ?_
    refine goL ?_
    refine a_ldA hcut ?_
    refine a_call (decode_any _ (hg.plus _) rs hel2) ?_
    rintro v L' ⟨rfl, hv⟩
    unfold DecR at hv
    rw [hdec] at hv
    dsimp only at hv
    subst hv
    refine goL ?_
    refine a_alloc fun b10 => ?_
    refine KL_s (.none rfl) (s_store (l' := hdrCells backHdr) rfl rfl rfl rfl .head (Patch_hdr noHdr backHdr) (hdr_one backHdr)) ?_
    refine goL ?_
    exact a_ret1 rfl
end Go.Proofs.YtjeaofabpfgngaaDoor
