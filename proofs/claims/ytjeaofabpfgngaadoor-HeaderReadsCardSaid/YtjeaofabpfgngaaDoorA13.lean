/-
  The law HeaderForms walked.
  Conditions: the package-level variables hold what the programs' texts lay.
-/
import Derived.Test.YtjeaofabpfgngaaDoorA12
namespace Go.Proofs.YtjeaofabpfgngaaDoor
open Go.KE

theorem HFits.plain {h : Hdr} (hf : HFits h) (f : Int) (hF : Fits .i64 f) : HFits (plain h f) where
  form := hF
  mode := hf.mode
  uid := hf.uid
  gid := hf.gid
  size := hf.size
  time := hf.time
  major := by simp [YtjeaofabpfgngaaDoor.plain, Fits]
  minor := by simp [YtjeaofabpfgngaaDoor.plain, Fits]
  texts := fun k => by
    have h0 := hf.texts 0
    have h1 := hf.texts 1
    have hz : (⟨#[]⟩ : ByteArray).size ≤ 9223372036854775807 := by decide
    unfold txt
    split
    · exact h0
    · exact h1
    · exact hz
    · exact hz
    · exact hz

theorem lastHdr_fits : HFits lastHdr where
  form := by simp [lastHdr, Fits]
  mode := by simp [lastHdr, Fits]
  uid := by simp [lastHdr, Fits]
  gid := by simp [lastHdr, Fits]
  size := by simp [lastHdr, Fits]
  time := by simp [lastHdr, Fits]
  major := by simp [lastHdr, Fits]
  minor := by simp [lastHdr, Fits]
  texts := fun k => by
    have h0 : (⟨#[97]⟩ : ByteArray).size ≤ 9223372036854775807 := by decide
    have hz : (⟨#[]⟩ : ByteArray).size ≤ 9223372036854775807 := by decide
    unfold txt
    split
    · exact h0
    · exact hz
    · exact hz
    · exact hz
    · exact hz
theorem bvs_get {rs : List UInt8} {i : Nat} (h : i < rs.length) : (bvs rs)[i]? = some (.int .u8 rs[i].toNat) := bvs_at (List.getElem?_eq_getElem h)

set_option maxRecDepth 10000 in
set_option maxHeartbeats 4000000 in
theorem forms_any (F : Fr) (hg : Glob F) (hg10 : GC F 10 (u8s deBr)) (h : Hdr) (hf : HFits h) :
    Does Tryd.prog 3 [.agg (hdrCells h).toArray] F [] (fun v L' => L' = [] ∧ v = .bool true) := by
  refine Does_of (n := 76) Tryd.func3 rfl rfl (by simp) ?_
  refine goW ?_
  refine a_box fun b1 => ?_
  refine goL ?_
  refine a_call (encode_any _ (hg.plus _) (hg10.plus _) (plain h 1) (hf.plain 1 (by simp [Fits]))) ?_
  rintro v L' ⟨rfl, rfl⟩
  refine goL ?_
  refine a_alloc fun b3 => ?_
  have hl1 := encode_length (plain h 1)
  refine KL_s (.none rfl) (s_store (l' := bvs (encode (plain h 1)).1) rfl rfl rfl (by rw [bvs_length]; exact hl1) .head (Patch_all (by rw [bvs_length, hl1]; rfl)) (oneCells_bvs _)) ?_
  refine goL ?_
  refine a_loop (α := Nat × Int) (fun (f, _) => 2 ≤ f ∧ f ≤ 4) (fun (f, _) => [(5, i64 f), (4, i64 (encode (plain h 1)).2), (3, .pointer (some ⟨b3, 0, none⟩)), (1, .pointer (some ⟨b1, 0, none⟩))])
    (fun (_, g) => [(b3, .cells (bvs (encode (plain h 1)).1).toArray 24 (0, 0)), (b1, .cells (hdrCells (plain h g)).toArray 23 (0, 0))]) (fun (f, _) => 4 - f) (2, 1) ⟨by omega, by omega⟩ ?_
  rintro ⟨f, g⟩ ⟨hf0, hf1⟩
  refine goW ?_
  refine KW_if rfl (fun hlt => ?_) (fun hlt => ?_)
  · have hf3 : f ≤ 3 := by omega
    refine goW ?_
    refine a_call (encode_any _ (hg.plus _) (hg10.plus _) (plain h f) (hf.plain f (by simp only [Fits]; omega))) ?_
    rintro v L' ⟨rfl, rfl⟩
    refine goL ?_
    refine a_alloc fun b6 => ?_
    have hl2 := encode_length (plain h f)
    refine KL_s (.none rfl) (s_store (l' := bvs (encode (plain h f)).1) rfl rfl rfl (by rw [bvs_length]; exact hl2) .head (Patch_all (by rw [bvs_length, hl2]; rfl)) (oneCells_bvs _)) ?_
    by_cases he : (encode (plain h 1)).2 = 0
    · obtain ⟨he2, hsame⟩ := forms_alike (h := h) (f := f) (by omega) he
      rw [he, he2]
      refine goL ?_
      refine a_loop (fun i : Nat => 0 ≤ i ∧ i ≤ 148) (fun i => [(8, i64 i), (5, i64 f), (4, i64 0), (3, .pointer (some ⟨b3, 0, none⟩)), (6, .pointer (some ⟨b6, 0, none⟩)), (1, .pointer (some ⟨b1, 0, none⟩))])
        (fun _ => [(b6, .cells (bvs (encode (plain h f)).1).toArray 24 (0, 0)), (b3, .cells (bvs (encode (plain h 1)).1).toArray 24 (0, 0)), (b1, .cells (hdrCells (plain h f)).toArray 23 (0, 0))]) (fun i => 148 - i) 0 ⟨by omega, by omega⟩ ?_
      rintro i ⟨hi0, hi1⟩
      refine goW ?_
      refine KW_if rfl (fun hlt => ?_) (fun hlt => ?_)
      · have hi : i < 148 ∨ 156 ≤ i ∧ i < 257 := by omega
        have hi5 : i < (encode (plain h 1)).1.length := by omega
        have hr := bvs_get hi5
        have hs : (bvs (encode (plain h f)).1)[i]? = some (.int .u8 (encode (plain h 1)).1[i].toNat) := by
          refine bvs_at ?_
          rw [hsame i hi]
          exact List.getElem?_eq_getElem hi5
        generalize (encode (plain h 1)).1[i] = c at hr hs
        refine goW ?_
        refine x_start [(b6, .cells (bvs (encode (plain h f)).1).toArray 24 (0, 0)), (b3, .cells (bvs (encode (plain h 1)).1).toArray 24 (0, 0))] ?_
        refine goX ?_
        refine KX_p ?_ rfl (by decide +kernel) (.none rfl) rfl (p_load rfl (.own (.tail _ (.head _))) hr)
        refine goX ?_
        refine KX_p ?_ rfl (by decide +kernel) (.none rfl) rfl (p_load rfl (.own (.head _)) hs)
        refine goX ?_
        refine a_next (i + 1) ⟨by omega, by omega⟩ ?_
        omega
      · obtain rfl : i = 148 := by omega
        refine goW ?_
        refine a_loop (fun i : Nat => 156 ≤ i ∧ i ≤ 257) (fun i => [(9, i64 i), (5, i64 f), (4, i64 0), (3, .pointer (some ⟨b3, 0, none⟩)), (6, .pointer (some ⟨b6, 0, none⟩)), (1, .pointer (some ⟨b1, 0, none⟩))])
          (fun _ => [(b6, .cells (bvs (encode (plain h f)).1).toArray 24 (0, 0)), (b3, .cells (bvs (encode (plain h 1)).1).toArray 24 (0, 0)), (b1, .cells (hdrCells (plain h f)).toArray 23 (0, 0))]) (fun i => 257 - i) 156 ⟨by omega, by omega⟩ ?_
        rintro i ⟨hi0, hi1⟩
        refine goW ?_
        refine KW_if rfl (fun hlt => ?_) (fun hlt => ?_)
        · have hi : i < 148 ∨ 156 ≤ i ∧ i < 257 := by omega
          have hi5 : i < (encode (plain h 1)).1.length := by omega
          have hr := bvs_get hi5
          have hs : (bvs (encode (plain h f)).1)[i]? = some (.int .u8 (encode (plain h 1)).1[i].toNat) := by
            refine bvs_at ?_
            rw [hsame i hi]
            exact List.getElem?_eq_getElem hi5
          generalize (encode (plain h 1)).1[i] = c at hr hs
          refine goW ?_
          refine x_start [(b6, .cells (bvs (encode (plain h f)).1).toArray 24 (0, 0)), (b3, .cells (bvs (encode (plain h 1)).1).toArray 24 (0, 0))] ?_
          refine goX ?_
          refine KX_p ?_ rfl (by decide +kernel) (.none rfl) rfl (p_load rfl (.own (.tail _ (.head _))) hr)
          refine goX ?_
          refine KX_p ?_ rfl (by decide +kernel) (.none rfl) rfl (p_load rfl (.own (.head _)) hs)
          refine goX ?_
          refine a_next (i + 1) ⟨by omega, by omega⟩ ?_
          omega
        · obtain rfl : i = 257 := by omega
          refine goW ?_
          refine KQ_drop (L1 := [_]) ?_
          exact a_next (f + 1, (f : Int)) ⟨by omega, by omega⟩ (by show 4 - (f + 1) < 4 - f; omega)
    · refine goL ?_
      refine KQ_drop (L1 := [_]) ?_
      exact a_next (f + 1, (f : Int)) ⟨by omega, by omega⟩ (by show 4 - (f + 1) < 4 - f; omega)
  · refine goW ?_
    refine a_call (encode_any _ (hg.plus _) (hg10.plus _) lastHdr lastHdr_fits) ?_
    rintro v L' ⟨rfl, rfl⟩
    refine goL ?_
    refine a_alloc fun b6 => ?_
    have hl2 := encode_length lastHdr
    refine KL_s (.none rfl) (s_store (l' := bvs (encode lastHdr).1) rfl rfl rfl (by rw [bvs_length]; exact hl2) .head (Patch_all (by rw [bvs_length, hl2]; rfl)) (oneCells_bvs _)) ?_
    rw [last_ok]
    have ht : (bvs (encode lastHdr).1)[156]? = some (.int .u8 53) := bvs_at (enc_typ last_ok)
    refine goL ?_
    refine KL_p (.some rfl rfl rfl) rfl (p_load rfl (.own (.head _)) ht) ?_
    refine goL ?_
    refine KQ_clear ?_
    refine a_ret1 ⟨rfl, rfl⟩
end Go.Proofs.YtjeaofabpfgngaaDoor
