/-
  The law's own record, and the law HeaderReads, walked.
  Conditions: the package-level variables hold what the program's text lays.
-/
import Derived.Test.YtjeaofabpfgngaaDoorA35
import Derived.Test.YtjeaofabpfgngaaDoorA39
namespace Go.Proofs.YtjeaofabpfgngaaDoor
open Go.KE

/-- The record of some bytes: those that are missing are zeros. -/
def recOf (b : List UInt8) : List UInt8 := putAt zero512 0 (b.take 512)
theorem recOf_length (b : List UInt8) : (recOf b).length = 512 := by
  rw [recOf, putAt_length (by rw [zero_length]; simp; omega)]
  exact zero_length
/-- A slice of bytes that a caller hands on. -/
def SlF (F : Fr) (s : Value) (b : List UInt8) : Prop :=
  (b = [] ∧ ∃ ad cap, s = .slice ad 0 cap) ∨ ∃ (k o cap : Nat) (l : List Value) (t : TypeId) (fr : Nat × Nat), s = .slice (some ⟨k, o, none⟩) b.length cap ∧ F.mem k (.cells l.toArray t fr) ∧ Cut l o b.length (bvs b)

set_option maxRecDepth 10000 in
set_option maxHeartbeats 1000000 in
theorem record_nil (F : Fr) (ad : Option Addr) (cap : Nat) : Does Tryd.prog 13 [.slice ad 0 cap] F [] (fun v L' => L' = [] ∧ v = .agg (bvs (recOf [])).toArray) := by
  obtain ⟨Z, hZ⟩ : ∃ Z, zero512 = Z := ⟨_, rfl⟩
  have hz5 : Z.length = 512 := by rw [← hZ]; exact zero_length
  have er : recOf [] = Z := by rw [recOf, List.take_nil, putAt_nil, hZ]
  rw [er]
  have hcz : Cut (bvs Z) 0 512 (bvs Z) := hz5 ▸ Cut_all Z
  refine Does_clear (p := fun v => v = _) ?_
  refine Does_of (n := 23) Tryd.func13 rfl rfl (by simp) ?_
  refine goW ?_
  refine a_alloc fun b2 => ?_
  refine goL ?_
  rw [← bvs_zero, hZ]
  refine a_alloc fun b3 => ?_
  rw [← bvs_zero, hZ]
  refine KL_s (.none rfl) (s_store (l' := bvs Z) rfl rfl rfl (by rw [bvs_length]; exact hz5) .head (Patch_all (by rw [bvs_length])) (oneCells_bvs _)) ?_
  refine goL ?_
  refine a_loop (fun i : Nat => i = 0) (fun i => [(4, i64 i), (0, .slice ad 0 cap), (3, .pointer (some ⟨b3, 0, none⟩)), (2, .pointer (some ⟨b2, 0, none⟩))])
    (fun _ => [(b3, .cells (bvs Z).toArray 24 (0, 0)), (b2, .cells (bvs Z).toArray 24 (0, 0))]) (fun i => i) 0 rfl ?_
  rintro i rfl
  refine goW ?_
  refine KL_p (.none rfl) rfl (p_load_agg rfl (.own (.head _)) hcz) ?_
  refine KL_s (.none rfl) (s_store (l' := bvs Z) rfl rfl rfl (by simp [bvs_length, hz5]) (.tail .head) (Patch_all (by rw [bvs_length])) (oneCells_bvs _)) ?_
  refine goL ?_
  refine KQ_ret1 (.inl rfl) rfl (.agg rfl (.own (.tail _ (.head _))) hcz) ?_
  rfl

set_option maxRecDepth 10000 in
set_option maxHeartbeats 1000000 in
theorem record_some (F : Fr) (b : List UInt8) (k o cap : Nat) {l : List Value} {t : TypeId} {fr : Nat × Nat} (hF : F.mem k (.cells l.toArray t fr)) (hc : Cut l o b.length (bvs b)) :
    Does Tryd.prog 13 [.slice (some ⟨k, o, none⟩) b.length cap] F [] (fun v L' => L' = [] ∧ v = .agg (bvs (recOf b)).toArray) := by
  obtain ⟨Z, hZ⟩ : ∃ Z, zero512 = Z := ⟨_, rfl⟩
  have hz5 : Z.length = 512 := by rw [← hZ]; exact zero_length
  have er : recOf b = putAt Z 0 (b.take 512) := by rw [recOf, hZ]
  rw [er]
  refine Does_clear (p := fun v => v = _) ?_
  refine Does_of (n := 23) Tryd.func13 rfl rfl (by simp) ?_
  refine goW ?_
  refine a_alloc fun b2 => ?_
  refine goL ?_
  rw [← bvs_zero, hZ]
  refine a_alloc fun b3 => ?_
  rw [← bvs_zero, hZ]
  refine KL_s (.none rfl) (s_store (l' := bvs Z) rfl rfl rfl (by rw [bvs_length]; exact hz5) .head (Patch_all (by rw [bvs_length])) (oneCells_bvs _)) ?_
  refine goL ?_
  refine a_loop (fun i : Nat => i ≤ b.length ∧ i ≤ 512) (fun i => [(4, i64 i), (0, .slice (some ⟨k, o, none⟩) b.length cap), (3, .pointer (some ⟨b3, 0, none⟩)), (2, .pointer (some ⟨b2, 0, none⟩))])
    (fun i => [(b3, .cells (bvs (putAt Z 0 (b.take i))).toArray 24 (0, 0)), (b2, .cells (bvs Z).toArray 24 (0, 0))]) (fun i => 512 - i) 0 ⟨by omega, by omega⟩ ?_ (hL := by rw [List.take_zero, putAt_nil])
  rintro i ⟨hi, hi2⟩
  have hcase : (i < b.length ∧ i < 512) ∨ (i < b.length ∧ i = 512) ∨ i = b.length := by omega
  rcases hcase with ⟨h1, h2⟩ | ⟨h1, rfl⟩ | rfl
  · have hci := Cut.at hc (bvs_at (List.getElem?_eq_getElem h1))
    have hlt : (b.take i).length = i := by rw [List.length_take]; omega
    have hp := putAt_post (rs := Z) (o := 0) (c := b[i]) (l := b.take i) (by omega)
    rw [hlt, ← List.take_succ_eq_append_getElem h1, Nat.zero_add] at hp
    refine goW ?_
    refine KL_p (.none rfl) rfl (p_load rfl (.fr hF) hci) ?_
    refine goL ?_
    refine KL_s (.none rfl) (s_store rfl rfl rfl rfl .head hp (oneCells_of rfl)) ?_
    refine goL ?_
    exact a_next (i + 1) ⟨h1, h2⟩ (by omega)
  · have hpl : (putAt Z 0 (b.take 512)).length = 512 := by rw [putAt_length (by simp; omega)]; exact hz5
    generalize putAt Z 0 (b.take 512) = R at *
    have hcr : Cut (bvs R) 0 512 (bvs R) := hpl ▸ Cut_all R
    refine goW ?_
    refine KL_p (.none rfl) rfl (p_load_agg rfl (.own (.head _)) hcr) ?_
    refine KL_s (.none rfl) (s_store (l' := bvs R) rfl rfl rfl (by simp [bvs_length, hpl]) (.tail .head) (Patch_all (by rw [bvs_length, bvs_length, hz5, hpl])) (oneCells_bvs _)) ?_
    refine goL ?_
    refine KQ_ret1 (.inl rfl) rfl (.agg rfl (.own (.tail _ (.head _))) hcr) ?_
    rfl
  · rw [List.take_of_length_le (Nat.le_refl _), List.take_of_length_le hi2]
    have hpl : (putAt Z 0 b).length = 512 := by rw [putAt_length (by omega)]; exact hz5
    generalize putAt Z 0 b = R at *
    have hcr : Cut (bvs R) 0 512 (bvs R) := hpl ▸ Cut_all R
    refine goW ?_
    refine KL_p (.none rfl) rfl (p_load_agg rfl (.own (.head _)) hcr) ?_
    refine KL_s (.none rfl) (s_store (l' := bvs R) rfl rfl rfl (by simp [bvs_length, hpl]) (.tail .head) (Patch_all (by rw [bvs_length, bvs_length, hz5, hpl])) (oneCells_bvs _)) ?_
    refine goL ?_
    refine KQ_ret1 (.inl rfl) rfl (.agg rfl (.own (.tail _ (.head _))) hcr) ?_
    rfl
theorem record_any {F : Fr} {s : Value} {b : List UInt8} (h : SlF F s b) : Does Tryd.prog 13 [s] F [] (fun v L' => L' = [] ∧ v = .agg (bvs (recOf b)).toArray) := by
  rcases h with ⟨rfl, ad, cap, rfl⟩ | ⟨k, o, cap, l, t, fr, rfl, hF, hc⟩
  · exact record_nil F ad cap
  · exact record_some F b k o cap hF hc
theorem SlF.plus {F : Fr} {s : Value} {b : List UInt8} (h : SlF F s b) (L : Bl) : SlF (F.plus L) s b := by
  rcases h with h | ⟨k, o, cap, l, t, fr, rfl, hF, hc⟩
  · exact .inl h
  · exact .inr ⟨k, o, cap, l, t, fr, rfl, Fr.inl hF, hc⟩

/-- The header that the law asks at last. -/
def readsHdr : Hdr := ⟨1, ⟨#[97]⟩, ⟨#[]⟩, 0, 0, 0, 0, 0, 48, ⟨#[]⟩, ⟨#[]⟩, ⟨#[]⟩, 0, 0⟩
theorem readsHdr_ok : ∃ rs rs2, EncOk readsHdr rs rs2 := by
  refine encode_some (.inl rfl) (by decide +kernel) (by decide) (fun k => ?_) (fun k => ?_)
  · match k with
    | 0 => decide
    | 1 => decide
    | 2 => decide
    | 3 => decide
    | k + 4 => exact (by decide : (⟨#[]⟩ : ByteArray).size ≤ 155)
  · match k with
    | 0 => decide
    | 1 => decide
    | 2 => decide
    | 3 => decide
    | 4 => decide
    | 5 => decide
    | k + 6 => exact (by decide : (0 : Int) ≤ 0 ∧ (0 : Int) < 8)
theorem reads_ok : (encode readsHdr).2 = 0 := by
  obtain ⟨_, _, k⟩ := readsHdr_ok
  rw [k.enc]
theorem reads_first : (encode readsHdr).1[0]? = some 97 := by
  obtain ⟨rs, rs2, k⟩ := readsHdr_ok
  have hl0 := textsGo_length readsHdr _ _ _ _ zero_length k.texts
  have e : sub (encode readsHdr).1 (tAt 0) (tLen 0) = pad ⟨#[97]⟩ 100 := by
    obtain ⟨h1, h2⟩ := t_out 0 (by omega)
    rw [k.enc]
    show sub (putSum (bare readsHdr rs2)) (tAt 0) (tLen 0) = _
    rw [rec_sub k h1 h2, (numsGo_sub readsHdr 7 0 rs rs2 k.nums rfl hl0).2 _ _ (fun i _ hi => t_n_disj 0 i (by omega) hi)]
    exact (textsGo_sub readsHdr 5 0 zero512 rs k.texts rfl zero_length blank_zero).1 0 (Nat.zero_le _) (by omega)
  have h : (sub (encode readsHdr).1 (tAt 0) (tLen 0))[0]? = (pad ⟨#[97]⟩ 100)[0]? := by rw [e]
  rw [sub_get, if_pos (by decide)] at h
  exact h.trans (by rfl)
theorem readsHdr_fits : HFits readsHdr where
  form := by simp [readsHdr, Fits]
  mode := by simp [readsHdr, Fits]
  uid := by simp [readsHdr, Fits]
  gid := by simp [readsHdr, Fits]
  size := by simp [readsHdr, Fits]
  time := by simp [readsHdr, Fits]
  major := by simp [readsHdr, Fits]
  minor := by simp [readsHdr, Fits]
  texts := fun k => by
    have h0 : (⟨#[97]⟩ : ByteArray).size ≤ 9223372036854775807 := by decide
    have hz : (⟨#[]⟩ : ByteArray).size ≤ 9223372036854775807 := by decide
    unfold txt
    split
    · exact h0
    · exact hz
    · exact hz
    · exact hz
    · exact hz
theorem built_reads : Tryd.prog.built 23 [(0, i64 1), (1, .string ⟨#[97]⟩), (8, .int .u8 48)] = some (hdrCells readsHdr).toArray := by kernel_rfl

attribute [-instance] instTBProgOfNatTypeIdConsListValueIntI64IntNilStringMkToArrayUInt8U8_1 in
set_option maxRecDepth 10000 in
set_option maxHeartbeats 4000000 in
theorem reads_any (F : Fr) (hg : Glob F) (hg10 : GC F 10 (u8s deBr)) (s : Value) (b : List UInt8) (hs : SlF F s b) :
    Does Tryd.prog 5 [s] F [] (fun v L' => L' = [] ∧ v = .bool true) := by
  have hl := recOf_length b
  refine Does_clear (p := fun v => v = _) ?_
  refine Does_of (n := 52) Tryd.func5 rfl rfl (by simp) ?_
  refine goW ?_
  refine a_call (record_any (hs.plus _)) ?_
  rintro v L' ⟨rfl, rfl⟩
  refine goL ?_
  refine a_call (decode_any _ (hg.plus _) _ hl) ?_
  rintro v L' ⟨rfl, hv⟩
  unfold DecR at hv
  subst hv
  refine goL ?_
  refine a_alloc fun b3 => ?_
  refine KL_s (.none rfl) (s_store (l' := hdrCells (decode (recOf b)).1) rfl rfl rfl rfl .head (Patch_hdr noHdr _) (hdr_one _)) ?_
  refine goL ?_
  refine a_call (record_any (hs.plus _)) ?_
  rintro v L' ⟨rfl, rfl⟩
  refine goL ?_
  refine a_call (refDecode_any _ _ hl) ?_
  rintro v L' ⟨rfl, hv⟩
  unfold DecR at hv
  subst hv
  refine goL ?_
  refine a_alloc fun b6 => ?_
  refine KL_s (.none rfl) (s_store (l' := hdrCells (decode (recOf b)).1) rfl rfl rfl rfl .head (Patch_hdr noHdr _) (hdr_one _)) ?_
  generalize (decode (recOf b)).1 = g at *
  generalize (decode (recOf b)).2.1 = place at *
  generalize (decode (recOf b)).2.2 = code at *
  refine goL ?_
  refine KL_p (.none rfl) rfl (p_build rfl built_reads) ?_
  refine goL ?_
  have hel := encode_length readsHdr
  have h0 : (bvs (encode readsHdr).1)[0]? = some (.int .u8 97) := bvs_at reads_first
  refine a_call (encode_any _ (hg.plus _) (hg10.plus _) readsHdr readsHdr_fits) ?_
  rintro v L' ⟨rfl, rfl⟩
  rw [reads_ok]
  generalize (encode readsHdr).1 = R at *
  refine goL ?_
  refine a_alloc fun b9 => ?_
  refine KL_s (.none rfl) (s_store (l' := bvs R) rfl rfl rfl (by rw [bvs_length]; exact hel) .head (Patch_all (by rw [bvs_length, hel]; rfl)) (oneCells_bvs _)) ?_
  refine goL ?_
  refine KL_p (.none rfl) rfl (p_eq_hdr rfl rfl) ?_
  refine goL ?_
  refine KL_p (.some rfl rfl rfl) rfl (p_load rfl (.own (.head _)) h0) ?_
  refine goL ?_
  exact a_ret1 rfl
end Go.Proofs.YtjeaofabpfgngaaDoor
