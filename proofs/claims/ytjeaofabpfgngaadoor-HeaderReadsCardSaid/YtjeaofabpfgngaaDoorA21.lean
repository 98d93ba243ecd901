/-
  The reference's functions of layers 12 and 13: PutText, text, Binary, PutBinary, PutNumber, numbers, digits, can, Name.
  No condition.
-/
import Derived.Test.YtjeaofabpfgngaaDoorA20
import Derived.Test.YtjeaofabpfgngaaDoorK10
namespace Go.Proofs.YtjeaofabpfgngaaDoor
open Go.KE

/-! ### texts -/
theorem refPutText_any (F : Fr) (s : ByteArray) (w : Nat) (h1 : 1 ≤ w) (h2 : w ≤ 512) (hs : s.size ≤ 9223372036854775807) : Does Tryd.prog 58 [.string s, i64 w] F [] (TxtR (refTxt s w)) := by
  have hsl : s.data.toList.length = s.size := by simp
  refine Does_of (n := 44) Tryd.func58 rfl rfl (by simp) ?_
  refine goW ?_
  refine a_loopK (fun i : Nat => i ≤ s.size ∧ hasZ (s.data.toList.drop i) = hasZ s.data.toList) (fun i => [(6, i64 i)]) (fun _ => []) (fun i => s.size - i) 0 ⟨by omega, rfl⟩ ?_
  rintro i ⟨hi, hv⟩
  refine goW ?_
  refine KW_if rfl (fun h => ?_) (fun h => ?_)
  · have hi' : i < s.data.toList.length := by omega
    have hci := List.getElem?_eq_getElem hi'
    rw [List.drop_eq_getElem_cons hi'] at hv
    generalize s.data.toList[i] = c at *
    rw [hasZ] at hv
    have hc := c.toNat_lt
    refine goW ?_
    refine KL_p (.none rfl) rfl (p_index_str rfl rfl (by omega) hci) ?_
    refine goL ?_
    refine KW_if rfl (fun h0 => ?_) (fun h0 => ?_)
    · refine goW ?_
      refine a_ret2 ?_
      rw [decide_eq_true (by omega)] at hv
      unfold TxtR refTxt
      rw [if_pos (.inl (by rw [← hv]; rfl))]
      exact ⟨rfl, 1, by decide, rfl⟩
    · refine goW ?_
      rw [decide_eq_false (by omega)] at hv
      refine a_next (i + 1) ⟨by omega, hv⟩ (by omega)
  · obtain rfl : i = s.size := by omega
    rw [← hsl, List.drop_length] at hv
    have hz : hasZ s.data.toList = false := by rw [← hv]; rfl
    clear hv hi h
    by_cases hw : s.size > w
    · refine goW ?_
      refine a_ret2 ?_
      unfold TxtR refTxt
      rw [if_pos (.inr hw)]
      exact ⟨rfl, 122, by decide, rfl⟩
    refine goW ?_
    refine KL_m (.none rfl) rfl (m_make rfl rfl rfl (by omega) (by omega) (by omega) (by omega)) fun b _ => ?_
    refine goL ?_
    refine a_loopK (fun i : Nat => i ≤ s.size) (fun i => [(8, i64 i)])
      (fun i => [(b, .cells (bvs (s.data.toList.take i ++ List.replicate (w - i) 0)).toArray 5 (0, 0))]) (fun i => s.size - i) 0 (Nat.zero_le _) ?_ (hL := ?_)
    rotate_left
    · simp only [bvs, List.take_zero, List.nil_append, List.map_replicate, Nat.sub_zero]; rfl
    intro i hi
    refine goW ?_
    refine KW_if rfl (fun h => ?_) (fun h => ?_)
    · have hi' : i < s.data.toList.length := by omega
      have hci := List.getElem?_eq_getElem hi'
      have hp := patch_mid (s.data.toList.take i) [s.data.toList[i]] (List.replicate (w - (i + 1)) 0) [0] rfl
      rw [List.length_take, Nat.min_eq_left (by omega), ← List.take_succ_eq_append_getElem hi'] at hp
      have e : s.data.toList.take i ++ [0] ++ List.replicate (w - (i + 1)) 0 = s.data.toList.take i ++ List.replicate (w - i) 0 := by
        rw [List.append_assoc, List.singleton_append, ← List.replicate_succ, show w - (i + 1) + 1 = w - i by omega]
      rw [e] at hp
      refine goW ?_
      refine KL_p (.none rfl) rfl (p_index_str rfl rfl (by omega) hci) ?_
      refine goL ?_
      refine a_st hp ?_
      refine goL ?_
      exact a_next (i + 1) (by omega) (by omega)
    · obtain rfl : i = s.size := by omega
      refine goW ?_
      refine a_ret2 ?_
      unfold TxtR refTxt
      rw [if_neg (by simp [hz]; omega)]
      have hl : (s.data.toList.take s.size ++ List.replicate (w - s.size) (0 : UInt8)).length = w := by simp; omega
      rw [← hsl, List.take_length, hsl]
      rw [← hsl, List.take_length, hsl] at hl
      refine ⟨_, ⟨⟨b, w, [], (0, 0)⟩, ⟨by simp [bvs_length], by simp only [List.append_nil, bvs_length]; omega, by show _ ≤ w; omega, Thaw.zero _⟩, by rw [hl]; rfl, by simp [slL]⟩, rfl⟩

def TxtB (f : Option (List UInt8)) (v : Value) (L : Bl) : Prop :=
  match f with
  | none => L = [] ∧ v = .tuple #[.slice none 0 0, .bool false]
  | some bs => ∃ s, BytesAt bs s L ∧ v = .tuple #[s, .bool true]

theorem refText_any (F : Fr) (s : ByteArray) (w : Nat) (h1 : 1 ≤ w) (h2 : w ≤ 512) (hs : s.size ≤ 9223372036854775807) : Does Tryd.prog 26 [.string s, i64 w] F [] (TxtB (refTxt s w)) := by
  refine Does_of (n := 17) Tryd.func26 rfl rfl (by simp) ?_
  refine goW ?_
  refine a_call (refPutText_any _ s w h1 h2 hs) ?_
  intro v L' hv
  unfold TxtR at hv
  unfold TxtB
  generalize refTxt s w = f at *
  cases f with
  | none =>
    obtain ⟨rfl, e, he, rfl⟩ := hv
    refine goL ?_
    exact a_ret2 ⟨rfl, rfl⟩
  | some bs =>
    obtain ⟨s, hs, rfl⟩ := hv
    refine goL ?_
    exact a_ret2 ⟨s, by simpa using hs, rfl⟩

/-! ### names -/
def fullName (h : Hdr) : ByteArray := if h.pre = ⟨#[]⟩ then h.name else h.pre ++ ⟨#[47]⟩ ++ h.name
theorem name_any (F : Fr) (h : Hdr) (hs : h.pre.size + h.name.size < 9223372036854775807) : Does Tryd.prog 10 [.agg (hdrCells h).toArray] F [] (fun v L' => L' = [] ∧ v = .string (fullName h)) := by
  refine Does_clear (p := fun v => v = _) ?_
  refine Does_of (n := 14) Tryd.func10 rfl rfl (by simp) ?_
  have e1 : (h.pre ++ (⟨#[47]⟩ : ByteArray)).size = h.pre.size + 1 := by rw [ByteArray.size_append]; rfl
  have e2 : (⟨#[47]⟩ : ByteArray).size = 1 := rfl
  by_cases hp : h.pre = ⟨#[]⟩
  · refine goW ?_
    refine a_box fun b => ?_
    refine goL ?_
    exact a_ret1 (by rw [fullName, if_pos hp])
  · refine goW ?_
    refine a_box fun b => ?_
    refine goL ?_
    exact a_ret1 (by rw [fullName, if_neg hp])
theorem refName_any (F : Fr) (h : Hdr) (hs : h.pre.size + h.name.size < 9223372036854775807) : Does Tryd.prog 11 [.agg (hdrCells h).toArray] F [] (fun v L' => L' = [] ∧ v = .string (fullName h)) := by
  refine Does_clear (p := fun v => v = _) ?_
  refine Does_of (n := 14) Tryd.func11 rfl rfl (by simp) ?_
  have e1 : (h.pre ++ (⟨#[47]⟩ : ByteArray)).size = h.pre.size + 1 := by rw [ByteArray.size_append]; rfl
  have e2 : (⟨#[47]⟩ : ByteArray).size = 1 := rfl
  by_cases hp : h.pre = ⟨#[]⟩
  · refine goW ?_
    refine a_box fun b => ?_
    refine goL ?_
    exact a_ret1 (by rw [fullName, if_pos hp])
  · refine goW ?_
    refine a_box fun b => ?_
    refine goL ?_
    exact a_ret1 (by rw [fullName, if_neg hp])

/-! ### numbers -/
def numCells (h : Hdr) : List Value :=
  [i64 100, i64 8, i64 h.mode, .bool false, i64 108, i64 8, i64 h.uid, .bool false, i64 116, i64 8, i64 h.gid, .bool false, i64 124, i64 12, i64 h.size, .bool false,
   i64 136, i64 12, i64 h.time, .bool true, i64 329, i64 8, i64 h.major, .bool false, i64 337, i64 8, i64 h.minor, .bool false]
set_option maxRecDepth 10000 in
theorem refNumbers_any (F : Fr) (h : Hdr) : Does Tryd.prog 28 [.agg (hdrCells h).toArray] F [] (fun v L' => ∃ b, L' = [(b, .cells (numCells h).toArray 74 (0, 0))] ∧ v = .slice (some ⟨b, 0, none⟩) 7 7) := by
  refine Does_of Tryd.func28 rfl rfl (by simp) ?_
  refine goW ?_
  refine a_box fun b1 => ?_
  refine goL ?_
  refine a_slit fun b => ?_
  refine goL ?_
  refine KQ_perm (List.Perm.swap _ _ _) ?_
  refine KQ_drop (L1 := [_]) ?_
  exact a_ret1 ⟨b, rfl, rfl⟩
theorem numRow (h : Hdr) (k : Nat) (hk : k < 7) : Cut (numCells h) (k * 4) 4 [i64 (nAt k), i64 (nLen k), i64 (num h k).1, .bool (decide (k = 4))] := by
  obtain rfl | rfl | rfl | rfl | rfl | rfl | rfl : k = 0 ∨ k = 1 ∨ k = 2 ∨ k = 3 ∨ k = 4 ∨ k = 5 ∨ k = 6 := by omega
  all_goals (repeat (first | exact Cut.nil | apply Cut.cons | apply Cut.skip))
end Go.Proofs.YtjeaofabpfgngaaDoor
