/-
  What a record says, as a Lean function; header.Decode walked.
  Conditions: the package-level variables hold what the program's text lays.
-/
import Derived.Test.YtjeaofabpfgngaaDoorA32
namespace Go.Proofs.YtjeaofabpfgngaaDoor
open Go.KE

def noHdr : Hdr := ⟨0, ⟨#[]⟩, ⟨#[]⟩, 0, 0, 0, 0, 0, 0, ⟨#[]⟩, ⟨#[]⟩, ⟨#[]⟩, 0, 0⟩
def mList : Nat → List UInt8
  | 0 => mV7.data.toList
  | 1 => mUstar.data.toList
  | _ => mGNU.data.toList
def formOf (m : List UInt8) : Int := if m = mList 0 then 1 else if m = mList 1 then 2 else if m = mList 2 then 3 else 0
def setForm (h : Hdr) (f : Int) : Hdr := { h with form := f }
def setNum (h : Hdr) (k : Nat) (n : Int) : Hdr := match k with
  | 0 => { h with mode := n } | 1 => { h with uid := n } | 2 => { h with gid := n } | 3 => { h with size := n } | 4 => { h with time := n } | 5 => { h with major := n } | _ => { h with minor := n }
def setTxt (h : Hdr) (k : Nat) (s : ByteArray) : Hdr := match k with
  | 0 => { h with name := s } | 1 => { h with link := s } | 2 => { h with user := s } | 3 => { h with group := s } | _ => { h with pre := s }
def setTyp (h : Hdr) (c : UInt8) : Hdr := { h with typ := c }
def numOf (rs : List UInt8) (k : Nat) : Int × Int := number (sub rs (nAt k) (nLen k))
def numErr (rs : List UInt8) (k : Nat) : Int := if (numOf rs k).2 = 0 ∧ (numOf rs k).1 < 0 ∧ nAt k ≠ 136 then 121 else (numOf rs k).2
def since (k : Nat) : Int := if k < 5 then 1 else 2
def decNums (rs : List UInt8) : Nat → Nat → Hdr → Hdr × Int × Int
  | 0, _, h => (h, 0, 0)
  | m + 1, k, h => if h.form < since k then decNums rs m (k + 1) h else if numErr rs k ≠ 0 then (noHdr, nAt k, numErr rs k) else decNums rs m (k + 1) (setNum h k (numOf rs k).1)
def decTxts (rs : List UInt8) : Nat → Nat → Hdr → Hdr
  | 0, _, h => h
  | m + 1, k, h => decTxts rs m (k + 1) (if (txt h k).2.contains h.form then setTxt h k (textOf (sub rs (tAt k) (tLen k))) else h)
def typOf (c : UInt8) : UInt8 := if c.toNat = 0 then 48 else c
def decode (rs : List UInt8) : Hdr × Int × Int :=
  if checkB rs = false then (noHdr, 148, 131)
  else if formOf (sub rs 257 8) = 0 then (noHdr, 257, 130)
  else if (decNums rs 7 0 (setForm noHdr (formOf (sub rs 257 8)))).2.2 ≠ 0 then decNums rs 7 0 (setForm noHdr (formOf (sub rs 257 8)))
  else (setTyp (decTxts rs 5 0 (decNums rs 7 0 (setForm noHdr (formOf (sub rs 257 8)))).1) (typOf (rs[156]?.getD 0)), 0, 0)

def DecR (rs : List UInt8) (v : Value) : Prop := v = .tuple #[.agg (hdrCells (decode rs).1).toArray, i64 (decode rs).2.1, i64 (decode rs).2.2]

instance : TB0 Tryd.prog 23 (hdrCells noHdr) := ⟨by kernel_rfl⟩
theorem hdr_len (h : Hdr) : (hdrCells h).length = 14 := rfl
theorem hdr_one (h : Hdr) : oneCells (hdrCells h) := oneCells_of rfl
theorem Cut_hdr (h : Hdr) : Cut (hdrCells h) 0 14 (hdrCells h) := Cut.all (hdrCells h)
theorem Patch_hdr (h h' : Hdr) : Patch (hdrCells h) 0 (hdrCells h') (hdrCells h') := Patch_all rfl
theorem patch_num (h : Hdr) (k : Nat) (hk : k < 7) (n : Int) : Patch (hdrCells h) (nFld k) [i64 n] (hdrCells (setNum h k n)) := by
  obtain rfl | rfl | rfl | rfl | rfl | rfl | rfl : k = 0 ∨ k = 1 ∨ k = 2 ∨ k = 3 ∨ k = 4 ∨ k = 5 ∨ k = 6 := by omega
  all_goals (repeat (first | exact Patch.nil | apply Patch.cons | apply Patch.skip))
theorem patch_txt (h : Hdr) (k : Nat) (hk : k < 5) (s : ByteArray) : Patch (hdrCells h) (tFld k) [.string s] (hdrCells (setTxt h k s)) := by
  obtain rfl | rfl | rfl | rfl | rfl : k = 0 ∨ k = 1 ∨ k = 2 ∨ k = 3 ∨ k = 4 := by omega
  all_goals (repeat (first | exact Patch.nil | apply Patch.cons | apply Patch.skip))
theorem patch_form (h : Hdr) (f : Int) : Patch (hdrCells h) 0 [i64 f] (hdrCells (setForm h f)) := .cons .nil
theorem patch_typ (h : Hdr) (c : UInt8) : Patch (hdrCells h) 8 [bv c] (hdrCells (setTyp h c)) := by
  (repeat (first | exact Patch.nil | apply Patch.cons | apply Patch.skip))
theorem setNum_form (h : Hdr) (k : Nat) (n : Int) : (setNum h k n).form = h.form := by unfold setNum; split <;> rfl
theorem setTxt_form (h : Hdr) (k : Nat) (s : ByteArray) : (setTxt h k s).form = h.form := by unfold setTxt; split <;> rfl
theorem txt_forms (h h' : Hdr) (k : Nat) : (txt h k).2 = (txt h' k).2 := by unfold txt; split <;> rfl
theorem num_since2 (h : Hdr) (k : Nat) (hk : k < 7) : (num h k).2 = since k := by
  obtain rfl | rfl | rfl | rfl | rfl | rfl | rfl : k = 0 ∨ k = 1 ∨ k = 2 ∨ k = 3 ∨ k = 4 ∨ k = 5 ∨ k = 6 := by omega
  all_goals rfl

/-! ### the form, by a walk over the map in any order -/
theorem mList_ne : mList 0 ≠ mList 1 ∧ mList 0 ≠ mList 2 ∧ mList 1 ≠ mList 2 := by decide
/-- What the header's form is, when the entries of 'seen' have been looked at. -/
def formSeen (m : List UInt8) (seen : List Nat) : Int := if formOf m ≠ 0 ∧ ((formOf m).toNat - 1) ∈ seen then formOf m else 0
theorem entry_cases {e : MapEntry} (h : e ∈ magicEs) : ∃ j : Nat, j < 3 ∧ e = me (j + 1) ⟨(mList j).toArray⟩ j := by
  simp only [magicEs, List.mem_cons, List.not_mem_nil, or_false] at h
  rcases h with rfl | rfl | rfl
  · exact ⟨0, by omega, rfl⟩
  · exact ⟨1, by omega, rfl⟩
  · exact ⟨2, by omega, rfl⟩
theorem formOf_is (m : List UInt8) (j : Nat) (hj : j < 3) : m = mList j ↔ formOf m = (j : Int) + 1 := by
  obtain ⟨h1, h2, h3⟩ := mList_ne
  unfold formOf
  obtain rfl | rfl | rfl : j = 0 ∨ j = 1 ∨ j = 2 := by omega
  · constructor
    · intro h; rw [if_pos h]; rfl
    · intro h
      by_cases h0 : m = mList 0
      · exact h0
      · rw [if_neg h0] at h
        split at h
        · simp at h
        · split at h <;> simp at h
  · constructor
    · intro h; rw [if_neg (by rw [h]; exact h1.symm), if_pos h]; rfl
    · intro h
      by_cases h0 : m = mList 1
      · exact h0
      · rw [if_neg h0] at h
        split at h
        · simp at h
        · split at h <;> simp at h
  · constructor
    · intro h; rw [if_neg (by rw [h]; exact h2.symm), if_neg (by rw [h]; exact h3.symm), if_pos h]; rfl
    · intro h
      by_cases h0 : m = mList 2
      · exact h0
      · rw [if_neg h0] at h
        split at h
        · simp at h
        · split at h <;> simp at h
theorem formOf_range (m : List UInt8) : formOf m = 0 ∨ formOf m = 1 ∨ formOf m = 2 ∨ formOf m = 3 := by
  unfold formOf
  split
  · simp
  · split
    · simp
    · split <;> simp
theorem formSeen_yes {m : List UInt8} {seen : List Nat} {j : Nat} (hj : j < 3) (h : m = mList j) : formSeen m (seen ++ [j]) = (j : Int) + 1 := by
  have := (formOf_is m j hj).1 h
  unfold formSeen
  rw [this, if_pos ⟨by omega, by simp⟩]
theorem formSeen_no {m : List UInt8} {seen : List Nat} {j : Nat} (hj : j < 3) (h : m ≠ mList j) : formSeen m (seen ++ [j]) = formSeen m seen := by
  have hne : formOf m ≠ (j : Int) + 1 := fun e => h ((formOf_is m j hj).2 e)
  have hr := formOf_range m
  unfold formSeen
  have : (formOf m ≠ 0 ∧ (formOf m).toNat - 1 ∈ seen ++ [j]) ↔ (formOf m ≠ 0 ∧ (formOf m).toNat - 1 ∈ seen) := by
    refine and_congr_right fun h0 => ?_
    simp only [List.mem_append, List.mem_singleton]
    refine or_iff_left fun e => ?_
    omega
  by_cases hc : formOf m ≠ 0 ∧ (formOf m).toNat - 1 ∈ seen
  · rw [if_pos hc, if_pos (this.2 hc)]
  · rw [if_neg hc, if_neg (fun h => hc (this.1 h))]
theorem formSeen_all {m : List UInt8} {seen : List Nat} (h : ∀ e ∈ magicEs, e.born ∈ seen) : formSeen m seen = formOf m := by
  have hr := formOf_range m
  unfold formSeen
  by_cases h0 : formOf m = 0
  · rw [if_neg (fun hh => hh.1 h0), h0]
  · have h1 := h (me 1 mV7 0) (by simp [magicEs])
    have h2 := h (me 2 mUstar 1) (by simp [magicEs])
    have h3 := h (me 3 mGNU 2) (by simp [magicEs])
    rw [if_pos]
    refine ⟨h0, ?_⟩
    rcases hr with e | e | e | e
    · exact absurd e h0
    · rw [e]; exact h1
    · rw [e]; exact h2
    · rw [e]; exact h3
def leftN (seen : List Nat) : Nat := (if 0 ∈ seen then 0 else 1) + (if 1 ∈ seen then 0 else 1) + (if 2 ∈ seen then 0 else 1)
theorem leftN_lt {seen : List Nat} {j : Nat} (hj : j < 3) (h : j ∉ seen) : leftN (seen ++ [j]) < leftN seen := by
  obtain rfl | rfl | rfl : j = 0 ∨ j = 1 ∨ j = 2 := by omega
  all_goals
    unfold leftN
    simp only [List.mem_append, List.mem_singleton]
    simp only [h]
    split <;> split <;> simp_all
end Go.Proofs.YtjeaofabpfgngaaDoor
