/-
  The reference's Encode walked: it is the program's.
  No condition.
-/
import Derived.Test.YtjeaofabpfgngaaDoorA24
namespace Go.Proofs.YtjeaofabpfgngaaDoor
open Go.KE

/-! ### plain facts -/
theorem t_disj (j k : Nat) (hj : j < 5) (hk : k < 5) (h : j ≠ k) : tAt j + tLen j ≤ tAt k ∨ tAt k + tLen k ≤ tAt j := by
  obtain rfl | rfl | rfl | rfl | rfl : j = 0 ∨ j = 1 ∨ j = 2 ∨ j = 3 ∨ j = 4 := by omega
  all_goals
    obtain rfl | rfl | rfl | rfl | rfl : k = 0 ∨ k = 1 ∨ k = 2 ∨ k = 3 ∨ k = 4 := by omega
    all_goals first | exact absurd rfl h | (simp only [tAt, tLen]; omega)
/-- The places of the texts from the k-th on hold zeros. -/
def Blank (k : Nat) (rs : List UInt8) : Prop := ∀ j, k ≤ j → j < 5 → ∀ i, tAt j ≤ i → i < tAt j + tLen j → rs[i]? = some 0
theorem Blank.next {k : Nat} {rs : List UInt8} (h : Blank k rs) : Blank (k + 1) rs := fun j hj => h j (by omega)
theorem blank_zero : Blank 0 zero512 := fun j _ hj i _ h2 => by
  have := t_ok j
  rw [zero512, List.getElem?_replicate, if_pos (by omega)]
theorem Blank.put {k : Nat} {rs bs : List UInt8} (h : Blank k rs) (hk : k < 5) (hl : rs.length = 512) (hb : bs.length ≤ tLen k) : Blank (k + 1) (putAt rs (tAt k) bs) := fun j hj hj5 i h1 h2 => by
  have ht := t_ok k
  have := t_disj j k hj5 hk (by omega)
  rw [putAt_get (by omega), if_neg (by omega)]
  exact h j (by omega) hj5 i h1 h2
theorem put_pad {rs s : List UInt8} {o m : Nat} (h : o + s.length + m ≤ rs.length) (hz : ∀ i, o + s.length ≤ i → i < o + s.length + m → rs[i]? = some 0) : putAt rs o (s ++ List.replicate m 0) = putAt rs o s := by
  refine List.ext_getElem? fun i => ?_
  rw [putAt_get (by simp; omega), putAt_get (by omega)]
  simp only [List.length_append, List.length_replicate]
  by_cases h1 : o ≤ i ∧ i < o + s.length
  · rw [if_pos (by omega), if_pos h1, List.getElem?_append_left (by omega)]
  · rw [if_neg h1]
    by_cases h2 : o ≤ i ∧ i < o + (s.length + m)
    · rw [if_pos h2, List.getElem?_append_right (by omega), List.getElem?_replicate, if_pos (by omega), hz i (by omega) (by omega)]
    · rw [if_neg h2]
/-- No text of a header holds a byte 0, as said tells. -/
theorem noZ {h : Hdr} (hf : h.form = 1 ∨ h.form = 2 ∨ h.form = 3) (hs : saidB h = false) (k : Nat) : hasZ (txt h k).1.data.toList = false := by
  have e : anyZ h = false := by
    rw [saidB_eq h hf] at hs
    cases ha : anyZ h
    · rfl
    · rw [ha] at hs; simp at hs
  simp only [anyZ, Bool.or_eq_false_iff] at e
  obtain ⟨⟨⟨⟨e1, e2⟩, e3⟩, e4⟩, e5⟩ := e
  unfold txt
  split
  · exact e1
  · exact e2
  · exact e3
  · exact e4
  · exact e5

def fin5 (h : Hdr) : Option (List UInt8) := textsGo h 5 0 zero512
def fin7 (h : Hdr) : Option (List UInt8) := match fin5 h with | none => none | some rs => numsGo h 7 0 rs
/-- What holds at the k-th text. -/
structure TInv (h : Hdr) (k : Nat) (rs : List UInt8) (fits : Bool) : Prop where
  k5 : k ≤ 5
  len : rs.length = 512
  blank : Blank k rs
  yes : fits = true → textsGo h (5 - k) k rs = fin5 h
  no : fits = false → fin5 h = none
theorem TInv.skip {h : Hdr} {k : Nat} {rs : List UInt8} {fits : Bool} (t : TInv h k rs fits) (hk : k < 5) (he : (txt h k).1 = ⟨#[]⟩) : TInv h (k + 1) rs fits := by
  refine ⟨by omega, t.len, t.blank.next, fun hf => ?_, t.no⟩
  have := t.yes hf
  obtain ⟨m, hm⟩ : ∃ m, 5 - k = m + 1 := ⟨4 - k, by omega⟩
  rw [hm, textsGo, he] at this
  have e0 : (⟨#[]⟩ : ByteArray).size = 0 := rfl
  have e1 : (⟨#[]⟩ : ByteArray).data.toList = [] := rfl
  rw [if_neg (by omega), e1, putAt_nil] at this
  rw [show 5 - (k + 1) = m by omega]
  exact this
theorem TInv.bad {h : Hdr} {k : Nat} {rs : List UInt8} {fits : Bool} (t : TInv h k rs fits) (hk : k < 5) (hr : refTxt (txt h k).1 (tLen k) = none) (hz : hasZ (txt h k).1.data.toList = false) : TInv h (k + 1) rs false := by
  refine ⟨by omega, t.len, t.blank.next, (fun hf => by cases hf), fun _ => ?_⟩
  cases fits with
  | false => exact t.no rfl
  | true =>
    have := t.yes rfl
    obtain ⟨m, hm⟩ : ∃ m, 5 - k = m + 1 := ⟨4 - k, by omega⟩
    rw [hm, textsGo] at this
    unfold refTxt at hr
    split at hr
    · rename_i hc
      rw [hz] at hc
      rw [if_pos (by simpa using hc)] at this
      exact this.symm
    · cases hr
theorem refTxt_some {s : ByteArray} {w : Nat} {bs : List UInt8} (h : refTxt s w = some bs) : s.size ≤ w ∧ bs = s.data.toList ++ List.replicate (w - s.size) 0 := by
  unfold refTxt at h
  split at h
  · cases h
  · rename_i hc
    exact ⟨by omega, (Option.some.inj h).symm⟩
theorem TInv.put {h : Hdr} {k : Nat} {rs bs : List UInt8} {fits : Bool} (t : TInv h k rs fits) (hk : k < 5) (hr : refTxt (txt h k).1 (tLen k) = some bs) : TInv h (k + 1) (putAt rs (tAt k) bs) fits := by
  obtain ⟨h1, h2⟩ := refTxt_some hr
  have ht := t_ok k
  have hl := t.len
  have hsl : (txt h k).1.data.toList.length = (txt h k).1.size := by simp
  have hbl : bs.length = tLen k := by rw [h2]; simp; omega
  refine ⟨by omega, by rw [putAt_length (by omega)]; exact hl, t.blank.put hk hl (by omega), fun hf => ?_, t.no⟩
  have := t.yes hf
  obtain ⟨m, hm⟩ : ∃ m, 5 - k = m + 1 := ⟨4 - k, by omega⟩
  rw [hm, textsGo, if_neg (by omega)] at this
  rw [show 5 - (k + 1) = m by omega, h2, put_pad (by omega) (fun i h1 h2 => t.blank k (Nat.le_refl _) hk i (by omega) (by omega))]
  exact this

/-- How many numbers a form has. -/
def hasN (f : Int) : Nat := if f = 1 then 5 else 7
structure NInv (h : Hdr) (k : Nat) (rs : List UInt8) (fits : Bool) : Prop where
  k7 : k ≤ hasN h.form
  len : rs.length = 512
  yes : fits = true → numsGo h (7 - k) k rs = fin7 h
  no : fits = false → fin7 h = none
theorem TInv.start {h : Hdr} {rs : List UInt8} {fits : Bool} (t : TInv h 5 rs fits) : NInv h 0 rs fits := by
  refine ⟨Nat.zero_le _, t.len, fun hf => ?_, fun hf => ?_⟩
  · have : some rs = fin5 h := t.yes hf
    unfold fin7
    rw [← this]
  · unfold fin7
    rw [t.no hf]
theorem num_since {h : Hdr} {k : Nat} (hf : h.form = 1 ∨ h.form = 2 ∨ h.form = 3) (hk : k < hasN h.form) : ¬ h.form < (num h k).2 := by
  unfold hasN at hk
  by_cases h1 : h.form = 1
  · rw [if_pos h1] at hk
    obtain rfl | rfl | rfl | rfl | rfl : k = 0 ∨ k = 1 ∨ k = 2 ∨ k = 3 ∨ k = 4 := by omega
    all_goals (show ¬ h.form < 1; omega)
  · rw [if_neg h1] at hk
    obtain rfl | rfl | rfl | rfl | rfl | rfl | rfl : k = 0 ∨ k = 1 ∨ k = 2 ∨ k = 3 ∨ k = 4 ∨ k = 5 ∨ k = 6 := by omega
    all_goals first | (show ¬ h.form < 1; omega) | (show ¬ h.form < 2; omega)
theorem nAt_136 (k : Nat) (hk : k < 7) : nAt k = 136 ↔ k = 4 := by
  obtain rfl | rfl | rfl | rfl | rfl | rfl | rfl : k = 0 ∨ k = 1 ∨ k = 2 ∨ k = 3 ∨ k = 4 ∨ k = 5 ∨ k = 6 := by omega
  all_goals decide
theorem hasN_le (f : Int) : hasN f ≤ 7 := by unfold hasN; split <;> omega
theorem numsGo_step {h : Hdr} {k : Nat} {rs : List UInt8} (hf : h.form = 1 ∨ h.form = 2 ∨ h.form = 3) (hk : k < hasN h.form) :
    numsGo h (7 - k) k rs = match digF h.form (num h k).1 (nLen k) (decide (k = 4)) with | none => none | some bs => numsGo h (7 - (k + 1)) (k + 1) (putAt rs (nAt k) bs) := by
  have h7 := hasN_le h.form
  obtain ⟨m, hm⟩ : ∃ m, 7 - k = m + 1 := ⟨6 - k, by omega⟩
  have ha := nAt_136 k (by omega)
  rw [hm, numsGo, if_neg (num_since hf hk), show 7 - (k + 1) = m by omega]
  unfold digF
  by_cases hn : (num h k).1 < 0 ∧ nAt k ≠ 136
  · rw [if_pos ⟨hn.1, by simpa using fun e => hn.2 (ha.2 e)⟩]
    cases formField h.form (num h k).1 (nLen k) with
    | none => rfl
    | some bs => dsimp only; rw [if_pos hn]
  · rw [if_neg (fun hh => hn ⟨hh.1, fun e => by have := ha.1 e; simp [this] at hh⟩)]
    cases formField h.form (num h k).1 (nLen k) with
    | none => rfl
    | some bs => dsimp only; rw [if_neg hn]
theorem digF_length {f n : Int} {w : Nat} {b : Bool} {bs : List UInt8} (h : digF f n w b = some bs) (hw : 2 ≤ w) : bs.length = w := by
  unfold digF at h
  split at h
  · cases h
  · exact formField_length h hw
theorem NInv.bad {h : Hdr} {k : Nat} {rs : List UInt8} {fits : Bool} (t : NInv h k rs fits) (hf : h.form = 1 ∨ h.form = 2 ∨ h.form = 3) (hk : k < hasN h.form) (hd : digF h.form (num h k).1 (nLen k) (decide (k = 4)) = none) : NInv h (k + 1) rs false := by
  refine ⟨hk, t.len, (fun hf => by cases hf), fun _ => ?_⟩
  cases fits with
  | false => exact t.no rfl
  | true =>
    have := t.yes rfl
    rw [numsGo_step hf hk, hd] at this
    exact this.symm
theorem NInv.put {h : Hdr} {k : Nat} {rs bs : List UInt8} {fits : Bool} (t : NInv h k rs fits) (hf : h.form = 1 ∨ h.form = 2 ∨ h.form = 3) (hk : k < hasN h.form) (hd : digF h.form (num h k).1 (nLen k) (decide (k = 4)) = some bs) : NInv h (k + 1) (putAt rs (nAt k) bs) fits := by
  have hn := n_ok k
  have hbl := digF_length hd (by omega)
  have hl := t.len
  refine ⟨hk, by rw [putAt_length (by omega)]; exact hl, fun hff => ?_, t.no⟩
  have := t.yes hff
  rw [numsGo_step hf hk, hd] at this
  exact this
theorem NInv.last {h : Hdr} {rs : List UInt8} (t : NInv h (hasN h.form) rs true) : fin7 h = some rs := by
  rw [← t.yes rfl]
  unfold hasN
  by_cases h1 : h.form = 1
  · rw [if_pos h1, show 7 - 5 = 1 + 1 from rfl, numsGo, if_pos (by show h.form < 2; omega), show (1 : Nat) = 0 + 1 from rfl, numsGo, if_pos (by show h.form < 2; omega)]; rfl
  · rw [if_neg h1]; rfl
theorem encode_fin {h : Hdr} (hc : canB h = true) (ht : h.typ ≠ 0) : encode h = match fin7 h with | none => (zero512, 133) | some rs => (putSum (putAt (putAt rs 156 [h.typ]) 257 (magicOf h.form)), 0) := by
  simp only [canB, Bool.and_eq_true, decide_eq_true_eq, Bool.not_eq_true'] at hc
  unfold encode
  rw [if_neg (by simp [hc.1, hc.2]), if_neg ht]
  unfold fin7 fin5
  cases textsGo h 5 0 zero512 with
  | none => rfl
  | some rs => rfl

/-! ### the cells of the lists -/
def tCells (h : Hdr) : List Value := [.string h.name, .string h.link, .string h.user, .string h.group, .string h.pre]
def pCells : List Value := [i64 0, i64 100, i64 157, i64 100, i64 265, i64 32, i64 297, i64 32, i64 345, i64 155]
theorem tCell (h : Hdr) (k : Nat) (hk : k < 5) : (tCells h)[k]? = some (.string (txt h k).1) := by
  obtain rfl | rfl | rfl | rfl | rfl : k = 0 ∨ k = 1 ∨ k = 2 ∨ k = 3 ∨ k = 4 := by omega
  all_goals rfl
theorem pCell (k : Nat) (hk : k < 5) : pCells[k * 2]? = some (i64 (tAt k)) ∧ pCells[k * 2 + 1]? = some (i64 (tLen k)) := by
  obtain rfl | rfl | rfl | rfl | rfl : k = 0 ∨ k = 1 ∨ k = 2 ∨ k = 3 ∨ k = 4 := by omega
  all_goals exact ⟨rfl, rfl⟩
theorem numCell0 (h : Hdr) (k : Nat) (hk : k < 7) : (numCells h)[k * 4]? = some (i64 (nAt k)) := by
  have := (numRow h k hk).get.2 0 _ rfl
  simpa using this

set_option maxRecDepth 10000 in
set_option maxHeartbeats 4000000 in
theorem refEncode_any (F : Fr) (h : Hdr) (hf : HFits h) (hs : h.name.size + h.link.size + h.user.size + h.group.size + h.pre.size ≤ 9223372036854775807) :
    Does Tryd.prog 9 [.agg (hdrCells h).toArray] F [] (fun v L' => L' = [] ∧ EncR h v) := by
  obtain ⟨Z, hZ⟩ : ∃ Z, zero512 = Z := ⟨_, rfl⟩
  have hz5 : Z.length = 512 := by rw [← hZ, zero512]; exact List.length_replicate
  refine Does_clear ?_
  refine Does_of (n := 124) Tryd.func9 rfl rfl (by simp) ?_
  refine goW ?_
  refine a_box fun b1 => ?_
  refine a_alloc fun b2 => ?_
  refine goL ?_
  refine a_alloc fun b4 => ?_
  refine KL_s (.none rfl) (s_store (l' := bvs Z) rfl rfl rfl rfl .head (by rw [← hZ, bvs_zero]; exact Patch_all rfl) oneCells_zero) ?_
  refine goL ?_
  refine a_call (can_any _ h hs) ?_
  rintro v L' ⟨rfl, rfl⟩
  cases hc : canB h
  · have henc : encode h = (zero512, 1) := by
      unfold encode
      rw [if_pos]
      simp only [canB, Bool.and_eq_false_iff, decide_eq_false_iff_not, Bool.not_eq_false'] at hc
      exact hc
    refine goL ?_
    refine a_ldA (Cut_zero hZ) ?_
    refine KL_s (.none rfl) (s_store (l' := bvs Z) rfl rfl rfl (by rw [bvs_length]; exact hz5) (.tail .head) (Patch_all (by rw [bvs_length, hz5]; rfl)) (oneCells_bvs _)) ?_
    refine goL ?_
    refine KQ_ret2 (.inl rfl) rfl (.agg rfl (.own (.tail _ (.head _))) (Cut_zero hZ)) (.tmp rfl) ?_
    simp only [EncR, henc, hZ]
  have htyp := h.typ.toNat_lt
  by_cases hty : (h.typ.toNat : Int) = 0
  · have ht : h.typ = 0 := UInt8.toNat_inj.1 (by simpa using hty)
    have henc : encode h = (zero512, 132) := by
      simp only [canB, Bool.and_eq_true, decide_eq_true_eq, Bool.not_eq_true'] at hc
      unfold encode
      rw [if_neg (by simp [hc.1, hc.2]), if_pos ht]
    refine goL ?_
    refine a_ldA (Cut_zero hZ) ?_
    refine KL_s (.none rfl) (s_store (l' := bvs Z) rfl rfl rfl (by rw [bvs_length]; exact hz5) (.tail .head) (Patch_all (by rw [bvs_length, hz5]; rfl)) (oneCells_bvs _)) ?_
    refine goL ?_
    refine KQ_ret2 (.inl rfl) rfl (.agg rfl (.own (.tail _ (.head _))) (Cut_zero hZ)) (.tmp rfl) ?_
    simp only [EncR, henc, hZ]
  have ht : ¬ h.typ = 0 := fun e => hty (by rw [e]; rfl)
  have henc := encode_fin hc ht
  have hform : h.form = 1 ∨ h.form = 2 ∨ h.form = 3 := by
    simp only [canB, Bool.and_eq_true, decide_eq_true_eq] at hc
    exact hc.1
  have hsaid : saidB h = false := by
    simp only [canB, Bool.and_eq_true, Bool.not_eq_true'] at hc
    exact hc.2
  clear hc
  refine goL ?_
  refine a_slit fun b6 => ?_
  refine goL ?_
  refine a_slit fun b7 => ?_
  refine goL ?_
  have hl2 : ∃ Z2 : List Value, Z2.length = 512 ∧ (List.replicate 512 (Value.int .u8 0)) = Z2 := ⟨_, List.length_replicate, rfl⟩
  refine a_loopK (α := Nat × List UInt8 × Bool) (fun (k, rs, fits) => TInv h k rs fits) (fun (k, _, fits) => [(8, i64 k), (5, .bool fits)])
    (fun (_, rs, _) => [(b7, .cells pCells.toArray 64 (0, 0)), (b6, .cells (tCells h).toArray 9 (0, 0)), (b4, .cells (bvs rs).toArray 24 (0, 0)), (b2, .cells (bvs Z).toArray 24 (0, 0)), (b1, .cells (hdrCells h).toArray 23 (0, 0))])
    (fun (k, _, _) => 5 - k) (0, Z, true) (hZ ▸ ⟨by omega, zero_length, blank_zero, fun _ => rfl, fun h => by cases h⟩) ?_ (hL := by rw [← hZ, bvs_zero]; rfl)
  rintro ⟨k, rs, fits⟩ ti
  have hk := ti.k5
  refine goW ?_
  refine KW_if rfl (fun hlt => ?_) (fun hlt => ?_)
  · have hk5 : k < 5 := by omega
    have hc1 := tCell h k hk5
    obtain ⟨hc2, hc3⟩ := pCell k hk5
    have hnz := noZ hform hsaid k
    refine goW ?_
    refine a_ld hc1 ?_
    by_cases he : (txt h k).1 = ⟨#[]⟩
    · refine goL ?_
      exact a_next (k + 1, rs, fits) (ti.skip hk5 he) (by show 5 - (k + 1) < 5 - k; omega)
    refine goL ?_
    have htk := t_ok k
    refine z_start [(b7, .cells pCells.toArray 64 (0, 0)), (b6, .cells (tCells h).toArray 9 (0, 0))] ?_
    refine goZ ?_
    refine z_ld hc1 ?_
    refine goZ ?_
    refine z_ld hc3 ?_
    refine goZ ?_
    refine z_call (refText_any _ (txt h k).1 (tLen k) (by omega) (by unfold tLen; split <;> omega) (hf.texts k)) ?_
    intro v L' hv
    unfold TxtB at hv
    cases hrt : refTxt (txt h k).1 (tLen k) with
    | none =>
      rw [hrt] at hv
      obtain ⟨rfl, rfl⟩ := hv
      cases fits
      · refine goZ ?_
        exact a_next (k + 1, rs, false) (ti.bad hk5 hrt hnz) (by show 5 - (k + 1) < 5 - k; omega)
      · refine goZ ?_
        exact a_next (k + 1, rs, false) (ti.bad hk5 hrt hnz) (by show 5 - (k + 1) < 5 - k; omega)
    | some bs =>
      rw [hrt] at hv
      obtain ⟨s, ⟨sv, hok, rfl, rfl⟩, rfl⟩ := hv
      have hbl : bs.length = tLen k := by
        obtain ⟨h1, h2⟩ := refTxt_some hrt
        rw [h2]; simp; omega
      have hlen := ti.len
      have hpl : (putAt rs (tAt k) bs).length = 512 := by rw [putAt_length (by omega)]; exact hlen
      have hsl : slL 5 (bvs bs) (some sv) = [(sv.b, .cells (bvs bs ++ sv.rest).toArray 5 sv.fr)] := rfl
      cases fits
      · refine goZ ?_
        refine z_start (N := 9) [(b7, .cells pCells.toArray 64 (0, 0)), (b4, .cells (bvs rs).toArray 24 (0, 0))] ?_
        refine z_ldA (hlen ▸ Cut_all rs) ?_
        refine goZ ?_
        refine z_ld hc2 ?_
        refine goZ ?_
        refine z_call (put_any _ rs hlen (tAt k) bs (by omega) sv.b 0 sv.cap (.inr (.head _)) (Cut_pre bs sv.rest)) ?_
        rintro v L' ⟨rfl, rfl⟩
        refine z_st (size := 512) (l := bvs rs) (cs := bvs (putAt rs (tAt k) bs)) (l' := bvs (putAt rs (tAt k) bs)) (Patch_all (by rw [bvs_length, bvs_length, hlen, hpl])) ?_ (oneCells_bvs _) (by rw [bvs_length]; exact hpl)
        refine goZ ?_
        refine KQ_drop (L1 := [_]) ?_
        exact a_next (k + 1, putAt rs (tAt k) bs, false) (ti.put hk5 hrt) (by show 5 - (k + 1) < 5 - k; omega)
      · refine goZ ?_
        refine z_start (N := 9) [(b7, .cells pCells.toArray 64 (0, 0)), (b4, .cells (bvs rs).toArray 24 (0, 0))] ?_
        refine z_ldA (hlen ▸ Cut_all rs) ?_
        refine goZ ?_
        refine z_ld hc2 ?_
        refine goZ ?_
        refine z_call (put_any _ rs hlen (tAt k) bs (by omega) sv.b 0 sv.cap (.inr (.head _)) (Cut_pre bs sv.rest)) ?_
        rintro v L' ⟨rfl, rfl⟩
        refine z_st (size := 512) (l := bvs rs) (cs := bvs (putAt rs (tAt k) bs)) (l' := bvs (putAt rs (tAt k) bs)) (Patch_all (by rw [bvs_length, bvs_length, hlen, hpl])) ?_ (oneCells_bvs _) (by rw [bvs_length]; exact hpl)
        refine goZ ?_
        refine KQ_drop (L1 := [_]) ?_
        exact a_next (k + 1, putAt rs (tAt k) bs, true) (ti.put hk5 hrt) (by show 5 - (k + 1) < 5 - k; omega)
  · obtain rfl : k = 5 := by omega
    have ni := ti.start
    clear ti hlt hk
    refine goW ?_
    refine a_call (refNumbers_any _ h) ?_
    rintro v L' ⟨bn, rfl, rfl⟩
    refine goL ?_
    refine a_loopK (α := Nat × List UInt8 × Bool) (fun (k, rs, fits) => NInv h k rs fits) (fun (k, _, fits) => [(12, i64 k), (5, .bool fits)])
      (fun (_, rs, _) => [(bn, .cells (numCells h).toArray 74 (0, 0)), (b7, .cells pCells.toArray 64 (0, 0)), (b6, .cells (tCells h).toArray 9 (0, 0)), (b4, .cells (bvs rs).toArray 24 (0, 0)), (b2, .cells (bvs Z).toArray 24 (0, 0)), (b1, .cells (hdrCells h).toArray 23 (0, 0))])
      (fun (k, _, _) => 7 - k) (0, rs, fits) ni ?_
    rintro ⟨k, rs', fits'⟩ ni
    have hk := ni.k7
    have hk8 := hasN_le h.form
    refine goW ?_
    refine a_call (has_ref _ h.form) ?_
    rintro v L' ⟨rfl, rfl⟩
    rw [show (if h.form = 1 then (5 : Int) else 7) = (hasN h.form : Int) by unfold hasN; split <;> rfl]
    refine goL ?_
    refine KW_if rfl (fun hlt => ?_) (fun hlt => ?_)
    · have hk' : k < hasN h.form := by omega
      have hrow := numRow h k (by omega)
      have hc0 := numCell0 h k (by omega)
      have hnk := n_ok k
      have hw : nLen k = 8 ∨ nLen k = 12 := by unfold nLen; split <;> simp
      have hlen := ni.len
      refine goW ?_
      refine z_start [(bn, .cells (numCells h).toArray 74 (0, 0)), (b1, .cells (hdrCells h).toArray 23 (0, 0))] ?_
      refine goZ ?_
      refine z_ldA hrow ?_
      refine goZ ?_
      refine z_call (digits_any _ h (nAt k) (num h k).1 (hf.num k) (nLen k) hw (decide (k = 4))) ?_
      intro v L' hv
      unfold TxtB at hv
      cases hdg : digF h.form (num h k).1 (nLen k) (decide (k = 4)) with
      | none =>
        rw [hdg] at hv
        obtain ⟨rfl, rfl⟩ := hv
        cases fits'
        · refine goZ ?_
          exact a_next (k + 1, rs', false) (ni.bad hform hk' hdg) (by show 7 - (k + 1) < 7 - k; omega)
        · refine goZ ?_
          exact a_next (k + 1, rs', false) (ni.bad hform hk' hdg) (by show 7 - (k + 1) < 7 - k; omega)
      | some bs =>
        rw [hdg] at hv
        obtain ⟨s, ⟨sv, hok, rfl, rfl⟩, rfl⟩ := hv
        have hbl := digF_length hdg (by omega)
        have hpl : (putAt rs' (nAt k) bs).length = 512 := by rw [putAt_length (by omega)]; exact hlen
        have hsl : slL 5 (bvs bs) (some sv) = [(sv.b, .cells (bvs bs ++ sv.rest).toArray 5 sv.fr)] := rfl
        cases fits'
        · refine goZ ?_
          refine z_start (N := 10) [(bn, .cells (numCells h).toArray 74 (0, 0)), (b4, .cells (bvs rs').toArray 24 (0, 0))] ?_
          refine z_ldA (hlen ▸ Cut_all rs') ?_
          refine goZ ?_
          refine z_ld hc0 ?_
          refine goZ ?_
          refine z_call (put_any _ rs' hlen (nAt k) bs (by omega) sv.b 0 sv.cap (.inr (.head _)) (Cut_pre bs sv.rest)) ?_
          rintro v L' ⟨rfl, rfl⟩
          refine z_st (size := 512) (l := bvs rs') (cs := bvs (putAt rs' (nAt k) bs)) (l' := bvs (putAt rs' (nAt k) bs)) (Patch_all (by rw [bvs_length, bvs_length, hlen, hpl])) ?_ (oneCells_bvs _) (by rw [bvs_length]; exact hpl)
          refine goZ ?_
          refine KQ_drop (L1 := [_]) ?_
          exact a_next (k + 1, putAt rs' (nAt k) bs, false) (ni.put hform hk' hdg) (by show 7 - (k + 1) < 7 - k; omega)
        · refine goZ ?_
          refine z_start (N := 10) [(bn, .cells (numCells h).toArray 74 (0, 0)), (b4, .cells (bvs rs').toArray 24 (0, 0))] ?_
          refine z_ldA (hlen ▸ Cut_all rs') ?_
          refine goZ ?_
          refine z_ld hc0 ?_
          refine goZ ?_
          refine z_call (put_any _ rs' hlen (nAt k) bs (by omega) sv.b 0 sv.cap (.inr (.head _)) (Cut_pre bs sv.rest)) ?_
          rintro v L' ⟨rfl, rfl⟩
          refine z_st (size := 512) (l := bvs rs') (cs := bvs (putAt rs' (nAt k) bs)) (l' := bvs (putAt rs' (nAt k) bs)) (Patch_all (by rw [bvs_length, bvs_length, hlen, hpl])) ?_ (oneCells_bvs _) (by rw [bvs_length]; exact hpl)
          refine goZ ?_
          refine KQ_drop (L1 := [_]) ?_
          exact a_next (k + 1, putAt rs' (nAt k) bs, true) (ni.put hform hk' hdg) (by show 7 - (k + 1) < 7 - k; omega)
    · obtain rfl : k = hasN h.form := by omega
      have hlen := ni.len
      cases fits'
      · rw [ni.no rfl] at henc
        refine goW ?_
        refine KL_s (.none rfl) (s_store (l' := bvs Z) rfl rfl rfl rfl (.tail (.tail (.tail (.tail .head)))) (Patch_all' hZ) oneCells_zero) ?_
        refine goL ?_
        refine KQ_ret2 (.inl rfl) rfl (.agg rfl (.own (.tail _ (.tail _ (.tail _ (.tail _ (.head _)))))) (Cut_zero hZ)) (.tmp rfl) ?_
        simp only [EncR, henc, hZ]
      · rw [ni.last] at henc
        clear ni
        have hmag := magic_length h.form
        have hl1 : (putAt rs' 156 [h.typ]).length = 512 := by rw [putAt_length (by simp; omega)]; exact hlen
        have hl2 : (putAt (putAt rs' 156 [h.typ]) 257 (magicOf h.form)).length = 512 := by rw [putAt_length (by omega)]; exact hl1
        have hl3 := putSum_length hl2
        refine goW ?_
        refine a_st (cs := bvs [h.typ]) (patch_at rs' [h.typ] 156 (by simp; omega)) ?_ (oneCells_bvs _)
        refine goL ?_
        refine z_start (N := 7) [(b4, .cells (bvs (putAt rs' 156 [h.typ])).toArray 24 (0, 0)), (b1, .cells (hdrCells h).toArray 23 (0, 0))] ?_
        refine z_ldA (hl1 ▸ Cut_all _) ?_
        refine goZ ?_
        refine z_call (magic_ref _ h.form hform) ?_
        rintro v L' ⟨rfl, rfl⟩
        refine z_m (m_bytes rfl) fun sv hsv => ?_
        refine z_call (put_any _ (putAt rs' 156 [h.typ]) hl1 257 (magicOf h.form) (by omega) sv.b 0 sv.cap (.inr (.head _)) (Cut_pre (magicOf h.form) sv.rest)) ?_
        rintro v L' ⟨rfl, rfl⟩
        refine z_st (size := 512) (l := bvs (putAt rs' 156 [h.typ])) (cs := bvs (putAt (putAt rs' 156 [h.typ]) 257 (magicOf h.form))) (l' := bvs (putAt (putAt rs' 156 [h.typ]) 257 (magicOf h.form))) (Patch_all (by rw [bvs_length, bvs_length, hl1, hl2])) ?_ (oneCells_bvs _) (by rw [bvs_length]; exact hl2)
        refine goZ ?_
        refine a_ldA (hl2 ▸ Cut_all _) ?_
        refine a_call (refPutSum_any _ _ hl2) ?_
        rintro v L' ⟨rfl, rfl⟩
        have hc3 := Cut_all (putSum (putAt (putAt rs' 156 [h.typ]) 257 (magicOf h.form)))
        rw [hl3] at hc3
        refine a_st (size := 512) (l := bvs Z) (cs := bvs (putSum (putAt (putAt rs' 156 [h.typ]) 257 (magicOf h.form)))) (l' := bvs (putSum (putAt (putAt rs' 156 [h.typ]) 257 (magicOf h.form)))) (Patch_all (by rw [bvs_length, bvs_length, hz5, hl3])) ?_ (oneCells_bvs _) (by rw [bvs_length]; exact hl3)
        refine goL ?_
        refine KQ_ret2 (.inl rfl) rfl (.agg rfl (.own (.tail _ (.tail _ (.tail _ (.tail _ (.tail _ (.head _))))))) hc3) (.tmp rfl) ?_
        simp only [EncR, henc]
end Go.Proofs.YtjeaofabpfgngaaDoor
