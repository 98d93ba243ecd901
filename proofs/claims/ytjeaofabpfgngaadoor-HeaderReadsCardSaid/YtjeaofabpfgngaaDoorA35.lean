/-
  The reference's Decode walked: it is the program's.
  No condition.
-/
import Derived.Test.YtjeaofabpfgngaaDoorA33
import Derived.Test.YtjeaofabpfgngaaDoorA25
namespace Go.Proofs.YtjeaofabpfgngaaDoor
open Go.KE

theorem decNums_one {rs : List UInt8} {m k : Nat} {h : Hdr} : decNums rs (m + 1) k h = if h.form < since k then decNums rs m (k + 1) h else if numErr rs k ≠ 0 then (noHdr, (nAt k : Int), numErr rs k) else decNums rs m (k + 1) (setNum h k (numOf rs k).1) := rfl

section calls
variable {n : Nat} {F : Fr} {Q : Post} {E : Sl} {L Lq : Bl} {ops : Array Oper}
/-- A piece of the record, as a slice, out of the text's order. -/
theorem y_sl {fuel : Nat} {listed : Array Bool} (i : Nat) {dst : Nat} {x lo hi : Operand} {ty : TypeId} {pos : String} {after : Array Edge} {g : Option (Nat × Bool)} {b : Nat} (l h : Nat) (hlh : l ≤ h) (hh : h ≤ 512) (hl : l < 512)
    (k : KA Tryd.prog n F Lq ops Q fuel (listed.setIfInBounds i true) ((dst, .slice (some ⟨b, l, none⟩) (h - l) (512 - l)) :: E) L)
    (hi' : ops[i]? = some ⟨some dst, .slice 24 x (some lo) (some hi) none, ty, pos, after, g⟩ := by rfl) (hr : (Region.ready .any ops listed).contains i = true := by decide +kernel) (hf : Region.free .any ops listed i = true := by decide +kernel) (hns : Region.noSelect ops = true := by decide +kernel)
    (hg : Want ops E true g := by first | exact .none rfl | exact .some rfl rfl rfl) (hd : Nat.blt dst n = true := by rfl)
    (hx : ev E x = some (.pointer (some ⟨b, 0, none⟩)) := by rfl) (hlo : ev E lo = some (.int .i64 (l : Int)) := by rfl) (hhi : ev E hi = some (.int .i64 (h : Int)) := by rfl) : KA Tryd.prog n F Lq ops Q (fuel + 1) listed E L := by
  refine KA_p i k hi' hr hf hns hg hd ?_
  have := p_slice_arr (P := Tryd.prog) (n := n) (F := F) (L := Lq) (ty := ty) (t := 24) (o' := l) hx hlo hhi (by omega) (by omega) (by omega) (by omega) (by simp)
  simpa using this
end calls

/-- The form, when the first j magics have been looked at. -/
def formUp (m : List UInt8) (j : Nat) : Int := if formOf m ≠ 0 ∧ formOf m ≤ (j : Int) then formOf m else 0
theorem formUp_yes {m : List UInt8} {j : Nat} (hj : j < 3) (h : m = mList j) : formUp m (j + 1) = (j : Int) + 1 := by
  have := (formOf_is m j hj).1 h
  unfold formUp
  rw [this, if_pos ⟨by omega, by omega⟩]
theorem formUp_no {m : List UInt8} {j : Nat} (hj : j < 3) (h : m ≠ mList j) : formUp m (j + 1) = formUp m j := by
  have hne : formOf m ≠ (j : Int) + 1 := fun e => h ((formOf_is m j hj).2 e)
  unfold formUp
  have : (formOf m ≠ 0 ∧ formOf m ≤ ((j + 1 : Nat) : Int)) ↔ (formOf m ≠ 0 ∧ formOf m ≤ (j : Int)) := by
    refine and_congr_right fun _ => ?_
    omega
  by_cases hc : formOf m ≠ 0 ∧ formOf m ≤ (j : Int)
  · rw [if_pos hc, if_pos (this.2 hc)]
  · rw [if_neg hc, if_neg (fun h => hc (this.1 h))]
theorem formUp_all (m : List UInt8) : formUp m 3 = formOf m := by
  have hr := formOf_range m
  unfold formUp
  by_cases h0 : formOf m = 0
  · rw [if_neg (fun hh => hh.1 h0), h0]
  · rw [if_pos ⟨h0, by omega⟩]
theorem formUp_zero (m : List UInt8) : formUp m 0 = 0 := by
  have hr := formOf_range m
  unfold formUp
  by_cases h0 : formOf m = 0
  · rw [if_neg (fun hh => hh.1 h0)]
  · rw [if_neg (fun hh => by have := hh.2; omega)]
theorem magicOf_list (j : Nat) (hj : j < 3) : magicOf ((j : Int) + 1) = mList j := by
  obtain rfl | rfl | rfl : j = 0 ∨ j = 1 ∨ j = 2 := by omega
  all_goals rfl

/-- A header of which only the form and the numbers are said. -/
def OnlyNums (h : Hdr) : Prop := h = ⟨h.form, ⟨#[]⟩, ⟨#[]⟩, h.mode, h.uid, h.gid, h.size, h.time, 0, ⟨#[]⟩, ⟨#[]⟩, ⟨#[]⟩, h.major, h.minor⟩
theorem OnlyNums.start (f : Int) : OnlyNums (setForm noHdr f) := rfl
theorem OnlyNums.set {h : Hdr} (ho : OnlyNums h) (k : Nat) (n : Int) : OnlyNums (setNum h k n) := by
  unfold OnlyNums at *
  rw [ho]
  unfold setNum
  split <;> rfl
theorem numPair (h : Hdr) (k : Nat) (hk : k < 7) : Cut (numCells h) (k * 4) 2 [i64 (nAt k), i64 (nLen k)] := by
  obtain rfl | rfl | rfl | rfl | rfl | rfl | rfl : k = 0 ∨ k = 1 ∨ k = 2 ∨ k = 3 ∨ k = 4 ∨ k = 5 ∨ k = 6 := by omega
  all_goals (repeat (first | exact Cut.nil | apply Cut.cons | apply Cut.skip))
theorem numBelow (h : Hdr) (k : Nat) (hk : k < 7) : (numCells h)[k * 4 + 3]? = some (.bool (decide (k = 4))) := by
  obtain rfl | rfl | rfl | rfl | rfl | rfl | rfl : k = 0 ∨ k = 1 ∨ k = 2 ∨ k = 3 ∨ k = 4 ∨ k = 5 ∨ k = 6 := by omega
  all_goals rfl
theorem numPatch (h : Hdr) (k : Nat) (hk : k < 7) (n : Int) : Patch (numCells h) (k * 4 + 2) [i64 n] (numCells (setNum h k n)) := by
  obtain rfl | rfl | rfl | rfl | rfl | rfl | rfl : k = 0 ∨ k = 1 ∨ k = 2 ∨ k = 3 ∨ k = 4 ∨ k = 5 ∨ k = 6 := by omega
  all_goals (repeat (first | exact Patch.nil | apply Patch.cons | apply Patch.skip))
def tx (rs : List UInt8) (k : Nat) : ByteArray := textOf (sub rs (tAt k) (tLen k))
theorem decTxts_eq (rs : List UInt8) (h : Hdr) (hf : h.form = 1 ∨ h.form = 2 ∨ h.form = 3) : decTxts rs 5 0 h =
    if h.form = 1 then setTxt (setTxt h 0 (tx rs 0)) 1 (tx rs 1)
    else if h.form = 2 then setTxt (setTxt (setTxt (setTxt (setTxt h 0 (tx rs 0)) 1 (tx rs 1)) 2 (tx rs 2)) 3 (tx rs 3)) 4 (tx rs 4)
    else setTxt (setTxt (setTxt (setTxt h 0 (tx rs 0)) 1 (tx rs 1)) 2 (tx rs 2)) 3 (tx rs 3) := by
  obtain ⟨f, a1, a2, a3, a4, a5, a6, a7, a8, a9, a10, a11, a12, a13⟩ := h
  rcases hf with rfl | rfl | rfl
  all_goals rfl
theorem since_le {f : Int} {k : Nat} (hf : f = 1 ∨ f = 2 ∨ f = 3) (hk : k < hasN f) : ¬ f < since k := by
  unfold hasN at hk
  unfold since
  by_cases h1 : f = 1
  · rw [if_pos h1] at hk
    rw [if_pos hk]; omega
  · rw [if_neg h1] at hk
    split <;> omega
theorem decNums_end {rs : List UInt8} {h : Hdr} {f : Int} (hh : h.form = f) : decNums rs (7 - hasN f) (hasN f) h = (h, 0, 0) := by
  unfold hasN
  by_cases h1 : f = 1
  · rw [if_pos h1, show 7 - 5 = 1 + 1 from rfl, decNums_one, if_pos (by rw [hh, h1]; decide), show (1 : Nat) = 0 + 1 from rfl, decNums_one, if_pos (by rw [hh, h1]; decide)]; rfl
  · rw [if_neg h1]; rfl

set_option maxRecDepth 10000 in
set_option maxHeartbeats 8000000 in
theorem refDecode_any (F : Fr) (rs : List UInt8) (hl : rs.length = 512) : Does Tryd.prog 14 [.agg (bvs rs).toArray] F [] (fun v L' => L' = [] ∧ DecR rs v) := by
  have hcut : Cut (bvs rs) 0 512 (bvs rs) := hl ▸ Cut_all rs
  refine Does_clear ?_
  refine Does_of (n := 146) Tryd.func14 rfl rfl (by simp) ?_
  refine goW ?_
  refine a_box fun b1 => ?_
  refine a_alloc fun b2 => ?_
  refine KL_reL (L' := [(b2, .cells (hdrCells noHdr).toArray 23 (0, 0)), (b1, .cells (bvs rs).toArray 24 (0, 0))]) rfl ?_
  refine goL ?_
  refine a_ldA hcut ?_
  refine a_call (refCheck_any _ rs hl) ?_
  rintro v L' ⟨rfl, rfl⟩
  cases hck : checkB rs
  · have hdec : decode rs = (noHdr, 148, 131) := by unfold decode; rw [if_pos hck]
    refine goL ?_
    refine KQ_ret3 (.inl rfl) rfl (.agg rfl (.own (.head _)) (Cut_hdr noHdr)) (.tmp rfl) (.tmp rfl) ?_
    simp only [DecR, hdec]
  have hmc : Cut (bvs rs) 257 8 (bvs (sub rs 257 8)) := Cut_sub (by omega)
  have hdec : decode rs = if formOf (sub rs 257 8) = 0 then (noHdr, 257, 130)
      else if (decNums rs 7 0 (setForm noHdr (formOf (sub rs 257 8)))).2.2 ≠ 0 then decNums rs 7 0 (setForm noHdr (formOf (sub rs 257 8)))
      else (setTyp (decTxts rs 5 0 (decNums rs 7 0 (setForm noHdr (formOf (sub rs 257 8)))).1) (typOf (rs[156]?.getD 0)), 0, 0) := by
    unfold decode
    rw [if_neg (by rw [hck]; simp)]
  generalize sub rs 257 8 = m at *
  refine goL ?_
  refine a_alloc fun b5 => ?_
  refine goL ?_
  refine a_loopK (α := Nat) (fun j => j ≤ 3) (fun j => [(6, i64 (j + 1))]) (fun j => [(b5, .cells (hdrCells (setForm noHdr (formUp m j))).toArray 23 (0, 0)), (b2, .cells (hdrCells noHdr).toArray 23 (0, 0)), (b1, .cells (bvs rs).toArray 24 (0, 0))]) (fun j => 3 - j) 0 (by omega) ?_ (hL := by rw [formUp_zero]; rfl)
  intro j hj
  refine goW ?_
  refine KW_if rfl (fun hlt => ?_) (fun hlt => ?_)
  · have hj3 : j < 3 := by omega
    refine goW ?_
    refine x_start [(b1, .cells (bvs rs).toArray 24 (0, 0))] ?_
    refine goX ?_
    refine x_pure (p_string (bs := m) rfl (.own (.head _)) hmc) ?_
    refine goX ?_
    refine x_call (magic_ref _ ((j : Int) + 1) (by omega)) ?_
    rintro v L' ⟨rfl, rfl⟩
    rw [magicOf_list j hj3]
    by_cases hmj : m = mList j
    · have hs : (⟨m.toArray⟩ : ByteArray) = ⟨(mList j).toArray⟩ := by rw [hmj]
      refine goX ?_
      refine a_next (j + 1) hj3 (by omega) (hL := ?_)
      rw [formUp_yes hj3 hmj]; rfl
    · have hs : ¬ (⟨m.toArray⟩ : ByteArray) = ⟨(mList j).toArray⟩ := fun e => hmj (by simpa using e)
      refine goX ?_
      refine a_next (j + 1) hj3 (by omega) (hL := ?_)
      rw [formUp_no hj3 hmj]; rfl
  · obtain rfl : j = 3 := by omega
    refine KW_reL (L' := [(b5, .cells (hdrCells (setForm noHdr (formOf m))).toArray 23 (0, 0)), (b2, .cells (hdrCells noHdr).toArray 23 (0, 0)), (b1, .cells (bvs rs).toArray 24 (0, 0))]) (by rw [← formUp_all]) ?_
    by_cases hf0 : formOf m = 0
    · rw [if_pos hf0] at hdec
      rw [hf0]
      refine goW ?_
      refine KQ_ret3 (.inl rfl) rfl (.agg rfl (.own (.tail _ (.head _))) (Cut_hdr noHdr)) (.tmp rfl) (.tmp rfl) ?_
      simp only [DecR, hdec]
    rw [if_neg hf0] at hdec
    have hfr := formOf_range m
    generalize formOf m = form at *
    have hform : form = 1 ∨ form = 2 ∨ form = 3 := by omega
    have hdn : ∃ d, decNums rs 7 0 (setForm noHdr form) = d := ⟨_, rfl⟩
    obtain ⟨d, hd⟩ := hdn
    rw [hd] at hdec
    have hsf : ¬ (setForm noHdr form).form = 0 := hf0
    have hsfe : (setForm noHdr form).form = form := rfl
    refine goW ?_
    refine a_call (refNumbers_any _ (setForm noHdr form)) ?_
    rintro v L' ⟨bn, rfl, rfl⟩
    refine goL ?_
    refine a_loopK (α := Nat × Hdr) (fun (k, h) => k ≤ hasN form ∧ h.form = form ∧ OnlyNums h ∧ decNums rs (7 - k) k h = d) (fun (k, _) => [(8, i64 k)])
      (fun (_, h) => [(bn, .cells (numCells h).toArray 74 (0, 0)), (b5, .cells (hdrCells (setForm noHdr form)).toArray 23 (0, 0)), (b2, .cells (hdrCells noHdr).toArray 23 (0, 0)), (b1, .cells (bvs rs).toArray 24 (0, 0))])
      (fun (k, _) => 7 - k) (0, setForm noHdr form) ⟨by omega, rfl, .start form, hd⟩ ?_
    rintro ⟨k, h⟩ ⟨hk, hhf, hon, hgo⟩
    have hk8 := hasN_le form
    refine goW ?_
    refine a_call (has_ref _ (setForm noHdr form).form) ?_
    rintro v L' ⟨rfl, rfl⟩
    rw [show (if (setForm noHdr form).form = 1 then (5 : Int) else 7) = (hasN form : Int) by rw [hsfe]; unfold hasN; split <;> rfl]
    refine goL ?_
    refine KW_if rfl (fun hlt => ?_) (fun hlt => ?_)
    · have hk' : k < hasN form := by omega
      have hk7 : k < 7 := by omega
      obtain ⟨m7, hm7⟩ : ∃ m7, 7 - k = m7 + 1 := ⟨6 - k, by omega⟩
      have hm72 : m7 = 7 - (k + 1) := by omega
      have hs := since_le hform hk'
      rw [hm7, decNums_one, if_neg (by rw [hhf]; exact hs)] at hgo
      obtain ⟨hn1, hn2, hn3, hn4⟩ := n_ok k
      have np1 := numPair h k hk7
      have np2 := numBelow h k hk7
      have np3 := fun x => numPatch h k hk7 x
      obtain ⟨NC, hNC⟩ : ∃ NC, numCells h = NC := ⟨_, rfl⟩
      refine KW_reL (L' := [(bn, .cells NC.toArray 74 (0, 0)), (b5, .cells (hdrCells (setForm noHdr form)).toArray 23 (0, 0)), (b2, .cells (hdrCells noHdr).toArray 23 (0, 0)), (b1, .cells (bvs rs).toArray 24 (0, 0))]) (by rw [← hNC]; rfl) ?_
      rw [hNC] at np1 np2 np3
      refine goW ?_
      refine a_ldA np1 ?_
      refine a_alloc fun b9 => ?_
      refine goL ?_
      rw [show ((nAt k : Int) + nLen k).toNat - (nAt k : Int).toNat = nLen k by omega, Int.toNat_natCast]
      have hsl := sub_len (rs := rs) (o := nAt k) (n := nLen k) (by omega)
      have hsc : Cut (bvs rs) (nAt k) (nLen k) (bvs (sub rs (nAt k) (nLen k))) := Cut_sub (by omega)
      refine a_call (refNumber_n _ b1 (Fr.inr (.tail _ (.tail _ (.tail _ (.tail _ (.head _)))))) (nAt k) (512 - nAt k) (sub rs (nAt k) (nLen k)) (nLen k) hsl hsc (by omega) (by omega)) ?_
      rintro v L' ⟨rfl, rfl⟩
      have hnum : number (sub rs (nAt k) (nLen k)) = numOf rs k := rfl
      rw [hnum]
      have herr : numErr rs k = if (numOf rs k).2 = 0 ∧ (numOf rs k).1 < 0 ∧ nAt k ≠ 136 then 121 else (numOf rs k).2 := rfl
      have h136 := nAt_136 k hk7
      generalize numOf rs k = nv at *
      obtain ⟨x, e⟩ := nv
      dsimp only at herr hgo
      by_cases he : e = 0
      rotate_left
      · rw [if_neg (fun hh => he hh.1)] at herr
        rw [if_pos (by rw [herr]; exact he)] at hgo
        refine goL ?_
        refine x_start [(b9, .cells [i64 (nAt k), i64 (nLen k)].toArray 64 (0, 0))] ?_
        refine goX ?_
        refine x_st (Patch_hdr noHdr noHdr) ?_ (hdr_one _)
        refine goX ?_
        refine KQ_ret3 (.inl rfl) rfl (.agg rfl (.own (.tail _ (.tail _ (.tail _ (.head _))))) (Cut_hdr noHdr)) (.tmp rfl) (.tmp rfl) ?_
        rw [← hgo, if_pos (by rw [herr]; exact he)] at hdec
        simp only [DecR, hdec, herr]
      have good : ∀ {q : Prop}, (¬ x < 0 → q) → (x < 0 → k = 4 → q) → (x < 0 → k ≠ 4 → q) → q := fun h1 h2 h3 => by
        by_cases hx : x < 0
        · by_cases h4 : k = 4
          · exact h2 hx h4
          · exact h3 hx h4
        · exact h1 hx
      refine good (fun hx => ?_) (fun hx h4 => ?_) (fun hx h4 => ?_)
      · rw [if_neg (fun hh => hx hh.2.1)] at herr
        rw [if_neg (by rw [herr]; simpa using he), hm72] at hgo
        refine goL ?_
        refine a_st (np3 x) ?_
        refine goL ?_
        refine KQ_drop (L1 := [_]) ?_
        exact a_next (k + 1, setNum h k x) ⟨by omega, by rw [setNum_form]; exact hhf, hon.set k x, hgo⟩ (by show 7 - (k + 1) < 7 - k; omega)
      · rw [if_neg (fun hh => hh.2.2 (h136.2 h4))] at herr
        rw [if_neg (by rw [herr]; simpa using he), hm72] at hgo
        have hbl := np2
        rw [decide_eq_true h4] at hbl
        refine goL ?_
        refine a_ld hbl ?_
        refine goL ?_
        refine a_st (np3 x) ?_
        refine goL ?_
        refine KQ_drop (L1 := [_]) ?_
        exact a_next (k + 1, setNum h k x) ⟨by omega, by rw [setNum_form]; exact hhf, hon.set k x, hgo⟩ (by show 7 - (k + 1) < 7 - k; omega)
      · rw [if_pos ⟨he, hx, fun e4 => h4 (h136.1 e4)⟩] at herr
        rw [if_pos (by rw [herr]; simp)] at hgo
        have hbl := np2
        rw [decide_eq_false h4] at hbl
        refine goL ?_
        refine a_ld hbl ?_
        refine goL ?_
        refine x_start [(b9, .cells [i64 (nAt k), i64 (nLen k)].toArray 64 (0, 0))] ?_
        refine goX ?_
        refine x_st (Patch_hdr noHdr noHdr) ?_ (hdr_one _)
        refine goX ?_
        refine KQ_ret3 (.inl rfl) rfl (.agg rfl (.own (.tail _ (.tail _ (.tail _ (.head _))))) (Cut_hdr noHdr)) (.tmp rfl) (.tmp rfl) ?_
        rw [← hgo, if_pos (by rw [herr]; simp)] at hdec
        simp only [DecR, hdec, herr]
    · obtain rfl : k = hasN form := by omega
      have hd7 : d = (h, 0, 0) := by rw [← hgo]; exact decNums_end hhf
      subst hd7
      rw [if_neg (by simp)] at hdec
      dsimp only at hdec
      rw [decTxts_eq rs h (by rw [hhf]; exact hform)] at hdec
      clear hgo hd hk hlt
      obtain ⟨f0, nm, pr, a3, a4, a5, a6, a7, ty, lk, us, gr, a12, a13⟩ := h
      simp only [OnlyNums, Hdr.mk.injEq, true_and, and_true] at hon
      obtain ⟨rfl, rfl, rfl, rfl, rfl, rfl⟩ := hon
      obtain rfl : f0 = form := hhf
      have h156 : 156 < rs.length := by omega
      have hget := List.getElem?_eq_getElem h156
      rw [hget, Option.getD_some] at hdec
      have hld := bvs_at hget
      generalize rs[156] = c at *
      have hc255 := c.toNat_lt
      have s0 := sub_len (rs := rs) (o := 0) (n := 100) (by omega)
      have s1 := sub_len (rs := rs) (o := 157) (n := 100) (by omega)
      have s2 := sub_len (rs := rs) (o := 265) (n := 32) (by omega)
      have s3 := sub_len (rs := rs) (o := 297) (n := 32) (by omega)
      have s4 := sub_len (rs := rs) (o := 345) (n := 155) (by omega)
      have c0 : Cut (bvs rs) 0 100 (bvs (sub rs 0 100)) := Cut_sub (by omega)
      have c1 : Cut (bvs rs) 157 100 (bvs (sub rs 157 100)) := Cut_sub (by omega)
      have c2 : Cut (bvs rs) 265 32 (bvs (sub rs 265 32)) := Cut_sub (by omega)
      have c3 : Cut (bvs rs) 297 32 (bvs (sub rs 297 32)) := Cut_sub (by omega)
      have c4 : Cut (bvs rs) 345 155 (bvs (sub rs 345 155)) := Cut_sub (by omega)
      refine goW ?_
      refine x_start (N := 42) [(bn, .cells (numCells ⟨f0, ⟨#[]⟩, ⟨#[]⟩, a3, a4, a5, a6, a7, 0, ⟨#[]⟩, ⟨#[]⟩, ⟨#[]⟩, a12, a13⟩).toArray 74 (0, 0))] ?_
      refine goX ?_
      refine x_store ?_
      refine goX ?_
      refine x_store ?_
      refine goX ?_
      refine x_store ?_
      refine goX ?_
      refine x_store ?_
      refine goX ?_
      refine x_store ?_
      refine goX ?_
      refine x_store ?_
      refine goX ?_
      refine x_store ?_
      refine goX ?_
      refine x_start (N := 12) [(b1, .cells (bvs rs).toArray 24 (0, 0))] ?_
      refine goX ?_
      refine y_at ?_
      refine y_sl 2 157 257 (by omega) (by omega) (by omega) ?_
      refine y_p 4 (p_indexAddr_array (t := 24) (x := .tmp 1) (i := .const (.int .i64 156)) (b := b1) (o := 0) (j := 156) (o' := 156) rfl rfl (by omega) (by omega) rfl) ?_
      refine y_p 5 (p_load rfl (.own (.head _)) hld) ?_
      refine y_call 1 (refTextOf_n _ b1 (Fr.inr (.tail _ (.tail _ (.tail _ (.head _))))) 0 512 (sub rs 0 100) 100 s0 c0 (by omega) (by omega)) ?_
      rintro v L' ⟨rfl, rfl⟩
      refine y_p 6 (p_fieldAddr (s := 23) (x := .tmp 5) (f := 1) rfl) ?_
      refine y_call 3 (refTextOf_n _ b1 (Fr.inr (.tail _ (.tail _ (.tail _ (.head _))))) 157 355 (sub rs 157 100) 100 s1 c1 (by omega) (by omega)) ?_
      rintro v L' ⟨rfl, rfl⟩
      refine y_back (N := 12) 7 ?_
      refine x_store ?_
      refine goX ?_
      refine x_store ?_
      refine goX ?_
      refine x_store ?_
      refine goX ?_
      refine a_joinK (α := Unit) (fun _ => True) (fun _ => []) (fun _ => [(bn, .cells (numCells ⟨f0, ⟨#[]⟩, ⟨#[]⟩, a3, a4, a5, a6, a7, 0, ⟨#[]⟩, ⟨#[]⟩, ⟨#[]⟩, a12, a13⟩).toArray 74 (0, 0)), (b5, .cells (hdrCells ⟨f0, tx rs 0, ⟨#[]⟩, a3, a4, a5, a6, a7, typOf c, tx rs 1, ⟨#[]⟩, ⟨#[]⟩, a12, a13⟩).toArray 23 (0, 0)), (b2, .cells (hdrCells noHdr).toArray 23 (0, 0)), (b1, .cells (bvs rs).toArray 24 (0, 0))]) ?_ ?_
      · refine KW_if rfl (fun h0 => ?_) (fun h0 => ?_)
        · have hc0 : c.toNat = 0 := by omega
          have ht : typOf c = 48 := by rw [typOf, if_pos hc0]
          rw [ht]
          refine goW ?_
          exact a_met () trivial
        · have hc0 : ¬ c.toNat = 0 := by omega
          have ht : typOf c = c := by rw [typOf, if_neg hc0]
          rw [ht]
          refine goW ?_
          exact a_met () trivial
      rintro _ -
      rcases hform with rfl | rfl | rfl
      · rw [if_pos rfl] at hdec
        refine goQ ?_
        refine KQ_ret3 (.inl rfl) rfl (.agg rfl (.own (.tail _ (.tail _ (.head _)))) (Cut_hdr ⟨1, tx rs 0, ⟨#[]⟩, a3, a4, a5, a6, a7, typOf c, tx rs 1, ⟨#[]⟩, ⟨#[]⟩, a12, a13⟩)) (.tmp rfl) (.tmp rfl) ?_
        rw [DecR, hdec]; rfl
      · rw [if_neg (by simp), if_pos rfl] at hdec
        refine goQ ?_
        refine x_start (N := 8) [(b1, .cells (bvs rs).toArray 24 (0, 0))] ?_
        refine goX ?_
        refine y_at ?_
        refine y_sl 2 297 329 (by omega) (by omega) (by omega) ?_
        refine y_call 1 (refTextOf_n _ b1 (Fr.inr (.tail _ (.tail _ (.tail _ (.head _))))) 265 247 (sub rs 265 32) 32 s2 c2 (by omega) (by omega)) ?_
        rintro v L' ⟨rfl, rfl⟩
        refine y_p 4 (p_fieldAddr (s := 23) (x := .tmp 5) (f := 10) rfl) ?_
        refine y_call 3 (refTextOf_n _ b1 (Fr.inr (.tail _ (.tail _ (.tail _ (.head _))))) 297 215 (sub rs 297 32) 32 s3 c3 (by omega) (by omega)) ?_
        rintro v L' ⟨rfl, rfl⟩
        refine y_back (N := 8) 5 ?_
        refine x_store ?_
        refine goX ?_
        refine x_store ?_
        refine goX ?_
        refine a_call (refTextOf_n _ b1 (Fr.inr (.tail _ (.tail _ (.tail _ (.head _))))) 345 167 (sub rs 345 155) 155 s4 c4 (by omega) (by omega)) ?_
        rintro v L' ⟨rfl, rfl⟩
        refine goL ?_
        refine KQ_ret3 (.inl rfl) rfl (.agg rfl (.own (.tail _ (.tail _ (.head _)))) (Cut_hdr ⟨2, tx rs 0, tx rs 4, a3, a4, a5, a6, a7, typOf c, tx rs 1, tx rs 2, tx rs 3, a12, a13⟩)) (.tmp rfl) (.tmp rfl) ?_
        rw [DecR, hdec]; rfl
      · rw [if_neg (by simp), if_neg (by simp)] at hdec
        refine goQ ?_
        refine x_start (N := 8) [(b1, .cells (bvs rs).toArray 24 (0, 0))] ?_
        refine goX ?_
        refine y_at ?_
        refine y_sl 2 297 329 (by omega) (by omega) (by omega) ?_
        refine y_call 1 (refTextOf_n _ b1 (Fr.inr (.tail _ (.tail _ (.tail _ (.head _))))) 265 247 (sub rs 265 32) 32 s2 c2 (by omega) (by omega)) ?_
        rintro v L' ⟨rfl, rfl⟩
        refine y_p 4 (p_fieldAddr (s := 23) (x := .tmp 5) (f := 10) rfl) ?_
        refine y_call 3 (refTextOf_n _ b1 (Fr.inr (.tail _ (.tail _ (.tail _ (.head _))))) 297 215 (sub rs 297 32) 32 s3 c3 (by omega) (by omega)) ?_
        rintro v L' ⟨rfl, rfl⟩
        refine y_back (N := 8) 5 ?_
        refine x_store ?_
        refine goX ?_
        refine x_store ?_
        refine goX ?_
        refine KQ_ret3 (.inl rfl) rfl (.agg rfl (.own (.tail _ (.tail _ (.head _)))) (Cut_hdr ⟨3, tx rs 0, ⟨#[]⟩, a3, a4, a5, a6, a7, typOf c, tx rs 1, tx rs 2, tx rs 3, a12, a13⟩)) (.tmp rfl) (.tmp rfl) ?_
        rw [DecR, hdec]; rfl
end Go.Proofs.YtjeaofabpfgngaaDoor
