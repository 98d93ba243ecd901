/-
  header.Decode walked.
  Conditions: the package-level variables hold what the program's text lays.
-/
import Derived.Test.YtjeaofabpfgngaaDoorA33
namespace Go.Proofs.YtjeaofabpfgngaaDoor
open Go.KE

theorem formSeen_nil (m : List UInt8) : formSeen m [] = 0 := by
  unfold formSeen
  rw [if_neg (fun h => by simp at h)]
theorem born_lt : ∀ e ∈ magicEs, e.born < 3 := by
  intro e he
  obtain ⟨j, hj, rfl⟩ := entry_cases he
  exact hj
theorem born_nodup : (magicEs.map (·.born)).Nodup := by decide

section calls
variable {n : Nat} {F : Fr} {Q : Post} {E : Sl} {L Lq : Bl} {ops : Array Oper} {ty : TypeId} {pos : String} {after : Array Edge} {dst : Nat} {fo : Operand} {xs : List Operand} {ts : Array TypeId}
theorem y_text {fuel : Nat} {listed : Array Bool} {g : Option (Nat × Bool)} (i k : Nat) {b : Nat} (hk : k < 5) (c : KA Tryd.prog n F Lq ops Q fuel (listed.setIfInBounds i true) ((dst, .pointer (some ⟨b, tFld k, none⟩)) :: E) L)
    (hi : ops[i]? = some ⟨some dst, .call { callee := .value fo, args := xs.toArray, argTypes := ts }, ty, pos, after, g⟩ := by rfl) (hr : Region.ready .any ops listed = [i] := by decide +kernel) (hL : Sl1 L Lq := by (repeat (first | exact Sl1.nil | apply Sl1.keep | apply Sl1.skip)); done)
    (hg : Want ops E true g := by first | exact .none rfl | exact .some rfl rfl rfl) (hf : ev E fo = some (fnv (41 + k)) := by rfl) (hvs : evs E xs = some [.pointer (some ⟨b, 0, none⟩)] := by rfl) (hd : Nat.blt dst n = true := by rfl) :
    KA Tryd.prog n F Lq ops Q (fuel + 1) listed E L := by
  obtain rfl | rfl | rfl | rfl | rfl : k = 0 ∨ k = 1 ∨ k = 2 ∨ k = 3 ∨ k = 4 := by omega
  · exact y_call i (clos41 _ b) (by rintro v L' ⟨rfl, rfl⟩; exact c) hi hr hL hg hd hf hvs rfl
  · exact y_call i (clos42 _ b) (by rintro v L' ⟨rfl, rfl⟩; exact c) hi hr hL hg hd hf hvs rfl
  · exact y_call i (clos43 _ b) (by rintro v L' ⟨rfl, rfl⟩; exact c) hi hr hL hg hd hf hvs rfl
  · exact y_call i (clos44 _ b) (by rintro v L' ⟨rfl, rfl⟩; exact c) hi hr hL hg hd hf hvs rfl
  · exact y_call i (clos45 _ b) (by rintro v L' ⟨rfl, rfl⟩; exact c) hi hr hL hg hd hf hvs rfl
end calls

theorem decNums_step {rs : List UInt8} {m k : Nat} {h : Hdr} : decNums rs (m + 1) k h = if h.form < since k then decNums rs m (k + 1) h else if numErr rs k ≠ 0 then (noHdr, (nAt k : Int), numErr rs k) else decNums rs m (k + 1) (setNum h k (numOf rs k).1) := rfl

set_option maxRecDepth 10000 in
set_option maxHeartbeats 8000000 in
theorem decode_any (F : Fr) (hg : Glob F) (rs : List UInt8) (hl : rs.length = 512) : Does Tryd.prog 12 [.agg (bvs rs).toArray] F [] (fun v L' => L' = [] ∧ DecR rs v) := by
  have hcut : Cut (bvs rs) 0 512 (bvs rs) := hl ▸ Cut_all rs
  obtain ⟨mt, mr, hmt⟩ := hg.magic
  obtain ⟨tt, tr, htt⟩ := hg.typ
  refine Does_clear ?_
  refine Does_of (n := 109) Tryd.func12 rfl rfl (by simp) ?_
  refine goW ?_
  refine a_box fun b1 => ?_
  refine a_alloc fun b2 => ?_
  refine KL_reL (L' := [(b2, .cells (hdrCells noHdr).toArray 23 (0, 0)), (b1, .cells (bvs rs).toArray 24 (0, 0))]) rfl ?_
  refine goL ?_
  refine a_ldA hcut ?_
  refine a_call (check_any _ rs hl) ?_
  rintro v L' ⟨rfl, rfl⟩
  cases hck : checkB rs
  · have hdec : decode rs = (noHdr, 148, 131) := by unfold decode; rw [if_pos hck]
    refine goL ?_
    refine KQ_ret3 (.inl rfl) rfl (.agg rfl (.own (.head _)) (Cut_hdr noHdr)) (.tmp rfl) (.tmp rfl) ?_
    simp only [DecR, hdec]
  have hm8 := sub_len (rs := rs) (o := 257) (n := 8) (by omega)
  have hmc : Cut (bvs rs) 257 8 (bvs (sub rs 257 8)) := Cut_sub (by omega)
  have hdec : decode rs = if formOf (sub rs 257 8) = 0 then (noHdr, 257, 130)
      else if (decNums rs 7 0 (setForm noHdr (formOf (sub rs 257 8)))).2.2 ≠ 0 then decNums rs 7 0 (setForm noHdr (formOf (sub rs 257 8)))
      else (setTyp (decTxts rs 5 0 (decNums rs 7 0 (setForm noHdr (formOf (sub rs 257 8)))).1) (typOf (rs[156]?.getD 0)), 0, 0) := by
    unfold decode
    rw [if_neg (by rw [hck]; simp)]
  generalize sub rs 257 8 = m at *
  refine goL ?_
  refine a_alloc fun b5 => ?_
  refine goL ?_
  refine a_call (magics_any _) ?_
  rintro v L' ⟨bm, rfl, rfl⟩
  refine a_mem (m_range (es := magicEs) rfl (.own (.head _))) fun bi _ => ?_
  refine goL ?_
  refine a_loopK (α := List Nat) (fun _ => True) (fun _ => []) (fun seen => [(bi, .mapIter (some bm) 3 seen.toArray 3), (bm, .map magicEs.toArray 3), (b5, .cells (hdrCells (setForm noHdr (formSeen m seen))).toArray 23 (0, 0)), (b2, .cells (hdrCells noHdr).toArray 23 (0, 0)), (b1, .cells (bvs rs).toArray 24 (0, 0))]) leftN [] trivial ?_ (hL := by rw [formSeen_nil]; rfl)
  rintro seen -
  refine goW ?_
  refine a_mem (m_next (es := magicEs) (seen := seen) (L' := fun e => [(bi, .mapIter (some bm) 3 (seen ++ [e.born]).toArray 3), (bm, .map magicEs.toArray 3), (b5, .cells (hdrCells (setForm noHdr (formSeen m seen))).toArray 23 (0, 0)), (b2, .cells (hdrCells noHdr).toArray 23 (0, 0)), (b1, .cells (bvs rs).toArray 24 (0, 0))]) rfl (.own (.tail _ (.head _))) born_lt (Nat.le_refl _) (.head _) (fun e => .head)) fun o ho => ?_
  cases o with
  | some e =>
    obtain ⟨he, hb⟩ := ho
    obtain ⟨j, hj, rfl⟩ := entry_cases he
    refine goL ?_
    refine a_pure (p_entry (seen := seen) rfl (.own (.head _)) (.own (.tail _ (.head _))) he born_nodup) ?_
    refine goL ?_
    refine a_call (of_any _ b1 257 8 (by omega) (by omega) (by omega) (by omega)) ?_
    rintro v L' ⟨rfl, rfl⟩
    refine a_pure (p_string (bs := m) rfl (.own (.tail _ (.tail _ (.tail _ (.tail _ (.head _)))))) hmc) ?_
    by_cases hmj : m = mList j
    · have hs : (⟨m.toArray⟩ : ByteArray) = ⟨(mList j).toArray⟩ := by rw [hmj]
      refine goL ?_
      refine a_next (seen ++ [j]) trivial (leftN_lt hj hb) (hL := ?_)
      rw [formSeen_yes hj hmj]; rfl
    · have hs : ¬ (⟨m.toArray⟩ : ByteArray) = ⟨(mList j).toArray⟩ := fun e => hmj (by simpa using e)
      refine goL ?_
      refine a_next (seen ++ [j]) trivial (leftN_lt hj hb) (hL := ?_)
      rw [formSeen_no hj hmj]; rfl
  | none =>
    have hfs : formSeen m seen = formOf m := formSeen_all ho
    refine KL_reL (L' := [(bi, .mapIter (some bm) 3 seen.toArray 3), (bm, .map magicEs.toArray 3), (b5, .cells (hdrCells (setForm noHdr (formOf m))).toArray 23 (0, 0)), (b2, .cells (hdrCells noHdr).toArray 23 (0, 0)), (b1, .cells (bvs rs).toArray 24 (0, 0))]) (by rw [← hfs]) ?_
    by_cases hf0 : formOf m = 0
    · rw [if_pos hf0] at hdec
      rw [hf0]
      refine goL ?_
      refine x_start [] ?_
      refine goX ?_
      refine x_st (Patch_hdr noHdr noHdr) ?_ (hdr_one _)
      refine goX ?_
      refine KQ_ret3 (.inl rfl) rfl (.agg rfl (.own (.tail _ (.tail _ (.tail _ (.head _))))) (Cut_hdr noHdr)) (.tmp rfl) (.tmp rfl) ?_
      simp only [DecR, hdec]
    rw [if_neg hf0] at hdec
    generalize hform : formOf m = form at *
    have hdn : ∃ d, decNums rs 7 0 (setForm noHdr form) = d := ⟨_, rfl⟩
    obtain ⟨d, hd⟩ := hdn
    rw [hd] at hdec
    have hsf : ¬ (setForm noHdr form).form = 0 := hf0
    refine goL ?_
    refine a_call (numbers_any _) ?_
    rintro v L' ⟨bn, rfl, rfl⟩
    refine goL ?_
    refine a_loopK (α := Nat × Hdr) (fun (k, h) => k ≤ 7 ∧ h.form = form ∧ decNums rs (7 - k) k h = d) (fun (k, _) => [(40, i64 k)])
      (fun (_, h) => [(bn, .cells numberCells.toArray 57 (0, 0)), (bi, .mapIter (some bm) 3 seen.toArray 3), (bm, .map magicEs.toArray 3), (b5, .cells (hdrCells h).toArray 23 (0, 0)), (b2, .cells (hdrCells noHdr).toArray 23 (0, 0)), (b1, .cells (bvs rs).toArray 24 (0, 0))])
      (fun (k, _) => 7 - k) (0, setForm noHdr form) ⟨by omega, rfl, hd⟩ ?_
    rintro ⟨k, h⟩ ⟨hk, hhf, hgo⟩
    refine goW ?_
    refine KW_if rfl (fun hlt => ?_) (fun hlt => ?_)
    · have hk7 : k < 7 := by omega
      obtain ⟨m7, hm7⟩ : ∃ m7, 7 - k = m7 + 1 := ⟨6 - k, by omega⟩
      have hm72 : m7 = 7 - (k + 1) := by omega
      rw [hm7, decNums_step] at hgo
      have hsin := num_since2 h k hk7
      obtain ⟨hn1, hn2, hn3, hn4⟩ := n_ok k
      refine goW ?_
      refine a_ldA (n_row k hk7 h) ?_
      refine a_alloc fun b9 => ?_
      by_cases hfm : h.form < (num h k).2
      · rw [if_pos (hsin ▸ hfm), hm72] at hgo
        refine goL ?_
        refine KQ_drop (L1 := [_]) ?_
        exact a_next (k + 1, h) ⟨by omega, hhf, hgo⟩ (by show 7 - (k + 1) < 7 - k; omega)
      rw [if_neg (hsin ▸ hfm)] at hgo
      refine goL ?_
      refine a_call (of_any _ b1 (nAt k) (nLen k) (by omega) (by omega) (by omega) (by omega)) ?_
      rintro v L' ⟨rfl, rfl⟩
      rw [show ((nAt k : Int) + nLen k).toNat - (nAt k : Int).toNat = nLen k by omega, Int.toNat_natCast]
      have hsl := sub_len (rs := rs) (o := nAt k) (n := nLen k) (by omega)
      have hsc : Cut (bvs rs) (nAt k) (nLen k) (bvs (sub rs (nAt k) (nLen k))) := Cut_sub (by omega)
      refine a_call (number_n _ b1 (Fr.inr (.tail _ (.tail _ (.tail _ (.tail _ (.tail _ (.tail _ (.head _)))))))) (nAt k) (512 - nAt k) (sub rs (nAt k) (nLen k)) (nLen k) hsl hsc (by omega) (by omega) (by omega)) ?_
      rintro v L' ⟨rfl, rfl⟩
      have hnum : number (sub rs (nAt k) (nLen k)) = numOf rs k := rfl
      rw [hnum]
      have herr : numErr rs k = if (numOf rs k).2 = 0 ∧ (numOf rs k).1 < 0 ∧ nAt k ≠ 136 then 121 else (numOf rs k).2 := rfl
      generalize numOf rs k = nv at *
      obtain ⟨x, e⟩ := nv
      dsimp only at herr hgo
      by_cases hA : e = 0 ∧ x < 0 ∧ nAt k ≠ 136
      · rw [if_pos hA] at herr
        obtain ⟨hA1, hA2, hA3⟩ := hA
        rw [if_pos (by rw [herr]; omega)] at hgo
        refine goL ?_
        refine x_start [(b9, .cells [i64 (nAt k), i64 (nLen k), fnv (46 + k), i64 (num h k).2].toArray 57 (0, 0))] ?_
        refine goX ?_
        refine x_st (Patch_hdr noHdr noHdr) ?_ (hdr_one _)
        refine goX ?_
        refine KQ_ret3 (.inl rfl) rfl (.agg rfl (.own (.tail _ (.tail _ (.tail _ (.tail _ (.tail _ (.head _))))))) (Cut_hdr noHdr)) (.tmp rfl) (.tmp rfl) ?_
        rw [← hgo, if_pos (by rw [herr]; simp)] at hdec
        simp only [DecR, hdec, herr]
      rw [if_neg hA] at herr
      by_cases he : e = 0
      · rw [if_neg (by rw [herr]; simpa using he), hm72] at hgo
        have fin : ∀ {q : Prop}, (x < 0 → nAt k = 136 → q) → (¬ x < 0 → q) → q := fun h1 h2 => by
          by_cases hx : x < 0
          · exact h1 hx (Classical.byContradiction fun h3 => hA ⟨he, hx, h3⟩)
          · exact h2 hx
        refine fin (fun hx h136 => ?_) (fun hx => ?_)
        · refine goL ?_
          refine call_num k hk7 ?_
          refine goL ?_
          refine a_st (patch_num h k hk7 x) ?_
          refine goL ?_
          refine KQ_drop (L1 := [_]) ?_
          exact a_next (k + 1, setNum h k x) ⟨by omega, by rw [setNum_form]; exact hhf, hgo⟩ (by show 7 - (k + 1) < 7 - k; omega)
        · refine goL ?_
          refine call_num k hk7 ?_
          refine goL ?_
          refine a_st (patch_num h k hk7 x) ?_
          refine goL ?_
          refine KQ_drop (L1 := [_]) ?_
          exact a_next (k + 1, setNum h k x) ⟨by omega, by rw [setNum_form]; exact hhf, hgo⟩ (by show 7 - (k + 1) < 7 - k; omega)
      · rw [if_pos (by rw [herr]; exact he)] at hgo
        refine goL ?_
        refine x_start [(b9, .cells [i64 (nAt k), i64 (nLen k), fnv (46 + k), i64 (num h k).2].toArray 57 (0, 0))] ?_
        refine goX ?_
        refine x_st (Patch_hdr noHdr noHdr) ?_ (hdr_one _)
        refine goX ?_
        refine KQ_ret3 (.inl rfl) rfl (.agg rfl (.own (.tail _ (.tail _ (.tail _ (.tail _ (.tail _ (.head _))))))) (Cut_hdr noHdr)) (.tmp rfl) (.tmp rfl) ?_
        rw [← hgo, if_pos (by rw [herr]; exact he)] at hdec
        simp only [DecR, hdec, herr]
    · obtain rfl : k = 7 := by omega
      have hd7 : d = (h, 0, 0) := hgo.symm
      subst hd7
      rw [if_neg (by simp)] at hdec
      dsimp only at hdec
      clear hgo hd
      have ht : ∃ h5, decTxts rs 5 0 h = h5 := ⟨_, rfl⟩
      obtain ⟨h5, ht5⟩ := ht
      rw [ht5] at hdec
      refine goW ?_
      refine a_call (texts_any _ (hg.plus _)) ?_
      rintro v L' ⟨bt, bt1, bt2, bt3, rfl, rfl⟩
      refine goL ?_
      refine a_loopK (α := Nat × Hdr) (fun (k, g) => k ≤ 5 ∧ decTxts rs (5 - k) k g = h5) (fun (k, _) => [(83, i64 k)])
        (fun (_, g) => [(bt, .cells (textCells bt3 bt2 bt1).toArray 49 (0, 0)), (bt1, .cells [i64 2].toArray 3 (0, 0)), (bt2, .cells [i64 2, i64 3].toArray 3 (0, 0)), (bt3, .cells [i64 1, i64 2, i64 3].toArray 3 (0, 0)), (bn, .cells numberCells.toArray 57 (0, 0)), (bi, .mapIter (some bm) 3 seen.toArray 3), (bm, .map magicEs.toArray 3), (b5, .cells (hdrCells g).toArray 23 (0, 0)), (b2, .cells (hdrCells noHdr).toArray 23 (0, 0)), (b1, .cells (bvs rs).toArray 24 (0, 0))])
        (fun (k, _) => 5 - k) (0, h) ⟨by omega, ht5⟩ ?_
      rintro ⟨k, g⟩ ⟨hk5, hgo⟩
      refine goW ?_
      refine KW_if rfl (fun hlt5 => ?_) (fun hlt5 => ?_)
      · have hk' : k < 5 := by omega
        obtain ⟨m5, hm5⟩ : ∃ m5, 5 - k = m5 + 1 := ⟨4 - k, by omega⟩
        have hm52 : m5 = 5 - (k + 1) := by omega
        rw [hm5, decTxts, hm52] at hgo
        obtain ⟨ht1, ht2, ht3⟩ := t_ok k
        have htl : tLen k ≤ 155 := by unfold tLen; split <;> omega
        obtain ⟨hmf1, hmf2⟩ := t_forms bt3 bt2 bt1 k hk' g
        have hmfX : ∀ R : Bl, (tB bt3 bt2 bt1 k, Obj.cells (i64s (txt g k).2).toArray 3 (0, 0)) ∈ [(bt1, Obj.cells [i64 2].toArray 3 (0, 0)), (bt2, .cells [i64 2, i64 3].toArray 3 (0, 0)), (bt3, .cells [i64 1, i64 2, i64 3].toArray 3 (0, 0))] ++ R := fun R => List.mem_append_left _ hmf1
        refine goW ?_
        refine a_ldA (t_row bt3 bt2 bt1 k hk') ?_
        refine a_alloc fun b13 => ?_
        refine goL ?_
        refine a_call (has_any _ _ _ _ (tB bt3 bt2 bt1 k) (tN k) (tN k) _ (txt g k).2 (Fr.inr (.tail _ (.tail _ (hmfX _)))) hmf2 (by unfold tN; split <;> omega)) ?_
        rintro v L' ⟨rfl, rfl⟩
        cases hh : (txt g k).2.contains g.form
        · rw [if_neg (by rw [hh]; simp)] at hgo
          refine goL ?_
          refine KQ_drop (L1 := [_]) ?_
          exact a_next (k + 1, g) ⟨by omega, hgo⟩ (by show 5 - (k + 1) < 5 - k; omega)
        · rw [if_pos hh] at hgo
          refine goL ?_
          refine x_start (N := 9) [(b13, .cells [i64 (tAt k), i64 (tLen k), fnv (41 + k), tSl bt3 bt2 bt1 k].toArray 49 (0, 0))] ?_
          refine goX ?_
          refine y_at ?_
          refine y_p 3 (p_fieldAddr rfl) ?_
          refine y_p 4 (p_load_agg (cs := [i64 (tAt k), i64 (tLen k)]) rfl (.own (.head _)) (.cons (.cons .nil))) ?_
          refine y_text 2 k hk' ?_
          refine y_back (N := 9) 5 ?_
          refine x_call (of_any _ b1 (tAt k) (tLen k) (by omega) (by omega) (by omega) (by omega)) ?_
          rintro v L' ⟨rfl, rfl⟩
          rw [show ((tAt k : Int) + tLen k).toNat - (tAt k : Int).toNat = tLen k by omega, Int.toNat_natCast]
          have hsl := sub_len (rs := rs) (o := tAt k) (n := tLen k) (by omega)
          have hsc : Cut (bvs rs) (tAt k) (tLen k) (bvs (sub rs (tAt k) (tLen k))) := Cut_sub (by omega)
          refine x_call (textOf_n _ b1 (Fr.inr (.tail _ (.tail _ (.tail _ (.tail _ (.tail _ (.tail _ (.tail _ (.tail _ (.tail _ (.tail _ (.head _)))))))))))) (tAt k) (512 - tAt k) (sub rs (tAt k) (tLen k)) (tLen k) hsl hsc (by omega) (by omega)) ?_
          rintro v L' ⟨rfl, rfl⟩
          refine goX ?_
          refine x_st (patch_txt g k hk' (textOf (sub rs (tAt k) (tLen k)))) ?_
          refine goX ?_
          refine KQ_drop (L1 := [_]) ?_
          exact a_next (k + 1, setTxt g k (textOf (sub rs (tAt k) (tLen k)))) ⟨by omega, hgo⟩ (by show 5 - (k + 1) < 5 - k; omega)
      · obtain rfl : k = 5 := by omega
        obtain rfl : g = h5 := hgo
        have h156 : 156 < rs.length := by omega
        have hget := List.getElem?_eq_getElem h156
        rw [hget, Option.getD_some] at hdec
        have hld := bvs_at hget
        generalize rs[156] = c at *
        have hc255 := c.toNat_lt
        refine goW ?_
        refine a_ld hld ?_
        by_cases hc0 : c.toNat = 0
        · have htyp : typOf c = 48 := by rw [typOf, if_pos hc0]
          rw [htyp] at hdec
          refine goL ?_
          refine KQ_ret3 (.inl rfl) rfl (.agg rfl (.own (.tail _ (.tail _ (.tail _ (.tail _ (.tail _ (.tail _ (.tail _ (.tail _ (.head _)))))))))) (Cut_hdr (setTyp g 48))) (.tmp rfl) (.tmp rfl) ?_
          simp only [DecR, hdec]
        · have htyp : typOf c = c := by rw [typOf, if_neg hc0]
          rw [htyp] at hdec
          refine goL ?_
          refine KQ_ret3 (.inl rfl) rfl (.agg rfl (.own (.tail _ (.tail _ (.tail _ (.tail _ (.tail _ (.tail _ (.tail _ (.tail _ (.head _)))))))))) (Cut_hdr (setTyp g c))) (.tmp rfl) (.tmp rfl) ?_
          simp only [DecR, hdec]
end Go.Proofs.YtjeaofabpfgngaaDoor
