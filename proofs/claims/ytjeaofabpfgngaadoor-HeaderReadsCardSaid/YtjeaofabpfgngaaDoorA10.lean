/-
  header.Encode walked.
  Conditions: the package-level variables hold what the programs' texts lay.
-/
import Derived.Test.YtjeaofabpfgngaaDoorA9
namespace Go.Proofs.YtjeaofabpfgngaaDoor
open Go.KE

structure HFits (h : Hdr) : Prop where
  form : Fits .i64 h.form
  mode : Fits .i64 h.mode
  uid : Fits .i64 h.uid
  gid : Fits .i64 h.gid
  size : Fits .i64 h.size
  time : Fits .i64 h.time
  major : Fits .i64 h.major
  minor : Fits .i64 h.minor
  texts : ∀ k, (txt h k).1.size ≤ 9223372036854775807
theorem HFits.num {h : Hdr} (hf : HFits h) (k : Nat) : Fits .i64 (num h k).1 := by
  unfold YtjeaofabpfgngaaDoor.num
  split
  · exact hf.mode
  · exact hf.uid
  · exact hf.gid
  · exact hf.size
  · exact hf.time
  · exact hf.major
  · exact hf.minor

instance : TB0 Tryd.prog 24 (List.replicate 512 (.int .u8 0)) := ⟨by kernel_rfl⟩
def EncR (h : Hdr) (v : Value) : Prop := v = .tuple #[.agg (bvs (encode h).1).toArray, i64 (encode h).2]
theorem bvs_zero : bvs zero512 = List.replicate 512 (.int .u8 0) := by
  unfold bvs zero512
  rw [List.map_replicate]; rfl

theorem Patch_all' {Z : List UInt8} (hZ : zero512 = Z) : Patch (bvs Z) 0 (List.replicate 512 (.int .u8 0)) (bvs Z) := by
  rw [← hZ, bvs_zero]
  exact Patch_all rfl
theorem Cut_zero {Z : List UInt8} (hZ : zero512 = Z) : Cut (bvs Z) 0 512 (bvs Z) := by
  have h : Z.length = 512 := by rw [← hZ, zero512]; exact List.length_replicate
  exact h ▸ Cut_all Z
theorem oneCells_zero : oneCells (List.replicate 512 (.int .u8 0)) := by
  rw [← bvs_zero]; exact oneCells_bvs _
theorem putAt_length {rs bs : List UInt8} {o : Nat} (h : o + bs.length ≤ rs.length) : (putAt rs o bs).length = rs.length := by
  simp [putAt]; omega
theorem octField_length {n : Int} {w : Nat} {bs : List UInt8} (h : octField n w = some bs) (_hw : 2 ≤ w) : bs.length = w := by
  unfold octField at h
  split at h
  · cases h
  · obtain rfl := Option.some.inj h
    have h3 : (octI n).data.toList.length = (octI n).size := by simp
    simp only [List.length_append, h3, zeros, List.length_replicate, List.length_cons, List.length_nil]
    omega
theorem flag_length : ∀ l : List UInt8, (flag l).length = l.length
  | [] => rfl
  | _ :: _ => rfl
theorem binField_length {n : Int} {w : Nat} {bs : List UInt8} (h : binField n w = some bs) : bs.length = w := by
  unfold binField at h
  split at h
  · cases h
  · obtain rfl := Option.some.inj h
    rw [binBytes, flag_length, beGo_length]; rfl
theorem formField_length {f n : Int} {w : Nat} {bs : List UInt8} (h : formField f n w = some bs) (hw : 2 ≤ w) : bs.length = w := by
  unfold formField at h
  split at h
  · unfold numField at h
    split at h
    · rename_i h2
      obtain rfl := Option.some.inj h
      exact octField_length h2 hw
    · exact binField_length h
  · exact octField_length h hw
theorem putSum_length {rs : List UInt8} (hl : rs.length = 512) : (putSum rs).length = 512 := by
  obtain ⟨hs0, hs1⟩ := sums_le rs hl
  obtain ⟨bs, hbs, hbl⟩ := octField_small _ hs0 hs1
  rw [putSum, hbs]
  show (putAt rs 148 (bs ++ [32])).length = 512
  rw [putAt_length (by simp; omega)]; exact hl
theorem find_magic (f : Int) : ∃ r, Instr.findNow (.int .i64) (i64 f) magicEs 0 = some r ∧ found (.string ⟨#[]⟩) r = .tuple #[.string ⟨(if f = 1 ∨ f = 2 ∨ f = 3 then magicOf f else []).toArray⟩, .bool (decide (f = 1 ∨ f = 2 ∨ f = 3))] := by
  by_cases h1 : f = 1
  · subst h1; exact ⟨some (0, .string mV7), rfl, rfl⟩
  by_cases h2 : f = 2
  · subst h2; exact ⟨some (1, .string mUstar), rfl, rfl⟩
  by_cases h3 : f = 3
  · subst h3; exact ⟨some (2, .string mGNU), rfl, rfl⟩
  refine ⟨none, ?_, ?_⟩
  · have e1 : ¬ (1 : Int) = f := fun e => h1 e.symm
    have e2 : ¬ (2 : Int) = f := fun e => h2 e.symm
    have e3 : ¬ (3 : Int) = f := fun e => h3 e.symm
    have b1 : (f == 1) = false := by simp [h1]
    have b2 : (f == 2) = false := by simp [h2]
    have b3 : (f == 3) = false := by simp [h3]
    simp [magicEs, me, Instr.findNow, Instr.sameNow]
    rw [b1, b2, b3]
  · simp [found, h1, h2, h3]

set_option maxRecDepth 10000 in
set_option maxHeartbeats 4000000 in
theorem encode_any (F : Fr) (hg : Glob F) (hg10 : GC F 10 (u8s deBr)) (h : Hdr) (hf : HFits h) :
    Does Tryd.prog 8 [.agg (hdrCells h).toArray] F [] (fun v L' => L' = [] ∧ EncR h v) := by
  obtain ⟨Z, hZ⟩ : ∃ Z, zero512 = Z := ⟨_, rfl⟩
  refine Does_clear ?_
  refine Does_of (n := 118) Tryd.func8 rfl rfl (by simp) ?_
  refine goW ?_
  refine a_box fun b1 => ?_
  refine a_alloc fun b2 => ?_
  refine goL ?_
  refine a_join (α := Unit) (fun _ => True) (fun _ => [(4, .string ⟨(if h.form = 1 ∨ h.form = 2 ∨ h.form = 3 then magicOf h.form else []).toArray⟩), (5, .bool (decide (h.form = 1 ∨ h.form = 2 ∨ h.form = 3))), (1, .pointer (some ⟨b1, 0, none⟩)), (2, .pointer (some ⟨b2, 0, none⟩)), (3, i64 0)])
    (fun _ => [(b2, .cells (bvs Z).toArray 24 (0, 0)), (b1, .cells (hdrCells h).toArray 23 (0, 0))]) ?_ ?_
  · refine x_start (N := 9) [(b1, .cells (hdrCells h).toArray 23 (0, 0))] ?_
    refine y_start ?_
    refine y_p 1 (p_fieldAddr rfl) ?_
    refine y_p 2 (p_load rfl (.own (.head _)) rfl) ?_
    refine y_call 0 (magics_any _) ?_
    rintro v L' ⟨b3, rfl, rfl⟩
    refine y_back (N := 9) 3 ?_
    refine KX_more [(b3, .map magicEs.toArray 3), (b1, .cells (hdrCells h).toArray 23 (0, 0))] (by (repeat (first | exact Sl1.nil | apply Sl1.keep | apply Sl1.skip)); done) ?_
    obtain ⟨r, hr, hfr⟩ := find_magic h.form
    refine KX_p ?_ rfl (by decide +kernel) (.none rfl) rfl (hfr ▸ p_lookup_ok rfl rfl rfl (.own (.head _)) hr)
    refine goX ?_
    refine KQ_drop (L1 := [_]) ?_
    exact a_met () trivial (hL := by rw [← hZ, bvs_zero])
  rintro _ -
  by_cases hform : h.form = 1 ∨ h.form = 2 ∨ h.form = 3
  rotate_left
  · rw [decide_eq_false hform]
    refine goQ ?_
    refine goL ?_
    refine KL_s (.none rfl) (s_store (l' := bvs Z) rfl rfl rfl rfl .head (Patch_all' hZ) oneCells_zero) ?_
    refine goL ?_
    refine KQ_ret2 (.inl rfl) rfl (.agg rfl (.own (.head _)) (Cut_zero hZ)) (.tmp rfl) ?_
    simp only [EncR, encode, if_pos (show ¬ (h.form = 1 ∨ h.form = 2 ∨ h.form = 3) ∨ saidB h = true from .inl hform), hZ]
  rw [decide_eq_true hform, if_pos hform]
  refine goQ ?_
  refine goL ?_
  refine a_call (said_any _ (hg.plus _) b1 23 (0, 0) h (.inr (.tail _ (.head _)))) ?_
  rintro v L' ⟨rfl, rfl⟩
  by_cases hsd : saidB h = true
  · rw [hsd]
    refine goL ?_
    refine KL_s (.none rfl) (s_store (l' := bvs Z) rfl rfl rfl rfl .head (Patch_all' hZ) oneCells_zero) ?_
    refine goL ?_
    refine KQ_ret2 (.inl rfl) rfl (.agg rfl (.own (.head _)) (Cut_zero hZ)) (.tmp rfl) ?_
    simp only [EncR, encode, if_pos (show ¬ (h.form = 1 ∨ h.form = 2 ∨ h.form = 3) ∨ saidB h = true from .inr hsd), hZ]
  rw [Bool.not_eq_true] at hsd
  rw [hsd]
  have htyp := h.typ.toNat_lt
  by_cases hty : (h.typ.toNat : Int) = 0
  · refine goL ?_
    refine KL_s (.none rfl) (s_store (l' := bvs Z) rfl rfl rfl rfl .head (Patch_all' hZ) oneCells_zero) ?_
    refine goL ?_
    refine KQ_ret2 (.inl rfl) rfl (.agg rfl (.own (.head _)) (Cut_zero hZ)) (.tmp rfl) ?_
    have ht : h.typ = 0 := UInt8.toNat_inj.1 (by simpa using hty)
    simp only [EncR, encode, hform, hsd, ht, hZ]; rfl
  have ht : ¬ h.typ = 0 := fun e => hty (by rw [e]; rfl)
  have henc : encode h = match textsGo h 5 0 zero512 with
    | none => (zero512, 133)
    | some rs => match numsGo h 7 0 rs with
      | none => (zero512, 133)
      | some rs => (putSum (putAt (putAt rs 156 [h.typ]) 257 (magicOf h.form)), 0) := by
    unfold encode
    rw [if_neg (by simp [hform, hsd]), if_neg ht]
    rfl
  rw [hZ] at henc
  refine goL ?_
  refine a_alloc fun b6 => ?_
  refine goL ?_
  refine a_call (texts_any _ (hg.plus _)) ?_
  rintro v L' ⟨bt, bt1, bt2, bt3, rfl, rfl⟩
  refine goL ?_
  have hz5 : Z.length = 512 := by rw [← hZ, zero512]; exact List.length_replicate
  refine a_loop (α := Nat × List UInt8) (fun (k, rs) => k ≤ 5 ∧ rs.length = 512 ∧ textsGo h (5 - k) k rs = textsGo h 5 0 Z)
    (fun (k, _) => [(38, i64 k), (37, i64 5), (36, .slice (some ⟨bt, 0, none⟩) 5 5), (6, .pointer (some ⟨b6, 0, none⟩)), (1, .pointer (some ⟨b1, 0, none⟩)), (2, .pointer (some ⟨b2, 0, none⟩)), (4, .string ⟨(magicOf h.form).toArray⟩), (3, i64 0)])
    (fun (_, rs) => [(bt, .cells (textCells bt3 bt2 bt1).toArray 49 (0, 0)), (bt1, .cells [i64 2].toArray 3 (0, 0)), (bt2, .cells [i64 2, i64 3].toArray 3 (0, 0)), (bt3, .cells [i64 1, i64 2, i64 3].toArray 3 (0, 0)), (b6, .cells (bvs rs).toArray 24 (0, 0)), (b2, .cells (bvs Z).toArray 24 (0, 0)), (b1, .cells (hdrCells h).toArray 23 (0, 0))])
    (fun (k, _) => 5 - k) (0, Z) ⟨by omega, hz5, rfl⟩ ?_ ?_ ?_
  rotate_left
  · exact ⟨rfl, rfl, rfl, rfl, rfl, rfl, rfl, rfl, trivial⟩
  · rw [← hZ, bvs_zero]; rfl
  rintro ⟨k, rs⟩ ⟨hk, hrs, hgo⟩
  refine goW ?_
  refine KW_if rfl (fun hlt => ?_) (fun hlt => ?_)
  · have hk5 : k < 5 := by omega
    obtain ⟨m, hm⟩ : ∃ m, 5 - k = m + 1 := ⟨4 - k, by omega⟩
    have hm2 : m = 5 - (k + 1) := by omega
    rw [hm, textsGo] at hgo
    refine goW ?_
    refine KL_p (.none rfl) rfl (p_load_agg rfl (.own (.head _)) (t_row bt3 bt2 bt1 k hk5)) ?_
    refine goL ?_
    refine a_alloc fun b8 => ?_
    refine goL ?_
    refine call_text k hk5 ?_
    refine goL ?_
    refine KL_p (.none rfl) rfl (p_load rfl (.own (.tail _ (.tail _ (.tail _ (.tail _ (.tail _ (.tail _ (.tail _ (.head _))))))))) (t_fld k hk5 h)) ?_
    obtain ⟨ht1, ht2, ht3⟩ := t_ok k
    by_cases hsz : (txt h k).1.size > tLen k
    · rw [if_pos hsz] at hgo
      refine goL ?_
      refine KL_s (.none rfl) (s_store (l' := bvs Z) rfl rfl rfl rfl (.tail (.tail (.tail (.tail (.tail (.tail .head)))))) (Patch_all' hZ) oneCells_zero) ?_
      refine goL ?_
      refine KQ_ret2 (.inl rfl) rfl (.agg rfl (.own (.tail _ (.tail _ (.tail _ (.tail _ (.tail _ (.tail _ (.head _)))))))) (Cut_zero hZ)) (.tmp rfl) ?_
      simp only [EncR, henc, ← hgo]
    rw [if_neg hsz] at hgo
    refine goL ?_
    refine a_call (of_any _ b6 (tAt k) (tLen k) (by omega) (by omega) (by omega) (by omega)) ?_
    rintro v L' ⟨rfl, rfl⟩
    rw [show ((tAt k : Int) + tLen k).toNat - (tAt k : Int).toNat = tLen k by omega, Int.toNat_natCast]
    have hsl : (txt h k).1.data.toList.length = (txt h k).1.size := by simp
    have hpat : Patch (bvs rs) (tAt k) ((bvs (txt h k).1.data.toList).take (tLen k)) (bvs (putAt rs (tAt k) (txt h k).1.data.toList)) := by
      rw [List.take_of_length_le (by rw [bvs_length]; omega)]
      exact patch_at rs _ _ (by omega)
    refine goL ?_
    refine KL_m (.none rfl) rfl (m_copy_str (o := tAt k) (dLen := tLen k) rfl rfl (.tail (.tail (.tail (.tail (.tail .head))))) hpat (Thaw.zero _)) fun _ _ => ?_
    refine goL ?_
    refine KQ_drop (L1 := [_]) ?_
    refine a_next (k + 1, putAt rs (tAt k) (txt h k).1.data.toList) ⟨by omega, ?_, ?_⟩ ?_
    · rw [putAt_length (by omega)]; exact hrs
    · rw [← hm2]; exact hgo
    · show 5 - (k + 1) < 5 - k
      omega
  · obtain rfl : k = 5 := by omega
    have hgo2 : textsGo h 5 0 Z = some rs := by rw [← hgo]; rfl
    rw [hgo2] at henc
    clear hgo hk hgo2
    refine goW ?_
    refine a_call (numbers_any _) ?_
    rintro v L' ⟨bn, rfl, rfl⟩
    refine goL ?_
    refine a_loop (α := Nat × List UInt8) (fun (k, rs') => k ≤ 7 ∧ rs'.length = 512 ∧ numsGo h (7 - k) k rs' = numsGo h 7 0 rs)
      (fun (k, _) => [(62, i64 k), (61, i64 7), (60, .slice (some ⟨bn, 0, none⟩) 7 7), (6, .pointer (some ⟨b6, 0, none⟩)), (1, .pointer (some ⟨b1, 0, none⟩)), (2, .pointer (some ⟨b2, 0, none⟩)), (4, .string ⟨(magicOf h.form).toArray⟩), (3, i64 0)])
      (fun (_, rs') => [(bn, .cells numberCells.toArray 57 (0, 0)), (bt, .cells (textCells bt3 bt2 bt1).toArray 49 (0, 0)), (bt1, .cells [i64 2].toArray 3 (0, 0)), (bt2, .cells [i64 2, i64 3].toArray 3 (0, 0)), (bt3, .cells [i64 1, i64 2, i64 3].toArray 3 (0, 0)), (b6, .cells (bvs rs').toArray 24 (0, 0)), (b2, .cells (bvs Z).toArray 24 (0, 0)), (b1, .cells (hdrCells h).toArray 23 (0, 0))])
      (fun (k, _) => 7 - k) (0, rs) ⟨by omega, hrs, rfl⟩ ?_
    rintro ⟨k, rs'⟩ ⟨hk, hrs', hgo⟩
    refine goW ?_
    refine KW_if rfl (fun hlt => ?_) (fun hlt => ?_)
    · have hk7 : k < 7 := by omega
      obtain ⟨m, hm⟩ : ∃ m, 7 - k = m + 1 := ⟨6 - k, by omega⟩
      have hm2 : m = 7 - (k + 1) := by omega
      rw [hm, numsGo] at hgo
      refine goW ?_
      refine KL_p (.none rfl) rfl (p_load_agg rfl (.own (.head _)) (n_row k hk7 h)) ?_
      refine goL ?_
      refine a_alloc fun b9 => ?_
      by_cases hfm : h.form < (num h k).2
      · rw [if_pos hfm] at hgo
        refine goL ?_
        refine KQ_drop (L1 := [_]) ?_
        refine a_next (k + 1, rs') ⟨by omega, hrs', ?_⟩ ?_
        · rw [← hm2]; exact hgo
        · show 7 - (k + 1) < 7 - k
          omega
      rw [if_neg hfm] at hgo
      refine goL ?_
      refine call_num k hk7 ?_
      refine goL ?_
      refine KL_p (.none rfl) rfl (p_load rfl (.own (.tail _ (.tail _ (.tail _ (.tail _ (.tail _ (.tail _ (.tail _ (.tail _ (.head _)))))))))) (n_fld k hk7 h)) ?_
      refine goL ?_
      refine a_join (α := Unit) (fun _ => True) (fun _ => [(13, fnv (if h.form = 3 then 23 else 22)), (12, i64 (num h k).1), (11, .pointer (some ⟨b9, 0, none⟩)), (62, i64 k), (61, i64 7), (60, .slice (some ⟨bn, 0, none⟩) 7 7), (6, .pointer (some ⟨b6, 0, none⟩)), (1, .pointer (some ⟨b1, 0, none⟩)), (2, .pointer (some ⟨b2, 0, none⟩)), (4, .string ⟨(magicOf h.form).toArray⟩), (3, i64 0)])
        (fun _ => [(b9, .cells [i64 (nAt k), i64 (nLen k), fnv (46 + k), i64 (num h k).2].toArray 57 (0, 0)), (bn, .cells numberCells.toArray 57 (0, 0)), (bt, .cells (textCells bt3 bt2 bt1).toArray 49 (0, 0)), (bt1, .cells [i64 2].toArray 3 (0, 0)), (bt2, .cells [i64 2, i64 3].toArray 3 (0, 0)), (bt3, .cells [i64 1, i64 2, i64 3].toArray 3 (0, 0)), (b6, .cells (bvs rs').toArray 24 (0, 0)), (b2, .cells (bvs Z).toArray 24 (0, 0)), (b1, .cells (hdrCells h).toArray 23 (0, 0))]) ?_ ?_
      · refine KW_if rfl (fun h3 => ?_) (fun h3 => ?_)
        · rw [if_pos h3]
          refine goW ?_
          exact a_met () trivial
        · rw [if_neg h3]
          refine goW ?_
          exact a_met () trivial
      rintro _ -
      obtain ⟨hn1, hn2, hn3, hn4⟩ := n_ok k
      refine goQ ?_
      refine goL ?_
      refine call_put h.form (num h k).1 (nLen k) hg10 (hf.num k) (by omega) (by omega) ?_
      intro v L' hv
      unfold FieldR at hv
      cases hfo : formField h.form (num h k).1 (nLen k) with
      | none =>
        rw [hfo] at hv hgo
        obtain ⟨rfl, rfl⟩ := hv
        refine goL ?_
        refine KL_s (.none rfl) (s_store (l' := bvs Z) rfl rfl rfl rfl (.tail (.tail (.tail (.tail (.tail (.tail (.tail .head))))))) (Patch_all' hZ) oneCells_zero) ?_
        refine goL ?_
        refine KQ_ret2 (.inl rfl) rfl (.agg rfl (.own (.tail _ (.tail _ (.tail _ (.tail _ (.tail _ (.tail _ (.tail _ (.head _))))))))) (Cut_zero hZ)) (.tmp rfl) ?_
        simp only [EncR, henc, ← hgo]
      | some bs =>
        rw [hfo] at hv hgo
        obtain ⟨s, ⟨sv, hok, rfl, rfl⟩, rfl⟩ := hv
        have hbl := formField_length hfo (by omega)
        by_cases hneg : (num h k).1 < 0 ∧ nAt k ≠ 136
        · obtain ⟨hneg1, hneg2⟩ := hneg
          simp only [hneg1, hneg2, ne_eq, not_false_iff, and_self, if_true] at hgo
          have hneg3 : ¬ (nAt k : Int) = 136 := by omega
          refine goL ?_
          refine KL_s (.none rfl) (s_store (l' := bvs Z) rfl rfl rfl rfl (.tail (.tail (.tail (.tail (.tail (.tail (.tail (.tail .head)))))))) (Patch_all' hZ) oneCells_zero) ?_
          refine goL ?_
          refine KQ_ret2 (.inl rfl) rfl (.agg rfl (.own (.tail _ (.tail _ (.tail _ (.tail _ (.tail _ (.tail _ (.tail _ (.tail _ (.head _)))))))))) (Cut_zero hZ)) (.tmp rfl) ?_
          simp only [EncR, henc, ← hgo]
        · simp only [if_neg hneg] at hgo
          have hlen2 : ((nAt k : Int) + nLen k).toNat - (nAt k : Int).toNat = nLen k := by omega
          have hcutb : Cut (bvs bs ++ sv.rest) 0 (bs.length * 1) (bvs bs) := by rw [Nat.mul_one]; exact Cut_pre _ _
          have hpat : Patch (bvs rs') (nAt k) ((bvs bs).take (nLen k)) (bvs (putAt rs' (nAt k) bs)) := by
            rw [List.take_of_length_le (by rw [bvs_length]; omega)]
            exact patch_at rs' _ _ (by omega)
          by_cases hn0 : (num h k).1 < 0
          · have hn1 : (nAt k : Int) = 136 := by
              have : ¬ nAt k ≠ 136 := fun e => hneg ⟨hn0, e⟩
              omega
            refine goL ?_
            refine a_call (of_any _ b6 (nAt k) (nLen k) (by omega) (by omega) (by omega) (by omega)) ?_
            rintro v L' ⟨rfl, rfl⟩
            rw [hlen2, Int.toNat_natCast]
            refine goL ?_
            refine KL_m (.none rfl) rfl (m_copy (m := bs.length) (news := bvs bs) (o := nAt k) (dLen := nLen k) rfl rfl (Src.cut (.own (.head _)) hcutb (oneCells_bvs _)) (.tail (.tail (.tail (.tail (.tail (.tail (.tail .head))))))) hpat (Thaw.zero _)) fun _ _ => ?_
            refine goL ?_
            refine KQ_drop (L1 := [_, _]) ?_
            refine a_next (k + 1, putAt rs' (nAt k) bs) ⟨by omega, ?_, ?_⟩ ?_
            · rw [putAt_length (by omega)]; exact hrs'
            · rw [← hm2]; exact hgo
            · show 7 - (k + 1) < 7 - k
              omega
          · refine goL ?_
            refine a_call (of_any _ b6 (nAt k) (nLen k) (by omega) (by omega) (by omega) (by omega)) ?_
            rintro v L' ⟨rfl, rfl⟩
            rw [hlen2, Int.toNat_natCast]
            refine goL ?_
            refine KL_m (.none rfl) rfl (m_copy (m := bs.length) (news := bvs bs) (o := nAt k) (dLen := nLen k) rfl rfl (Src.cut (.own (.head _)) hcutb (oneCells_bvs _)) (.tail (.tail (.tail (.tail (.tail (.tail (.tail .head))))))) hpat (Thaw.zero _)) fun _ _ => ?_
            refine goL ?_
            refine KQ_drop (L1 := [_, _]) ?_
            refine a_next (k + 1, putAt rs' (nAt k) bs) ⟨by omega, ?_, ?_⟩ ?_
            · rw [putAt_length (by omega)]; exact hrs'
            · rw [← hm2]; exact hgo
            · show 7 - (k + 1) < 7 - k
              omega
    · obtain rfl : k = 7 := by omega
      have hgo2 : numsGo h 7 0 rs = some rs' := by rw [← hgo]; rfl
      dsimp only at henc
      rw [hgo2] at henc
      dsimp only at henc
      clear hgo hk hgo2
      refine goW ?_
      obtain ⟨tt, tr, htt⟩ := hg.typ
      obtain ⟨mt, mr, hmt⟩ := hg.magic
      refine goL ?_
      refine KL_s (.none rfl) (s_store (cs := bvs [h.typ]) (l' := bvs (putAt rs' 156 [h.typ])) rfl rfl rfl rfl (.tail (.tail (.tail (.tail (.tail .head))))) (patch_at rs' [h.typ] 156 (by simp; omega)) (oneCells_bvs _)) ?_
      refine goL ?_
      refine a_call (of_any _ b6 257 8 (by omega) (by omega) (by omega) (by omega)) ?_
      rintro v L' ⟨rfl, rfl⟩
      refine goL ?_
      have hmag : (magicOf h.form).length = 8 := by
        unfold magicOf
        split
        · rfl
        · split <;> rfl
      have hl1 : (putAt rs' 156 [h.typ]).length = 512 := by rw [putAt_length (by simp; omega)]; exact hrs'
      have hl2 : (putAt (putAt rs' 156 [h.typ]) 257 (magicOf h.form)).length = 512 := by rw [putAt_length (by omega)]; exact hl1
      have hpat : Patch (bvs (putAt rs' 156 [h.typ])) 257 ((bvs (magicOf h.form)).take 8) (bvs (putAt (putAt rs' 156 [h.typ]) 257 (magicOf h.form))) := by
        rw [List.take_of_length_le (by rw [bvs_length]; omega)]
        exact patch_at _ _ _ (by omega)
      refine KL_m (.none rfl) rfl (m_copy_str (o := 257) (dLen := 8) rfl rfl (.tail (.tail (.tail (.tail (.tail .head))))) hpat (Thaw.zero _)) fun _ _ => ?_
      refine goL ?_
      refine KL_p (.none rfl) rfl (p_load_agg rfl (.own (.tail _ (.tail _ (.tail _ (.tail _ (.tail _ (.head _))))))) (hl2 ▸ Cut_all _)) ?_
      refine a_call (putSum_any _ (hg10.plus _) _ hl2) ?_
      rintro v L' ⟨rfl, rfl⟩
      have hl3 := putSum_length hl2
      refine KL_s (.none rfl) (s_store (l' := bvs (putSum _)) rfl rfl rfl (by rw [bvs_length]; exact hl3) (.tail (.tail (.tail (.tail (.tail (.tail .head)))))) (Patch_all (by rw [bvs_length, bvs_length, hz5, hl3])) (oneCells_bvs _)) ?_
      refine goL ?_
      have hc3 := Cut_all (putSum (putAt (putAt rs' 156 [h.typ]) 257 (magicOf h.form)))
      rw [hl3] at hc3
      refine KQ_ret2 (.inl rfl) rfl (.agg rfl (.own (.tail _ (.tail _ (.tail _ (.tail _ (.tail _ (.tail _ (.head _)))))))) hc3) (.tmp rfl) ?_
      simp only [EncR, henc]
end Go.Proofs.YtjeaofabpfgngaaDoor
