/-
  What was written is read: the header itself.
  No condition.
-/
import Derived.Test.YtjeaofabpfgngaaDoorA36
namespace Go.Proofs.YtjeaofabpfgngaaDoor
open Go.KE

theorem sub_same {a b : List UInt8} {p n : Nat} (h : ∀ i, p ≤ i → i < p + n → a[i]? = b[i]?) : sub a p n = sub b p n := by
  refine List.ext_getElem? fun i => ?_
  rw [sub_get, sub_get]
  by_cases hi : i < n
  · rw [if_pos hi, if_pos hi, h _ (by omega) (by omega)]
  · rw [if_neg hi, if_neg hi]
theorem sumsGo_same : ∀ (a b : List UInt8) (i : Nat) (u s : Int), a.length = b.length → (∀ j, i + j < 148 ∨ 156 ≤ i + j → a[j]? = b[j]?) → sumsGo i a u s = sumsGo i b u s
  | [], [], _, _, _, _, _ => rfl
  | [], _ :: _, _, _, _, h, _ => by cases h
  | _ :: _, [], _, _, _, h, _ => by cases h
  | c :: r, d :: q, i, u, s, h, hj => by
    have hb : sumB i c = sumB i d := by
      unfold sumB
      by_cases hi : 148 ≤ i ∧ i < 156
      · rw [if_pos hi, if_pos hi]
      · rw [if_neg hi, if_neg hi]
        have := hj 0 (by omega)
        rw [List.getElem?_cons_zero, List.getElem?_cons_zero] at this
        rw [Option.some.inj this]
    rw [sumsGo, sumsGo, hb]
    refine sumsGo_same r q (i + 1) _ _ (Nat.succ.inj h) fun j hh => ?_
    have := hj (j + 1) (by omega)
    rwa [List.getElem?_cons_succ, List.getElem?_cons_succ] at this
theorem sums_putSum {rs : List UInt8} (hl : rs.length = 512) : sums (putSum rs) = sums rs :=
  sumsGo_same _ _ 0 0 0 (by rw [putSum_length hl, hl]) fun j hj => putSum_get hl (by omega)
theorem octal_sum {n : Int} {w : Nat} {bs : List UInt8} (h : octField n w = some bs) : octal (bs ++ [32]) = (n, 0) := by
  unfold octField at h
  split at h
  · cases h
  rename_i hc
  have hn : 0 ≤ n := by omega
  have e2 : (octI n).data.toList = oct n.natAbs := by rw [octI, if_neg (by omega)]; simp
  rw [e2] at h
  obtain rfl := Option.some.inj h
  have hd : ∀ c ∈ zeros (w - 1 - (octI n).size) ++ oct n.natAbs, isD c = true := fun c hc => by
    rcases List.mem_append.1 hc with hc | hc
    · exact zeros_digits _ c hc
    · exact oct_digits _ c hc
  have hne : zeros (w - 1 - (octI n).size) ++ oct n.natAbs ≠ [] := by
    intro e
    have e3 := (List.append_eq_nil_iff.1 e).2
    by_cases h8 : n.natAbs < 8
    · rw [oct_lt h8] at e3; cases e3
    · rw [oct_ge h8] at e3; simp at e3
  rw [List.append_assoc, octal_digits _ ([0] ++ [32]) hd hne (fun c hc => by obtain rfl : (0 : UInt8) = c := by simpa using hc
                                                                             rfl)
    (fun c hc => by
      rcases List.mem_append.1 hc with hc | hc
      · obtain rfl := List.mem_singleton.1 hc; rfl
      · obtain rfl := List.mem_singleton.1 hc; rfl), octN_zeros, octN_oct]
  congr 1
  omega
theorem sum_field {rs : List UInt8} (hl : rs.length = 512) : octal (sub (putSum rs) 148 8) = ((sums rs).1, 0) := by
  obtain ⟨hs0, hs1⟩ := sums_le rs hl
  obtain ⟨bs, hbs, hbl⟩ := octField_small _ hs0 hs1
  have e : putSum rs = putAt rs 148 (bs ++ [32]) := by rw [putSum, hbs]; rfl
  have hbl8 : (bs ++ [32]).length = 8 := by simp [hbl]
  have := sub_put_same (rs := rs) (bs := bs ++ [32]) (o := 148) (by omega)
  rw [hbl8] at this
  rw [e, this]
  exact octal_sum hbs
theorem check_putSum {rs : List UInt8} (hl : rs.length = 512) : checkB (putSum rs) = true := by
  unfold checkB
  rw [sum_field hl, sums_putSum hl]
  simp
theorem formOf_magic {f : Int} (hf : f = 1 ∨ f = 2 ∨ f = 3) : formOf (magicOf f) = f := by
  rcases hf with rfl | rfl | rfl
  · exact (formOf_is _ 0 (by omega)).1 rfl
  · exact (formOf_is _ 1 (by omega)).1 rfl
  · exact (formOf_is _ 2 (by omega)).1 rfl

/-! ### the record that Encode wrote -/
theorem rec_sub {h : Hdr} {rs rs2 : List UInt8} (k : EncOk h rs rs2) {p n : Nat} (h1 : p + n ≤ 148 ∨ 157 ≤ p) (h2 : p + n ≤ 257 ∨ 265 ≤ p) : sub (putSum (bare h rs2)) p n = sub rs2 p n := by
  have hl := k.length
  refine sub_same fun i hi1 hi2 => ?_
  rw [putSum_get (bare_length hl) (by omega)]
  have h3 : (putAt rs2 156 [h.typ]).length = 512 := by rw [putAt_length (by simp; omega)]; exact hl
  have h4 := magic_length h.form
  rw [bare, putAt_get (by omega), if_neg (by omega), putAt_get (by simp; omega), if_neg (by simp; omega)]
theorem rec_magic {h : Hdr} {rs rs2 : List UInt8} (k : EncOk h rs rs2) : sub (putSum (bare h rs2)) 257 8 = magicOf h.form := by
  have hl := k.length
  have h3 : (putAt rs2 156 [h.typ]).length = 512 := by rw [putAt_length (by simp; omega)]; exact hl
  have h4 := magic_length h.form
  have e : sub (putSum (bare h rs2)) 257 8 = sub (bare h rs2) 257 8 := sub_same fun i hi1 hi2 => putSum_get (bare_length hl) (by omega)
  rw [e, bare]
  have := sub_put_same (rs := putAt rs2 156 [h.typ]) (bs := magicOf h.form) (o := 257) (by omega)
  rwa [h4] at this
theorem n_out (k : Nat) (hk : k < 7) : (nAt k + nLen k ≤ 148 ∨ 157 ≤ nAt k) ∧ (nAt k + nLen k ≤ 257 ∨ 265 ≤ nAt k) := by
  obtain rfl | rfl | rfl | rfl | rfl | rfl | rfl : k = 0 ∨ k = 1 ∨ k = 2 ∨ k = 3 ∨ k = 4 ∨ k = 5 ∨ k = 6 := by omega
  all_goals (simp only [nAt, nLen]; omega)
theorem t_out (k : Nat) (hk : k < 5) : (tAt k + tLen k ≤ 148 ∨ 157 ≤ tAt k) ∧ (tAt k + tLen k ≤ 257 ∨ 265 ≤ tAt k) := by
  obtain rfl | rfl | rfl | rfl | rfl : k = 0 ∨ k = 1 ∨ k = 2 ∨ k = 3 ∨ k = 4 := by omega
  all_goals (simp only [tAt, tLen]; omega)
theorem t_n_disj (j k : Nat) (hj : j < 5) (hk : k < 7) : tAt j + tLen j ≤ nAt k ∨ nAt k + nLen k ≤ tAt j := by
  obtain rfl | rfl | rfl | rfl | rfl : j = 0 ∨ j = 1 ∨ j = 2 ∨ j = 3 ∨ j = 4 := by omega
  all_goals
    obtain rfl | rfl | rfl | rfl | rfl | rfl | rfl : k = 0 ∨ k = 1 ∨ k = 2 ∨ k = 3 ∨ k = 4 ∨ k = 5 ∨ k = 6 := by omega
    all_goals (simp only [tAt, tLen, nAt, nLen]; omega)
theorem rec_num {h : Hdr} {rs rs2 : List UInt8} (k : EncOk h rs rs2) (j : Nat) (hj : j < 7) (hs : ¬ h.form < since j) : numOf (putSum (bare h rs2)) j = ((num h j).1, 0) ∧ numErr (putSum (bare h rs2)) j = 0 := by
  obtain ⟨h1, h2⟩ := n_out j hj
  have hl0 := textsGo_length h _ _ _ _ zero_length k.texts
  obtain ⟨h3, h4⟩ := (numsGo_sub h 7 0 rs rs2 k.nums rfl hl0).1 j (Nat.zero_le _) hj (by rw [num_since2 h j hj]; exact hs)
  have hw := (n_ok j)
  have e : numOf (putSum (bare h rs2)) j = ((num h j).1, 0) := by
    unfold numOf
    rw [rec_sub k h1 h2]
    exact number_field h3 (by omega)
  refine ⟨e, ?_⟩
  unfold numErr
  rw [e, if_neg (fun hh => h4 hh.2)]
theorem rec_txt {h : Hdr} {rs rs2 : List UInt8} (k : EncOk h rs rs2) (j : Nat) (hj : j < 5) : textOf (sub (putSum (bare h rs2)) (tAt j) (tLen j)) = (txt h j).1 := by
  obtain ⟨h1, h2⟩ := t_out j hj
  have hl0 := textsGo_length h _ _ _ _ zero_length k.texts
  rw [rec_sub k h1 h2, (numsGo_sub h 7 0 rs rs2 k.nums rfl hl0).2 _ _ (fun i _ hi => t_n_disj j i hj hi),
    (textsGo_sub h 5 0 zero512 rs k.texts rfl zero_length blank_zero).1 j (Nat.zero_le _) hj]
  exact textOf_pad _ _ (noZ k.form k.said j)
theorem num_lacks {h : Hdr} (hs : saidB h = false) (j : Nat) (hj : j < 7) (hf : h.form < since j) : (num h j).1 = 0 := by
  refine Classical.byContradiction fun hne => ?_
  have : badNum h.form (num h j) = true := by
    unfold badNum
    rw [num_since2 h j hj]
    simp [hf, hne]
  rw [said_num j hj this] at hs
  cases hs
theorem txt_lacks {h : Hdr} (hs : saidB h = false) (j : Nat) (hj : j < 5) (hf : (txt h j).2.contains h.form = false) : (txt h j).1 = ⟨#[]⟩ := by
  refine Classical.byContradiction fun hne => ?_
  have : badTxt h.form (txt h j) = true := by
    unfold badTxt
    rw [hf]
    simp [hne]
  rw [said_txt j hj this] at hs
  cases hs
theorem dec_num {h : Hdr} {rs rs2 : List UInt8} (k : EncOk h rs rs2) (m j : Nat) (hj : j < 7) (g : Hdr) (hg : g.form = h.form) (hz : setNum g j 0 = g) :
    decNums (putSum (bare h rs2)) (m + 1) j g = decNums (putSum (bare h rs2)) m (j + 1) (setNum g j (num h j).1) := by
  rw [decNums, hg]
  by_cases hs : h.form < since j
  · rw [if_pos hs, num_lacks k.said j hj hs, hz]
  · obtain ⟨h1, h2⟩ := rec_num k j hj hs
    rw [if_neg hs, h2, if_neg (by simp), h1]
theorem dec_txt {h : Hdr} {rs rs2 : List UInt8} (k : EncOk h rs rs2) (m j : Nat) (hj : j < 5) (g : Hdr) (hg : g.form = h.form) (hz : setTxt g j ⟨#[]⟩ = g) :
    decTxts (putSum (bare h rs2)) (m + 1) j g = decTxts (putSum (bare h rs2)) m (j + 1) (setTxt g j (txt h j).1) := by
  rw [decTxts, hg, txt_forms g h j, rec_txt k j hj]
  by_cases hs : (txt h j).2.contains h.form = true
  · rw [if_pos hs]
  · rw [if_neg hs, txt_lacks k.said j hj (by simpa using hs), hz]
theorem typOf_ne {c : UInt8} (h : c ≠ 0) : typOf c = c := by
  unfold typOf
  rw [if_neg]
  intro e
  exact h (UInt8.toNat_inj.1 e)
/-- Decode undoes Encode. -/
theorem decode_encode {h : Hdr} (he : (encode h).2 = 0) : decode (encode h).1 = (h, 0, 0) := by
  obtain ⟨rs, rs2, k⟩ : ∃ rs rs2, EncOk h rs rs2 := by
    rcases encode_cases h with k | ⟨_, k⟩
    · exact k
    · exact absurd he k
  have ht := enc_typ he
  rw [k.enc] at ht ⊢
  dsimp only at ht ⊢
  have hl := bare_length (h := h) k.length
  have dn := fun m j hj g => dec_num k m j hj g
  have dx := fun m j hj g => dec_txt k m j hj g
  have hck := check_putSum hl
  have hmg := rec_magic k
  generalize putSum (bare h rs2) = R at *
  have hn : decNums R 7 0 (setForm noHdr h.form) = (⟨h.form, ⟨#[]⟩, ⟨#[]⟩, h.mode, h.uid, h.gid, h.size, h.time, 0, ⟨#[]⟩, ⟨#[]⟩, ⟨#[]⟩, h.major, h.minor⟩, 0, 0) := by
    refine (dn 6 0 (by omega) _ (by rfl) (by rfl)).trans ?_
    refine (dn 5 1 (by omega) _ (by rfl) (by rfl)).trans ?_
    refine (dn 4 2 (by omega) _ (by rfl) (by rfl)).trans ?_
    refine (dn 3 3 (by omega) _ (by rfl) (by rfl)).trans ?_
    refine (dn 2 4 (by omega) _ (by rfl) (by rfl)).trans ?_
    refine (dn 1 5 (by omega) _ (by rfl) (by rfl)).trans ?_
    refine (dn 0 6 (by omega) _ (by rfl) (by rfl)).trans ?_
    rfl
  have hx : decTxts R 5 0 ⟨h.form, ⟨#[]⟩, ⟨#[]⟩, h.mode, h.uid, h.gid, h.size, h.time, 0, ⟨#[]⟩, ⟨#[]⟩, ⟨#[]⟩, h.major, h.minor⟩ = ⟨h.form, h.name, h.pre, h.mode, h.uid, h.gid, h.size, h.time, 0, h.link, h.user, h.group, h.major, h.minor⟩ := by
    refine (dx 4 0 (by omega) _ (by rfl) (by rfl)).trans ?_
    refine (dx 3 1 (by omega) _ (by rfl) (by rfl)).trans ?_
    refine (dx 2 2 (by omega) _ (by rfl) (by rfl)).trans ?_
    refine (dx 1 3 (by omega) _ (by rfl) (by rfl)).trans ?_
    refine (dx 0 4 (by omega) _ (by rfl) (by rfl)).trans ?_
    rfl
  have hf0 : h.form ≠ 0 := by have := k.form; omega
  unfold decode
  rw [hck, if_neg (by simp), hmg, formOf_magic k.form, if_neg hf0, hn, if_neg (by simp), ht, Option.getD_some, typOf_ne k.typ]
  dsimp only
  rw [hx]
  rfl
end Go.Proofs.YtjeaofabpfgngaaDoor
