/-
  A record of which one byte is another one: plain Lean, and the law's own two sums walked.
  No condition.
-/
import Derived.Test.YtjeaofabpfgngaaDoorA37
namespace Go.Proofs.YtjeaofabpfgngaaDoor
open Go.KE

/-! ### the sums of a record with another byte -/
theorem sumsGo_fst : ∀ (r : List UInt8) (i : Nat) (u s : Int), (sumsGo i r u s).1 = u + (sumsGo i r 0 0).1
  | [], _, u, s => by simp [sumsGo]
  | c :: r, i, u, s => by
    rw [sumsGo, sumsGo, sumsGo_fst r (i + 1) (u + sumB i c), sumsGo_fst r (i + 1) (0 + sumB i c)]
    omega
theorem sumsGo_put : ∀ (r : List UInt8) (i j : Nat) (u s : Int) (c d : UInt8), r[j]? = some c → ¬ (148 ≤ i + j ∧ i + j < 156) → (sumsGo i (putAt r j [d]) u s).1 = (sumsGo i r u s).1 - c.toNat + d.toNat
  | [], _, _, _, _, _, _, h, _ => by simp at h
  | x :: r, i, 0, u, s, c, d, h, hj => by
    obtain rfl : x = c := by simpa using h
    have e : putAt (x :: r) 0 [d] = d :: r := rfl
    rw [e, sumsGo, sumsGo, sumsGo_fst r (i + 1) (u + sumB i d), sumsGo_fst r (i + 1) (u + sumB i x), sumB, sumB, if_neg (by omega), if_neg (by omega)]
    omega
  | x :: r, i, j + 1, u, s, c, d, h, hj => by
    have e : putAt (x :: r) (j + 1) [d] = x :: putAt r j [d] := by simp [putAt]
    rw [e, sumsGo, sumsGo]
    exact sumsGo_put r (i + 1) j _ _ c d (by simpa using h) (by omega)

/-! ### the number that the sum's field says -/
def saidGo : List UInt8 → Int → Int
  | [], n => n
  | c :: r, n => saidGo r (n * 8 + c.toNat - 48)
def saidF (rs : List UInt8) : Int := saidGo (sub rs 148 6) 0
theorem saidGo_oct : ∀ (l : List UInt8) (n : Nat), (∀ c ∈ l, isD c = true) → saidGo l n = (l.foldl (fun n c => n * 8 + (c.toNat - 48)) n : Nat)
  | [], _, _ => rfl
  | c :: r, n, h => by
    have hc := h c (by simp)
    simp only [isD, decide_eq_true_eq] at hc
    rw [saidGo, List.foldl_cons, ← saidGo_oct r _ (fun x hx => h x (by simp [hx]))]
    congr 1
    omega
theorem said_putSum {rs : List UInt8} (hl : rs.length = 512) : saidF (putSum rs) = (sums rs).1 := by
  obtain ⟨hs0, hs1⟩ := sums_le rs hl
  obtain ⟨bs, hbs, hbl⟩ := octField_small _ hs0 hs1
  have e : putSum rs = putAt rs 148 (bs ++ [32]) := by rw [putSum, hbs]; rfl
  have hbl8 : (bs ++ [32]).length = 8 := by simp [hbl]
  have h8 := sub_put_same (rs := rs) (bs := bs ++ [32]) (o := 148) (by omega)
  rw [hbl8] at h8
  unfold octField at hbs
  split at hbs
  · cases hbs
  rename_i hc
  have e2 : (octI (sums rs).1).data.toList = oct (sums rs).1.natAbs := by rw [octI, if_neg (by omega)]; simp
  rw [e2] at hbs
  obtain rfl := Option.some.inj hbs
  have hd : ∀ c ∈ zeros (7 - 1 - (octI (sums rs).1).size) ++ oct (sums rs).1.natAbs, isD c = true := fun c hc => by
    rcases List.mem_append.1 hc with hc | hc
    · exact zeros_digits _ c hc
    · exact oct_digits _ c hc
  have hdl : (zeros (7 - 1 - (octI (sums rs).1).size) ++ oct (sums rs).1.natAbs).length = 6 := by
    rw [List.length_append, List.length_cons, List.length_nil] at hbl
    omega
  have ho : octN (zeros (7 - 1 - (octI (sums rs).1).size) ++ oct (sums rs).1.natAbs) = (sums rs).1.natAbs := by rw [octN_zeros, octN_oct]
  generalize zeros (7 - 1 - (octI (sums rs).1).size) ++ oct (sums rs).1.natAbs = ds at *
  have h6 : sub (putSum rs) 148 6 = ds := by
    have : sub (putSum rs) 148 6 = (sub (putSum rs) 148 8).take 6 := by
      unfold sub
      rw [List.take_take]
      rfl
    rw [this, e, h8, List.append_assoc, ← hdl, List.take_left]
  unfold saidF
  rw [h6]
  have := saidGo_oct ds 0 hd
  rw [show ((0 : Nat) : Int) = 0 from rfl] at this
  rw [this]
  show ((octN ds : Nat) : Int) = _
  rw [ho]
  omega

/-- What the law asks of a record with another byte. -/
theorem byte_law {h : Hdr} (he : (encode h).2 = 0) {i : Nat} {c d : UInt8} (hi : i < 148 ∨ 156 ≤ i) (hc : (encode h).1[i]? = some c) (hd : d ≠ c) :
    (decode (putAt (encode h).1 i [d])).2.2 = 131 ∨ (sums (putAt (encode h).1 i [d])).2 = saidF (putAt (encode h).1 i [d]) := by
  have hen := encode_length h
  obtain ⟨rs, rs2, k⟩ : ∃ rs rs2, EncOk h rs rs2 := by
    rcases encode_cases h with k | ⟨_, k⟩
    · exact k
    · exact absurd he k
  have hl := bare_length (h := h) k.length
  have e1 := sum_field hl
  have e2 := sums_putSum hl
  have e3 := said_putSum hl
  rw [k.enc] at hc hen ⊢
  dsimp only at hc hen ⊢
  rw [← e2] at e1 e3
  generalize putSum (bare h rs2) = R at *
  have hi5 : i < R.length := (List.getElem?_eq_some_iff.1 hc).1
  have hs := sumsGo_put R 0 i 0 0 c d hc (by omega)
  have h8 : sub (putAt R i [d]) 148 8 = sub R 148 8 := sub_put_other (by simp; omega) (by simp; omega)
  have h6 : sub (putAt R i [d]) 148 6 = sub R 148 6 := sub_put_other (by simp; omega) (by simp; omega)
  have hne : (sums (putAt R i [d])).1 ≠ (sums R).1 := by
    intro e
    unfold sums at e
    rw [hs] at e
    exact hd (UInt8.toNat_inj.1 (by omega))
  have hsaid : saidF (putAt R i [d]) = (sums R).1 := by
    unfold saidF at e3 ⊢
    rw [h6, e3]
  rw [hsaid]
  by_cases hck : checkB (putAt R i [d]) = true
  · refine .inr ?_
    unfold checkB at hck
    rw [h8, e1] at hck
    simp only [decide_true, Bool.true_and, Bool.or_eq_true, decide_eq_true_eq] at hck
    rcases hck with hck | hck
    · exact absurd hck.symm hne
    · exact hck.symm
  · refine .inl ?_
    unfold decode
    rw [if_pos (by simpa using hck)]
theorem decode_zero : decode zero512 = (noHdr, 148, 131) := by
  have : checkB zero512 = false := by decide +kernel
  unfold decode
  rw [if_pos this]

/-! ### the law's own sums -/
theorem wrap8_low {x : Nat} (h : x < 128) : IntKind.i8.wrap (x : Int) = x := by
  simp only [IntKind.wrap, IntKind.bits, IntKind.signed]
  simp
  omega
theorem wrap8_high {x : Nat} (h0 : 128 ≤ x) (h1 : x < 256) : IntKind.i8.wrap (x : Int) = (x : Int) - 256 := by
  simp only [IntKind.wrap, IntKind.bits, IntKind.signed]
  simp
  omega
def bnd : Nat → Int
  | 0 => 0
  | j + 1 => 8 * bnd j + 207
theorem bnd_le (j : Nat) (hj : j ≤ 6) : 0 ≤ bnd j ∧ bnd j ≤ 10000000 := by
  obtain rfl | rfl | rfl | rfl | rfl | rfl | rfl : j = 0 ∨ j = 1 ∨ j = 2 ∨ j = 3 ∨ j = 4 ∨ j = 5 ∨ j = 6 := by omega
  all_goals decide

set_option maxRecDepth 10000 in
set_option maxHeartbeats 1000000 in
theorem signed_any (F : Fr) (rs : List UInt8) (hl : rs.length = 512) :
    Does Tryd.prog 15 [.agg (bvs rs).toArray] F [] (fun v L' => L' = [] ∧ v = i64 (sums rs).2) := by
  refine Does_clear (p := fun v => v = _) ?_
  refine Does_of (n := 35) Tryd.func15 rfl rfl (by simp) ?_
  refine goW ?_
  refine a_box fun b => ?_
  refine goL ?_
  refine a_loop (α := Nat × Int × Int) (fun (i, u, s) => i ≤ 512 ∧ sumsGo i (rs.drop i) u s = sums rs ∧ -128 * i ≤ s ∧ s ≤ 127 * i)
    (fun (i, _, s) => [(4, i64 i), (3, i64 s), (1, .pointer (some ⟨b, 0, none⟩))])
    (fun _ => [(b, .cells (bvs rs).toArray 24 (0, 0))]) (fun (i, _, _) => 512 - i) (0, 0, 0) ⟨by omega, rfl, by simp, by simp⟩ ?_
  rintro ⟨i, u, s⟩ ⟨hi, hv, hs0, hs1⟩
  refine goW ?_
  refine KW_if rfl (fun h => ?_) (fun h => ?_)
  · have hi' : i < rs.length := by omega
    have hci : (bvs rs)[i]? = some (bv rs[i]) := bvs_at (List.getElem?_eq_getElem hi')
    have hdr : rs.drop i = rs[i] :: rs.drop (i + 1) := List.drop_eq_getElem_cons hi'
    rw [hdr] at hv
    simp only [sumsGo] at hv
    generalize rs[i] = x at *
    have hx255 := x.toNat_lt
    have hcase : (148 ≤ i ∧ i < 156) ∨ (¬ (148 ≤ i ∧ i < 156)) := by omega
    rcases hcase with hcase | hcase
    · have e : sumB i x = 32 := by rw [sumB, if_pos hcase]
      rw [e, show IntKind.i8.wrap 32 = 32 by decide] at hv
      obtain ⟨hc1, hc2⟩ := hcase
      refine goW ?_
      refine a_next (i + 1, u + 32, s + 32) ⟨by omega, hv, by omega, by omega⟩ (by show 512 - (i + 1) < 512 - i; omega)
    · have e : sumB i x = x.toNat := by rw [sumB, if_neg hcase]
      rw [e] at hv
      have hcase : i < 148 ∨ 156 ≤ i := by omega
      by_cases hx : 128 ≤ x.toNat
      · rw [wrap8_high hx hx255] at hv
        rcases hcase with hcase | hcase
        · refine goW ?_
          refine KL_p (.none rfl) rfl (p_load rfl (.own (.head _)) hci) ?_
          refine goL ?_
          refine KL_p (.none rfl) rfl (p_load rfl (.own (.head _)) hci) ?_
          refine goL ?_
          refine a_next (i + 1, u + x.toNat, s + x.toNat - 256) ⟨by omega, by rw [← hv]; congr 1; omega, by omega, by omega⟩ (by show 512 - (i + 1) < 512 - i; omega)
        · refine goW ?_
          refine KL_p (.none rfl) rfl (p_load rfl (.own (.head _)) hci) ?_
          refine goL ?_
          refine KL_p (.none rfl) rfl (p_load rfl (.own (.head _)) hci) ?_
          refine goL ?_
          refine a_next (i + 1, u + x.toNat, s + x.toNat - 256) ⟨by omega, by rw [← hv]; congr 1; omega, by omega, by omega⟩ (by show 512 - (i + 1) < 512 - i; omega)
      · have hx : x.toNat < 128 := by omega
        rw [wrap8_low hx] at hv
        rcases hcase with hcase | hcase
        · refine goW ?_
          refine KL_p (.none rfl) rfl (p_load rfl (.own (.head _)) hci) ?_
          refine goL ?_
          refine KL_p (.none rfl) rfl (p_load rfl (.own (.head _)) hci) ?_
          refine goL ?_
          refine a_next (i + 1, u + x.toNat, s + x.toNat) ⟨by omega, hv, by omega, by omega⟩ (by show 512 - (i + 1) < 512 - i; omega)
        · refine goW ?_
          refine KL_p (.none rfl) rfl (p_load rfl (.own (.head _)) hci) ?_
          refine goL ?_
          refine KL_p (.none rfl) rfl (p_load rfl (.own (.head _)) hci) ?_
          refine goL ?_
          refine a_next (i + 1, u + x.toNat, s + x.toNat) ⟨by omega, hv, by omega, by omega⟩ (by show 512 - (i + 1) < 512 - i; omega)
  · obtain rfl : i = 512 := by omega
    rw [← hl, List.drop_length] at hv
    refine goW ?_
    refine a_ret1 ?_
    rw [← hv]; rfl

set_option maxRecDepth 10000 in
set_option maxHeartbeats 1000000 in
theorem said16_any (F : Fr) (rs : List UInt8) (hl : rs.length = 512) :
    Does Tryd.prog 16 [.agg (bvs rs).toArray] F [] (fun v L' => L' = [] ∧ v = i64 (saidF rs)) := by
  refine Does_clear (p := fun v => v = _) ?_
  refine Does_of (n := 18) Tryd.func16 rfl rfl (by simp) ?_
  refine goW ?_
  refine a_box fun b => ?_
  refine goL ?_
  refine a_loop (α := Nat × Int) (fun (i, n) => i ≤ 6 ∧ saidGo ((rs.drop (148 + i)).take (6 - i)) n = saidF rs ∧ -bnd i ≤ n ∧ n ≤ bnd i)
    (fun (i, n) => [(4, i64 (148 + i)), (3, i64 n), (1, .pointer (some ⟨b, 0, none⟩))])
    (fun _ => [(b, .cells (bvs rs).toArray 24 (0, 0))]) (fun (i, _) => 6 - i) (0, 0) ⟨by omega, rfl, by decide, by decide⟩ ?_
  rintro ⟨i, n⟩ ⟨hi, hv, hs0, hs1⟩
  have hb := bnd_le i hi
  refine goW ?_
  refine KW_if rfl (fun h => ?_) (fun h => ?_)
  · have hi6 : i < 6 := by omega
    have hi' : 148 + i < rs.length := by omega
    have hci : (bvs rs)[148 + i]? = some (bv rs[148 + i]) := bvs_at (List.getElem?_eq_getElem hi')
    have hdr : rs.drop (148 + i) = rs[148 + i] :: rs.drop (148 + (i + 1)) := List.drop_eq_getElem_cons hi'
    rw [hdr, show 6 - i = (6 - (i + 1)) + 1 by omega, List.take_succ_cons, saidGo] at hv
    generalize rs[148 + i] = x at *
    have hx255 := x.toNat_lt
    have hbs : bnd (i + 1) = 8 * bnd i + 207 := rfl
    refine goW ?_
    refine KL_p (.none rfl) rfl (p_load rfl (.own (.head _)) hci) ?_
    refine goL ?_
    refine a_next (i + 1, n * 8 + x.toNat - 48) ⟨by omega, hv, by omega, by omega⟩ (by show 6 - (i + 1) < 6 - i; omega)
  · obtain rfl : i = 6 := by omega
    rw [Nat.sub_self, List.take_zero] at hv
    refine goW ?_
    refine a_ret1 ?_
    rw [← hv]; rfl
end Go.Proofs.YtjeaofabpfgngaaDoor
