/-
  The reference's functions over whole records: Sums, PutSum, put.
  No condition.
-/
import Derived.Test.YtjeaofabpfgngaaDoorA19
import Derived.Test.YtjeaofabpfgngaaDoorK10
namespace Go.Proofs.YtjeaofabpfgngaaDoor
open Go.KE

set_option maxRecDepth 10000 in
set_option maxHeartbeats 1000000 in
theorem refSums_any (F : Fr) (rs : List UInt8) (hl : rs.length = 512) :
    Does Tryd.prog 61 [.agg (bvs rs).toArray] F [] (fun v L' => L' = [] ∧ v = .tuple #[i64 (sums rs).1, i64 (sums rs).2]) := by
  refine Does_of (n := 32) Tryd.func61 rfl rfl (by simp) ?_
  refine goW ?_
  refine a_box fun b => ?_
  refine goL ?_
  refine a_loop (α := Nat × Int × Int) (fun (i, u, s) => i ≤ 512 ∧ sumsGo i (rs.drop i) u s = sums rs ∧ 0 ≤ u ∧ u ≤ 255 * i ∧ -128 * i ≤ s ∧ s ≤ 127 * i)
    (fun (i, u, s) => [(6, i64 i), (4, i64 u), (5, i64 s), (1, .pointer (some ⟨b, 0, none⟩))])
    (fun _ => [(b, .cells (bvs rs).toArray 24 (0, 0))]) (fun (i, _, _) => 512 - i) (0, 0, 0) ⟨by omega, rfl, by simp, by simp, by simp, by simp⟩ ?_
  rintro ⟨i, u, s⟩ ⟨hi, hv, hu0, hu1, hs0, hs1⟩
  refine goW ?_
  refine KW_if rfl (fun h => ?_) (fun h => ?_)
  · have hi' : i < rs.length := by omega
    have hci : (bvs rs)[i]? = some (bv rs[i]) := bvs_at (List.getElem?_eq_getElem hi')
    have hdr : rs.drop i = rs[i] :: rs.drop (i + 1) := List.drop_eq_getElem_cons hi'
    rw [hdr] at hv
    simp only [sumsGo] at hv
    generalize rs[i] = x at *
    have hx255 := x.toNat_lt
    have hw := wrap8_le x.toNat
    refine goW ?_
    refine KL_p (.none rfl) rfl (p_load rfl (.own (.head _)) hci) ?_
    have hcase : (148 ≤ i ∧ i < 156) ∨ (¬ (148 ≤ i ∧ i < 156)) := by omega
    rcases hcase with hcase | hcase
    · have e : sumB i x = 32 := by rw [sumB, if_pos hcase]
      rw [e, show IntKind.i8.wrap 32 = 32 by decide] at hv
      obtain ⟨hc1, hc2⟩ := hcase
      refine goL ?_
      refine a_next (i + 1, u + 32, s + 32) ⟨by omega, hv, by omega, by omega, by omega, by omega⟩ (by show 512 - (i + 1) < 512 - i; omega)
    · have e : sumB i x = x.toNat := by rw [sumB, if_neg hcase]
      rw [e] at hv
      have hcase : i < 148 ∨ 156 ≤ i := by omega
      rcases hcase with hcase | hcase
      · refine goL ?_
        refine a_next (i + 1, u + x.toNat, s + IntKind.i8.wrap x.toNat) ⟨by omega, hv, by omega, by omega, by omega, by omega⟩ (by show 512 - (i + 1) < 512 - i; omega)
      · refine goL ?_
        refine a_next (i + 1, u + x.toNat, s + IntKind.i8.wrap x.toNat) ⟨by omega, hv, by omega, by omega, by omega, by omega⟩ (by show 512 - (i + 1) < 512 - i; omega)
  · obtain rfl : i = 512 := by omega
    rw [← hl, List.drop_length] at hv
    refine goW ?_
    refine KQ_clear ?_
    refine a_ret2 ⟨rfl, ?_⟩
    rw [← hv]; rfl

theorem putAt_pre {rs : List UInt8} {o : Nat} {c : UInt8} {suf : List UInt8} (h : o + 1 + suf.length ≤ rs.length) : Patch (bvs (putAt rs (o + 1) suf)) o [bv c] (bvs (putAt rs o (c :: suf))) := by
  have h1 : putAt (putAt rs (o + 1) suf) o [c] = putAt rs o (c :: suf) := by
    refine List.ext_getElem? fun i => ?_
    rw [putAt_get (by rw [putAt_length (by omega)]; simp; omega), putAt_get (by omega), putAt_get (by simp; omega)]
    simp only [List.length_cons, List.length_nil]
    by_cases h1 : o ≤ i ∧ i < o + 1
    · obtain rfl : i = o := by omega
      rw [if_pos (by omega), if_pos (by omega)]; simp
    · rw [if_neg (by omega)]
      by_cases h2 : o + 1 ≤ i ∧ i < o + 1 + suf.length
      · rw [if_pos h2, if_pos (by omega)]
        have : i - o = (i - (o + 1)) + 1 := by omega
        rw [this, List.getElem?_cons_succ]
      · rw [if_neg h2, if_neg (by omega)]
  have := patch_at (putAt rs (o + 1) suf) [c] o (by rw [putAt_length (by omega)]; simp; omega)
  rw [h1] at this
  exact this
theorem putAt_nil (rs : List UInt8) (o : Nat) : putAt rs o [] = rs := by simp [putAt]
theorem putAt_post {rs : List UInt8} {o : Nat} {c : UInt8} {l : List UInt8} (h : o + l.length + 1 ≤ rs.length) : Patch (bvs (putAt rs o l)) (o + l.length) [bv c] (bvs (putAt rs o (l ++ [c]))) := by
  have h1 : putAt (putAt rs o l) (o + l.length) [c] = putAt rs o (l ++ [c]) := by
    refine List.ext_getElem? fun i => ?_
    rw [putAt_get (by rw [putAt_length (by omega)]; simp; omega), putAt_get (by omega), putAt_get (by simp; omega)]
    simp only [List.length_cons, List.length_nil, List.length_append]
    by_cases h1 : o + l.length ≤ i ∧ i < o + l.length + 1
    · obtain rfl : i = o + l.length := by omega
      rw [if_pos (by omega), if_pos (by omega), List.getElem?_append_right (by omega)]; simp
    · rw [if_neg (by omega)]
      by_cases h2 : o ≤ i ∧ i < o + l.length
      · rw [if_pos h2, if_pos (by omega), List.getElem?_append_left (by omega)]
      · rw [if_neg h2, if_neg (by omega)]
  have := patch_at (putAt rs o l) [c] (o + l.length) (by rw [putAt_length (by omega)]; simp; omega)
  rw [h1] at this
  exact this

/-- put: bytes into a record. -/
theorem put_any (F : Fr) (rs : List UInt8) (hl : rs.length = 512) (o : Nat) (bs : List UInt8) (ho : o + bs.length ≤ 512) (b bo cap : Nat) {l : List Value} {t : TypeId} {fr : Nat × Nat} (hF : F.mem b (.cells l.toArray t fr)) (hc : Cut l bo bs.length (bvs bs)) :
    Does Tryd.prog 27 [.agg (bvs rs).toArray, i64 o, .slice (some ⟨b, bo, none⟩) bs.length cap] F [] (fun v L' => L' = [] ∧ v = .agg (bvs (putAt rs o bs)).toArray) := by
  obtain ⟨Z, hZ⟩ : ∃ Z, zero512 = Z := ⟨_, rfl⟩
  refine Does_clear (p := fun v => v = _) ?_
  refine Does_of (n := 23) Tryd.func27 rfl rfl (by simp) ?_
  refine goW ?_
  refine a_box fun b1 => ?_
  refine a_alloc fun b2 => ?_
  refine goL ?_
  refine a_loop (fun i : Nat => i ≤ bs.length) (fun i => [(7, i64 i), (1, i64 o), (2, .slice (some ⟨b, bo, none⟩) bs.length cap), (3, .pointer (some ⟨b1, 0, none⟩)), (6, .pointer (some ⟨b2, 0, none⟩))])
    (fun i => [(b2, .cells (bvs Z).toArray 24 (0, 0)), (b1, .cells (bvs (putAt rs o (bs.take i))).toArray 24 (0, 0))]) (fun i => bs.length - i) 0 (Nat.zero_le _) ?_ ?_ ?_
  rotate_left
  · exact ⟨rfl, rfl, rfl, rfl, rfl, trivial⟩
  · rw [List.take_zero, putAt_nil, ← hZ, bvs_zero]
  intro i hi
  refine goW ?_
  refine KW_if rfl (fun h => ?_) (fun h => ?_)
  · have hi' : i < bs.length := by omega
    have hci := Cut.at hc (bvs_at (List.getElem?_eq_getElem hi'))
    have hlt : (bs.take i).length = i := by rw [List.length_take]; omega
    have hp := putAt_post (rs := rs) (o := o) (c := bs[i]) (l := bs.take i) (by omega)
    rw [hlt, ← List.take_succ_eq_append_getElem hi'] at hp
    refine goW ?_
    refine KL_p (.none rfl) rfl (p_load rfl (.fr hF) hci) ?_
    refine goL ?_
    rw [show ((o : Int) + (i : Int)).toNat = o + i by omega]
    refine KL_s (.none rfl) (s_store rfl rfl rfl rfl (.tail .head) hp (oneCells_of rfl)) ?_
    refine goL ?_
    exact a_next (i + 1) hi' (by omega)
  · obtain rfl : i = bs.length := by omega
    rw [List.take_length]
    have hpl : (putAt rs o bs).length = 512 := by rw [putAt_length (by omega)]; exact hl
    have hz5 : Z.length = 512 := by rw [← hZ, zero512]; exact List.length_replicate
    refine goW ?_
    refine KL_p (.none rfl) rfl (p_load_agg rfl (.own (.tail _ (.head _))) (hpl ▸ Cut_all _)) ?_
    refine KL_s (.none rfl) (s_store (l' := bvs (putAt rs o bs)) rfl rfl rfl (by simp [bvs_length, hpl]) .head (Patch_all (by rw [bvs_length, bvs_length, hz5, hpl])) (oneCells_bvs _)) ?_
    refine goL ?_
    have hc2 : Cut (bvs (putAt rs o bs)) 0 512 (bvs (putAt rs o bs)) := hpl ▸ Cut_all _
    refine KQ_ret1 (.inl rfl) rfl (.agg rfl (.own (.head _)) hc2) ?_
    rfl

theorem putSum_digits (rs : List UInt8) (hl : rs.length = 512) : putSum rs = putAt rs 148 (((octGo 6 (sums rs).1.toNat []).1 ++ [0]) ++ [32]) := by
  obtain ⟨hs0, hs1⟩ := sums_le rs hl
  have h2 := octI_size hs0
  have h3 := oct_length 5 (sums rs).1.natAbs (by omega)
  have e : (sums rs).1.toNat = (sums rs).1.natAbs := by omega
  rw [putSum, octField, if_neg (by omega), octGo_fst 5 _ _ (by omega), e, h2]
  have e2 : (octI (sums rs).1).data.toList = oct (sums rs).1.natAbs := by rw [octI, if_neg (by omega)]; simp
  simp [e2]

set_option maxRecDepth 10000 in
set_option maxHeartbeats 1000000 in
theorem refPutSum_any (F : Fr) (rs : List UInt8) (hl : rs.length = 512) :
    Does Tryd.prog 32 [.agg (bvs rs).toArray] F [] (fun v L' => L' = [] ∧ v = .agg (bvs (putSum rs)).toArray) := by
  obtain ⟨hs0, hs1⟩ := sums_le rs hl
  have hput := putSum_digits rs hl
  have hlen6 : ∀ (k n : Nat) (suf : List UInt8), (octGo k n suf).1.length = k + suf.length := by
    intro k
    induction k with
    | zero => intro n suf; simp [octGo]
    | succ k ih => intro n suf; rw [octGo, ih]; simp; omega
  have hd6 := hlen6 6 (sums rs).1.toNat []
  obtain ⟨Z, hZ⟩ : ∃ Z, zero512 = Z := ⟨_, rfl⟩
  refine Does_clear (p := fun v => v = _) ?_
  refine Does_of (n := 26) Tryd.func32 rfl rfl (by simp) ?_
  refine goW ?_
  refine a_box fun b => ?_
  refine a_alloc fun b2 => ?_
  refine goL ?_
  have hcut : Cut (bvs rs) 0 512 (bvs rs) := hl ▸ Cut_all rs
  refine KL_p (.none rfl) rfl (p_load_agg rfl (.own (.tail _ (.head _))) hcut) ?_
  refine goL ?_
  refine a_call (refSums_any _ rs hl) ?_
  rintro v L' ⟨rfl, rfl⟩
  refine goL ?_
  refine a_loop (α := Nat × Nat × List UInt8 × Int) (fun (k, m, suf, j) => j = 147 + (k : Int) ∧ k + suf.length = 6 ∧ octGo k m suf = octGo 6 (sums rs).1.toNat [] ∧ m ≤ 130560)
    (fun (_, m, _, j) => [(5, i64 j), (3, i64 m), (1, .pointer (some ⟨b, 0, none⟩)), (2, .pointer (some ⟨b2, 0, none⟩))])
    (fun (k, _, suf, _) => [(b2, .cells (bvs Z).toArray 24 (0, 0)), (b, .cells (bvs (putAt rs (148 + k) suf)).toArray 24 (0, 0))]) (fun (k, _, _, _) => k) (6, (sums rs).1.toNat, [], 153) ⟨by omega, rfl, rfl, by show (sums rs).1.toNat ≤ 130560; omega⟩ ?_ ?_ ?_
  rotate_left
  · exact ⟨rfl, congrArg (fun z => some (Value.int .i64 z)) (by show (sums rs).1 = ((sums rs).1.toNat : Int); omega), rfl, rfl, trivial⟩
  · show _ = [(b2, Obj.cells (bvs Z).toArray 24 (0, 0)), (b, Obj.cells (bvs (putAt rs (148 + 6) [])).toArray 24 (0, 0))]
    rw [putAt_nil, ← hZ, bvs_zero]; rfl
  rintro ⟨k, m, suf, j⟩ ⟨hj, hk, hv, hm⟩
  refine goW ?_
  refine KW_if rfl (fun h3 => ?_) (fun h3 => ?_)
  · obtain ⟨k, rfl⟩ : ∃ i, k = i + 1 := ⟨k - 1, by omega⟩
    have e1 : Int.tmod (m : Int) 8 = ((m % 8 : Nat) : Int) := by rw [Int.tmod_eq_emod_of_nonneg (by omega)]; omega
    have e2 : IntKind.i64.wrap (Int.tdiv (m : Int) 8) = ((m / 8 : Nat) : Int) := by
      rw [Int.tdiv_eq_ediv_of_nonneg (by omega)]
      exact (Fits.wrap (k := .i64) (by simp only [Fits]; omega)).trans (by omega)
    have e3 : ((48 : Int) + (m % 8 : Nat)) = ((UInt8.ofNat (48 + m % 8)).toNat : Int) := by
      simp; omega
    have hp := putAt_pre (rs := rs) (o := 148 + k) (c := UInt8.ofNat (48 + m % 8)) (suf := suf) (by omega)
    refine goW ?_
    refine KL_p (.none rfl) rfl (e1 ▸ p_rem rfl rfl (by omega)) ?_
    refine goL ?_
    rw [e3]
    rw [show j.toNat = 148 + k by omega]
    refine KL_s (.none rfl) (s_store rfl rfl rfl rfl (.tail .head) hp (oneCells_of rfl)) ?_
    refine goL ?_
    refine KL_p (.none rfl) rfl (e2 ▸ p_quo rfl rfl (by omega)) ?_
    refine goL ?_
    refine a_next (k, m / 8, UInt8.ofNat (48 + m % 8) :: suf, j - 1) ⟨by omega, by simp; omega, hv, by omega⟩ (by show k < k + 1; omega)
  · obtain rfl : k = 0 := by omega
    have hsuf : suf = (octGo 6 (sums rs).1.toNat []).1 := by rw [← hv]; rfl
    rw [← hsuf] at hput
    clear hv hlen6 hd6 hsuf
    have hs6 : suf.length = 6 := by omega
    have hp1 := putAt_post (rs := rs) (o := 148) (c := 0) (l := suf) (by omega)
    have hp2 := putAt_post (rs := rs) (o := 148) (c := 32) (l := suf ++ [0]) (by simp; omega)
    rw [hs6] at hp1
    rw [List.length_append, hs6] at hp2
    have hpl : (putSum rs).length = 512 := putSum_length hl
    have hz5 : Z.length = 512 := by rw [← hZ, zero512]; exact List.length_replicate
    rw [← hput] at hp2
    refine goW ?_
    refine KL_s (.none rfl) (s_store rfl rfl rfl rfl (.tail .head) hp1 (oneCells_of rfl)) ?_
    refine goL ?_
    refine KL_s (.none rfl) (s_store rfl rfl rfl rfl (.tail .head) hp2 (oneCells_of rfl)) ?_
    refine goL ?_
    refine KL_p (.none rfl) rfl (p_load_agg rfl (.own (.tail _ (.head _))) (hpl ▸ Cut_all _)) ?_
    refine KL_s (.none rfl) (s_store (l' := bvs (putSum rs)) rfl rfl rfl (by simp [bvs_length, hpl]) .head (Patch_all (by rw [bvs_length, bvs_length, hz5, hpl])) (oneCells_bvs _)) ?_
    refine goL ?_
    have hc2 : Cut (bvs (putSum rs)) 0 512 (bvs (putSum rs)) := hpl ▸ Cut_all _
    refine KQ_ret1 (.inl rfl) rfl (.agg rfl (.own (.head _)) hc2) ?_
    rfl
end Go.Proofs.YtjeaofabpfgngaaDoor
