/-
  The reference's Octal walked; Number of both.
  No condition.
-/
import Derived.Test.YtjeaofabpfgngaaDoorA30
namespace Go.Proofs.YtjeaofabpfgngaaDoor
open Go.KE

set_option maxRecDepth 10000 in
set_option maxHeartbeats 2000000 in
theorem refOctal_any (F : Fr) (b : Nat) {lc : List Value} {t : TypeId} {fr : Nat × Nat} (hF : F.mem b (.cells lc.toArray t fr)) (o cap : Nat) (bs : List UInt8) (hc : Cut lc o bs.length (bvs bs)) (hl : bs.length ≤ 12) :
    Does Tryd.prog 65 [.slice (some ⟨b, o, none⟩) bs.length cap] F [] (fun v L' => L' = [] ∧ v = .tuple #[i64 (octal bs).1, i64 (octal bs).2]) := by
  have hat : ∀ i c, bs[i]? = some c → lc[o + i]? = some (bv c) := fun i c h => Cut.at hc (bvs_at h)
  refine Does_of (n := 76) Tryd.func65 rfl rfl (by simp) ?_
  refine goW ?_
  refine a_loopJ (α := Nat) (β := Nat) 0 (fun i => i ≤ bs.length ∧ dropB (isB 32) (bs.drop i) = dropB (isB 32) bs) (fun i => [(4, i64 i)]) (fun _ => []) (fun i => bs.length - i) 0 ⟨Nat.zero_le _, rfl⟩
    (fun i => i ≤ bs.length ∧ dropB (isB 32) bs = bs.drop i) (fun i => [(4, i64 i)]) (fun _ => []) ?_ ?_
  · rintro i ⟨hi, hd⟩
    by_cases hlt : i < bs.length
    · have hg := List.getElem?_eq_getElem hlt
      have hca := hat i _ hg
      have hdr : bs.drop i = bs[i] :: bs.drop (i + 1) := List.drop_eq_getElem_cons hlt
      generalize bs[i] = c at *
      have hc255 := c.toNat_lt
      by_cases h32 : c.toNat = 32
      · rw [hdr, dropB, if_pos (by simpa [isB] using h32)] at hd
        refine goW ?_
        refine a_ld hca ?_
        refine goL ?_
        exact a_next (i + 1) ⟨by omega, hd⟩ (by omega)
      · have hd2 : dropB (isB 32) bs = bs.drop i := by
          rw [← hd, hdr, dropB, if_neg (by simpa [isB] using h32)]
        refine goW ?_
        refine a_ld hca ?_
        refine goL ?_
        exact a_out i ⟨hi, hd2⟩
    · obtain rfl : i = bs.length := by omega
      rw [List.drop_length] at hd
      refine goW ?_
      exact a_out bs.length ⟨hi, by rw [← hd, List.drop_length]; rfl⟩
  rintro i0 ⟨hi0, hd0⟩
  have hoct : octal bs = if ((bs.drop i0).drop (spanD (bs.drop i0))).any (fun c => !isSp c) then (0, 120) else ((octN ((bs.drop i0).take (spanD (bs.drop i0))) : Int), 0) := by
    unfold octal; rw [hd0]
  have hl0 : (bs.drop i0).length = bs.length - i0 := List.length_drop
  have hat0 : ∀ k c, (bs.drop i0)[k]? = some c → lc[o + (i0 + k)]? = some (bv c) := fun k c h => by
    rw [List.getElem?_drop] at h
    exact hat _ _ h
  have hsp := spanD_le (bs.drop i0)
  have hdd : ∀ k, bs.drop (i0 + k) = (bs.drop i0).drop k := fun k => by rw [List.drop_drop]
  generalize bs.drop i0 = l at *
  clear hd0
  refine goQ ?_
  refine a_loopJ (α := Nat × Nat) (β := Unit) 2 (fun (k, m) => k ≤ l.length ∧ spanD l = k + spanD (l.drop k) ∧ m = octN (l.take k)) (fun (k, m) => [(4, i64 (i0 + k)), (5, i64 m), (6, .bool false)]) (fun _ => []) (fun (k, _) => l.length - k) (0, 0) ⟨Nat.zero_le _, by simp, rfl⟩
    (fun _ => True) (fun _ => [(4, i64 (i0 + spanD l)), (5, i64 (octN (l.take (spanD l)))), (6, .bool false)]) (fun _ => []) ?_ ?_
  · rintro ⟨k, m⟩ ⟨hk, hsk, hm⟩
    have out : ∀ {E : Sl}, spanD l = k → some (i64 ((i0 : Int) + k)) = some (i64 ((i0 : Int) + spanD l)) ∧ some (i64 (m : Int)) = some (i64 (octN (l.take (spanD l)) : Int)) := fun h => by rw [h, hm]; exact ⟨rfl, rfl⟩
    by_cases hlt : k < l.length
    · have hg := List.getElem?_eq_getElem hlt
      have hca := hat0 k _ hg
      rw [List.drop_eq_getElem_cons hlt, spanD] at hsk
      have hsn : octN (l.take (k + 1)) = m * 8 + (l[k].toNat - 48) := by
        rw [List.take_succ_eq_append_getElem hlt, octN_snoc, ← hm]
      generalize l[k] = c at *
      have hc255 := c.toNat_lt
      by_cases hd : isD c = true
      · rw [if_pos hd] at hsk
        simp only [isD, decide_eq_true_eq] at hd
        obtain ⟨hd1, hd2⟩ := hd
        have h8 := octN_take_lt l k (by omega)
        have hp := pow8 (k := k) (by omega)
        rw [← hm] at h8
        have hq : (9223372036854775807 - ((c.toNat : Int) - 48)) / 8 ≥ 1152921504606846968 := by omega
        refine goW ?_
        refine a_ld hca ?_
        refine goL ?_
        refine a_ld hca ?_
        refine goL ?_
        refine a_ld hca ?_
        refine goL ?_
        refine a_pure (p_quo' rfl rfl (by omega) (by omega) (by simp only [Fits]; omega)) ?_
        refine goL ?_
        refine a_next (k + 1, m * 8 + (c.toNat - 48)) ⟨by omega, by omega, hsn.symm⟩ (by show l.length - (k + 1) < l.length - k; omega) (hE := ⟨?_, ?_, by (repeat (first | exact trivial | refine ⟨rfl, ?_⟩)); done⟩)
        · exact congrArg (fun z => some (Value.int .i64 z)) (by show (i0 : Int) + k + 1 = i0 + ((k + 1 : Nat) : Int); omega)
        · exact congrArg (fun z => some (Value.int .i64 z)) (by show (m : Int) * 8 + (c.toNat - 48) = ((m * 8 + (c.toNat - 48) : Nat) : Int); omega)
      · rw [if_neg hd] at hsk
        obtain ⟨o1, o2⟩ := out (E := []) (by omega)
        simp only [isD, decide_eq_true_eq] at hd
        refine goW ?_
        refine a_ld hca ?_
        by_cases hd1 : 48 ≤ c.toNat
        · have hd2 : ¬ c.toNat ≤ 55 := fun h => hd ⟨hd1, h⟩
          refine goL ?_
          refine a_ld hca ?_
          refine goL ?_
          exact a_out () trivial (hs := ⟨o1, o2, by (repeat (first | exact trivial | refine ⟨rfl, ?_⟩)); done⟩)
        · refine goL ?_
          exact a_out () trivial (hs := ⟨o1, o2, by (repeat (first | exact trivial | refine ⟨rfl, ?_⟩)); done⟩)
    · obtain rfl : k = l.length := by omega
      rw [List.drop_length, spanD, Nat.add_zero] at hsk
      obtain ⟨o1, o2⟩ := out (E := []) hsk
      refine goW ?_
      exact a_out () trivial (hs := ⟨o1, o2, by (repeat (first | exact trivial | refine ⟨rfl, ?_⟩)); done⟩)
  rintro _ -
  have hsd : ∀ k, l.drop (spanD l + k) = (l.drop (spanD l)).drop k := fun k => by rw [List.drop_drop]
  refine goQ ?_
  refine a_loopK (α := Nat) (fun k => spanD l + k ≤ l.length ∧ (l.drop (spanD l + k)).any (fun c => !isSp c) = (l.drop (spanD l)).any (fun c => !isSp c)) (fun k => [(4, i64 (i0 + spanD l + k))]) (fun _ => []) (fun k => l.length - (spanD l + k)) 0 ⟨by omega, rfl⟩ ?_ (hE := ⟨congrArg (fun z => some (Value.int .i64 z)) (by show (i0 : Int) + spanD l = i0 + spanD l + ((0 : Nat) : Int); omega), trivial⟩)
  rintro k ⟨hk, hany⟩
  by_cases hlt : spanD l + k < l.length
  · have hg := List.getElem?_eq_getElem hlt
    have hca := hat0 _ _ hg
    rw [List.drop_eq_getElem_cons hlt, List.any_cons] at hany
    generalize l[spanD l + k] = c at *
    have hc255 := c.toNat_lt
    rw [show i0 + (spanD l + k) = i0 + spanD l + k by omega] at hca
    refine goW ?_
    refine a_ld hca ?_
    by_cases h32 : c.toNat = 32
    · have hsp : isSp c = true := by simp [isSp, h32]
      rw [hsp] at hany
      refine goL ?_
      exact a_next (k + 1) ⟨by omega, by rw [← Nat.add_assoc, ← hany]; rfl⟩ (by omega) (hE := ⟨congrArg (fun z => some (Value.int .i64 z)) (by show (i0 : Int) + spanD l + k + 1 = i0 + spanD l + ((k + 1 : Nat) : Int); omega), by (repeat (first | exact trivial | refine ⟨rfl, ?_⟩)); done⟩)
    · refine goL ?_
      refine a_ld hca ?_
      by_cases h0 : c.toNat = 0
      · have hsp : isSp c = true := by simp [isSp, h0]
        rw [hsp] at hany
        refine goL ?_
        exact a_next (k + 1) ⟨by omega, by rw [← Nat.add_assoc, ← hany]; rfl⟩ (by omega) (hE := ⟨congrArg (fun z => some (Value.int .i64 z)) (by show (i0 : Int) + spanD l + k + 1 = i0 + spanD l + ((k + 1 : Nat) : Int); omega), by (repeat (first | exact trivial | refine ⟨rfl, ?_⟩)); done⟩)
      · have hsp : isSp c = false := by simp [isSp, h32, h0]
        rw [hsp] at hany
        rw [← hany] at hoct
        refine goL ?_
        refine a_ret2 ⟨rfl, ?_⟩
        rw [hoct]; rfl
  · have hk0 : spanD l + k = l.length := by omega
    rw [hk0, List.drop_length] at hany
    rw [← hany] at hoct
    refine goW ?_
    refine a_ret2 ⟨rfl, ?_⟩
    rw [hoct]; rfl

/-! ### Number -/
/-- What a field of a number says, and the code. -/
def number (bs : List UInt8) : Int × Int := if 128 ≤ (bs.headD 0).toNat then binary bs else octal bs
theorem number_any (F : Fr) (b : Nat) {lc : List Value} {t : TypeId} {fr : Nat × Nat} (hF : F.mem b (.cells lc.toArray t fr)) (o cap : Nat) (bs : List UInt8) (hc : Cut lc o bs.length (bvs bs)) (hcap : bs.length ≤ cap) (hl : bs.length ≤ 12) (hl2 : 2 ≤ bs.length) :
    Does Tryd.prog 34 [.slice (some ⟨b, o, none⟩) bs.length cap] F [] (fun v L' => L' = [] ∧ v = .tuple #[i64 (number bs).1, i64 (number bs).2]) := by
  obtain ⟨c, r, rfl⟩ : ∃ c r, bs = c :: r := by
    cases bs with
    | nil => simp at hl2
    | cons c r => exact ⟨c, r, rfl⟩
  have h0 := Cut.at hc (bvs_at (bs := c :: r) (j := 0) rfl)
  have hc255 := c.toNat_lt
  have h128 := byte_and128 (fin c)
  simp only [fin] at h128
  have hnum : number (c :: r) = if 128 ≤ c.toNat then binary (c :: r) else octal (c :: r) := rfl
  refine Does_of (n := 22) Tryd.func34 rfl rfl (by simp) ?_
  refine goW ?_
  refine a_ld h0 ?_
  refine a_pure (p_and rfl rfl) ?_
  by_cases hge : 128 ≤ c.toNat
  · have hb : ¬ bitsOf .and .u8 c.toNat 128 = 0 := fun h => by have := h128.1 h; omega
    rw [if_pos hge] at hnum
    rw [hnum]
    refine goL ?_
    refine a_call (binary_any _ b o cap (c :: r) (Fr.inl hF) hc hl2 (by omega)) ?_
    rintro v L' ⟨rfl, rfl⟩
    refine goL ?_
    exact a_ret2 ⟨rfl, rfl⟩
  · have hb : bitsOf .and .u8 c.toNat 128 = 0 := h128.2 (by omega)
    rw [if_neg hge] at hnum
    rw [hnum]
    refine goL ?_
    refine a_call (octal_any _ b (Fr.inl hF) o cap (c :: r) hc hcap hl) ?_
    rintro v L' ⟨rfl, rfl⟩
    refine goL ?_
    exact a_ret2 ⟨rfl, rfl⟩
theorem refNumber_any (F : Fr) (b : Nat) {lc : List Value} {t : TypeId} {fr : Nat × Nat} (hF : F.mem b (.cells lc.toArray t fr)) (o cap : Nat) (bs : List UInt8) (hc : Cut lc o bs.length (bvs bs)) (hl : bs.length ≤ 12) (hl2 : 2 ≤ bs.length) :
    Does Tryd.prog 38 [.slice (some ⟨b, o, none⟩) bs.length cap] F [] (fun v L' => L' = [] ∧ v = .tuple #[i64 (number bs).1, i64 (number bs).2]) := by
  obtain ⟨c, r, rfl⟩ : ∃ c r, bs = c :: r := by
    cases bs with
    | nil => simp at hl2
    | cons c r => exact ⟨c, r, rfl⟩
  have h0 := Cut.at hc (bvs_at (bs := c :: r) (j := 0) rfl)
  have hc255 := c.toNat_lt
  have hnum : number (c :: r) = if 128 ≤ c.toNat then binary (c :: r) else octal (c :: r) := rfl
  refine Does_of (n := 21) Tryd.func38 rfl rfl (by simp) ?_
  refine goW ?_
  refine a_ld h0 ?_
  by_cases hge : 128 ≤ c.toNat
  · rw [if_pos hge, ← refBinary_eq] at hnum
    rw [hnum]
    refine goL ?_
    refine a_call (refBinary_any _ b o cap (c :: r) (Fr.inl hF) hc hl2 (by omega)) ?_
    rintro v L' ⟨rfl, rfl⟩
    refine goL ?_
    exact a_ret2 ⟨rfl, rfl⟩
  · rw [if_neg hge] at hnum
    rw [hnum]
    refine goL ?_
    refine a_call (refOctal_any _ b (Fr.inl hF) o cap (c :: r) hc hl) ?_
    rintro v L' ⟨rfl, rfl⟩
    refine goL ?_
    exact a_ret2 ⟨rfl, rfl⟩
end Go.Proofs.YtjeaofabpfgngaaDoor
