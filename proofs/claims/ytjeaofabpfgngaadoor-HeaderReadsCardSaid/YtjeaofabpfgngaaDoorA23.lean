/-
  The reference's Binary, PutBinary, PutNumber and digits walked.
  No condition.
-/
import Derived.Test.YtjeaofabpfgngaaDoorA22
namespace Go.Proofs.YtjeaofabpfgngaaDoor
open Go.KE

theorem be_snoc {l : List UInt8} {i : Nat} (h : i < l.length) : be (l.take (i + 1)) = be (l.take i) * 256 + l[i].toNat := by
  rw [List.take_succ_eq_append_getElem h, be_append]
  simp [be]
theorem sl_some {size len : Nat} {xs : List Value} {sv : Option Own} (h : slOK size len xs sv) (h0 : len ≠ 0) : ∃ s, sv = some s := by
  cases sv with
  | none => exact absurd h.1 h0
  | some s => exact ⟨s, rfl⟩
/-- What of a slice that the call owns lies from place o on. -/
theorem Cut_own {l : List UInt8} {rest : List Value} {o : Nat} (h : o ≤ l.length) : Cut (bvs l ++ rest) o (l.length - o) (bvs (l.drop o)) := by
  induction l generalizing o with
  | nil =>
    obtain rfl : o = 0 := by simpa using h
    exact .nil
  | cons c l ih =>
    cases o with
    | zero => exact Cut_pre (c :: l) rest
    | succ o =>
      have := ih (o := o) (by simpa using h)
      simp only [List.length_cons, Nat.add_sub_add_right, List.drop_succ_cons]
      exact .skip this

set_option maxRecDepth 10000 in
set_option maxHeartbeats 2000000 in
theorem refBinary_any (F : Fr) (b o cap : Nat) (bs : List UInt8) {lc : List Value} {t : TypeId} {fr : Nat × Nat} (hF : F.mem b (.cells lc.toArray t fr)) (hc : Cut lc o bs.length (bvs bs)) (hl : 2 ≤ bs.length) (hl2 : bs.length ≤ 512) :
    Does Tryd.prog 66 [.slice (some ⟨b, o, none⟩) bs.length cap] F [] (fun v L' => L' = [] ∧ v = .tuple #[i64 (refBinary bs).1, i64 (refBinary bs).2]) := by
  refine Does_clear (p := fun v => v = _) ?_
  obtain ⟨c, r, rfl⟩ : ∃ c r, bs = c :: r := by
    cases bs with
    | nil => simp at hl
    | cons c r => exact ⟨c, r, rfl⟩
  have h0 := Cut.at hc (bvs_at (bs := c :: r) (j := 0) rfl)
  have hc255 := c.toNat_lt
  refine Does_of (n := 85) Tryd.func66 rfl rfl (by simp) ?_
  refine goW ?_
  refine a_ld h0 ?_
  by_cases hlt : c.toNat < 128
  · refine goL ?_
    refine a_ret2 ?_
    rw [refBinary_cons, if_pos (.inr hlt)]
  refine goL ?_
  refine a_ld h0 ?_
  refine KL_p (.none rfl) rfl (p_rem' rfl rfl (by omega) (by omega)) ?_
  refine goL ?_
  have hb1 : decide ((64 : Int) ≤ (c.toNat : Int) % 128) = decide (64 ≤ c.toNat % 128) := by
    by_cases h : 64 ≤ c.toNat % 128
    · rw [decide_eq_true h, decide_eq_true (by omega)]
    · rw [decide_eq_false h, decide_eq_false (by omega)]
  have hr : refBinary (c :: r) = match rbDrop (fillOf (decide (64 ≤ c.toNat % 128))) ((if decide (64 ≤ c.toNat % 128) = true then c else c - 128) :: r) with
      | none => (0, 121)
      | some l => rbEnd (decide (64 ≤ c.toNat % 128)) (rbPad (fillOf (decide (64 ≤ c.toNat % 128))) l) := by
    rw [refBinary_cons, if_neg (by simp at hl; omega)]
    by_cases h : 64 ≤ c.toNat % 128 <;> simp [h] <;> rfl
  rw [hb1]
  generalize decide (64 ≤ c.toNat % 128) = bl at hr ⊢
  obtain ⟨fx, hrx, hfl, hfx⟩ : ∃ fx : List UInt8, (refBinary (c :: r) = match rbDrop (fillOf bl) fx with
      | none => (0, 121)
      | some l => rbEnd bl (rbPad (fillOf bl) l)) ∧ fx.length = (c :: r).length ∧ ∀ (i : Nat) (x : UInt8), (c :: r)[i]? = some x → fx[i]? = some (if i = 0 ∧ bl = false then x - 128 else x) := by
    refine ⟨(if bl = true then c else c - 128) :: r, hr, by simp, fun i x hx => ?_⟩
    cases i with
    | zero =>
      obtain rfl : c = x := by simpa using hx
      cases bl <;> simp
    | succ i => simpa using hx
  clear hr
  have hr := hrx
  clear hrx
  have hc0 : ∀ x, (c :: r)[0]? = some x → 128 ≤ x.toNat := by
    intro x hx
    obtain rfl : c = x := by simpa using hx
    omega
  clear hb1 h0
  clear hlt hc255
  generalize c :: r = bs at *
  refine a_loopK (α := Nat × Option Own) (fun (i, sv) => i ≤ bs.length ∧ slOK 1 i (bvs (fx.take i)) sv) (fun (i, sv) => [(6, i64 i), (5, slV i sv)]) (fun (i, sv) => slL 5 (bvs (fx.take i)) sv) (fun (i, _) => bs.length - i) (0, none) ⟨by omega, rfl, rfl⟩ ?_
  rintro ⟨i, sv⟩ ⟨hi, hok⟩
  refine goW ?_
  refine KW_if rfl (fun h => ?_) (fun h => ?_)
  · have hi' : i < bs.length := by omega
    have hci := Cut.at hc (bvs_at (List.getElem?_eq_getElem hi'))
    have hxi := List.getElem?_eq_getElem hi'
    have hx0 : i = 0 → 128 ≤ bs[i].toNat := by intro h; subst h; exact hc0 _ hxi
    obtain ⟨y, hfi, hy⟩ : ∃ y, fx[i]? = some y ∧ y = if i = 0 ∧ bl = false then bs[i] - 128 else bs[i] := ⟨_, hfx i _ hxi, rfl⟩
    have hts : fx.take (i + 1) = fx.take i ++ [y] := by rw [List.take_add_one, hfi]; rfl
    have hb255 := bs[i].toNat_lt
    generalize bs[i] = x at *
    refine goW ?_
    refine a_ld hci ?_
    have e : bvs (fx.take i) ++ [bv y] = bvs (fx.take (i + 1)) := by
      rw [hts, bvs_append]; rfl
    by_cases hi0 : i = 0
    · have h128 := hx0 hi0
      cases bl
      · rw [if_pos ⟨hi0, rfl⟩] at hy
        have hv : ((x.toNat : Int) - 128) = (y.toNat : Int) := by
          rw [hy, UInt8.toNat_sub_of_le _ _ (by rw [UInt8.le_iff_toNat_le]; exact h128)]
          show _ = ((x.toNat - 128 : Nat) : Int)
          omega
        refine goL ?_
        rw [hv]
        refine a_slit fun b2 => ?_
        refine goL ?_
        refine KL_m (.none rfl) rfl (m_append (sv := sv) (zl := [_]) (news := [bv y]) rfl rfl rfl rfl (List.perm_append_comm (l₁ := [_])) hok (Src.cut (.own (.head _)) (.cons .nil) (oneCells_of rfl)) (by omega) (by omega) Nat.one_pos) fun sv' hsv' => ?_
        obtain ⟨hok', _⟩ := hsv'
        rw [e] at hok' ⊢
        refine goL ?_
        refine KQ_perm List.perm_append_comm ?_
        refine KQ_drop (L1 := [_]) ?_
        exact a_next (i + 1, sv') ⟨by omega, hok'⟩ (by show bs.length - (i + 1) < bs.length - i; omega)
      · rw [if_neg (by simp)] at hy
        subst hy
        refine goL ?_
        refine a_slit fun b2 => ?_
        refine goL ?_
        refine KL_m (.none rfl) rfl (m_append (sv := sv) (zl := [_]) (news := [bv y]) rfl rfl rfl rfl (List.perm_append_comm (l₁ := [_])) hok (Src.cut (.own (.head _)) (.cons .nil) (oneCells_of rfl)) (by omega) (by omega) Nat.one_pos) fun sv' hsv' => ?_
        obtain ⟨hok', _⟩ := hsv'
        rw [e] at hok' ⊢
        refine goL ?_
        refine KQ_perm List.perm_append_comm ?_
        refine KQ_drop (L1 := [_]) ?_
        exact a_next (i + 1, sv') ⟨by omega, hok'⟩ (by show bs.length - (i + 1) < bs.length - i; omega)
    · rw [if_neg (by omega)] at hy
      subst hy
      · refine goL ?_
        refine a_slit fun b2 => ?_
        refine goL ?_
        refine KL_m (.none rfl) rfl (m_append (sv := sv) (zl := [_]) (news := [bv y]) rfl rfl rfl rfl (List.perm_append_comm (l₁ := [_])) hok (Src.cut (.own (.head _)) (.cons .nil) (oneCells_of rfl)) (by omega) (by omega) Nat.one_pos) fun sv' hsv' => ?_
        obtain ⟨hok', _⟩ := hsv'
        rw [e] at hok' ⊢
        refine goL ?_
        refine KQ_perm List.perm_append_comm ?_
        refine KQ_drop (L1 := [_]) ?_
        exact a_next (i + 1, sv') ⟨by omega, hok'⟩ (by show bs.length - (i + 1) < bs.length - i; omega)
  · obtain rfl : i = bs.length := by omega
    have e : fx.take bs.length = fx := by rw [← hfl, List.take_length]
    rw [e] at hok
    refine KW_reL (L' := slL 5 (bvs fx) sv) (by show slL 5 (bvs (fx.take bs.length)) sv = _; rw [e]) ?_
    obtain ⟨s, rfl⟩ := sl_some hok (by omega)
    obtain ⟨hok1, hok2, hok3, hok4⟩ := hok
    clear hfx hi h hc0
    refine goW ?_
    refine a_joinK (α := Unit) (fun _ => True) (fun _ => [(8, bv (fillOf bl))]) (fun _ => slL 5 (bvs fx) (some s)) ?_ ?_
    · cases bl
      · refine goW ?_
        exact a_met () trivial
      · refine goW ?_
        exact a_met () trivial
    rintro _ -
    refine goQ ?_
    refine a_loopK (α := Nat) (fun o => o ≤ fx.length ∧ rbDrop (fillOf bl) (fx.drop o) = rbDrop (fillOf bl) fx ∧ (fx.length ≤ 8 → o = 0) ∧ (8 ≤ fx.length → 8 ≤ fx.length - o)) (fun o => [(5, .slice (some ⟨s.b, o, none⟩) (bs.length - o : Nat) (s.cap - o))]) (fun _ => slL 5 (bvs fx) (some s)) (fun o => fx.length - o) 0 ⟨by omega, rfl, fun _ => rfl, fun h => by omega⟩ ?_
    rintro o ⟨ho, hd, ho0, ho8⟩
    refine goW ?_
    refine KW_if rfl (fun h => ?_) (fun h => ?_)
    · have ho' : o < fx.length := by omega
      have hco := (Cut_own (rest := s.rest) ho).get.2 0 (bv fx[o]) (by rw [List.drop_eq_getElem_cons ho']; rfl)
      rw [List.drop_eq_getElem_cons ho', rbDrop, List.length_drop, if_pos (by omega)] at hd
      refine goW ?_
      refine a_ld hco ?_
      refine goL ?_
      refine KW_if rfl (fun hne => ?_) (fun hne => ?_)
      · rw [if_pos (fun e => hne (by rw [e]))] at hd
        refine goW ?_
        refine a_ret2 ?_
        rw [hr, ← hd]
      · rw [if_neg (fun e => hne (fun e2 => e (UInt8.toNat_inj.1 (by omega))))] at hd
        have e1 : o + (if Int.toNat 1 = s.cap - o then 0 else Int.toNat 1 * 1) = o + 1 := by
          rw [if_neg (by simp only [List.length_append, bvs_length] at hok2 hok1; show ¬ 1 = s.cap - o; omega)]; rfl
        have e2 : bs.length - o - Int.toNat 1 = bs.length - (o + 1) := by show _ - 1 = _; omega
        have e3 : s.cap - o - Int.toNat 1 = s.cap - (o + 1) := by show _ - 1 = _; omega
        refine goW ?_
        exact a_next (o + 1) ⟨by omega, hd, by omega, by omega⟩ (by omega) (hE := ⟨by show some (Value.slice (some ⟨s.b, o + (if Int.toNat 1 = s.cap - o then 0 else Int.toNat 1 * 1), none⟩) (bs.length - o - Int.toNat 1) (s.cap - o - Int.toNat 1)) = _; rw [e1, e2, e3], by (repeat (first | exact trivial | refine ⟨rfl, ?_⟩)); done⟩)
    · have hlen8 : (fx.drop o).length ≤ 8 := by rw [List.length_drop]; omega
      have hlen2 : 2 ≤ (fx.drop o).length := by rw [List.length_drop]; omega
      rw [rbDrop_short _ _ hlen8] at hd
      have hcut := Cut_own (rest := s.rest) ho
      rw [← hd] at hr
      dsimp only at hr
      have hdl : bs.length - o = (fx.drop o).length := by rw [List.length_drop, hfl]
      rw [← hfl] at hdl
      rw [hdl] at hcut
      rw [hfl] at hdl
      clear hd ho0 ho8 h
      generalize fx.drop o = l at *
      refine goW ?_
      refine a_loopK (α := List UInt8 × Nat × Nat × Nat × List Value × (Nat × Nat)) (fun (l', _, o', _, lc', _) => Cut lc' o' l'.length (bvs l') ∧ rbPad (fillOf bl) l' = rbPad (fillOf bl) l ∧ 2 ≤ l'.length ∧ l'.length ≤ 8)
        (fun (l', b', o', cap', _, _) => [(5, .slice (some ⟨b', o', none⟩) l'.length cap')]) (fun (_, b', _, _, lc', fr') => [(b', .cells lc'.toArray 5 fr')]) (fun (l', _, _, _, _, _) => 8 - l'.length) (l, s.b, o, s.cap - o, bvs fx ++ s.rest, s.fr) ⟨hcut, rfl, hlen2, hlen8⟩ ?_ (hE := ⟨by show some (Value.slice _ (bs.length - o) _) = _; rw [hdl], trivial⟩)
      rintro ⟨l', b', o', cap', lc', fr'⟩ ⟨hcut', hpad, h2, h8⟩
      refine goW ?_
      refine KW_if rfl (fun h => ?_) (fun h => ?_)
      · refine goW ?_
        refine a_slit fun b3 => ?_
        refine goL ?_
        refine KL_m (.none rfl) rfl (m_append (sv := some ⟨b3, 1, [], (0, 0)⟩) (zl := [_]) (xs := [bv (fillOf bl)]) (news := bvs l') (m := l'.length) (len := 1) (Lr := [(b', .cells lc'.toArray 5 fr')]) rfl rfl rfl rfl (List.Perm.refl _) ⟨rfl, rfl, Nat.le_refl _, Thaw.zero _⟩ (Src.cut (.own (.tail _ (.head _))) (by show Cut lc' o' (l'.length * 1) _; rw [Nat.mul_one]; exact hcut') (oneCells_bvs _)) (by omega) (by omega) Nat.one_pos) fun sv' hsv' => ?_
        obtain ⟨hok', _⟩ := hsv'
        obtain ⟨s', rfl⟩ := sl_some hok' (by omega)
        refine goL ?_
        refine KQ_perm List.perm_append_comm ?_
        refine KQ_drop (L1 := [_]) ?_
        have hx : (fillOf bl :: l').length = 1 + l'.length := by simp; omega
        refine a_next (fillOf bl :: l', s'.b, 0, s'.cap, bvs (fillOf bl :: l') ++ s'.rest, s'.fr) ⟨Cut_pre _ _, ?_, by simp; omega, by simp; omega⟩ (by show 8 - (l'.length + 1) < 8 - l'.length; omega) ?_
        · rw [← hpad, rbPad, rbPad, show 8 - l'.length = 8 - (fillOf bl :: l').length + 1 by simp; omega, List.replicate_succ', List.append_assoc]; rfl
        · exact ⟨by show some (slV (1 + l'.length) (some s')) = some (Value.slice (some ⟨s'.b, 0, none⟩) (fillOf bl :: l').length s'.cap); rw [hx]; rfl, by (repeat (first | exact trivial | refine ⟨rfl, ?_⟩)); done⟩
      · have hpl : rbPad (fillOf bl) l' = l' := by rw [rbPad, show 8 - l'.length = 0 by omega]; rfl
        rw [hpl] at hpad
        rw [← hpad] at hr
        obtain ⟨d, l2, rfl⟩ : ∃ d l2, l' = d :: l2 := by
          cases l' with
          | nil => simp at h2
          | cons d l2 => exact ⟨d, l2, rfl⟩
        have hc0' := Cut.at hcut' (bvs_at (bs := d :: l2) (j := 0) rfl)
        have hd255 := d.toNat_lt
        have hl8 : (d :: l2).length = 8 := by omega
        have hgd : decide ((128 : Int) ≤ (d.toNat : Int)) = hb d := by
          unfold YtjeaofabpfgngaaDoor.hb
          by_cases h : 128 ≤ d.toNat
          · rw [decide_eq_true h, decide_eq_true (by omega)]
          · rw [decide_eq_false h, decide_eq_false (by omega)]
        replace hr : refBinary bs = if hb d = bl then (IntKind.i64.wrap (be (d :: l2)), 0) else (0, 121) := hr
        refine goW ?_
        refine a_ld hc0' ?_
        refine KL_p (.none rfl) rfl (hgd ▸ p_geq rfl rfl) ?_
        by_cases hbb : hb d = bl
        · rw [if_pos hbb] at hr
          subst hbb
          refine goL ?_
          refine KW_no rfl (by simp) ?_
          refine goW ?_
          refine a_loopK (α := Nat × Nat) (fun (i, m) => i ≤ 8 ∧ m = be ((d :: l2).take i)) (fun (i, m) => [(10, i64 i), (9, .int .u64 m)]) (fun _ => [(b', .cells lc'.toArray 5 fr')]) (fun (i, _) => 8 - i) (0, 0) ⟨by omega, rfl⟩ ?_
          rintro ⟨i, m⟩ ⟨hi, hm⟩
          refine goW ?_
          refine KW_if rfl (fun h => ?_) (fun h => ?_)
          · have hi' : i < (d :: l2).length := by omega
            have hci := Cut.at hcut' (bvs_at (List.getElem?_eq_getElem hi'))
            have hs := be_snoc hi'
            have hlt := be_lt ((d :: l2).take i)
            rw [List.length_take, Nat.min_eq_left (by omega)] at hlt
            have hp : 256 ^ i ≤ 256 ^ 7 := Nat.pow_le_pow_right (by omega) (by omega)
            rw [show (256 : Nat) ^ 7 = 72057594037927936 by decide] at hp
            rw [← hm] at hs hlt
            have hx255 := (d :: l2)[i].toNat_lt
            generalize (d :: l2)[i] = x at *
            refine goW ?_
            refine a_ld hci ?_
            refine goL ?_
            exact a_next (i + 1, m * 256 + x.toNat) ⟨by omega, by rw [hs]⟩ (by show 8 - (i + 1) < 8 - i; omega)
          · obtain rfl : i = 8 := by omega
            rw [← hl8, List.take_length] at hm
            refine goW ?_
            refine a_ret2 ?_
            rw [hr, hm]
        · rw [if_neg hbb] at hr
          refine goL ?_
          refine KW_yes rfl (by simpa using hbb) ?_
          refine goW ?_
          refine a_ret2 ?_
          rw [hr]

/-! ### PutBinary, PutNumber, digits -/
def u64v (v : Int) : Int := v % 18446744073709551616
set_option maxRecDepth 10000 in
set_option maxHeartbeats 1000000 in
theorem refPutBinary_any (F : Fr) (n : Int) (h : Fits .i64 n) (w : Nat) (h1 : 2 ≤ w) (h2 : w ≤ 512) : Does Tryd.prog 75 [i64 n, i64 w] F [] (FieldR (refBinField n w)) := by
  simp only [Fits] at h
  refine Does_of (n := 62) Tryd.func75 rfl rfl (by simp) ?_
  refine goW ?_
  refine a_call (width_any _ w h1 h2) ?_
  rintro v L' ⟨rfl, rfl⟩
  refine goL ?_
  refine KL_m (.none rfl) rfl (m_make rfl rfl rfl (by omega) (by omega) (by omega) (by omega)) fun b _ => ?_
  refine goL ?_
  have e0 : IntKind.u64.wrap n = u64v n := by
    simp [IntKind.wrap, IntKind.bits, IntKind.signed, u64v]
  refine a_loopK (α := Nat × Int × List UInt8 × Int) (fun (i, v, suf, j) => j = (i : Int) - 1 ∧ i + suf.length = w ∧ beGo i v suf = beGo w n [] ∧ -9223372036854775808 ≤ v ∧ v ≤ 9223372036854775807 ∧ (v < 0 ↔ n < 0))
    (fun (_, v, _, j) => [(8, i64 j), (7, .int .u64 (u64v v))])
    (fun (i, _, suf, _) => [(b, .cells (arrZ i suf).toArray 5 (0, 0))]) (fun (i, _, _, _) => i) (w, n, [], (w : Int) - 1) ⟨rfl, rfl, rfl, by omega, by omega, Iff.rfl⟩ ?_ (hE := ⟨rfl, congrArg (fun z => some (Value.int .u64 z)) e0, trivial⟩) (hL := by simp [arrZ, bvs])
  rintro ⟨i, v, suf, j⟩ ⟨hj, hi, hv, hv1, hv2, hv3⟩
  refine goW ?_
  refine KW_if rfl (fun h3 => ?_) (fun h3 => ?_)
  · obtain ⟨i, rfl⟩ : ∃ j, i = j + 1 := ⟨i - 1, by omega⟩
    obtain rfl : j = i := by omega
    have el : IntKind.u8.wrap (u64v v) = ((lowByte v).toNat : Int) := by
      rw [← lowByte_val]
      simp only [IntKind.wrap, IntKind.bits, IntKind.signed, u64v]
      simp
    have e3 : Int.fdiv (u64v v) (2 ^ min (Int.toNat 8) IntKind.u64.bits) = u64v v / 256 := by
      rw [show (2 : Int) ^ min (Int.toNat 8) IntKind.u64.bits = 256 from by decide +kernel, Int.fdiv_eq_ediv_of_nonneg _ (by decide)]
    have e4 : Int.fdiv v 256 = v / 256 := Int.fdiv_eq_ediv_of_nonneg _ (by decide)
    have hu0 : 0 ≤ u64v v ∧ u64v v < 18446744073709551616 := by unfold u64v; omega
    refine goW ?_
    rw [el]
    refine a_st (arrZ_patch (c := lowByte v)) ?_
    refine goL ?_
    refine a_pure (e3 ▸ p_shr rfl rfl (by omega)) ?_
    by_cases hn : n < 0
    · have e5 : u64v v / 256 + 18374686479671623680 = u64v (v / 256) := by
        have := hv3.2 hn
        unfold u64v; omega
      refine goL ?_
      refine a_next (i, Int.fdiv v 256, lowByte v :: suf, (i : Int) - 1) ⟨rfl, by simp; omega, hv, by omega, by omega, by rw [e4]; omega⟩ (by show i < i + 1; omega) (hE := ⟨rfl, ?_, by (repeat (first | exact trivial | refine ⟨rfl, ?_⟩)); done⟩)
      show some (Value.int .u64 (u64v v / 256 + 18374686479671623680)) = some (Value.int .u64 (u64v (Int.fdiv v 256)))
      rw [e5, e4]
    · have e5 : u64v v / 256 = u64v (v / 256) := by
        have : ¬ v < 0 := fun h => hn (hv3.1 h)
        unfold u64v; omega
      refine goL ?_
      refine a_next (i, Int.fdiv v 256, lowByte v :: suf, (i : Int) - 1) ⟨rfl, by simp; omega, hv, by omega, by omega, by rw [e4]; omega⟩ (by show i < i + 1; omega) (hE := ⟨rfl, ?_, by (repeat (first | exact trivial | refine ⟨rfl, ?_⟩)); done⟩)
      show some (Value.int .u64 (u64v v / 256)) = some (Value.int .u64 (u64v (Int.fdiv v 256)))
      rw [e5, e4]
  · obtain rfl : i = 0 := by omega
    obtain rfl : suf = beGo w n [] := hv
    have hlen := beGo_length w n []
    unfold FieldR refBinField
    have hrb : refBytes n w = match beGo w n [] with
      | [] => []
      | c :: r => if 0 ≤ n ∧ c.toNat < 64 then (c + 128) :: r else c :: r := rfl
    generalize beGo w n [] = bs at *
    obtain ⟨c, r, rfl⟩ : ∃ c r, bs = c :: r := by
      cases bs with
      | nil => simp at hlen; omega
      | cons c r => exact ⟨c, r, rfl⟩
    have hrl : r.length + 1 = w := by simpa using hlen
    have hrb' : refBytes n w = if 0 ≤ n ∧ c.toNat < 64 then (c + 128) :: r else c :: r := hrb
    have hbl : (refBytes n w).length = w := by
      rw [hrb']
      split <;> simpa using hrl
    have hc255 := c.toNat_lt
    have hb0 : (arrZ 0 (c :: r))[0]? = some (bv c) := rfl
    have harr : arrZ 0 (c :: r) = bvs (c :: r) := by simp [arrZ]
    by_cases hn : 0 ≤ n
    · by_cases h64 : c.toNat < 64
      · have hrb2 : refBytes n w = (c + 128) :: r := by rw [hrb', if_pos ⟨hn, h64⟩]
        have hv : ((c.toNat : Int) + 128) = ((c + 128).toNat : Int) := by
          rw [UInt8.toNat_add]; simp; omega
        refine goW ?_
        refine KL_reL (L' := [(b, .cells (bvs (refBytes n w)).toArray 5 (0, 0))]) (by rw [hrb2]; show [(b, Obj.cells (Value.int .u8 ((c.toNat : Int) + 128) :: _).toArray 5 (0, 0))] = _; rw [hv]; simp; rfl) ?_
        generalize refBytes n w = R at hbl ⊢
        have hc2 : Cut (bvs R) 0 R.length (bvs R) := Cut_all _
        rw [← hbl]
        refine a_call (refBinary_any _ b 0 R.length R (.inr (.head _)) hc2 (by omega) (by omega)) ?_
        rintro v' L' ⟨rfl, rfl⟩
        by_cases h4 : (refBinary R).2 ≠ 0
        · rw [if_pos (.inl h4)]
          refine goL ?_
          refine KQ_clear ?_
          refine a_ret2 ⟨rfl, rfl⟩
        by_cases h5 : (refBinary R).1 ≠ n
        · rw [if_pos (.inr h5)]
          refine goL ?_
          refine KQ_clear ?_
          refine a_ret2 ⟨rfl, rfl⟩
        rw [if_neg (fun hh => hh.elim h4 h5)]
        refine goL ?_
        refine a_ret2 ⟨_, ⟨⟨b, R.length, [], (0, 0)⟩, ⟨by simp [bvs_length], by simp [bvs_length], Nat.le_refl _, Thaw.zero _⟩, rfl, by simp [slL]⟩, rfl⟩
      · have hrb2 : refBytes n w = c :: r := by rw [hrb', if_neg (fun hh => h64 hh.2)]
        refine goW ?_
        refine KL_reL (L' := [(b, .cells (bvs (refBytes n w)).toArray 5 (0, 0))]) (by show [(b, Obj.cells (arrZ 0 (c :: r)).toArray 5 (0, 0))] = _; rw [harr, hrb2]) ?_
        generalize refBytes n w = R at hbl ⊢
        have hc2 : Cut (bvs R) 0 R.length (bvs R) := Cut_all _
        rw [← hbl]
        refine a_call (refBinary_any _ b 0 R.length R (.inr (.head _)) hc2 (by omega) (by omega)) ?_
        rintro v' L' ⟨rfl, rfl⟩
        by_cases h4 : (refBinary R).2 ≠ 0
        · rw [if_pos (.inl h4)]
          refine goL ?_
          refine KQ_clear ?_
          refine a_ret2 ⟨rfl, rfl⟩
        by_cases h5 : (refBinary R).1 ≠ n
        · rw [if_pos (.inr h5)]
          refine goL ?_
          refine KQ_clear ?_
          refine a_ret2 ⟨rfl, rfl⟩
        rw [if_neg (fun hh => hh.elim h4 h5)]
        refine goL ?_
        refine a_ret2 ⟨_, ⟨⟨b, R.length, [], (0, 0)⟩, ⟨by simp [bvs_length], by simp [bvs_length], Nat.le_refl _, Thaw.zero _⟩, rfl, by simp [slL]⟩, rfl⟩
    · have hrb2 : refBytes n w = c :: r := by rw [hrb', if_neg (fun hh => hn hh.1)]
      refine goW ?_
      refine KL_reL (L' := [(b, .cells (bvs (refBytes n w)).toArray 5 (0, 0))]) (by show [(b, Obj.cells (arrZ 0 (c :: r)).toArray 5 (0, 0))] = _; rw [harr, hrb2]) ?_
      generalize refBytes n w = R at hbl ⊢
      have hc2 : Cut (bvs R) 0 R.length (bvs R) := Cut_all _
      rw [← hbl]
      refine a_call (refBinary_any _ b 0 R.length R (.inr (.head _)) hc2 (by omega) (by omega)) ?_
      rintro v' L' ⟨rfl, rfl⟩
      by_cases h4 : (refBinary R).2 ≠ 0
      · rw [if_pos (.inl h4)]
        refine goL ?_
        refine KQ_clear ?_
        refine a_ret2 ⟨rfl, rfl⟩
      by_cases h5 : (refBinary R).1 ≠ n
      · rw [if_pos (.inr h5)]
        refine goL ?_
        refine KQ_clear ?_
        refine a_ret2 ⟨rfl, rfl⟩
      rw [if_neg (fun hh => hh.elim h4 h5)]
      refine goL ?_
      refine a_ret2 ⟨_, ⟨⟨b, R.length, [], (0, 0)⟩, ⟨by simp [bvs_length], by simp [bvs_length], Nat.le_refl _, Thaw.zero _⟩, rfl, by simp [slL]⟩, rfl⟩

/-- PutNumber; digits. -/
def refNum (n : Int) (w : Nat) : Option (List UInt8) :=
  match refOct n w with
  | some bs => some bs
  | none => refBinField n w
theorem refPutNumber_any (F : Fr) (n : Int) (h : Fits .i64 n) (w : Nat) (h1 : 2 ≤ w) (h2 : w ≤ 512) : Does Tryd.prog 59 [i64 n, i64 w] F [] (FieldR (refNum n w)) := by
  refine Does_of (n := 23) Tryd.func59 rfl rfl (by simp) ?_
  refine goW ?_
  refine a_call (refPutOctal_any _ n h w h1 h2) ?_
  intro v L' hv
  unfold refNum
  unfold FieldR at hv
  generalize refOct n w = f at *
  cases f with
  | none =>
    obtain ⟨rfl, rfl⟩ := hv
    refine goL ?_
    refine a_call (refPutBinary_any _ n h w h1 h2) ?_
    intro v L' hv
    dsimp only
    unfold FieldR at hv ⊢
    generalize refBinField n w = f at *
    cases f with
    | none =>
      obtain ⟨rfl, rfl⟩ := hv
      refine goL ?_
      refine a_ret2 ⟨rfl, rfl⟩
    | some bs =>
      obtain ⟨s, hs, rfl⟩ := hv
      refine goL ?_
      refine a_ret2 ⟨s, by simpa using hs, rfl⟩
  | some bs =>
    obtain ⟨s, hs, rfl⟩ := hv
    refine goL ?_
    refine a_ret2 ⟨s, by simpa using hs, rfl⟩

/-- The digits of a number by the form: what the program has, none of a number below 0 that may not be so. -/
def digF (form n : Int) (w : Nat) (below : Bool) : Option (List UInt8) := if n < 0 ∧ below = false then none else formField form n w
theorem refNum_eq (n : Int) (h : Fits .i64 n) (w : Nat) (hw : w = 8 ∨ w = 12) : refNum n w = numField n w := by
  unfold refNum numField
  rw [refOct_eq _ _ (by omega), refBinField_eq n h w hw]
  rfl
theorem FieldR_B {f : Option (List UInt8)} {v : Value} {L : Bl} (h : FieldR f v L) : ∃ s e, v = .tuple #[s, i64 e] ∧ TxtB f (.tuple #[s, .bool (decide (e = 0))]) L := by
  unfold FieldR at h
  unfold TxtB
  cases f with
  | none => obtain ⟨rfl, rfl⟩ := h; exact ⟨_, _, rfl, rfl, rfl⟩
  | some bs => obtain ⟨s, hs, rfl⟩ := h; exact ⟨_, _, rfl, s, hs, rfl⟩
theorem TxtB.app {f : Option (List UInt8)} {v : Value} {L L2 : Bl} (h : TxtB f v L) (h2 : L2 = []) : TxtB f v (L ++ L2) := by subst h2; simpa using h
theorem digits_any (F : Fr) (h : Hdr) (a n : Int) (hn : Fits .i64 n) (w : Nat) (hw : w = 8 ∨ w = 12) (below : Bool) :
    Does Tryd.prog 30 [.agg (hdrCells h).toArray, .agg #[i64 a, i64 w, i64 n, .bool below]] F [] (TxtB (digF h.form n w below)) := by
  refine Does_of (n := 45) Tryd.func30 rfl rfl (by simp) ?_
  refine goW ?_
  refine a_box fun b1 => ?_
  refine a_box fun b2 => ?_
  by_cases hneg : n < 0 ∧ below = false
  · obtain ⟨hneg1, rfl⟩ := hneg
    refine goL ?_
    refine KQ_clear ?_
    refine a_ret2 ?_
    unfold TxtB digF
    rw [if_pos ⟨hneg1, rfl⟩]
    exact ⟨rfl, rfl⟩
  have hdig : digF h.form n w below = formField h.form n w := by rw [digF, if_neg hneg]
  rw [hdig]
  have main : ∀ {q : Prop}, (n < 0 → below = true → q) → (¬ n < 0 → q) → q := fun h1 h2 => by
    by_cases hlt : n < 0
    · refine h1 hlt ?_
      cases below
      · exact absurd ⟨hlt, rfl⟩ hneg
      · rfl
    · exact h2 hlt
  unfold formField
  by_cases h3 : h.form = 3
  · rw [if_pos h3, ← refNum_eq n hn w hw]
    refine main (fun hlt hb => ?_) (fun hlt => ?_)
    · subst hb
      refine goL ?_
      refine a_call (refPutNumber_any _ n hn w (by omega) (by omega)) ?_
      intro v L' hv
      obtain ⟨s, e, rfl, ht⟩ := FieldR_B hv
      refine goL ?_
      refine KQ_perm List.perm_append_comm ?_
      refine KQ_drop (L1 := [_, _]) ?_
      exact a_ret2 ht
    · refine goL ?_
      refine a_call (refPutNumber_any _ n hn w (by omega) (by omega)) ?_
      intro v L' hv
      obtain ⟨s, e, rfl, ht⟩ := FieldR_B hv
      refine goL ?_
      refine KQ_perm List.perm_append_comm ?_
      refine KQ_drop (L1 := [_, _]) ?_
      exact a_ret2 ht
  · rw [if_neg h3, ← refOct_eq n w (by omega)]
    refine main (fun hlt hb => ?_) (fun hlt => ?_)
    · subst hb
      refine goL ?_
      refine a_call (refPutOctal_any _ n hn w (by omega) (by omega)) ?_
      intro v L' hv
      obtain ⟨s, e, rfl, ht⟩ := FieldR_B hv
      refine goL ?_
      refine KQ_perm List.perm_append_comm ?_
      refine KQ_drop (L1 := [_, _]) ?_
      exact a_ret2 ht
    · refine goL ?_
      refine a_call (refPutOctal_any _ n hn w (by omega) (by omega)) ?_
      intro v L' hv
      obtain ⟨s, e, rfl, ht⟩ := FieldR_B hv
      refine goL ?_
      refine KQ_perm List.perm_append_comm ?_
      refine KQ_drop (L1 := [_, _]) ?_
      exact a_ret2 ht
end Go.Proofs.YtjeaofabpfgngaaDoor
