/-
  Texts read, sums checked, by the program and by the reference.
  No condition.
-/
import Derived.Test.YtjeaofabpfgngaaDoorA31
namespace Go.Proofs.YtjeaofabpfgngaaDoor
open Go.KE

/-! ### texts -/
def preZ : List UInt8 → List UInt8
  | [] => []
  | c :: r => if c.toNat = 0 then [] else c :: preZ r
def textOf (bs : List UInt8) : ByteArray := ⟨(preZ bs).toArray⟩
theorem Cut.pre {l cs : List Value} {o k : Nat} (h : Cut l o k cs) : ∀ i, i ≤ k → Cut l o i (cs.take i) := by
  induction h with
  | nil =>
    intro i hi
    obtain rfl : i = 0 := by omega
    exact .nil
  | cons h ih =>
    intro i hi
    cases i with
    | zero => exact .nil
    | succ i => exact .cons (ih i (by omega))
  | skip h ih => intro i hi; exact .skip (ih i hi)
theorem preZ_take : ∀ bs : List UInt8, preZ bs = bs.take (preZ bs).length ∧ (preZ bs).length ≤ bs.length
  | [] => by simp [preZ]
  | c :: r => by
    rw [preZ]
    split
    · simp
    · obtain ⟨h1, h2⟩ := preZ_take r
      refine ⟨?_, by simpa using h2⟩
      simp only [List.length_cons, List.take_succ_cons]
      rw [← h1]
theorem preZ_index : ∀ bs : List UInt8, (0 ≤ Lib.indexByte bs 0 → Lib.indexByte bs 0 = (preZ bs).length ∧ (preZ bs).length < bs.length) ∧ (Lib.indexByte bs 0 < 0 → Lib.indexByte bs 0 = -1 ∧ preZ bs = bs)
  | [] => by simp [Lib.indexByte, preZ]
  | c :: r => by
    obtain ⟨h1, h2⟩ := preZ_index r
    by_cases h0 : c = 0
    · subst h0; simp [Lib.indexByte, preZ]
    · have hn : c.toNat ≠ 0 := fun e => h0 (UInt8.toNat_inj.1 e)
      have e : Lib.indexByte (c :: r) 0 = if Lib.indexByte r 0 = -1 then -1 else Lib.indexByte r 0 + 1 := by
        simp [Lib.indexByte, h0]
      rw [e, preZ, if_neg hn]
      by_cases hi : 0 ≤ Lib.indexByte r 0
      · have := h1 hi
        rw [if_neg (by omega)]
        refine ⟨fun _ => ⟨by simp; omega, by simp; omega⟩, fun h => by omega⟩
      · obtain ⟨h3, h4⟩ := h2 (by omega)
        rw [if_pos h3]
        refine ⟨fun h => by omega, fun _ => ⟨rfl, by rw [h4]⟩⟩

theorem refTextOf_any (F : Fr) (b : Nat) {lc : List Value} {t : TypeId} {fr : Nat × Nat} (hF : F.mem b (.cells lc.toArray t fr)) (o cap : Nat) (bs : List UInt8) (hc : Cut lc o bs.length (bvs bs)) (hcap : bs.length ≤ cap) (hl : bs.length ≤ 1000) :
    Does Tryd.prog 39 [.slice (some ⟨b, o, none⟩) bs.length cap] F [] (fun v L' => L' = [] ∧ v = .string (textOf bs)) := by
  refine Does_of (n := 21) Tryd.func39 rfl rfl (by simp) ?_
  refine goW ?_
  refine a_loopK (α := Nat) (fun i => i ≤ bs.length ∧ preZ bs = bs.take i ++ preZ (bs.drop i)) (fun i => [(3, i64 i)]) (fun _ => []) (fun i => bs.length - i) 0 ⟨Nat.zero_le _, by simp⟩ ?_
  rintro i ⟨hi, hv⟩
  refine goW ?_
  refine KW_if rfl (fun h => ?_) (fun h => ?_)
  · have hlt : i < bs.length := by omega
    have hci := Cut.at hc (bvs_at (List.getElem?_eq_getElem hlt))
    have hts : bs.take (i + 1) = bs.take i ++ [bs[i]] := List.take_succ_eq_append_getElem hlt
    rw [List.drop_eq_getElem_cons hlt, preZ] at hv
    generalize bs[i] = c at *
    have hc255 := c.toNat_lt
    refine goW ?_
    refine a_ld hci ?_
    by_cases h0 : c.toNat = 0
    · rw [if_pos h0, List.append_nil] at hv
      have hpre := Cut.pre hc i (by omega)
      rw [bvs_take] at hpre
      have hlen : (bs.take i).length = i := by rw [List.length_take]; omega
      refine goL ?_
      refine a_pure (p_string (bs := bs.take i) rfl (.fr hF) hpre) ?_
      refine goL ?_
      exact a_ret1 ⟨rfl, by rw [textOf, hv]⟩
    · rw [if_neg h0] at hv
      refine goL ?_
      exact a_next (i + 1) ⟨by omega, by rw [hv, hts]; simp⟩ (by omega)
  · obtain rfl : i = bs.length := by omega
    rw [List.drop_length, List.take_length] at hv
    have hv2 : preZ bs = bs := by rw [hv]; simp [preZ]
    refine goW ?_
    refine a_pure (p_string (bs := bs) rfl (.fr hF) hc) ?_
    refine goL ?_
    exact a_ret1 ⟨rfl, by rw [textOf, hv2]⟩

theorem st_drewN {F : Fr} {L : Bl} {w : World} (h : St F L w) (q : Nat) : St F L (w.drewN q) :=
  ⟨h.fr, h.own, h.apart, h.nodup, h.os, h.tape, h.output⟩
/-- bytes.Cut at one byte 0. -/
theorem cut_any (F : Fr) (b b2 : Nat) {lc : List Value} {t t2 : TypeId} {fr fr2 : Nat × Nat} (hF : F.mem b (.cells lc.toArray t fr)) (hF2 : F.mem b2 (.cells [Value.int .u8 0].toArray t2 fr2)) (o cap : Nat) (bs : List UInt8) (hc : Cut lc o bs.length (bvs bs)) (hcap : bs.length ≤ cap) (hl : bs.length ≤ 1000) :
    Does Tryd.prog 64 [.slice (some ⟨b, o, none⟩) bs.length cap, .slice (some ⟨b2, 0, none⟩) 1 1] F [] (fun v L' => L' = [] ∧ ∃ x y, v = .tuple #[.slice (some ⟨b, o, none⟩) (preZ bs).length cap, x, y]) := by
  unfold Does
  intro w hs
  have hm := hs.fr _ _ hF
  have hm2 := hs.fr _ _ hF2
  have hcell : ∀ i, i < bs.length → w.cell? ⟨b, o + i, none⟩ = some (.int .u8 ((bs.map fun c => (c.toNat : Int)).getD i 0)) := by
    intro i hi
    rw [heap_cell hm, Cut.at hc (bvs_at (List.getElem?_eq_getElem hi))]
    simp [List.getD, hi]
  have hcell2 : w.cell? ⟨b2, 0, none⟩ = some (.int .u8 0) := by rw [heap_cell hm2]; rfl
  have hb : Lib.bytesOf (bs.map fun c => (c.toNat : Int)) = bs := by
    have e : ((fun n : Int => UInt8.ofNat n.toNat) ∘ fun c : UInt8 => (c.toNat : Int)) = id := funext fun c => by simp
    rw [Lib.bytesOf, List.map_map, e, List.map_id]
  have hidx := Tryd.bytes_Index_one b o bs.length cap b2 0 1 (bs.map fun c => (c.toNat : Int)) 0 w (by simp) hcell hcell2
  rw [hb] at hidx
  obtain ⟨h1, h2⟩ := preZ_index bs
  have hle := (preZ_take bs).2
  have hi0 : (0 : Int).toNat.toUInt8 = 0 := rfl
  rw [hi0] at hidx
  have hlo : -1 ≤ Lib.indexByte bs 0 := by
    rcases Int.lt_or_le (Lib.indexByte bs 0) 0 with h | h
    · have := (h2 h).1; omega
    · omega
  have hroom : 0 ≤ Lib.indexByte bs 0 → Lib.indexByte bs 0 + 1 ≤ bs.length := fun h => by
    have := h1 h
    omega
  refine (Tryd.bytes_Cut_of (some ⟨b, o, none⟩) (some ⟨b2, 0, none⟩) bs.length cap 1 1 (Lib.indexByte bs 0) w hcap hlo hroom (by omega) (hidx.mono fun e w' hh => ⟨hh.1, 0, hh.2⟩)).mono fun e w' hh => ?_
  obtain ⟨rfl, q, rfl⟩ := hh
  refine ⟨_, [], ⟨rfl, ?_⟩, rfl, st_drewN hs q⟩
  unfold Lib.cutV
  by_cases h : 0 ≤ Lib.indexByte bs 0
  · rw [if_pos h]
    exact ⟨Lib.fromV (some ⟨b, o, none⟩) bs.length cap ((Lib.indexByte bs 0).toNat + 1), .bool true, by rw [(h1 h).1]; rfl⟩
  · rw [if_neg h]
    obtain ⟨_, h4⟩ := h2 (by omega)
    exact ⟨.slice none 0 0, .bool false, by rw [h4]⟩
theorem textOf_any (F : Fr) (b : Nat) {lc : List Value} {t : TypeId} {fr : Nat × Nat} (hF : F.mem b (.cells lc.toArray t fr)) (o cap : Nat) (bs : List UInt8) (hc : Cut lc o bs.length (bvs bs)) (hcap : bs.length ≤ cap) (hl : bs.length ≤ 1000) :
    Does Tryd.prog 36 [.slice (some ⟨b, o, none⟩) bs.length cap] F [] (fun v L' => L' = [] ∧ v = .string (textOf bs)) := by
  obtain ⟨h1, h2⟩ := preZ_take bs
  have hpre := Cut.pre hc (preZ bs).length h2
  rw [bvs_take, ← h1] at hpre
  refine Does_clear (p := fun v => v = _) ?_
  refine Does_of (n := 15) Tryd.func36 rfl rfl (by simp) ?_
  refine goW ?_
  refine a_slit fun b2 => ?_
  refine goL ?_
  refine a_call (cut_any _ b b2 (Fr.inl hF) (Fr.inr (.head _)) o cap bs hc hcap hl) ?_
  rintro v L' ⟨rfl, x, y, rfl⟩
  refine goL ?_
  refine a_pure (p_string (bs := preZ bs) rfl (.fr hF) hpre) ?_
  refine goL ?_
  exact a_ret1 rfl

/-! ### the same, the length said in other words -/
section
variable (F : Fr) (b : Nat) {lc : List Value} {t : TypeId} {fr : Nat × Nat} (hF : F.mem b (.cells lc.toArray t fr)) (o cap : Nat) (bs : List UInt8) (n : Nat) (hn : bs.length = n) (hc : Cut lc o n (bvs bs))
include hF hn hc
theorem octal_n (hcap : n ≤ cap) (hl : n ≤ 12) : Does Tryd.prog 62 [.slice (some ⟨b, o, none⟩) n cap] F [] (fun v L' => L' = [] ∧ v = .tuple #[i64 (octal bs).1, i64 (octal bs).2]) := by
  subst hn; exact octal_any F b hF o cap bs hc hcap hl
theorem refOctal_n (hl : n ≤ 12) : Does Tryd.prog 65 [.slice (some ⟨b, o, none⟩) n cap] F [] (fun v L' => L' = [] ∧ v = .tuple #[i64 (octal bs).1, i64 (octal bs).2]) := by
  subst hn; exact refOctal_any F b hF o cap bs hc hl
theorem number_n (hcap : n ≤ cap) (hl : n ≤ 12) (hl2 : 2 ≤ n) : Does Tryd.prog 34 [.slice (some ⟨b, o, none⟩) n cap] F [] (fun v L' => L' = [] ∧ v = .tuple #[i64 (number bs).1, i64 (number bs).2]) := by
  subst hn; exact number_any F b hF o cap bs hc hcap hl hl2
theorem refNumber_n (hl : n ≤ 12) (hl2 : 2 ≤ n) : Does Tryd.prog 38 [.slice (some ⟨b, o, none⟩) n cap] F [] (fun v L' => L' = [] ∧ v = .tuple #[i64 (number bs).1, i64 (number bs).2]) := by
  subst hn; exact refNumber_any F b hF o cap bs hc hl hl2
theorem textOf_n (hcap : n ≤ cap) (hl : n ≤ 1000) : Does Tryd.prog 36 [.slice (some ⟨b, o, none⟩) n cap] F [] (fun v L' => L' = [] ∧ v = .string (textOf bs)) := by
  subst hn; exact textOf_any F b hF o cap bs hc hcap hl
theorem refTextOf_n (hcap : n ≤ cap) (hl : n ≤ 1000) : Does Tryd.prog 39 [.slice (some ⟨b, o, none⟩) n cap] F [] (fun v L' => L' = [] ∧ v = .string (textOf bs)) := by
  subst hn; exact refTextOf_any F b hF o cap bs hc hcap hl
end

/-! ### Check -/
def sub (rs : List UInt8) (o n : Nat) : List UInt8 := (rs.drop o).take n
theorem sub_len {rs : List UInt8} {o n : Nat} (h : o + n ≤ rs.length) : (sub rs o n).length = n := by simp [sub]; omega
theorem Cut_sub {rs : List UInt8} {o n : Nat} (h : o + n ≤ rs.length) : Cut (bvs rs) o n (bvs (sub rs o n)) := by
  have := Cut.mk (l := bvs rs) (o := o) (k := n) (by rw [bvs_length]; exact h)
  rwa [bvs_drop, bvs_take] at this
def checkB (rs : List UInt8) : Bool := decide ((octal (sub rs 148 8)).2 = 0) && (decide ((octal (sub rs 148 8)).1 = (sums rs).1) || decide ((octal (sub rs 148 8)).1 = (sums rs).2))
theorem check_any (F : Fr) (rs : List UInt8) (hl : rs.length = 512) : Does Tryd.prog 33 [.agg (bvs rs).toArray] F [] (fun v L' => L' = [] ∧ v = .bool (checkB rs)) := by
  have hcut : Cut (bvs rs) 0 512 (bvs rs) := hl ▸ Cut_all rs
  have hsl := sub_len (rs := rs) (o := 148) (n := 8) (by omega)
  have hcs : Cut (bvs rs) 148 8 (bvs (sub rs 148 8)) := Cut_sub (by omega)
  refine Does_clear (p := fun v => v = _) ?_
  refine Does_of (n := 29) Tryd.func33 rfl rfl (by simp) ?_
  refine goW ?_
  refine a_box fun b => ?_
  refine goL ?_
  refine a_call (octal_n _ b (Fr.inr (.head _)) 148 364 (sub rs 148 8) 8 hsl hcs (by omega) (by omega)) ?_
  rintro v L' ⟨rfl, rfl⟩
  refine goL ?_
  refine a_ldA hcut ?_
  refine a_call (sums_any _ rs hl) ?_
  rintro v L' ⟨rfl, rfl⟩
  unfold checkB
  generalize octal (sub rs 148 8) = x at *
  generalize sums rs = s at *
  by_cases h0 : x.2 = 0
  · by_cases h1 : x.1 = s.1
    · rw [decide_eq_true h0, decide_eq_true h1]
      refine goL ?_
      exact a_ret1 rfl
    · by_cases h2 : x.1 = s.2
      · rw [decide_eq_true h0, decide_eq_false h1, decide_eq_true h2]
        refine goL ?_
        exact a_ret1 rfl
      · rw [decide_eq_true h0, decide_eq_false h1, decide_eq_false h2]
        refine goL ?_
        exact a_ret1 rfl
  · rw [decide_eq_false h0]
    refine goL ?_
    exact a_ret1 rfl
theorem refCheck_any (F : Fr) (rs : List UInt8) (hl : rs.length = 512) : Does Tryd.prog 37 [.agg (bvs rs).toArray] F [] (fun v L' => L' = [] ∧ v = .bool (checkB rs)) := by
  have hcut : Cut (bvs rs) 0 512 (bvs rs) := hl ▸ Cut_all rs
  have hsl := sub_len (rs := rs) (o := 148) (n := 8) (by omega)
  have hcs : Cut (bvs rs) 148 8 (bvs (sub rs 148 8)) := Cut_sub (by omega)
  refine Does_clear (p := fun v => v = _) ?_
  refine Does_of (n := 29) Tryd.func37 rfl rfl (by simp) ?_
  refine goW ?_
  refine a_box fun b => ?_
  refine goL ?_
  refine a_ldA hcut ?_
  refine a_call (refSums_any _ rs hl) ?_
  rintro v L' ⟨rfl, rfl⟩
  refine goL ?_
  refine a_call (refOctal_n _ b (Fr.inr (.head _)) 148 364 (sub rs 148 8) 8 hsl hcs (by omega)) ?_
  rintro v L' ⟨rfl, rfl⟩
  unfold checkB
  generalize octal (sub rs 148 8) = x at *
  generalize sums rs = s at *
  by_cases h0 : x.2 = 0
  · by_cases h1 : x.1 = s.1
    · rw [decide_eq_true h0, decide_eq_true h1]
      refine goL ?_
      exact a_ret1 rfl
    · by_cases h2 : x.1 = s.2
      · rw [decide_eq_true h0, decide_eq_false h1, decide_eq_true h2]
        refine goL ?_
        exact a_ret1 rfl
      · rw [decide_eq_true h0, decide_eq_false h1, decide_eq_false h2]
        refine goL ?_
        exact a_ret1 rfl
  · rw [decide_eq_false h0]
    refine goL ?_
    exact a_ret1 rfl
end Go.Proofs.YtjeaofabpfgngaaDoor
