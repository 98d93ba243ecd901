/-
  satchel/field: Binary, PutBinary, PutNumber.
  Condition: math/bits.deBruijn64tab holds what the library's text lays.
-/
import Derived.Test.YtjeaofabpfgngaaDoorA4
import Derived.Test.YtjeaofabpfgngaaDoorK9
namespace Go.Proofs.YtjeaofabpfgngaaDoor
open Go.KE

def binB (pad : Int) (i : Nat) (c : UInt8) : Int :=
  if i = 0 then bitsOf .or .u8 (bitsOf .andNot .u8 c.toNat 128) (bitsOf .and .u8 pad 128) else c.toNat
def binV (v b : Int) : Int := bitsOf .or .i64 (IntKind.i64.wrap (v * 256)) (IntKind.i64.wrap b)
def binGo (pad : Int) (m : Nat) : Nat → List UInt8 → Int → Option Int
  | _, [], v => some v
  | i, c :: r, v =>
    if (m : Int) - i > 8 ∧ binB pad i c ≠ pad then none
    else if (m : Int) - i = 8 ∧ bitsOf .and .u8 (bitsOf .xor .u8 (binB pad i c) pad) 128 ≠ 0 then none
    else binGo pad m (i + 1) r (binV v (binB pad i c))
/-- field.Binary: the value and the code. -/
def binary (bs : List UInt8) : Int × Int :=
  match bs with
  | [] => (0, 120)
  | c :: r =>
    if r.length = 0 ∨ bitsOf .and .u8 c.toNat 128 = 0 then (0, 120)
    else match (if bitsOf .and .u8 c.toNat 64 ≠ 0 then binGo 255 (r.length + 1) 0 (c :: r) (-1) else binGo 0 (r.length + 1) 0 (c :: r) 0) with
      | none => (0, 121)
      | some v => (v, 0)

theorem Cut.at {l cs : List Value} {o k j : Nat} {v : Value} (h : Cut l o k cs) (hj : cs[j]? = some v) : l[o + j]? = some v := h.get.2 j v hj
theorem bvs_at {bs : List UInt8} {j : Nat} {c : UInt8} (h : bs[j]? = some c) : (bvs bs)[j]? = some (.int .u8 c.toNat) := by
  simp [bvs, h]; rfl

set_option maxHeartbeats 1000000 in
theorem binary_any (F : Fr) (b o cap : Nat) (bs : List UInt8) {l : List Value} {t : TypeId} {fr : Nat × Nat} (hF : F.mem b (.cells l.toArray t fr)) (hc : Cut l o bs.length (bvs bs)) (hl : 2 ≤ bs.length) (hl2 : bs.length ≤ 512) :
    Does Tryd.prog 63 [.slice (some ⟨b, o, none⟩) bs.length cap] F [] (fun v L' => L' = [] ∧ v = .tuple #[i64 (binary bs).1, i64 (binary bs).2]) := by
  obtain ⟨c, r, rfl⟩ : ∃ c r, bs = c :: r := by
    cases bs with
    | nil => simp at hl
    | cons c r => exact ⟨c, r, rfl⟩
  have h0 := Cut.at hc (bvs_at (bs := c :: r) (j := 0) rfl)
  have hc255 := c.toNat_lt
  refine Does_of (n := 66) Tryd.func63 rfl rfl (by simp) ?_
  refine goW ?_
  refine goL ?_
  refine KL_p (.some rfl rfl rfl) rfl (p_load rfl (.fr hF) h0) ?_
  refine KL_p (.some rfl rfl rfl) rfl (p_and rfl rfl) ?_
  by_cases h1 : bitsOf .and .u8 c.toNat 128 = 0
  · refine goL ?_
    refine a_ret2 ⟨rfl, ?_⟩
    simp [binary, h1]
  refine goL ?_
  refine KL_p (.none rfl) rfl (p_load rfl (.fr hF) h0) ?_
  refine KL_p (.none rfl) rfl (p_and rfl rfl) ?_
  refine goL ?_
  refine a_join (α := Int × Int) (fun (pad, v0) => binary (c :: r) = match binGo pad (c :: r).length 0 (c :: r) v0 with | none => (0, 121) | some v => (v, 0))
    (fun (pad, v0) => [(4, i64 v0), (5, .int .u8 pad), (0, .slice (some ⟨b, o, none⟩) (c :: r).length cap)]) (fun _ => []) ?_ ?_
  · have hr : r.length ≠ 0 := by simp at hl; omega
    refine KW_if rfl (fun h2 => ?_) (fun h2 => ?_)
    · refine goW ?_
      refine a_met (255, -1) ?_
      simp only [binary, h1, hr, h2, or_self, if_false, if_true, ne_eq, not_false_iff]; rfl
    · refine goW ?_
      refine a_met (0, 0) ?_
      simp only [binary, h1, hr, h2, or_self, if_false]; rfl
  rintro ⟨pad, v0⟩ hbin
  generalize c :: r = bs at *
  clear h0 h1
  refine goQ ?_
  refine a_loop (α := Nat × Int) (fun (i, v) => i ≤ bs.length ∧ binGo pad bs.length i (bs.drop i) v = binGo pad bs.length 0 bs v0)
    (fun (i, v) => [(25, i64 i), (24, i64 bs.length), (23, .slice (some ⟨b, o, none⟩) bs.length cap), (0, .slice (some ⟨b, o, none⟩) bs.length cap), (4, i64 v), (5, .int .u8 pad)])
    (fun _ => []) (fun (i, _) => bs.length - i) (0, v0) ⟨by omega, rfl⟩ ?_
  rintro ⟨i, v⟩ ⟨hi, hv⟩
  refine goW ?_
  refine KW_if rfl (fun h => ?_) (fun h => ?_)
  · have hi' : i < bs.length := by omega
    have hci := Cut.at hc (bvs_at (List.getElem?_eq_getElem hi'))
    have hdr : bs.drop i = bs[i] :: bs.drop (i + 1) := List.drop_eq_getElem_cons hi'
    rw [hdr] at hv
    simp only [binGo] at hv
    generalize bs[i] = x at *
    have hx255 := x.toNat_lt
    refine goW ?_
    refine KL_p (.none rfl) rfl (p_load rfl (.fr hF) hci) ?_
    refine goL ?_
    refine a_join (α := Unit) (fun _ => True) (fun _ => [(7, .int .u8 (binB pad i x)), (6, i64 i), (25, i64 i), (24, i64 bs.length), (23, .slice (some ⟨b, o, none⟩) bs.length cap), (0, .slice (some ⟨b, o, none⟩) bs.length cap), (4, i64 v), (5, .int .u8 pad)]) (fun _ => []) ?_ ?_
    · refine KW_if rfl (fun h3 => ?_) (fun h3 => ?_)
      · have e : bitsOf .or .u8 (bitsOf .andNot .u8 x.toNat 128) (bitsOf .and .u8 pad 128) = binB pad i x := by
          rw [binB, if_pos (by omega)]
        refine goW ?_
        refine KL_p (.none rfl) rfl (p_andNot rfl rfl) ?_
        refine goL ?_
        refine KL_p (.none rfl) rfl (p_and rfl rfl) ?_
        refine KL_p (.none rfl) rfl (p_or rfl rfl) ?_
        rw [e]
        refine goL ?_
        exact a_met () trivial
      · have e : (x.toNat : Int) = binB pad i x := by
          rw [binB, if_neg (by omega)]
        rw [e]
        refine goW ?_
        exact a_met () trivial
    rintro _ -
    generalize binB pad i x = y at hv ⊢
    by_cases hA : (bs.length : Int) - i > 8 ∧ y ≠ pad
    · obtain ⟨hA1, hA2⟩ := hA
      rw [if_pos ⟨hA1, hA2⟩] at hv
      refine goQ ?_
      refine a_ret2 ⟨rfl, ?_⟩
      rw [hbin, ← hv]
    rw [if_neg hA] at hv
    have e3 : IntKind.i64.wrap (v * 2 ^ min (Int.toNat 8) IntKind.i64.bits) = IntKind.i64.wrap (v * 256) := by rw [show (2 : Int) ^ min (Int.toNat 8) IntKind.i64.bits = 256 from by decide +kernel]
    by_cases hB : (bs.length : Int) - i = 8
    · have hA0 : ¬ (bs.length : Int) - i > 8 := by omega
      refine goQ ?_
      refine KL_p (.some rfl rfl rfl) rfl (p_xor rfl rfl) ?_
      refine KL_p (.some rfl rfl rfl) rfl (p_and rfl rfl) ?_
      by_cases hC : bitsOf .and .u8 (bitsOf .xor .u8 y pad) 128 ≠ 0
      · rw [if_pos ⟨hB, hC⟩] at hv
        refine goL ?_
        refine a_ret2 ⟨rfl, ?_⟩
        rw [hbin, ← hv]
      rw [if_neg (fun hh => hC hh.2)] at hv
      refine goL ?_
      refine KL_p (.none rfl) rfl (e3 ▸ p_shl rfl rfl (by omega)) ?_
      refine goL ?_
      refine KL_p (.none rfl) rfl (p_or rfl rfl) ?_
      refine goL ?_
      refine a_next (i + 1, binV v y) ⟨by omega, hv⟩ ?_
      show bs.length - (i + 1) < bs.length - i
      omega
    · rw [if_neg (fun hh => hB hh.1)] at hv
      by_cases hA1 : (bs.length : Int) - i > 8
      · have hA2 : ¬ y ≠ pad := fun hh => hA ⟨hA1, hh⟩
        refine goQ ?_
        refine KL_p (.none rfl) rfl (e3 ▸ p_shl rfl rfl (by omega)) ?_
        refine goL ?_
        refine KL_p (.none rfl) rfl (p_or rfl rfl) ?_
        refine goL ?_
        refine a_next (i + 1, binV v y) ⟨by omega, hv⟩ ?_
        show bs.length - (i + 1) < bs.length - i
        omega
      · refine goQ ?_
        refine KL_p (.none rfl) rfl (e3 ▸ p_shl rfl rfl (by omega)) ?_
        refine goL ?_
        refine KL_p (.none rfl) rfl (p_or rfl rfl) ?_
        refine goL ?_
        refine a_next (i + 1, binV v y) ⟨by omega, hv⟩ ?_
        show bs.length - (i + 1) < bs.length - i
        omega
  · have hi' : i = bs.length := by omega
    subst hi'
    rw [List.drop_length] at hv
    refine goW ?_
    refine a_ret2 ⟨rfl, ?_⟩
    rw [hbin, ← hv]; rfl
end Go.Proofs.YtjeaofabpfgngaaDoor
