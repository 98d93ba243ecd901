/-
  bytes.TrimLeft and bytes.Trim as octal fields use them.
  No condition.
-/
import Derived.Test.YtjeaofabpfgngaaDoorA28
namespace Go.Proofs.YtjeaofabpfgngaaDoor
open Go.KE

set_option maxRecDepth 10000 in
theorem trimLeft_any (F : Fr) (b : Nat) {lc : List Value} {t : TypeId} {fr : Nat × Nat} (hF : F.mem b (.cells lc.toArray t fr)) (ad : Option Addr) (cap : Nat) (l : List UInt8) (hcap : l.length ≤ cap) (hs : SlB lc b ad l) (hl : l.length ≤ 1000) :
    Does Tryd.prog 77 [.slice ad l.length cap, .string ⟨#[32]⟩] F [] (fun v L' => L' = [] ∧ SlV lc b v (dropB (isB 32) l)) := by
  have hne : ¬ (⟨#[32]⟩ : ByteArray) = ⟨#[]⟩ := by decide
  have h32 : (⟨#[32]⟩ : ByteArray).data.toList[0]? = some 32 := rfl
  refine Does_of (n := 36) Tryd.func77 rfl rfl (by simp) ?_
  by_cases h0 : l.length = 0
  · obtain rfl : l = [] := List.eq_nil_of_length_eq_zero h0
    refine goW ?_
    exact a_ret1 ⟨rfl, none, 0, rfl, Nat.le_refl _, SlB.nil⟩
  refine goW ?_
  refine a_pure (p_index_str rfl rfl (by omega) h32) ?_
  refine goL ?_
  refine a_pure (p_index_str rfl rfl (by omega) h32) ?_
  refine a_call (trimLeftByte_any _ b (Fr.inl hF) ad cap l hcap hs 32 hl) ?_
  rintro v L' ⟨rfl, hv⟩
  refine goL ?_
  exact a_ret1 ⟨rfl, hv⟩

/-! ### the set of a blank and a zero -/
def isSp (c : UInt8) : Bool := decide (c.toNat = 32 ∨ c.toNat = 0)
def setC : Nat → List Value
  | 0 => List.replicate 256 (.bool false)
  | 1 => (List.replicate 256 (.bool false)).set 32 (.bool true)
  | _ => ((List.replicate 256 (.bool false)).set 32 (.bool true)).set 0 (.bool true)
theorem setC_len (k : Nat) : (setC k).length = 256 := by unfold setC; split <;> simp only [List.length_set, List.length_replicate]
theorem patch_set {v : Value} : ∀ {l : List Value} {i : Nat}, i < l.length → Patch l i [v] (l.set i v)
  | u :: l, 0, _ => .cons .nil
  | u :: l, i + 1, h => .skip (patch_set (by simpa using h))
theorem oneCells_bools {l : List Value} (h : ∀ v ∈ l, ∃ q, v = .bool q) : oneCells l := fun v hv => by
  obtain ⟨q, rfl⟩ := h v hv; rfl
theorem setC_one (k : Nat) : oneCells (setC k) := by
  refine oneCells_bools fun v hv => ?_
  have h0 : ∀ v ∈ List.replicate 256 (Value.bool false), ∃ q, v = .bool q := fun v hv => ⟨false, (List.mem_replicate.1 hv).2⟩
  have hset : ∀ (l : List Value) (i : Nat), (∀ v ∈ l, ∃ q, v = .bool q) → ∀ v ∈ l.set i (.bool true), ∃ q, v = .bool q := fun l i h v hv => by
    rcases List.mem_or_eq_of_mem_set hv with h1 | h1
    · exact h v h1
    · exact ⟨true, h1⟩
  unfold setC at hv
  split at hv
  · exact h0 v hv
  · exact hset _ _ h0 v hv
  · exact hset _ _ (hset _ _ h0) v hv
theorem setC_get (c : UInt8) : (setC 2)[c.toNat]? = some (.bool (isSp c)) := by
  have hc := c.toNat_lt
  show ((((List.replicate 256 (Value.bool false)).set 32 (.bool true)).set 0 (.bool true)))[c.toNat]? = _
  unfold isSp
  by_cases h0 : c.toNat = 0
  · rw [h0, List.getElem?_set_self (by simp only [List.length_set, List.length_replicate]; omega), decide_eq_true (by omega)]
  · rw [List.getElem?_set_ne (by omega)]
    by_cases h1 : c.toNat = 32
    · rw [h1, List.getElem?_set_self (by simp only [List.length_replicate]; omega), decide_eq_true (by omega)]
    · rw [List.getElem?_set_ne (by omega), List.getElem?_replicate, if_pos (by omega), decide_eq_false (by omega)]

instance : TB0 Tryd.prog 121 (List.replicate 256 (.bool false)) := ⟨by kernel_rfl⟩
set_option maxRecDepth 10000 in
theorem asciiSet_any (F : Fr) : Does Tryd.prog 91 [.string ⟨#[32, 0]⟩] F [] (fun v L' => L' = [] ∧ v = .tuple #[.agg (setC 2).toArray, .bool true]) := by
  have hp1 : Patch (setC 0) 32 [.bool true] (setC 1) := patch_set (by rw [setC_len]; omega)
  have hp2 : Patch (setC 1) 0 [.bool true] (setC 2) := patch_set (by rw [setC_len]; omega)
  have hl := setC_len
  have hone := setC_one
  have hS0 : List.replicate 256 (.bool false) = setC 0 := rfl
  generalize setC = S at *
  refine Does_clear (p := fun v => v = _) ?_
  refine Does_of (n := 21) Tryd.func91 rfl rfl (by simp) ?_
  refine goW ?_
  refine a_alloc fun b => ?_
  refine goL ?_
  refine a_loopK (α := Nat) (fun i => i ≤ 2) (fun i => [(4, i64 i)]) (fun i => [(b, .cells (S i).toArray 121 (0, 0))]) (fun i => 2 - i) 0 (by omega) ?_ (hL := by rw [← hS0])
  intro i hi
  refine goW ?_
  refine KW_if rfl (fun h => ?_) (fun h => ?_)
  · have hi2 : i = 0 ∨ i = 1 := by
      have : (i : Int) < 2 := h
      omega
    rcases hi2 with rfl | rfl
    · refine goW ?_
      refine a_pure (v := .int .u8 32) (p_index_str (c := 32) rfl rfl (by omega) rfl) ?_
      refine goL ?_
      refine a_st hp1 ?_
      refine goL ?_
      exact a_next 1 (by omega) (by omega)
    · refine goW ?_
      refine a_pure (v := .int .u8 0) (p_index_str (c := 0) rfl rfl (by omega) rfl) ?_
      refine goL ?_
      refine a_st hp2 ?_
      refine goL ?_
      exact a_next 2 (by omega) (by omega)
  · obtain rfl : i = 2 := by
      have : ¬ (i : Int) < 2 := h
      omega
    have hl2 := hl 2
    have hcut : Cut (S 2) 0 256 (S 2) := by have := Cut.all (S 2); rwa [hl2] at this
    refine goW ?_
    refine a_ldA hcut ?_
    refine a_st (size := 256) (l := S 2) (cs := S 2) (l' := S 2) (Patch_all rfl) ?_ (hone 2) hl2
    refine goL ?_
    refine KQ_ret2 (.inl rfl) rfl (.agg rfl (.own (.head _)) hcut) (.tmp rfl) ?_
    rfl

theorem contains_any (F : Fr) (b : Nat) {t : TypeId} {fr : Nat × Nat} (hF : F.mem b (.cells (setC 2).toArray t fr)) (c : UInt8) : Does Tryd.prog 109 [.pointer (some ⟨b, 0, none⟩), bv c] F [] (fun v L' => L' = [] ∧ v = .bool (isSp c)) := by
  have hc := setC_get c
  have hc255 := c.toNat_lt
  refine Does_of (n := 10) Tryd.func109 rfl rfl (by simp) ?_
  refine goW ?_
  refine a_ld hc ?_
  refine goL ?_
  exact a_ret1 ⟨rfl, rfl⟩

set_option maxHeartbeats 1000000 in
theorem trimLeftSet_any (F : Fr) (b b2 : Nat) {lc : List Value} {t t2 : TypeId} {fr fr2 : Nat × Nat} (hF : F.mem b (.cells lc.toArray t fr)) (hF2 : F.mem b2 (.cells (setC 2).toArray t2 fr2)) (ad : Option Addr) (cap : Nat) (l : List UInt8) (hcap : l.length ≤ cap) (hs : SlB lc b ad l) (hl : l.length ≤ 1000) :
    Does Tryd.prog 92 [.slice ad l.length cap, .pointer (some ⟨b2, 0, none⟩)] F [] (fun v L' => L' = [] ∧ SlV lc b v (dropB isSp l)) := by
  refine Does_of (n := 20) Tryd.func92 rfl rfl (by simp) ?_
  refine goW ?_
  refine a_loopK (α := List UInt8 × Option Addr × Nat) (fun (m, ad', cap') => m.length ≤ cap' ∧ m.length ≤ 1000 ∧ SlB lc b ad' m ∧ dropB isSp m = dropB isSp l) (fun (m, ad', cap') => [(0, .slice ad' m.length cap')]) (fun _ => []) (fun (m, _, _) => m.length) (l, ad, cap) ⟨hcap, hl, hs, rfl⟩ ?_
  rintro ⟨m, ad', cap'⟩ ⟨h1, h2, h3, h4⟩
  cases m with
  | nil =>
    refine goW ?_
    refine a_ret1 ⟨rfl, ?_⟩
    rw [← h4]
    exact ⟨none, 0, rfl, Nat.le_refl _, SlB.nil⟩
  | cons c r =>
    obtain ⟨a, rfl, hc⟩ := h3 0 c rfl
    have hlen : (c :: r).length = r.length + 1 := rfl
    rw [dropB] at h4
    refine goW ?_
    refine a_ld hc ?_
    refine a_call (contains_any _ b2 (Fr.inl hF2) c) ?_
    rintro v L' ⟨rfl, rfl⟩
    cases he : isSp c
    · rw [if_neg (by rw [he]; simp)] at h4
      refine goL ?_
      refine a_ret1 ⟨rfl, ?_⟩
      rw [← h4]
      exact ⟨_, cap', rfl, h1, h3⟩
    · rw [if_pos he] at h4
      refine goL ?_
      have h5 := h3.drop 1 cap' h1
      rw [slAddr_some] at h5
      exact a_next (r, some ⟨b, a + (if Int.toNat 1 = cap' then 0 else Int.toNat 1 * 1), none⟩, cap' - 1) ⟨by omega, by omega, h5, h4⟩ (by show r.length < (c :: r).length; omega)

def trimR (p : UInt8 → Bool) (l : List UInt8) : Nat → Nat
  | 0 => 0
  | k + 1 => if p (l[k]?.getD 0) then trimR p l k else k + 1
theorem trimR_le (p : UInt8 → Bool) (l : List UInt8) : ∀ k, trimR p l k ≤ k
  | 0 => Nat.le_refl _
  | k + 1 => by
    rw [trimR]
    split
    · have := trimR_le p l k; omega
    · exact Nat.le_refl _
set_option maxHeartbeats 1000000 in
theorem trimRightSet_any (F : Fr) (b b2 : Nat) {lc : List Value} {t t2 : TypeId} {fr fr2 : Nat × Nat} (hF : F.mem b (.cells lc.toArray t fr)) (hF2 : F.mem b2 (.cells (setC 2).toArray t2 fr2)) (ad : Option Addr) (cap : Nat) (l : List UInt8) (hcap : l.length ≤ cap) (hs : SlB lc b ad l) (hl : l.length ≤ 1000) :
    Does Tryd.prog 95 [.slice ad l.length cap, .pointer (some ⟨b2, 0, none⟩)] F [] (fun v L' => L' = [] ∧ v = .slice ad (trimR isSp l l.length) cap) := by
  refine Does_of (n := 23) Tryd.func95 rfl rfl (by simp) ?_
  refine goW ?_
  refine a_loopK (α := Nat) (fun k => k ≤ l.length ∧ trimR isSp l k = trimR isSp l l.length) (fun k => [(0, .slice ad k cap)]) (fun _ => []) (fun k => k) l.length ⟨Nat.le_refl _, rfl⟩ ?_
  rintro k ⟨h1, h2⟩
  cases k with
  | zero =>
    refine goW ?_
    refine a_ret1 ⟨rfl, ?_⟩
    rw [← h2]; rfl
  | succ k =>
    have hk : k < l.length := by omega
    have hg := List.getElem?_eq_getElem hk
    obtain ⟨a, rfl, hc⟩ := hs k _ hg
    rw [trimR, hg] at h2
    simp only [Option.getD_some] at h2
    generalize l[k] = c at *
    refine goW ?_
    refine a_ld hc ?_
    refine a_call (contains_any _ b2 (Fr.inl hF2) c) ?_
    rintro v L' ⟨rfl, rfl⟩
    cases he : isSp c
    · rw [if_neg (by rw [he]; simp)] at h2
      refine goL ?_
      refine a_ret1 ⟨rfl, ?_⟩
      rw [← h2]
    · rw [if_pos he] at h2
      refine goL ?_
      exact a_next k ⟨by omega, h2⟩ (by omega)

theorem dropB_nil (p : UInt8 → Bool) : ∀ l : List UInt8, dropB p l = [] ↔ ∀ c ∈ l, p c = true
  | [] => by simp [dropB]
  | c :: r => by
    rw [dropB]
    by_cases h : p c = true
    · rw [if_pos h, dropB_nil p r]; simp [h]
    · rw [if_neg h]; simp [h]
theorem trimR_all (p : UInt8 → Bool) (l : List UInt8) : ∀ k, k ≤ l.length → ((∀ c ∈ l.take (trimR p l k), p c = true) ↔ ∀ c ∈ l.take k, p c = true)
  | 0, _ => by simp [trimR]
  | k + 1, h => by
    have hk : k < l.length := by omega
    rw [trimR, List.getElem?_eq_getElem hk, Option.getD_some]
    split
    · rename_i hp
      rw [trimR_all p l k (by omega), List.take_succ_eq_append_getElem hk]
      simp only [List.mem_append, List.mem_singleton]
      refine ⟨fun hh c hc => ?_, fun hh c hc => hh c (.inl hc)⟩
      rcases hc with hc | rfl
      · exact hh c hc
      · exact hp
    · exact Iff.rfl

set_option maxRecDepth 10000 in
/-- bytes.Trim of blanks and zeros: whether anything else is left. -/
theorem trim_any (F : Fr) (b : Nat) {lc : List Value} {t : TypeId} {fr : Nat × Nat} (hF : F.mem b (.cells lc.toArray t fr)) (ad : Option Addr) (cap : Nat) (l : List UInt8) (hcap : l.length ≤ cap) (hs : SlB lc b ad l) (hl : l.length ≤ 1000) :
    Does Tryd.prog 78 [.slice ad l.length cap, .string ⟨#[32, 0]⟩] F [] (fun v L' => L' = [] ∧ ∃ ad' m cap', v = .slice ad' m cap' ∧ (0 < m ↔ ∃ c ∈ l, isSp c = false)) := by
  have hne : ¬ (⟨#[32, 0]⟩ : ByteArray) = ⟨#[]⟩ := by decide
  have h2 : (⟨#[32, 0]⟩ : ByteArray).size = 2 := rfl
  refine Does_clear (p := fun v => ∃ ad' m cap', v = .slice ad' m cap' ∧ (0 < m ↔ ∃ c ∈ l, isSp c = false)) ?_
  refine Does_of (n := 42) Tryd.func78 rfl rfl (by simp) ?_
  by_cases h0 : l.length = 0
  · obtain rfl : l = [] := List.eq_nil_of_length_eq_zero h0
    refine goW ?_
    exact a_ret1 ⟨none, 0, 0, rfl, by simp⟩
  refine goW ?_
  refine a_call (asciiSet_any _) ?_
  rintro v L' ⟨rfl, rfl⟩
  refine goL ?_
  refine a_alloc fun b2 => ?_
  refine a_st (size := 256) (l := List.replicate 256 (.bool false)) (cs := setC 2) (l' := setC 2) (Patch_all (by rw [setC_len, List.length_replicate])) ?_ (setC_one 2) (setC_len 2)
  refine goL ?_
  refine a_call (trimRightSet_any _ b b2 (Fr.inl hF) (Fr.inr (.head _)) ad cap l hcap hs hl) ?_
  rintro v L' ⟨rfl, rfl⟩
  have hle := trimR_le isSp l l.length
  have hlt : (l.take (trimR isSp l l.length)).length = trimR isSp l l.length := by rw [List.length_take]; omega
  have hall := trimR_all isSp l l.length (Nat.le_refl _)
  rw [List.take_length] at hall
  have hs' := hs.take (trimR isSp l l.length)
  generalize l.take (trimR isSp l l.length) = m at *
  rw [← hlt]
  refine a_call (trimLeftSet_any _ b b2 (Fr.inl hF) (Fr.inr (.head _)) ad cap m (by omega) hs' (by omega)) ?_
  rintro v L' ⟨rfl, ad', cap', rfl, _, _⟩
  refine goL ?_
  refine a_ret1 ⟨_, _, _, rfl, ?_⟩
  have hn := dropB_nil isSp m
  rw [hall] at hn
  constructor
  · intro hpos
    refine Classical.byContradiction fun hno => ?_
    have : dropB isSp m = [] := hn.2 fun c hc => by
      cases h : isSp c
      · exact absurd ⟨c, hc, h⟩ hno
      · rfl
    rw [this] at hpos
    simp at hpos
  · rintro ⟨c, hc, hf⟩
    refine Nat.pos_of_ne_zero fun h0 => ?_
    have := hn.1 (List.eq_nil_of_length_eq_zero h0) c hc
    rw [hf] at this
    cases this
end Go.Proofs.YtjeaofabpfgngaaDoor
