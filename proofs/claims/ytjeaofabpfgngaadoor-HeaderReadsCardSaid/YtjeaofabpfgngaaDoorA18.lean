/-
  The reference's small functions: zero, PutText, text, put, has, magic, numbers.
  No condition.
-/
import Derived.Test.YtjeaofabpfgngaaDoorA17
namespace Go.Proofs.YtjeaofabpfgngaaDoor
open Go.KE

def hasZ : List UInt8 → Bool
  | [] => false
  | c :: r => decide (c.toNat = 0) || hasZ r

theorem zero_any (F : Fr) (s : ByteArray) (hs : s.size ≤ 9223372036854775807) : Does Tryd.prog 57 [.string s] F [] (fun v L' => L' = [] ∧ v = .bool (hasZ s.data.toList)) := by
  have hsl : s.data.toList.length = s.size := by simp
  refine Does_of (n := 14) Tryd.func57 rfl rfl (by simp) ?_
  refine goW ?_
  refine a_loop (fun i : Nat => i ≤ s.size ∧ hasZ (s.data.toList.drop i) = hasZ s.data.toList) (fun i => [(3, i64 i), (0, .string s)]) (fun _ => []) (fun i => s.size - i) 0 ⟨by omega, rfl⟩ ?_
  rintro i ⟨hi, hv⟩
  refine goW ?_
  refine KW_if rfl (fun h => ?_) (fun h => ?_)
  · have hi' : i < s.data.toList.length := by omega
    have hci := List.getElem?_eq_getElem hi'
    rw [List.drop_eq_getElem_cons hi'] at hv
    generalize s.data.toList[i] = c at *
    rw [hasZ] at hv
    have hc := c.toNat_lt
    refine goW ?_
    refine KL_p (.none rfl) rfl (p_index_str rfl rfl (by omega) hci) ?_
    refine goL ?_
    refine KW_if rfl (fun h0 => ?_) (fun h0 => ?_)
    · refine goW ?_
      refine a_ret1 ⟨rfl, ?_⟩
      rw [← hv, decide_eq_true (by omega)]; rfl
    · refine goW ?_
      rw [decide_eq_false (by omega)] at hv
      refine a_next (i + 1) ⟨by omega, hv⟩ (by omega)
  · obtain rfl : i = s.size := by omega
    rw [← hsl, List.drop_length] at hv
    refine goW ?_
    refine a_ret1 ⟨rfl, ?_⟩
    rw [← hv]; rfl

theorem has_ref (F : Fr) (f : Int) : Does Tryd.prog 29 [i64 f] F [] (fun v L' => L' = [] ∧ v = i64 (if f = 1 then 5 else 7)) := by
  refine Does_of (n := 5) Tryd.func29 rfl rfl (by simp) ?_
  refine goW ?_
  refine KW_if rfl (fun h => ?_) (fun h => ?_)
  · refine goW ?_
    exact a_ret1 ⟨rfl, by rw [if_pos h]⟩
  · refine goW ?_
    exact a_ret1 ⟨rfl, by rw [if_neg h]⟩

theorem magic_ref (F : Fr) (f : Int) (hf : f = 1 ∨ f = 2 ∨ f = 3) : Does Tryd.prog 31 [i64 f] F [] (fun v L' => L' = [] ∧ v = .string ⟨(magicOf f).toArray⟩) := by
  refine Does_of (n := 7) Tryd.func31 rfl rfl (by simp) ?_
  refine goW ?_
  refine KW_if rfl (fun h => ?_) (fun h => ?_)
  · refine goW ?_
    exact a_ret1 ⟨rfl, by rw [h]⟩
  · refine goW ?_
    refine KW_if rfl (fun h2 => ?_) (fun h2 => ?_)
    · refine goW ?_
      exact a_ret1 ⟨rfl, by rw [h2]⟩
    · refine goW ?_
      obtain rfl : f = 1 := by omega
      exact a_ret1 ⟨rfl, rfl⟩

def refTxt (s : ByteArray) (w : Nat) : Option (List UInt8) :=
  if hasZ s.data.toList = true ∨ s.size > w then none else some (s.data.toList ++ List.replicate (w - s.size) 0)
def TxtR (f : Option (List UInt8)) (v : Value) (L : Bl) : Prop :=
  match f with
  | none => L = [] ∧ ∃ e : Int, e ≠ 0 ∧ v = .tuple #[.slice none 0 0, i64 e]
  | some bs => ∃ s, BytesAt bs s L ∧ v = .tuple #[s, i64 0]
end Go.Proofs.YtjeaofabpfgngaaDoor
