/-
  header.Encode: what it computes, as a Lean function; calls of the fields' closures.
  Conditions: the package-level variables hold what the programs' texts lay.
-/
import Derived.Test.YtjeaofabpfgngaaDoorA8
import Derived.Test.YtjeaofabpfgngaaDoorA2
namespace Go.Proofs.YtjeaofabpfgngaaDoor
open Go.KE

section calls
variable {n : Nat} {F : Fr} {Q : Post} {E : Sl} {L : Bl} {ops : Array Oper} {rest : List Oper} {ty : TypeId} {pos : String} {after : Array Edge} {dst : Nat} {fo : Operand} {xs : List Operand} {ts : Array TypeId}
/-- The field of a number, by the form. -/
def formField (form : Int) (x : Int) (w : Nat) : Option (List UInt8) := if form = 3 then numField x w else octField x w
theorem call_put (form : Int) (x : Int) (w : Nat) (hg : GC F 10 (u8s deBr)) (hx : Fits .i64 x) (h1 : 2 ≤ w) (h2 : w ≤ 512)
    (c : ∀ v L', FieldR (formField form x w) v L' → KL Tryd.prog n F ops Q rest ((dst, v) :: E) (L' ++ L))
    (hf : ev E fo = some (fnv (if form = 3 then 23 else 22)) := by rfl) (hvs : evs E xs = some [i64 x, i64 w] := by rfl) (hd : Nat.blt dst n = true := by rfl) :
    KL Tryd.prog n F ops Q (⟨some dst, .call { callee := .value fo, args := xs.toArray, argTypes := ts }, ty, pos, after, none⟩ :: rest) E L := by
  unfold formField at c
  by_cases h : form = 3
  · rw [if_pos h] at hf c
    exact a_call (putNumber_any _ (hg.plus _) x hx w h1 h2) c (.none rfl) hd hf hvs rfl
  · rw [if_neg h] at hf c
    exact a_call (putOctal_any _ (hg.plus _) x hx w h1 h2) c (.none rfl) hd hf hvs rfl
end calls

/-! ### the record -/
def zero512 : List UInt8 := List.replicate 512 0
/-- The texts from the k-th on. -/
def textsGo (h : Hdr) : Nat → Nat → List UInt8 → Option (List UInt8)
  | 0, _, rs => some rs
  | m + 1, k, rs => if (txt h k).1.size > tLen k then none else textsGo h m (k + 1) (putAt rs (tAt k) (txt h k).1.data.toList)
def numsGo (h : Hdr) : Nat → Nat → List UInt8 → Option (List UInt8)
  | 0, _, rs => some rs
  | m + 1, k, rs =>
    if h.form < (num h k).2 then numsGo h m (k + 1) rs
    else match formField h.form (num h k).1 (nLen k) with
      | none => none
      | some bs => if (num h k).1 < 0 ∧ nAt k ≠ 136 then none else numsGo h m (k + 1) (putAt rs (nAt k) bs)
def magicOf (form : Int) : List UInt8 := if form = 1 then mV7.data.toList else if form = 2 then mUstar.data.toList else mGNU.data.toList
/-- header.Encode: the record and the code. -/
def encode (h : Hdr) : List UInt8 × Int :=
  if ¬ (h.form = 1 ∨ h.form = 2 ∨ h.form = 3) ∨ saidB h = true then (zero512, 1)
  else if h.typ = 0 then (zero512, 132)
  else match textsGo h 5 0 zero512 with
    | none => (zero512, 133)
    | some rs => match numsGo h 7 0 rs with
      | none => (zero512, 133)
      | some rs => (putSum (putAt (putAt rs 156 [h.typ]) 257 (magicOf h.form)), 0)
end Go.Proofs.YtjeaofabpfgngaaDoor
