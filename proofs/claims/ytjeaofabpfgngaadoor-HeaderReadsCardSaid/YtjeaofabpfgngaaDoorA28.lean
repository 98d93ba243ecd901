/-
  What a record says, as a Lean function; bytes.TrimLeft and bytes.Trim as octal fields use them.
  No condition.
-/
import Derived.Test.YtjeaofabpfgngaaDoorA23
import Derived.Test.YtjeaofabpfgngaaDoorK12
namespace Go.Proofs.YtjeaofabpfgngaaDoor
open Go.KE

theorem Fr.inl {F : Fr} {k : Nat} {o : Obj} {L : Bl} (h : F.mem k o) : (F.plus L).mem k o := Or.inl h
theorem Fr.inr {F : Fr} {k : Nat} {o : Obj} {L : Bl} (h : (k, o) ∈ L) : (F.plus L).mem k o := Or.inr h
/-! ### slices of bytes, seen as lists -/
/-- The slice at ad shows the bytes l, which lie in block b. -/
def SlB (lc : List Value) (b : Nat) (ad : Option Addr) (l : List UInt8) : Prop := ∀ j c, l[j]? = some c → ∃ a, ad = some ⟨b, a, none⟩ ∧ lc[a + j]? = some (bv c)
theorem SlB.of_cut {lc : List Value} {b o : Nat} {l : List UInt8} (h : Cut lc o l.length (bvs l)) : SlB lc b (some ⟨b, o, none⟩) l := fun _ _ hj => ⟨o, rfl, Cut.at h (bvs_at hj)⟩
theorem SlB.nil {lc : List Value} {b : Nat} {ad : Option Addr} : SlB lc b ad [] := fun j c h => by simp at h
def slAddr (ad : Option Addr) (k cap : Nat) : Option Addr := if cap = k then ad else ad.map (·.add k)
theorem SlB.drop {lc : List Value} {b : Nat} {ad : Option Addr} {l : List UInt8} (h : SlB lc b ad l) (k cap : Nat) (hcap : l.length ≤ cap) : SlB lc b (slAddr ad k cap) (l.drop k) := fun j c hj => by
  rw [List.getElem?_drop] at hj
  obtain ⟨a, rfl, ha⟩ := h _ _ hj
  have hlt := (List.getElem?_eq_some_iff.1 hj).1
  refine ⟨a + k, ?_, by rw [Nat.add_assoc]; exact ha⟩
  unfold slAddr
  rw [if_neg (by omega), Option.map_some, addr_add]
theorem slAddr_some (b a k cap : Nat) : slAddr (some ⟨b, a, none⟩) k cap = some ⟨b, a + (if k = cap then 0 else k * 1), none⟩ := by
  unfold slAddr
  by_cases h : cap = k
  · rw [if_pos h, if_pos h.symm]; rfl
  · rw [if_neg h, if_neg (Ne.symm h), Option.map_some, addr_add, Nat.mul_one]
theorem SlB.take {lc : List Value} {b : Nat} {ad : Option Addr} {l : List UInt8} (h : SlB lc b ad l) (k : Nat) : SlB lc b ad (l.take k) := fun j c hj => by
  rw [List.getElem?_take] at hj
  split at hj
  · exact h j c hj
  · cases hj

section
variable {P : Program} {n : Nat} {F : Fr} {Q : Post} {E : Sl} {L : Bl} {ty : TypeId}
theorem p_slice_gl {x lo : Operand} {t e : TypeId} {len cap bytes : Nat} {ad : Option Addr} {z : Value} {kl : IntKind} {l : Int} [ht : TU P t (.slice e)] [hz : TZ P e z 1 bytes]
    (hx : ev E x = some (.slice ad len cap)) (hl : ev E lo = some (.int kl l)) (h0 : 0 ≤ l) (h1 : l ≤ len) :
    PureAt P n F E L (.slice t x (some lo) none none) ty (.slice (slAddr ad l.toNat cap) (len - l.toNat) (cap - l.toNat)) := .of fun a w oo ho _ he _ => by
  have he' : P.elem t = e := by simp [Program.elem, ht.u]
  have hu : P.underlying t = some (.slice (P.elem t)) := by rw [he', ht.u]
  have := run_slice_l (P := P) w t ad len cap hu kl l h0 h1
  rw [he', hz.sizeOf, Result.andThen] at this
  have e2 : sliced ad l.toNat len cap 1 = .slice (slAddr ad l.toNat cap) (len - l.toNat) (cap - l.toNat) := by
    simp only [sliced, slAddr, Nat.mul_one]
  rw [e2] at this
  simp only [execOp, ho, he.ev hx, Option.map_some, Option.map_none, he.ev hl, run_sliceAt_slice w t _ _ _ _ hu, Sem.run_bind, this]; rfl
/-- xs[l:] of a slice that may be nil. -/
theorem a_slG {ops : Array Oper} {rest : List Oper} {dst : Nat} {x lo : Operand} {t e : TypeId} {pos : String} {after : Array Edge} {g : Option (Nat × Bool)} {len cap bytes : Nat} {ad : Option Addr} {z : Value} {kl : IntKind} {l : Int} (k' : Nat) [ht : TU P t (.slice e)] [hz : TZ P e z 1 bytes]
    (k : KL P n F ops Q rest ((dst, .slice (slAddr ad k' cap) (len - k') (cap - k')) :: E) L) (hg : Want ops E true g := by first | exact .none rfl | exact .some rfl rfl rfl) (hd : Nat.blt dst n = true := by rfl)
    (hx : ev E x = some (.slice ad len cap) := by rfl) (hl : ev E lo = some (.int kl l) := by rfl) (h0 : 0 ≤ l := by omega) (h1 : l ≤ len := by omega) (hk : l.toNat = k' := by omega) :
    KL P n F ops Q (⟨some dst, .slice t x (some lo) none none, ty, pos, after, g⟩ :: rest) E L := KL_p hg hd (hk ▸ p_slice_gl hx hl h0 h1) k
end

/-! ### trimLeftByte -/
def dropB (p : UInt8 → Bool) : List UInt8 → List UInt8
  | [] => []
  | c :: r => if p c then dropB p r else c :: r
theorem dropB_drop (p : UInt8 → Bool) : ∀ l : List UInt8, ∃ k, k ≤ l.length ∧ dropB p l = l.drop k
  | [] => ⟨0, by simp, rfl⟩
  | c :: r => by
    rw [dropB]
    split
    · obtain ⟨k, h1, h2⟩ := dropB_drop p r
      exact ⟨k + 1, by simpa using h1, h2⟩
    · exact ⟨0, by simp, rfl⟩
theorem dropB_len (p : UInt8 → Bool) (l : List UInt8) : (dropB p l).length ≤ l.length := by
  obtain ⟨k, _, h⟩ := dropB_drop p l
  rw [h]; simp
def isB (x : UInt8) (c : UInt8) : Bool := decide (c.toNat = x.toNat)

/-- A slice that shows l, of a size that an int holds. -/
def SlV (lc : List Value) (b : Nat) (v : Value) (l : List UInt8) : Prop := ∃ ad cap, v = .slice ad l.length cap ∧ l.length ≤ cap ∧ SlB lc b ad l

set_option maxHeartbeats 1000000 in
theorem trimLeftByte_any (F : Fr) (b : Nat) {lc : List Value} {t : TypeId} {fr : Nat × Nat} (hF : F.mem b (.cells lc.toArray t fr)) (ad : Option Addr) (cap : Nat) (l : List UInt8) (hcap : l.length ≤ cap) (hs : SlB lc b ad l) (x : UInt8) (hl : l.length ≤ 1000) :
    Does Tryd.prog 90 [.slice ad l.length cap, bv x] F [] (fun v L' => L' = [] ∧ SlV lc b v (dropB (isB x) l)) := by
  have hx255 := x.toNat_lt
  refine Does_of (n := 21) Tryd.func90 rfl rfl (by simp) ?_
  refine goW ?_
  refine a_loopK (α := List UInt8 × Option Addr × Nat) (fun (m, ad', cap') => m.length ≤ cap' ∧ m.length ≤ 1000 ∧ SlB lc b ad' m ∧ dropB (isB x) m = dropB (isB x) l) (fun (m, ad', cap') => [(0, .slice ad' m.length cap')]) (fun _ => []) (fun (m, _, _) => m.length) (l, ad, cap) ⟨hcap, hl, hs, rfl⟩ ?_
  rintro ⟨m, ad', cap'⟩ ⟨h1, h2, h3, h4⟩
  cases m with
  | nil =>
    refine goW ?_
    refine a_ret1 ⟨rfl, ?_⟩
    rw [← h4]
    exact ⟨none, 0, rfl, Nat.le_refl _, SlB.nil⟩
  | cons c r =>
    obtain ⟨a, rfl, hc⟩ := h3 0 c rfl
    have hc255 := c.toNat_lt
    have hlen : (c :: r).length = r.length + 1 := rfl
    rw [dropB] at h4
    refine goW ?_
    refine a_ld hc ?_
    by_cases he : c.toNat = x.toNat
    · rw [if_pos (by simpa [isB] using he)] at h4
      refine goL ?_
      have h5 := h3.drop 1 cap' h1
      rw [slAddr_some] at h5
      exact a_next (r, some ⟨b, a + (if Int.toNat 1 = cap' then 0 else Int.toNat 1 * 1), none⟩, cap' - 1) ⟨by omega, by omega, h5, h4⟩ (by show r.length < (c :: r).length; omega)
    · rw [if_neg (by simpa [isB] using he)] at h4
      refine goL ?_
      refine a_ret1 ⟨rfl, ?_⟩
      rw [← h4]
      exact ⟨_, cap', rfl, h1, h3⟩
end Go.Proofs.YtjeaofabpfgngaaDoor
