/-
  The two readings of a binary field are one: plain Lean.
  No condition.
-/
import Derived.Test.YtjeaofabpfgngaaDoorA18
namespace Go.Proofs.YtjeaofabpfgngaaDoor
open Go.KE

theorem wrap64_val (x : Int) : IntKind.i64.wrap x = if x % 18446744073709551616 ≥ 9223372036854775808 then x % 18446744073709551616 - 18446744073709551616 else x % 18446744073709551616 := by
  simp [IntKind.wrap, IntKind.bits, IntKind.signed]
theorem wrap64_congr {x y : Int} (h : x % 18446744073709551616 = y % 18446744073709551616) : IntKind.i64.wrap x = IntKind.i64.wrap y := by
  rw [wrap64_val, wrap64_val, h]
theorem wrap64_emod (x : Int) : IntKind.i64.wrap x % 18446744073709551616 = x % 18446744073709551616 := by
  rw [wrap64_val]
  split <;> omega

theorem or_low (x : BitVec 64) (b : Nat) (hb : b < 256) : (x <<< 8) ||| BitVec.ofNat 64 b = (x <<< 8) + BitVec.ofNat 64 b := by
  refine (BitVec.add_eq_or_of_and_eq_zero _ _ ?_).symm
  apply BitVec.eq_of_getLsbD_eq
  intro i hi
  simp only [BitVec.getLsbD_and, BitVec.getLsbD_shiftLeft, BitVec.getLsbD_ofNat]
  by_cases h : i < 8
  · simp [h]
  · have : b.testBit i = false := Nat.testBit_lt_two_pow (Nat.lt_of_lt_of_le (show b < 2 ^ 8 from hb) (Nat.pow_le_pow_right (by omega) (by omega)))
    simp [this]

theorem binV_eq (v : Int) (b : Nat) (hb : b < 256) : binV v b = IntKind.i64.wrap (v * 256 + b) := by
  have hw : IntKind.i64.wrap (b : Int) = b := Fits.wrap (k := .i64) (by simp only [Fits]; omega)
  unfold binV bitsOf
  rw [hw]
  have e1 : BitVec.ofInt IntKind.i64.bits (IntKind.i64.wrap (v * 256)) = (BitVec.ofInt 64 v) <<< 8 := by
    apply BitVec.eq_of_toNat_eq
    show (BitVec.ofInt 64 (IntKind.i64.wrap (v * 256))).toNat = ((BitVec.ofInt 64 v) <<< 8 : BitVec 64).toNat
    rw [BitVec.toNat_shiftLeft, BitVec.toNat_ofInt, BitVec.toNat_ofInt]
    simp only [show (2 : Nat) ^ 64 = 18446744073709551616 from by decide, Nat.shiftLeft_eq]
    have := wrap64_emod (v * 256)
    omega
  have e2 : BitVec.ofInt IntKind.i64.bits (b : Int) = BitVec.ofNat 64 b := by
    show BitVec.ofInt 64 (b : Int) = _
    simp
  simp only [e1, e2]
  have e3 := or_low (BitVec.ofInt 64 v) b hb
  have e4 : ((BitVec.ofInt 64 v <<< 8) ||| BitVec.ofNat 64 b).toNat = ((v * 256 + b) % 18446744073709551616).toNat := by
    rw [e3, BitVec.toNat_add, BitVec.toNat_shiftLeft, BitVec.toNat_ofInt, BitVec.toNat_ofNat]
    simp only [show (2 : Nat) ^ 64 = 18446744073709551616 from by decide, Nat.shiftLeft_eq]
    omega
  have e5 : ((((BitVec.ofInt 64 v <<< 8) ||| BitVec.ofNat 64 b).toNat : Nat) : Int) % 18446744073709551616 = (v * 256 + b) % 18446744073709551616 := by
    rw [e4]; omega
  exact wrap64_congr e5

def be : List UInt8 → Nat
  | [] => 0
  | c :: r => c.toNat * 256 ^ r.length + be r
def rbDrop (fill : UInt8) : List UInt8 → Option (List UInt8)
  | [] => some []
  | c :: r => if r.length + 1 > 8 then (if c ≠ fill then none else rbDrop fill r) else some (c :: r)
def rbPad (fill : UInt8) (l : List UInt8) : List UInt8 := List.replicate (8 - l.length) fill ++ l
def hb (x : UInt8) : Bool := decide (128 ≤ x.toNat)
def rbEnd (below : Bool) (l : List UInt8) : Int × Int := if hb (l.headD 0) = below then (IntKind.i64.wrap (be l), 0) else (0, 121)
def fillOf (below : Bool) : UInt8 := if below then 255 else 0
/-- The reference's Binary. -/
def refBinary (bs : List UInt8) : Int × Int :=
  match bs with
  | [] => (0, 120)
  | c :: r => if r.length = 0 ∨ c.toNat < 128 then (0, 120) else
    match rbDrop (fillOf (decide (64 ≤ c.toNat % 128))) ((if 64 ≤ c.toNat % 128 then c else c - 128) :: r) with
    | none => (0, 121)
    | some l => rbEnd (decide (64 ≤ c.toNat % 128)) (rbPad (fillOf (decide (64 ≤ c.toNat % 128))) l)

/-- The program's loop over the list alone. -/
def go2 (pad : UInt8) : List UInt8 → Int → Option Int
  | [], v => some v
  | x :: r, v => if r.length + 1 > 8 ∧ x ≠ pad then none else if r.length + 1 = 8 ∧ ¬ hb x = hb pad then none else go2 pad r (binV v x.toNat)

theorem byte_and128 : ∀ n : Fin 256, (bitsOf .and .u8 (n.val : Int) 128 = 0) ↔ n.val < 128 := by decide +kernel
theorem byte_and64 : ∀ n : Fin 256, 128 ≤ n.val → ((bitsOf .and .u8 (n.val : Int) 64 ≠ 0) ↔ 64 ≤ n.val % 128) := by decide +kernel
theorem byte_first0 : ∀ n : Fin 256, 128 ≤ n.val → bitsOf .or .u8 (bitsOf .andNot .u8 (n.val : Int) 128) (bitsOf .and .u8 0 128) = ((n.val - 128 : Nat) : Int) := by decide +kernel
theorem byte_first255 : ∀ n : Fin 256, 128 ≤ n.val → bitsOf .or .u8 (bitsOf .andNot .u8 (n.val : Int) 128) (bitsOf .and .u8 255 128) = (n.val : Int) := by decide +kernel
theorem byte_xor0 : ∀ n : Fin 256, (bitsOf .and .u8 (bitsOf .xor .u8 (n.val : Int) 0) 128 ≠ 0) ↔ 128 ≤ n.val := by decide +kernel
theorem byte_xor255 : ∀ n : Fin 256, (bitsOf .and .u8 (bitsOf .xor .u8 (n.val : Int) 255) 128 ≠ 0) ↔ ¬ 128 ≤ n.val := by decide +kernel
def fin (c : UInt8) : Fin 256 := ⟨c.toNat, c.toNat_lt⟩

theorem xor_pad (x : UInt8) (below : Bool) : (bitsOf .and .u8 (bitsOf .xor .u8 x.toNat (fillOf below).toNat) 128 ≠ 0) ↔ ¬ hb x = hb (fillOf below) := by
  cases below
  · have := byte_xor0 (fin x)
    simpa [fillOf, fin, hb] using this
  · have := byte_xor255 (fin x)
    simpa [fillOf, fin, hb] using this

theorem binGo_go2 (below : Bool) (m : Nat) : ∀ (l : List UInt8) (i : Nat) (v : Int), 1 ≤ i → l.length + i = m → binGo (fillOf below).toNat m i l v = go2 (fillOf below) l v
  | [], _, _, _, _ => by simp [binGo, go2]
  | x :: r, i, v, hi, hl => by
    have hb : binB (fillOf below).toNat i x = x.toNat := by rw [binB, if_neg (by omega)]
    simp only [List.length_cons] at hl
    have ih := binGo_go2 below m r (i + 1) (binV v x.toNat) (by omega) (by omega)
    have h1 : ((m : Int) - i > 8 ∧ (x.toNat : Int) ≠ ((fillOf below).toNat : Int)) ↔ (r.length + 1 > 8 ∧ x ≠ fillOf below) := by
      have : (x.toNat : Int) ≠ ((fillOf below).toNat : Int) ↔ x ≠ fillOf below := by
        rw [ne_eq, ne_eq, Int.ofNat_inj, UInt8.toNat_inj]
      rw [this]
      refine and_congr_left fun _ => ?_
      omega
    have h2 : ((m : Int) - i = 8) ↔ (r.length + 1 = 8) := by omega
    simp only [binGo, go2, hb, h1, h2, xor_pad, ih]

theorem go2_end (pad : UInt8) : ∀ (l : List UInt8) (v : Int), l.length < 8 → go2 pad l v = some (l.foldl (fun v x => binV v x.toNat) v)
  | [], v, _ => rfl
  | x :: r, v, h => by
    simp only [List.length_cons] at h
    rw [go2, if_neg (by omega), if_neg (by omega), go2_end pad r _ (by omega)]; rfl
theorem fold_be : ∀ (l : List UInt8) (v : Int), l ≠ [] → l.foldl (fun v x => binV v x.toNat) v = IntKind.i64.wrap (v * 256 ^ l.length + be l)
  | [], _, h => absurd rfl h
  | [x], v, _ => by
    simp only [List.foldl_cons, List.foldl_nil, be, List.length_cons, List.length_nil]
    rw [binV_eq v _ x.toNat_lt]; simp
  | x :: y :: r, v, _ => by
    rw [List.foldl_cons, fold_be (y :: r) _ (by simp), binV_eq v _ x.toNat_lt]
    apply wrap64_congr
    have h1 := wrap64_emod (v * 256 + x.toNat)
    generalize IntKind.i64.wrap (v * 256 + x.toNat) = u at h1
    have e : be (x :: y :: r) = x.toNat * 256 ^ (y :: r).length + be (y :: r) := rfl
    rw [e, show (x :: y :: r).length = (y :: r).length + 1 from rfl]
    generalize be (y :: r) = B
    rw [Int.pow_succ]
    have e2 : ((x.toNat * 256 ^ (y :: r).length + B : Nat) : Int) = (x.toNat : Int) * 256 ^ (y :: r).length + B := by
      simp
    rw [e2]
    generalize (256 : Int) ^ (y :: r).length = p
    rw [Int.emod_emod_of_dvd _ (Int.dvd_refl _) |>.symm]
    have e3 : v * (p * 256) + ((x.toNat : Int) * p + B) = (v * 256 + x.toNat) * p + B := by
      rw [Int.add_mul, Int.mul_assoc v 256 p, Int.mul_comm p 256]; omega
    rw [e3, Int.emod_emod_of_dvd _ (Int.dvd_refl _), Int.add_emod, Int.mul_emod, h1, ← Int.mul_emod, ← Int.add_emod]
theorem be_lt : ∀ l : List UInt8, be l < 256 ^ l.length
  | [] => by simp [be]
  | c :: r => by
    have h1 := be_lt r
    have h2 := c.toNat_lt
    simp only [be, List.length_cons, Nat.pow_succ]
    have : c.toNat * 256 ^ r.length ≤ 255 * 256 ^ r.length := Nat.mul_le_mul_right _ (by omega)
    omega

theorem go2_eight (below : Bool) (l : List UInt8) (v : Int) (h : l.length = 8) : go2 (fillOf below) l v = (if hb (l.headD 0) = below then some (IntKind.i64.wrap (be l)) else none) := by
  obtain ⟨x, r, rfl⟩ : ∃ x r, l = x :: r := by
    cases l with
    | nil => simp at h
    | cons x r => exact ⟨x, r, rfl⟩
  simp only [List.length_cons] at h
  have hf : hb (fillOf below) = below := by cases below <;> decide
  rw [go2, if_neg (by omega), hf]
  show _ = if hb x = below then _ else _
  by_cases hc : hb x = below
  rotate_left
  · rw [if_pos ⟨h, hc⟩, if_neg hc]
  · rw [if_neg (fun hh => hh.2 hc), if_pos hc, go2_end _ _ _ (by omega)]
    have hr : r ≠ [] := by intro e; subst e; simp at h
    have e1 : r.foldl (fun v x => binV v x.toNat) (binV v x.toNat) = (x :: r).foldl (fun v x => binV v x.toNat) v := rfl
    rw [e1, fold_be _ _ (by simp)]
    congr 1
    apply wrap64_congr
    rw [show (x :: r).length = 8 by simpa using h, show (256 : Int) ^ 8 = 18446744073709551616 from by decide]
    omega
theorem go2_drop (below : Bool) : ∀ (l : List UInt8) (v : Int), 8 ≤ l.length → go2 (fillOf below) l v = match rbDrop (fillOf below) l with
    | none => none
    | some l' => if hb (l'.headD 0) = below then some (IntKind.i64.wrap (be l')) else none
  | [], _, h => by simp at h
  | x :: r, v, h => by
    simp only [List.length_cons] at h
    by_cases h8 : r.length + 1 > 8
    · rw [go2, rbDrop, if_pos h8]
      by_cases hx : x ≠ fillOf below
      · rw [if_pos ⟨h8, hx⟩, if_pos hx]
      · rw [if_neg (fun hh => hx hh.2), if_neg (by omega), if_neg hx]
        exact go2_drop below r _ (by omega)
    · rw [rbDrop, if_neg h8]
      exact go2_eight below (x :: r) v (by simp; omega)
theorem rbDrop_short (fill : UInt8) : ∀ l : List UInt8, l.length ≤ 8 → rbDrop fill l = some l
  | [], _ => rfl
  | x :: r, h => by
    simp only [List.length_cons] at h
    rw [rbDrop, if_neg (by omega)]
theorem rbDrop_len (fill : UInt8) : ∀ (l l' : List UInt8), 8 ≤ l.length → rbDrop fill l = some l' → l'.length = 8
  | [], _, h, _ => by simp at h
  | x :: r, l', h, he => by
    simp only [List.length_cons] at h
    rw [rbDrop] at he
    split at he
    · split at he
      · cases he
      · exact rbDrop_len fill r l' (by omega) he
    · obtain rfl := Option.some.inj he
      simp; omega
theorem be_append : ∀ (a b : List UInt8), be (a ++ b) = be a * 256 ^ b.length + be b
  | [], b => by simp [be]
  | x :: r, b => by
    rw [List.cons_append, be, be, be_append r b, List.length_append, Nat.pow_add, Nat.add_mul, Nat.mul_assoc, Nat.add_assoc]
theorem be_rep0 (k : Nat) : be (List.replicate k 0) = 0 := by
  induction k with
  | zero => rfl
  | succ k ih => rw [List.replicate_succ, be, ih]; simp
theorem be_rep255 (k : Nat) : be (List.replicate k 255) + 1 = 256 ^ k := by
  induction k with
  | zero => rfl
  | succ k ih =>
    rw [List.replicate_succ, be, Nat.add_assoc, ih, List.length_replicate, Nat.pow_succ, show (255 : UInt8).toNat = 255 from rfl]
    omega
theorem go2_short (below : Bool) (l : List UInt8) (h0 : l ≠ []) (h : l.length < 8) : go2 (fillOf below) l (if below then -1 else 0) =
    if hb ((rbPad (fillOf below) l).headD 0) = below then some (IntKind.i64.wrap (be (rbPad (fillOf below) l))) else none := by
  obtain ⟨k, hk⟩ : ∃ k, 8 - l.length = k + 1 := ⟨7 - l.length, by omega⟩
  have hhead : (rbPad (fillOf below) l).headD 0 = fillOf below := by rw [rbPad, hk, List.replicate_succ]; rfl
  have hf : hb (fillOf below) = below := by cases below <;> decide
  rw [hhead, hf, if_pos rfl, go2_end _ _ _ h, fold_be _ _ h0]
  congr 1
  apply wrap64_congr
  rw [rbPad, be_append]
  have hp : (256 : Nat) ^ (8 - l.length) * 256 ^ l.length = 18446744073709551616 := by
    rw [← Nat.pow_add, show 8 - l.length + l.length = 8 by omega]
  cases below
  · simp only [fillOf, Bool.false_eq_true, if_false, be_rep0]
    simp
  · simp only [fillOf, if_true]
    have h3 := be_rep255 (8 - l.length)
    generalize be (List.replicate (8 - l.length) 255) = R at *
    rw [← h3, Nat.add_mul, Nat.one_mul] at hp
    have e : ((256 : Int) ^ l.length) = ((256 ^ l.length : Nat) : Int) := by simp
    rw [e]
    generalize 256 ^ l.length = p at *
    generalize R * p = Rp at *
    omega

theorem refBinary_eq (bs : List UInt8) : refBinary bs = binary bs := by
  cases bs with
  | nil => rfl
  | cons c r =>
    have hc := c.toNat_lt
    have h128 := byte_and128 (fin c)
    simp only [fin] at h128
    unfold refBinary binary
    simp only [h128]
    by_cases h0 : r.length = 0 ∨ c.toNat < 128
    · rw [if_pos h0, if_pos h0]
    rw [if_neg h0, if_neg h0]
    have hge : 128 ≤ c.toNat := by omega
    have h64 := byte_and64 (fin c) hge
    simp only [fin] at h64
    have key : ∀ below : Bool, below = decide (64 ≤ c.toNat % 128) →
        (if bitsOf .and .u8 c.toNat 64 ≠ 0 then binGo 255 (r.length + 1) 0 (c :: r) (-1) else binGo 0 (r.length + 1) 0 (c :: r) 0) = go2 (fillOf below) ((if below = true then c else c - 128) :: r) (if below then -1 else 0) := by
      intro below hbelow
      have first : ∀ (v : Int), binB (fillOf below).toNat 0 c = ((if below = true then c else c - 128 : UInt8).toNat : Int) → binGo (fillOf below).toNat (r.length + 1) 0 (c :: r) v = go2 (fillOf below) ((if below = true then c else c - 128) :: r) v := by
        intro v hb
        generalize (if below = true then c else c - 128 : UInt8) = x at hb ⊢
        have ih := binGo_go2 below (r.length + 1) r 1 (binV v x.toNat) (by omega) rfl
        have h1 : (((r.length + 1 : Nat) : Int) - (0 : Nat) > 8 ∧ (x.toNat : Int) ≠ ((fillOf below).toNat : Int)) ↔ (r.length + 1 > 8 ∧ x ≠ fillOf below) := by
          have : (x.toNat : Int) ≠ ((fillOf below).toNat : Int) ↔ x ≠ fillOf below := by
            rw [ne_eq, ne_eq, Int.ofNat_inj, UInt8.toNat_inj]
          rw [this]
          refine and_congr_left fun _ => ?_
          omega
        have h2 : (((r.length + 1 : Nat) : Int) - (0 : Nat) = 8) ↔ (r.length + 1 = 8) := by omega
        simp only [binGo, go2, hb, h1, h2, xor_pad, ih]
      cases below
      · rw [if_neg (by rw [h64]; simpa using hbelow)]
        refine first 0 ?_
        have := byte_first0 (fin c) hge
        simp only [fin] at this
        rw [binB, if_pos rfl]
        simp only [fillOf, Bool.false_eq_true, if_false]
        rw [show ((0 : UInt8).toNat : Int) = 0 from rfl, this]
        have e : (c - 128).toNat = c.toNat - 128 := UInt8.toNat_sub_of_le _ _ (by rw [UInt8.le_iff_toNat_le]; exact hge)
        rw [e]
      · rw [if_pos (by rw [h64]; simpa using hbelow)]
        refine first (-1) ?_
        have := byte_first255 (fin c) hge
        simp only [fin] at this
        rw [binB, if_pos rfl]
        simp only [fillOf, if_true]
        rw [show ((255 : UInt8).toNat : Int) = 255 from rfl, this]
    rw [key _ rfl]
    have hx : (if decide (64 ≤ c.toNat % 128) = true then c else c - 128) = (if 64 ≤ c.toNat % 128 then c else c - 128) := by
      by_cases h : 64 ≤ c.toNat % 128 <;> simp [h]
    rw [hx]
    generalize decide (64 ≤ c.toNat % 128) = below
    generalize (if 64 ≤ c.toNat % 128 then c else c - 128) = x
    by_cases h8 : 8 ≤ (x :: r).length
    · rw [go2_drop below _ _ h8]
      cases hd : rbDrop (fillOf below) (x :: r) with
      | none => rfl
      | some l =>
        have hl := rbDrop_len _ _ _ h8 hd
        dsimp only
        have hp : rbPad (fillOf below) l = l := by rw [rbPad, hl]; rfl
        rw [hp, rbEnd]
        split <;> rfl
    · rw [rbDrop_short _ _ (by omega), go2_short below _ (by simp) (by omega)]
      dsimp only
      rw [rbEnd]
      split <;> rfl
end Go.Proofs.YtjeaofabpfgngaaDoor
