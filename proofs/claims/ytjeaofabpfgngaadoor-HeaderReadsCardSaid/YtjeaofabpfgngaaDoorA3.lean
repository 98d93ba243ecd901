/-
  strconv.FormatInt in base 8.
  Condition: math/bits.deBruijn64tab holds what the library's text lays.
-/
import Derived.Test.YtjeaofabpfgngaaDoorA1
namespace Go.Proofs.YtjeaofabpfgngaaDoor
open Go.KE

def deBr : List Int := [0, 1, 56, 2, 57, 49, 28, 3, 61, 58, 42, 50, 38, 29, 17, 4, 62, 47, 59, 36, 45, 43, 51, 22, 53, 39, 33, 30, 24, 18, 12, 5, 63, 55, 48, 27, 60, 41, 37, 16, 46, 35, 44, 21, 52, 32, 23, 11, 54, 26, 40, 15, 34, 20, 31, 10, 25, 14, 19, 9, 13, 8, 7, 6]
def u8s (l : List Int) : List Value := l.map fun n => .int .u8 n

theorem pow2_any (F : Fr) : Does Tryd.prog 105 [i64 8] F [] (fun v L' => L' = [] ∧ v = .bool true) := by
  refine Does_of (n := 8) Tryd.func105 rfl rfl (by simp) ?_
  refine goW ?_
  have e : bitsOf .and .i64 8 (8 - 1) = 0 := by decide +kernel
  refine KL_p (.none rfl) rfl (e ▸ p_and rfl rfl) ?_
  refine goL ?_
  refine a_ret1 ⟨rfl, rfl⟩

theorem tz64_any (F : Fr) (hg : GC F 10 (u8s deBr)) : Does Tryd.prog 116 [.int .u64 8] F [] (fun v L' => L' = [] ∧ v = i64 3) := by
  obtain ⟨t, r, hg⟩ := hg
  refine Does_of (n := 14) Tryd.func116 rfl rfl (by simp) ?_
  refine goW ?_
  have e1 : IntKind.u64.wrap (0 - 8) = 18446744073709551608 := by decide +kernel
  have e2 : bitsOf .and .u64 8 18446744073709551608 = 8 := by decide +kernel
  have e3 : Int.fdiv 2286961704410830920 (2 ^ min (Int.toNat 58) IntKind.u64.bits) = 7 := by decide +kernel
  refine KL_p (.none rfl) rfl (e1 ▸ p_neg rfl) ?_
  refine KL_p (.none rfl) rfl (e2 ▸ p_and rfl rfl) ?_
  have e4 : IntKind.u64.wrap (8 * 285870213051353865) = 2286961704410830920 := by decide +kernel
  refine KL_p (.none rfl) rfl (e4 ▸ p_mul rfl rfl) ?_
  refine KL_p (.none rfl) rfl (e3 ▸ p_shr rfl rfl (by omega)) ?_
  refine goL ?_
  refine a_ret1 ⟨rfl, rfl⟩

theorem tz_any (F : Fr) (hg : GC F 10 (u8s deBr)) : Does Tryd.prog 106 [.int .u64 8] F [] (fun v L' => L' = [] ∧ v = i64 3) := by
  refine Does_of (n := 8) Tryd.func106 rfl rfl (by simp) ?_
  refine goW ?_
  refine a_call (tz64_any _ (hg.plus _)) ?_
  rintro v L' ⟨rfl, rfl⟩
  refine goL ?_
  refine a_ret1 ⟨rfl, rfl⟩

/-- A number's octal digits. -/
def oct (u : Nat) : List UInt8 :=
  if h : u < 8 then [UInt8.ofNat (48 + u)] else oct (u / 8) ++ [UInt8.ofNat (48 + u % 8)]
termination_by u
decreasing_by omega
theorem oct_lt {u : Nat} (h : u < 8) : oct u = [UInt8.ofNat (48 + u)] := by rw [oct, dif_pos h]
theorem oct_ge {u : Nat} (h : ¬ u < 8) : oct u = oct (u / 8) ++ [UInt8.ofNat (48 + u % 8)] := by rw [oct, dif_neg h]

def digs : ByteArray := ⟨#[48, 49, 50, 51, 52, 53, 54, 55, 56, 57, 97, 98, 99, 100, 101, 102, 103, 104, 105, 106, 107, 108, 109, 110, 111, 112, 113, 114, 115, 116, 117, 118, 119, 120, 121, 122]⟩
theorem digs_at {j : Nat} (h : j < 8) : digs.data.toList[j]? = some (UInt8.ofNat (48 + j)) := by
  obtain rfl | rfl | rfl | rfl | rfl | rfl | rfl | rfl : j = 0 ∨ j = 1 ∨ j = 2 ∨ j = 3 ∨ j = 4 ∨ j = 5 ∨ j = 6 ∨ j = 7 := by omega
  all_goals rfl

theorem patch_rep {z v : Value} {l : List Value} : ∀ {i : Nat}, Patch (List.replicate (i + 1) z ++ l) i [v] (List.replicate i z ++ v :: l)
  | 0 => .cons .nil
  | i + 1 => .skip (patch_rep (i := i))

theorem p_slice_arr_l {P : Program} {n : Nat} {F : Fr} {L : Bl} {E : List (Nat × Value)} {ty : TypeId} {o' : Nat} {x lo : Operand} {t e : TypeId} {len b o size bytes : Nat} {z : Value} {kl : IntKind} {l : Int} [ht : TU P t (.array len e)] [hz : TZ P e z size bytes]
    (hx : ev E x = some (.pointer (some ⟨b, o, none⟩))) (hl : ev E lo = some (.int kl l)) (h0 : 0 ≤ l) (h3 : l < len) (ho' : o + l.toNat * size = o') :
    PureAt P n F E L (.slice t x (some lo) none none) ty (.slice (some ⟨b, o', none⟩) (len - l.toNat) (len - l.toNat)) := .of fun a w oo ho _ he _ => by
  subst ho'
  have he' : P.elem t = e := by simp [Program.elem, ht.u]
  have hl' : P.arrayLen t = len := by simp [Program.arrayLen, ht.u]
  have := run_sliceAt_array_l (P := P) w t ⟨b, o, none⟩ (by rw [he', hl', ht.u]) kl l h0 (by rw [hl']; omega)
  rw [he', hl', hz.sizeOf, Result.andThen] at this
  simp only [slicedAt] at this
  rw [if_neg (by omega), addr_add] at this
  simp only [execOp, ho, he.ev hx, Option.map_some, Option.map_none, he.ev hl, Sem.run_bind, this]; rfl

def arrZ (i : Nat) (suf : List UInt8) : List Value := List.replicate i (.int .u8 0) ++ bvs suf
theorem arrZ_patch {j : Nat} {c : UInt8} {suf : List UInt8} : Patch (arrZ (j + 1) suf) j [bv c] (arrZ j (c :: suf)) := patch_rep
theorem arrZ_cut {i : Nat} {suf : List UInt8} {m : Nat} (h : suf.length = m) : Cut (arrZ i suf) i m (bvs suf) := by
  subst h
  induction i with
  | zero =>
    show Cut (bvs suf) 0 suf.length (bvs suf)
    induction suf with
    | nil => exact .nil
    | cons c l ih => exact .cons ih
  | succ i ih => exact .skip ih

set_option maxRecDepth 10000 in
set_option maxHeartbeats 1000000 in
theorem formatBits_any (F : Fr) (hg : GC F 10 (u8s deBr)) (ng : Bool) (u x : Int) (h0 : 0 ≤ u) (h1 : u ≤ 9223372036854775808) (hx : x = if ng then IntKind.u64.wrap (-u) else u) :
    Does Tryd.prog 84 [.slice none 0 0, .int .u64 x, i64 8, .bool ng, .bool false] F [] (fun v L' => L' = [] ∧ v = .tuple #[.slice none 0 0, .string ⟨((if ng then [45] else []) ++ oct u.toNat).toArray⟩]) := by
  refine Does_of (n := 102) Tryd.func84 rfl rfl (by simp) ?_
  refine goW ?_
  refine a_alloc fun b => ?_
  refine goL ?_
  have hneg : ng = true → IntKind.u64.wrap (0 - x) = u := by
    rintro rfl
    subst hx
    simp [IntKind.wrap, IntKind.bits, IntKind.signed]
    omega
  refine KW_cond rfl (fun hng => ?_) (fun hng => ?_)
  case' refine_2 =>
    obtain rfl : u = x := by simp [hx, hng]
    clear hneg
    refine goW ?_
    refine a_call (pow2_any _) ?_
  case' refine_1 =>
    refine goW ?_
    refine KL_p (.none rfl) rfl (p_neg rfl) ?_
    rw [hneg hng]
    clear hneg
    refine goL ?_
    refine a_call (pow2_any _) ?_
  all_goals
    rintro v L' ⟨rfl, rfl⟩
    refine goL ?_
    refine a_call (tz_any _ (hg.plus _)) ?_
    rintro v L' ⟨rfl, rfl⟩
    refine goL ?_
    refine a_loop (α := Nat × Nat × List UInt8) (fun (w, i, suf) => i + suf.length = 65 ∧ oct w ++ suf = oct u.toNat ∧ w * 8 ^ suf.length ≤ u.toNat ∧ (w = 0 → suf.length = 0))
      (fun (w, i, _) => [(1, .int .u64 w), (13, i64 i), (12, .pointer (some ⟨b, 0, none⟩)), (14, .int .u64 3), (15, .int .u64 8), (16, .int .u64 7), (4, .bool false), (3, .bool ng), (10, .slice none 0 0)])
      (fun (_, i, suf) => [(b, .cells (arrZ i suf).toArray 130 (0, 0))]) (fun (w, _, _) => w) (u.toNat, 65, []) ⟨rfl, by simp, by simp, by simp⟩ ?_ ?_ ?_
    rotate_left
    · exact ⟨congrArg (fun z => some (Value.int .u64 z)) (by omega), rfl, rfl, rfl, rfl, rfl, rfl, rfl, rfl, trivial⟩
    · simp [arrZ, bvs]
    rintro ⟨w, i, suf⟩ ⟨hi, ho, hw, hz⟩
    have hw1 : w ≤ u.toNat := Nat.le_trans (Nat.le_mul_of_pos_right _ (Nat.pow_pos (by omega))) hw
    have hlen : suf.length < 22 := by
      rcases Nat.lt_or_ge suf.length 22 with h' | h'
      · exact h'
      · have : 8 ^ 22 ≤ 8 ^ suf.length := Nat.pow_le_pow_right (by omega) h'
        have h2 : w * 8 ^ 22 ≤ w * 8 ^ suf.length := Nat.mul_le_mul_left _ this
        omega
    obtain ⟨j, rfl⟩ : ∃ j, i = j + 1 := ⟨i - 1, by omega⟩
    refine goW ?_
    refine KW_if rfl (fun h => ?_) (fun h => ?_)
    · have e1 : bitsOf .and .u64 (w : Int) 7 = ((w % 8 : Nat) : Int) := by
        have := and_mask (k := .u64) (p := (w : Int)) 3 (by omega) (by simp only [Fits]; omega) (by decide) (by simp only [Fits]; omega)
        simpa using this
      have e2 : Int.fdiv (w : Int) (2 ^ min (Int.toNat 3) IntKind.u64.bits) = ((w / 8 : Nat) : Int) := by
        show Int.fdiv (w : Int) 8 = _
        rw [Int.fdiv_eq_ediv_of_nonneg _ (by omega)]; simp
      refine goW ?_
      refine KL_p (.none rfl) rfl (e1 ▸ p_and rfl rfl) ?_
      refine KL_p (.none rfl) rfl (p_index_str rfl rfl (by omega) (digs_at (Nat.mod_lt w (by omega)))) ?_
      refine goL ?_
      refine KL_s (.none rfl) (s_store rfl rfl rfl rfl .head arrZ_patch (oneCells_of rfl)) ?_
      refine goL ?_
      refine KL_p (.none rfl) rfl (e2 ▸ p_shr rfl rfl (by omega)) ?_
      refine goL ?_
      refine a_next (w / 8, j, UInt8.ofNat (48 + w % 8) :: suf) ⟨?_, ?_, ?_, fun h' => ?_⟩ ?_
      · simp; omega
      · rw [← ho, oct_ge (u := w) (by omega)]; simp
      · refine Nat.le_trans ?_ hw
        rw [List.length_cons, Nat.pow_succ', ← Nat.mul_assoc]
        exact Nat.mul_le_mul_right _ (by omega)
      · exact absurd h' (by show ¬ w / 8 = 0; omega)
      · show w / 8 < w
        omega
    · refine goW ?_
      have hw8 : w < 8 := by omega
      refine KL_p (.none rfl) rfl (p_index_str rfl rfl (by omega) (digs_at (j := w) hw8)) ?_
      refine goL ?_
      refine KL_s (.none rfl) (s_store rfl rfl rfl rfl .head arrZ_patch (oneCells_of rfl)) ?_
      refine goL ?_
      refine KW_cond rfl (fun hng => ?_) (fun hng => ?_)
      · obtain ⟨j, rfl⟩ : ∃ j', j = j' + 1 := ⟨j - 1, by omega⟩
        refine goW ?_
        refine KL_s (.none rfl) (s_store rfl rfl rfl rfl .head (arrZ_patch (c := 45)) (oneCells_of rfl)) ?_
        refine goL ?_
        refine KL_p (.none rfl) rfl (p_slice_arr_l (o' := j) rfl rfl (by omega) (by omega) (by simp)) ?_
        refine KL_p (.none rfl) rfl (p_string rfl (.own (.head _)) (bs := 45 :: UInt8.ofNat (48 + w) :: suf) (arrZ_cut ?_)) ?_
        · simp; omega
        refine goL ?_
        refine KQ_drop (L1 := [_]) ?_
        refine a_ret2 ⟨rfl, ?_⟩
        subst hng
        rw [← ho, oct_lt hw8]; simp
      · refine goW ?_
        refine KL_p (.none rfl) rfl (p_slice_arr_l (o' := j) rfl rfl (by omega) (by omega) (by simp)) ?_
        refine KL_p (.none rfl) rfl (p_string rfl (.own (.head _)) (bs := UInt8.ofNat (48 + w) :: suf) (arrZ_cut ?_)) ?_
        · simp; omega
        refine goL ?_
        refine KQ_drop (L1 := [_]) ?_
        refine a_ret2 ⟨rfl, ?_⟩
        subst hng
        rw [← ho, oct_lt hw8]; simp

/-- strconv.FormatInt(n, 8). -/
def octI (n : Int) : ByteArray := ⟨((if n < 0 then [45] else []) ++ oct n.natAbs).toArray⟩

theorem formatInt_any (F : Fr) (hg : GC F 10 (u8s deBr)) (n : Int) (h : Fits .i64 n) :
    Does Tryd.prog 68 [i64 n, i64 8] F [] (fun v L' => L' = [] ∧ v = .string (octI n)) := by
  simp only [Fits] at h
  refine Does_of (n := 54) Tryd.func68 rfl rfl (by simp) ?_
  refine goW ?_
  refine goL ?_
  refine a_call (formatBits_any _ (hg.plus _) (decide (n < 0)) n.natAbs _ (by omega) (by omega) ?_) ?_
  · simp only [decide_eq_true_eq]
    split
    · rw [show -(n.natAbs : Int) = n by omega]
    · rw [show (n.natAbs : Int) = n by omega]
      exact (Fits.wrap (k := .u64) (by simp only [Fits]; omega))
  rintro v L' ⟨rfl, rfl⟩
  refine goL ?_
  refine a_ret1 ⟨rfl, ?_⟩
  simp [octI]

theorem formatInt53 (F : Fr) (hg : GC F 10 (u8s deBr)) (n : Int) (h : Fits .i64 n) :
    Does Tryd.prog 53 [i64 n, i64 8] F [] (fun v L' => L' = [] ∧ v = .string (octI n)) := by
  refine Does_of (n := 8) Tryd.func53 rfl rfl (by simp) ?_
  refine goW ?_
  refine a_call (formatInt_any _ (hg.plus _) n h) ?_
  rintro v L' ⟨rfl, rfl⟩
  refine goL ?_
  refine a_ret1 ⟨rfl, rfl⟩
end Go.Proofs.YtjeaofabpfgngaaDoor
