/-
  satchel/field: PutBinary, PutNumber.
  Condition: math/bits.deBruijn64tab holds what the library's text lays.
-/
import Derived.Test.YtjeaofabpfgngaaDoorA5
namespace Go.Proofs.YtjeaofabpfgngaaDoor
open Go.KE

def lowByte (v : Int) : UInt8 := UInt8.ofNat (v % 256).toNat
def beGo : Nat → Int → List UInt8 → List UInt8
  | 0, _, suf => suf
  | k + 1, v, suf => beGo k (Int.fdiv v 256) (lowByte v :: suf)
def orByte (c : UInt8) : UInt8 := UInt8.ofNat (bitsOf .or .u8 c.toNat 128).toNat
def flag : List UInt8 → List UInt8
  | [] => []
  | c :: r => orByte c :: r
def binBytes (n : Int) (w : Nat) : List UInt8 := flag (beGo w n [])
def binField (n : Int) (w : Nat) : Option (List UInt8) :=
  if (binary (binBytes n w)).2 ≠ 0 ∨ (binary (binBytes n w)).1 ≠ n then none else some (binBytes n w)
def numField (n : Int) (w : Nat) : Option (List UInt8) :=
  match octField n w with
  | some bs => some bs
  | none => binField n w
def FieldR (f : Option (List UInt8)) (v : Value) (L : Bl) : Prop :=
  match f with
  | none => L = [] ∧ v = .tuple #[.slice none 0 0, i64 122]
  | some bs => ∃ s, BytesAt bs s L ∧ v = .tuple #[s, i64 0]

theorem beGo_length : ∀ (k : Nat) (v : Int) (suf : List UInt8), (beGo k v suf).length = k + suf.length
  | 0, _, _ => by simp [beGo]
  | k + 1, v, suf => by rw [beGo, beGo_length]; simp; omega

theorem lowByte_val (v : Int) : IntKind.u8.wrap v = ((lowByte v).toNat : Int) := by
  have h0 : 0 ≤ v % 256 := Int.emod_nonneg _ (by omega)
  have h1 : v % 256 < 256 := Int.emod_lt_of_pos _ (by omega)
  simp [IntKind.wrap, IntKind.bits, IntKind.signed, lowByte]
  omega

theorem orByte_val (c : UInt8) : bitsOf .or .u8 c.toNat 128 = ((orByte c).toNat : Int) := by
  have h0 : 0 ≤ bitsOf .or .u8 c.toNat 128 ∧ bitsOf .or .u8 c.toNat 128 < 256 := by
    simp only [bitsOf, IntKind.wrap, IntKind.bits, IntKind.signed]
    simp
    omega
  simp [orByte]
  omega

theorem Cut_all (bs : List UInt8) : Cut (bvs bs) 0 bs.length (bvs bs) := by
  induction bs with
  | nil => exact .nil
  | cons c l ih => exact .cons ih

theorem putBinary_any (F : Fr) (n : Int) (_h : Fits .i64 n) (w : Nat) (h1 : 2 ≤ w) (h2 : w ≤ 512) :
    Does Tryd.prog 55 [i64 n, i64 w] F [] (FieldR (binField n w)) := by
  refine Does_of (n := 51) Tryd.func55 rfl rfl (by simp) ?_
  refine goW ?_
  refine KL_m (.none rfl) rfl (m_make rfl rfl rfl (by omega) (by omega) (by omega) (by omega)) fun b _ => ?_
  refine goL ?_
  refine a_loop (α := Nat × Int × List UInt8 × Int) (fun (i, v, suf, j) => j = (i : Int) - 1 ∧ i + suf.length = w ∧ beGo i v suf = beGo w n [])
    (fun (_, v, _, j) => [(8, i64 j), (7, i64 v), (6, .slice (some ⟨b, 0, none⟩) w w), (0, i64 n)])
    (fun (i, _, suf, _) => [(b, .cells (arrZ i suf).toArray 5 (0, 0))]) (fun (i, _, _, _) => i) (w, n, [], (w : Int) - 1) ⟨rfl, rfl, rfl⟩ ?_ ?_ ?_
  rotate_left
  · exact ⟨rfl, rfl, rfl, rfl, trivial⟩
  · simp [arrZ, bvs]
  rintro ⟨i, v, suf, j⟩ ⟨hj, hi, hv⟩
  refine goW ?_
  refine KW_if rfl (fun h3 => ?_) (fun h3 => ?_)
  · obtain ⟨i, rfl⟩ : ∃ j, i = j + 1 := ⟨i - 1, by omega⟩
    obtain rfl : j = i := by omega
    refine goW ?_
    rw [lowByte_val]
    refine KL_s (.none rfl) (s_store rfl rfl rfl rfl .head (arrZ_patch (c := lowByte v)) (oneCells_of rfl)) ?_
    refine goL ?_
    have e3 : Int.fdiv v (2 ^ min (Int.toNat 8) IntKind.i64.bits) = Int.fdiv v 256 := by rw [show (2 : Int) ^ min (Int.toNat 8) IntKind.i64.bits = 256 from by decide +kernel]
    refine KL_p (.none rfl) rfl (e3 ▸ p_shr rfl rfl (by omega)) ?_
    refine goL ?_
    refine a_next (i, Int.fdiv v 256, lowByte v :: suf, (i : Int) - 1) ⟨rfl, by simp; omega, hv⟩ (by show i < i + 1; omega)
  · obtain rfl : i = 0 := by omega
    obtain rfl : suf = beGo w n [] := hv
    have hlen := beGo_length w n []
    unfold FieldR binField
    rw [binBytes]
    generalize beGo w n [] = bs at *
    obtain ⟨c, r, rfl⟩ : ∃ c r, bs = c :: r := by
      cases bs with
      | nil => simp at hlen; omega
      | cons c r => exact ⟨c, r, rfl⟩
    obtain rfl : w = r.length + 1 := by simp at hlen; omega
    refine goW ?_
    refine KL_p (.none rfl) rfl ((orByte_val c) ▸ p_or rfl rfl) ?_
    refine goL ?_
    refine a_call (binary_any _ b 0 (r.length + 1) (orByte c :: r) (.inr (.head _)) (Cut_all (orByte c :: r)) (by simpa using h1) (by simpa using h2)) ?_
    rintro v' L' ⟨rfl, rfl⟩
    rw [flag]
    by_cases h4 : (binary (orByte c :: r)).2 ≠ 0
    · rw [if_pos (.inl h4)]
      refine goL ?_
      refine KQ_clear ?_
      refine a_ret2 ⟨rfl, rfl⟩
    by_cases h5 : (binary (orByte c :: r)).1 ≠ n
    · rw [if_pos (.inr h5)]
      refine goL ?_
      refine KQ_clear ?_
      refine a_ret2 ⟨rfl, rfl⟩
    rw [if_neg (fun hh => hh.elim h4 h5)]
    refine goL ?_
    refine a_ret2 ⟨_, ⟨⟨b, r.length + 1, [], (0, 0)⟩, ?_, rfl, ?_⟩, rfl⟩
    · exact ⟨by simp [bvs_length], by simp [bvs_length], Nat.le_refl _, Thaw.zero _⟩
    · simp [slL, bvs]
      rfl

theorem putNumber_any (F : Fr) (hg : GC F 10 (u8s deBr)) (n : Int) (h : Fits .i64 n) (w : Nat) (h1 : 2 ≤ w) (h2 : w ≤ 512) :
    Does Tryd.prog 23 [i64 n, i64 w] F [] (FieldR (numField n w)) := by
  refine Does_of (n := 23) Tryd.func23 rfl rfl (by simp) ?_
  refine goW ?_
  refine a_call (putOctal_any _ (hg.plus _) n h w h1 h2) ?_
  intro v L' hv
  unfold numField
  unfold OctR at hv
  generalize octField n w = f at *
  cases f with
  | none =>
    obtain ⟨rfl, rfl⟩ := hv
    refine goL ?_
    refine a_call (putBinary_any _ n h w h1 h2) ?_
    intro v L' hv
    dsimp only
    unfold FieldR at hv ⊢
    generalize binField n w = f at *
    cases f with
    | none =>
      obtain ⟨rfl, rfl⟩ := hv
      refine goL ?_
      refine a_ret2 ⟨rfl, rfl⟩
    | some bs =>
      obtain ⟨s, hs, rfl⟩ := hv
      refine goL ?_
      refine a_ret2 ⟨s, by simpa using hs, rfl⟩
  | some bs =>
    obtain ⟨s, hs, rfl⟩ := hv
    refine goL ?_
    refine a_ret2 ⟨s, by simpa using hs, rfl⟩
end Go.Proofs.YtjeaofabpfgngaaDoor
