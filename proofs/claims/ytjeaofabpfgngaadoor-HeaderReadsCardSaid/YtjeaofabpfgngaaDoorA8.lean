/-
  satchel/field.PutSum.
  Condition: math/bits.deBruijn64tab holds what the library's text lays.
-/
import Derived.Test.YtjeaofabpfgngaaDoorA7
import Derived.Test.YtjeaofabpfgngaaDoorK9
namespace Go.Proofs.YtjeaofabpfgngaaDoor
open Go.KE

def putAt (rs : List UInt8) (o : Nat) (bs : List UInt8) : List UInt8 := rs.take o ++ bs ++ rs.drop (o + bs.length)

/-- The record with the sum in its field. -/
def putSum (rs : List UInt8) : List UInt8 := putAt rs 148 ((octField (sums rs).1 7).getD [] ++ [32])

theorem Cut_pre (bs : List UInt8) (r : List Value) : Cut (bvs bs ++ r) 0 bs.length (bvs bs) := by
  induction bs with
  | nil => exact .nil
  | cons c l ih => exact .cons ih
theorem oneCells_bvs (bs : List UInt8) : oneCells (bvs bs) := by
  intro v hv
  simp only [bvs, List.mem_map] at hv
  obtain ⟨c, _, rfl⟩ := hv
  rfl
theorem patch_mid (p bs r : List UInt8) (m : List UInt8) (h : m.length = bs.length) : Patch (bvs (p ++ m ++ r)) p.length (bvs bs) (bvs (p ++ bs ++ r)) := by
  induction p with
  | cons c p ih => exact .skip ih
  | nil =>
    induction bs generalizing m with
    | nil =>
      obtain rfl : m = [] := List.eq_nil_of_length_eq_zero h
      exact .nil
    | cons c bs ih =>
      cases m with
      | nil => simp at h
      | cons d m => exact .cons (ih m (by simpa using h))
theorem Patch_all : ∀ {l cs : List Value}, l.length = cs.length → Patch l 0 cs cs
  | [], [], _ => .nil
  | _ :: _, _ :: _, h => .cons (Patch_all (by simpa using h))
theorem patch_at (rs bs : List UInt8) (o : Nat) (h : o + bs.length ≤ rs.length) : Patch (bvs rs) o (bvs bs) (bvs (putAt rs o bs)) := by
  have h1 : rs = rs.take o ++ (rs.drop o).take bs.length ++ rs.drop (o + bs.length) := by
    rw [List.append_assoc, ← List.drop_drop, List.take_append_drop, List.take_append_drop]
  have := patch_mid (rs.take o) bs (rs.drop (o + bs.length)) ((rs.drop o).take bs.length) (by simp; omega)
  rw [← h1] at this
  rwa [List.length_take, Nat.min_eq_left (by omega)] at this

theorem sumsGo_le : ∀ (rs : List UInt8) (i : Nat) (u s : Int), u ≤ (sumsGo i rs u s).1 ∧ (sumsGo i rs u s).1 ≤ u + 255 * rs.length
  | [], _, u, s => by simp [sumsGo]
  | c :: r, i, u, s => by
    have h := sumsGo_le r (i + 1) (u + sumB i c) (s + IntKind.i8.wrap (sumB i c))
    have h2 := sumB_le i c
    rw [sumsGo]
    simp only [List.length_cons]
    omega
theorem sums_le (rs : List UInt8) (hl : rs.length = 512) : 0 ≤ (sums rs).1 ∧ (sums rs).1 ≤ 130560 := by
  have h := sumsGo_le rs 0 0 0
  unfold sums
  omega
theorem oct_length : ∀ (k u : Nat), u < 8 ^ (k + 1) → (oct u).length ≤ k + 1
  | 0, u, h => by rw [oct_lt (by omega)]; simp
  | k + 1, u, h => by
    by_cases h8 : u < 8
    · rw [oct_lt h8]; simp
    · rw [oct_ge h8]
      have := oct_length k (u / 8) (by rw [Nat.pow_succ] at h; omega)
      simp; omega
theorem octI_size {n : Int} (h : 0 ≤ n) : (octI n).size = (oct n.natAbs).length := by
  rw [octI, if_neg (by omega)]
  show Array.size _ = _
  simp
theorem octField_small (n : Int) (h0 : 0 ≤ n) (h1 : n ≤ 130560) : ∃ bs, octField n 7 = some bs ∧ bs.length = 7 := by
  have h := oct_length 5 n.natAbs (by omega)
  have h2 := octI_size h0
  rw [octField, if_neg (by omega)]
  refine ⟨_, rfl, ?_⟩
  have h3 : (octI n).data.toList.length = (octI n).size := by simp
  simp only [List.length_append, h3, zeros, List.length_replicate, List.length_cons, List.length_nil]
  omega

set_option maxRecDepth 10000 in
set_option maxHeartbeats 1000000 in
theorem putSum_any (F : Fr) (hg : GC F 10 (u8s deBr)) (rs : List UInt8) (hl : rs.length = 512) :
    Does Tryd.prog 24 [.agg (bvs rs).toArray] F [] (fun v L' => L' = [] ∧ v = .agg (bvs (putSum rs)).toArray) := by
  obtain ⟨hs0, hs1⟩ := sums_le rs hl
  obtain ⟨bs, hbs, hbl⟩ := octField_small _ hs0 hs1
  have hput : putSum rs = putAt rs 148 (bs ++ [32]) := by rw [putSum, hbs]; rfl
  refine Does_clear (p := fun v => v = _) ?_
  refine Does_of (n := 23) Tryd.func24 rfl rfl (by simp) ?_
  refine goW ?_
  refine a_box fun b => ?_
  refine a_alloc fun b2 => ?_
  refine goL ?_
  have hcut : Cut (bvs rs) 0 512 (bvs rs) := hl ▸ Cut_all rs
  refine KL_p (.none rfl) rfl (p_load_agg rfl (.own (.tail _ (.head _))) hcut) ?_
  refine goL ?_
  refine a_call (sums_any _ rs hl) ?_
  rintro v L' ⟨rfl, rfl⟩
  refine goL ?_
  refine a_call (putOctal_any _ (hg.plus _) (sums rs).1 (by simp only [Fits]; omega) 7 (by omega) (by omega)) ?_
  intro v L' hv
  unfold OctR at hv
  rw [hbs] at hv
  obtain ⟨s, ⟨sv, hok, rfl, rfl⟩, rfl⟩ := hv
  refine goL ?_
  refine x_start [] ?_
  refine goX ?_
  refine x_m (m_buildSlice (zl := [.int .u8 0]) (l := [.int .u8 32]) rfl rfl (by apply Parts.int; exact Parts.nil) rfl (by decide)) fun b3 _ => ?_
  refine x_m (m_append (sv := some sv) (zl := [.int .u8 0]) (news := [.int .u8 32]) rfl rfl rfl rfl List.perm_middle.symm hok (Src.cut (.own (.head _)) (.cons .nil) (oneCells_of rfl)) ?_ ?_ ?_) fun sv' hsv' => ?_
  · omega
  · omega
  · exact Nat.one_pos
  obtain ⟨h4, h5⟩ := hsv'
  obtain ⟨sv', rfl⟩ : ∃ s, sv' = some s := by
    cases sv' with
    | none => exact absurd (h5 rfl).1 nofun
    | some s => exact ⟨s, rfl⟩
  have e : bvs bs ++ [Value.int .u8 32] = bvs (bs ++ [32]) := by simp [bvs]; rfl
  have hl8 : (bs ++ [32]).length = 8 := by simp [hbl]
  have hpat : Patch (bvs rs) 148 ((bvs (bs ++ [32])).take 8) (bvs (putSum rs)) := by
    rw [← hl8, ← bvs_length (bs ++ [32]), List.take_length, hput]
    exact patch_at rs _ 148 (by omega)
  rw [e, show bs.length + 1 = 8 by omega]
  refine x_m (m_copy (m := 8) (dLen := 8) (o := 148) (news := bvs (bs ++ [32])) (l := bvs rs) (l' := bvs (putSum rs)) rfl rfl (Src.cut (.own (.head _)) (hl8 ▸ Cut_pre _ _) (oneCells_bvs _)) (.tail (.tail (.tail .head))) hpat (Thaw.zero _)) fun _ _ => ?_
  refine goX ?_
  have hpl : (putSum rs).length = 512 := by
    rw [hput, putAt]; simp [hl, hbl]
  refine KL_p (.none rfl) rfl (p_load_agg rfl (.own (.tail _ (.tail _ (.tail _ (.head _))))) (hpl ▸ Cut_all (putSum rs))) ?_
  refine KL_s (.none rfl) (s_store (l' := bvs (putSum rs)) rfl rfl rfl (by simp [bvs_length, hpl]) (.tail (.tail (.head))) (Patch_all ?_) (oneCells_bvs _)) ?_
  · simp [bvs_length, hpl]
  refine goL ?_
  have hc2 : Cut (bvs (putSum rs)) 0 512 (bvs (putSum rs)) := hpl ▸ Cut_all (putSum rs)
  refine KQ_ret1 (.inl rfl) rfl (.agg rfl (.own (.tail _ (.tail _ (.head _)))) hc2) ?_
  rfl
end Go.Proofs.YtjeaofabpfgngaaDoor
