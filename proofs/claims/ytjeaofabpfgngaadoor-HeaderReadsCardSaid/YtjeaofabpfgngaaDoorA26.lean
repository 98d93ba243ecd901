/-
  The law HeaderWrites walked.
  Conditions: the package-level variables hold what the programs' texts lay.
-/
import Derived.Test.YtjeaofabpfgngaaDoorA25
import Derived.Test.YtjeaofabpfgngaaDoorK12
import Derived.Test.YtjeaofabpfgngaaDoorA15
import Derived.SizedLaws
namespace Go.Proofs.YtjeaofabpfgngaaDoor
open Go.KE

section
variable {P : Program} {n : Nat} {F : Fr} {E : Sl} {L : Bl}
/-- Two arrays of bytes are compared. -/
theorem p_eq_bytes {x y : Operand} {t u e ty : TypeId} {len bytes : Nat} {z : Value} {xs ys : List UInt8} [ht : TU P t (.array len e)] [he : TU P e (.int .u8)] [hz : TZ P e z 1 bytes] (hp : P.eqGuardType P.depth t = false)
    (hx : ev E x = some (.agg (bvs xs).toArray)) (hy : ev E y = some (.agg (bvs ys).toArray)) (h1 : xs.length = len) (h2 : ys.length = len) : PureAt P n F E L (.binOp .eql t x y u) ty (.bool (xs == ys)) :=
  p_aggEq hx hy hp fun w => run_equalIn_bytes w 9998 t e len ht.u he.u (fun w => hz.sizeOf w) xs ys h1 h2
end
theorem guard24 : Tryd.prog.eqGuardType Tryd.prog.depth 24 = false := by kernel_rfl

/-- The lengths of a header's texts are within an argument's reach. -/
def HSized (h : Hdr) : Prop := ∀ k, (txt h k).1.size ≤ 140737488355328
theorem HSized.total {h : Hdr} (hs : HSized h) : h.name.size + h.link.size + h.user.size + h.group.size + h.pre.size ≤ 9223372036854775807 := by
  have h0 : h.name.size ≤ 140737488355328 := hs 0
  have h1 : h.link.size ≤ 140737488355328 := hs 1
  have h2 : h.user.size ≤ 140737488355328 := hs 2
  have h3 : h.group.size ≤ 140737488355328 := hs 3
  have h4 : h.pre.size ≤ 140737488355328 := hs 4
  omega

def abHdr : Hdr := ⟨0, ⟨#[98]⟩, ⟨#[97]⟩, 0, 0, 0, 0, 0, 0, ⟨#[]⟩, ⟨#[]⟩, ⟨#[]⟩, 0, 0⟩
theorem abHdr_name : fullName abHdr = ⟨#[97, 47, 98]⟩ := by decide +kernel

set_option maxRecDepth 10000 in
set_option maxHeartbeats 4000000 in
theorem writes_any (F : Fr) (hg : Glob F) (hg10 : GC F 10 (u8s deBr)) (h : Hdr) (hf : HFits h) (hs : HSized h) :
    Does Tryd.prog 4 [.agg (hdrCells h).toArray] F [] (fun v L' => L' = [] ∧ v = .bool true) := by
  have htot := hs.total
  have hel := encode_length h
  refine Does_clear (p := fun v => v = _) ?_
  refine Does_of (n := 37) Tryd.func4 rfl rfl (by simp) ?_
  refine goW ?_
  refine a_box fun b1 => ?_
  refine goL ?_
  refine a_call (encode_any _ (hg.plus _) (hg10.plus _) h hf) ?_
  rintro v L' ⟨rfl, rfl⟩
  refine goL ?_
  refine a_alloc fun b3 => ?_
  refine KL_s (.none rfl) (s_store (l' := bvs (encode h).1) rfl rfl rfl (by rw [bvs_length]; exact hel) .head (Patch_all (by rw [bvs_length, hel]; rfl)) (oneCells_bvs _)) ?_
  refine goL ?_
  refine a_call (refEncode_any _ h hf htot) ?_
  rintro v L' ⟨rfl, rfl⟩
  refine goL ?_
  refine a_alloc fun b5 => ?_
  refine KL_s (.none rfl) (s_store (l' := bvs (encode h).1) rfl rfl rfl (by rw [bvs_length]; exact hel) .head (Patch_all (by rw [bvs_length, hel]; rfl)) (oneCells_bvs _)) ?_
  generalize encode h = en at *
  obtain ⟨rs, code⟩ := en
  dsimp only at hel
  have hcut : Cut (bvs rs) 0 512 (bvs rs) := hel ▸ Cut_all rs
  refine goL ?_
  refine x_start (N := 21) [(b5, .cells (bvs rs).toArray 24 (0, 0)), (b3, .cells (bvs rs).toArray 24 (0, 0)), (b1, .cells (hdrCells h).toArray 23 (0, 0))] ?_
  refine x_ldA hcut ?_
  refine x_ldA hcut ?_
  refine x_pure (p_eq_bytes guard24 rfl rfl hel hel) ?_
  rw [beq_self_eq_true]
  refine goX ?_
  refine y_at ?_
  refine y_p 11 (p_load_agg (cs := hdrCells h) rfl (.own (.tail _ (.tail _ (.head _)))) (by (repeat (first | exact Cut.nil | apply Cut.cons | apply Cut.skip)))) ?_
  refine y_call 10 (name_any _ h (by have := hs 4; have := hs 0; simp only [txt] at *; omega)) ?_
  rintro v L' ⟨rfl, rfl⟩
  refine y_back (N := 21) 12 ?_
  refine x_call (refName_any _ h (by have := hs 4; have := hs 0; simp only [txt] at *; omega)) ?_
  rintro v L' ⟨rfl, rfl⟩
  refine x_pure (p_seq_t rfl rfl rfl) ?_
  refine goX ?_
  refine x_call (name_any _ abHdr (by decide)) ?_
  rintro v L' ⟨rfl, rfl⟩
  rw [abHdr_name]
  refine x_pure (p_seq_t rfl rfl rfl) ?_
  refine goX ?_
  exact a_ret1 rfl

/-! ### the header's sizes -/
theorem hdr_sized {H : Type} {enc : TypeId × Value → H} {W : World} {b : Nat} {sp : Nat → Bool} {hd' : Bool} {h : Hdr} {d : DataW H} {ps : List MemPlace} (hd : DataW.Trod enc Tryd.prog W b sp hd' 23 (.agg (hdrCells h).toArray) d ps)
    (hw : (d.weights Tryd.prog 23).all (· ≤ reachBytes) = true) : HSized h := by
  obtain ⟨fs, hfs, hm⟩ := hdr_struct
  obtain ⟨fuel, hd⟩ := hd
  obtain ⟨xs, n, rfl, hx, hlen, hxl, hread⟩ := DataW.trod_struct hfs hd
  have hx1 := congrArg Prod.fst hx
  dsimp only at hx1
  subst hx1
  have hfl : fs.size = 14 := by
    have := congrArg List.length hm
    simpa [hdrTypes] using this
  rw [hfl] at hxl
  have key : ∀ (i off : Nat) (s : ByteArray), hdrTypes[i]? = some (9, off) → (hdrCells h)[off]? = some (.string s) → s.size ≤ 140737488355328 := by
    intro i off s hi hs
    obtain ⟨f, h1, h2, rfl⟩ := fld_at hm i 9 off hi
    have hr := hread i f h1
    have e : (((Value.agg (hdrCells h).toArray).cells.toList.drop f.offset).take (Tryd.prog.cellsOf f.type)) = [.string s] := by
      rw [h2, hc9]
      show ((hdrCells h).drop f.offset).take 1 = _
      have hlt := (List.getElem?_eq_some_iff.1 hs).1
      rw [List.drop_eq_getElem_cons hlt, (List.getElem?_eq_some_iff.1 hs).2]; rfl
    rw [e, h2] at hr
    have hi14 : i < xs.length := by
      have := (List.getElem?_eq_some_iff.1 hi).1
      rw [hxl]; simpa [hdrTypes] using this
    rw [List.getElem?_eq_getElem hi14] at hr
    obtain ⟨m, e1, e2, _⟩ := DataW.trod_string hu9 hr
    obtain rfl : s = m := by simpa using e1
    have ew : (DataW.agg (xs.map (·.1)) : DataW H).weights Tryd.prog 23 = DataW.weightsEach Tryd.prog (fs.toList.map (·.type)) (xs.map (·.1)) := by
      simp only [DataW.weights, hfs]
    have hmem : s.data.toList.length ∈ DataW.weightsEach Tryd.prog (fs.toList.map (·.type)) (xs.map (·.1)) :=
      DataW.weights_mem_each (j := i) (t := 9) (d := .lit (.string s.data.toList)) (by rw [List.getElem?_map, Array.getElem?_toList, h1]; simp [h2]) (by rw [List.getElem?_map, List.getElem?_eq_getElem hi14, e2]; rfl) _ (by simp [DataW.weights])
    rw [ew] at hw
    have := List.all_eq_true.1 hw _ hmem
    have h3 := of_decide_eq_true this
    have h4 := reachBytes_lt
    have h5 : s.data.toList.length = s.size := by simp
    omega
  intro k
  unfold txt
  split
  · exact key 1 1 h.name rfl rfl
  · exact key 9 9 h.link rfl rfl
  · exact key 10 10 h.user rfl rfl
  · exact key 11 11 h.group rfl rfl
  · exact key 2 2 h.pre rfl rfl
end Go.Proofs.YtjeaofabpfgngaaDoor
