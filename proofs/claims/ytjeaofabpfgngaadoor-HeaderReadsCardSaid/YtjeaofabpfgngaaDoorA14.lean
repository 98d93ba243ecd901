/-
  A header that is an argument, opened; what the listed variables give a walk; the world behind a walk.
  No condition.
-/
import Derived.Test.YtjeaofabpfgngaaDoorA13
import Derived.Test.YtjeaofabpfgngaaDoorRows
import Derived.ProofKit
import Derived.LaidMore
import Derived.ChangeAlike
namespace Go.Proofs.YtjeaofabpfgngaaDoor
open Go.ChangeShapes Go.WideShapes Go.ChangeAt Go.RowKit Go.KE

theorem Tryd.ownKnob : ownKnob Tryd.prog.godebug = none := by kernel_rfl

/-! ### the header -/
theorem trod_same_int {H : Type} {enc : TypeId × Value → H} {P : Program} {w w' : World} {b b' : Nat} {sp sp' : Nat → Bool} {hd hd' : Bool} {t : TypeId} {k : IntKind} {n : Nat} {cs : List Value} {x : DataW H × List MemPlace} (ht : P.underlying t = some (.int k))
    (h : DataW.trod enc P w b sp hd n t cs = some x) : DataW.trod enc P w' b' sp' hd' n t cs = some x := by
  obtain ⟨m, rfl, rfl, hw⟩ := DataW.trod_int ht h
  cases n with
  | zero => simp [DataW.trod] at h
  | succ n => simp [DataW.trod, ht, hw]
theorem trod_same_str {H : Type} {enc : TypeId × Value → H} {P : Program} {w w' : World} {b b' : Nat} {sp sp' : Nat → Bool} {hd hd' : Bool} {t : TypeId} {n : Nat} {cs : List Value} {x : DataW H × List MemPlace} (ht : P.underlying t = some .string)
    (h : DataW.trod enc P w b sp hd n t cs = some x) : DataW.trod enc P w' b' sp' hd' n t cs = some x := by
  obtain ⟨m, rfl, rfl, hw⟩ := DataW.trod_string ht h
  cases n with
  | zero => simp [DataW.trod] at h
  | succ n => simp [DataW.trod, ht, hw]

theorem hu2 : Tryd.prog.underlying 2 = some (.int .i64) := by kernel_rfl
theorem hu3 : Tryd.prog.underlying 3 = some (.int .i64) := by kernel_rfl
theorem hu4 : Tryd.prog.underlying 4 = some .bool := by kernel_rfl
theorem hu5 : Tryd.prog.underlying 5 = some (.int .u8) := by kernel_rfl
theorem hu9 : Tryd.prog.underlying 9 = some .string := by kernel_rfl
theorem hc2 : Tryd.prog.cellsOf 2 = 1 := by kernel_rfl
theorem hc3 : Tryd.prog.cellsOf 3 = 1 := by kernel_rfl
theorem hc5 : Tryd.prog.cellsOf 5 = 1 := by kernel_rfl
theorem hc9 : Tryd.prog.cellsOf 9 = 1 := by kernel_rfl
theorem hc23 : Tryd.prog.cellsOf 23 = 14 := by kernel_rfl
def hdrTypes : List (Nat × Nat) := [(3, 0), (9, 1), (9, 2), (2, 3), (2, 4), (2, 5), (2, 6), (2, 7), (5, 8), (9, 9), (9, 10), (9, 11), (2, 12), (2, 13)]
theorem hu23 : (match Tryd.prog.underlying 23 with | some (.struct fs) => fs.toList.map (fun f => (f.type, f.offset)) | _ => []) = hdrTypes := by kernel_rfl
theorem hdr_struct : ∃ fs, Tryd.prog.underlying 23 = some (.struct fs) ∧ fs.toList.map (fun f => (f.type, f.offset)) = hdrTypes := by
  have h := hu23
  split at h
  · rename_i fs he
    exact ⟨fs, he, h⟩
  · simp [hdrTypes] at h
theorem fld_at {fs : Array Field} {l : List (Nat × Nat)} (hm : fs.toList.map (fun f => (f.type, f.offset)) = l) (i ty off : Nat) (h : l[i]? = some (ty, off)) : ∃ f, fs[i]? = some f ∧ f.type = ty ∧ f.offset = off := by
  rw [← hm, List.getElem?_map, Option.map_eq_some_iff] at h
  obtain ⟨f, hf, he⟩ := h
  rw [Prod.mk.injEq] at he
  exact ⟨f, by rw [← Array.getElem?_toList]; exact hf, he.1, he.2⟩

theorem fits64 {n : Int} (h : (Lit.int .i64 n).wf = true) : Fits .i64 n := by
  simp [Lit.wf, IntKind.min, IntKind.max, IntKind.signed, IntKind.bits] at h
  simp only [Fits]
  omega
theorem fits8 {n : Int} (h : (Lit.int .u8 n).wf = true) : 0 ≤ n ∧ n < 256 := by
  simp [Lit.wf, IntKind.min, IntKind.max, IntKind.signed, IntKind.bits] at h
  omega

theorem mapM_of_get {α β : Type} (g : α → Option β) : ∀ (l : List α) (xs : List β), l.length = xs.length → (∀ (i : Nat) (f : α), l[i]? = some f → g f = xs[i]?) → l.mapM g = some xs
  | [], [], _, _ => rfl
  | [], _ :: _, h, _ => by simp at h
  | _ :: _, [], h, _ => by simp at h
  | f :: l, x :: xs, h, hg => by
    have h0 := hg 0 f rfl
    have ih := mapM_of_get g l xs (by simpa using h) (fun i f' hf => hg (i + 1) f' hf)
    simp only [List.getElem?_cons_zero] at h0
    simp [List.mapM_cons, h0, ih]

set_option maxRecDepth 10000 in
set_option maxHeartbeats 1000000 in
/-- A header that is read: its cells, and that its numbers and texts fit. -/
theorem open_hdr {H : Type} {enc : TypeId × Value → H} {W : World} {base : Nat} {v : Value} {d : DataW H} {ps : List MemPlace} (hv : Value.okWide Tryd.prog W .any base 23 v) (hd : DataW.Trod enc Tryd.prog W 0 (fun _ => true) true 23 v d ps) :
    ∃ h : Hdr, v = .agg (hdrCells h).toArray ∧ HFits h ∧ ps = [] ∧ ∀ (W' : World) (b' : Nat) (sp' : Nat → Bool) (hd' : Bool), DataW.Trod enc Tryd.prog W' b' sp' hd' 23 v d [] := by
  obtain ⟨fs, hfs, hm⟩ := hdr_struct
  obtain ⟨cs, rfl⟩ : ∃ cs, v = .agg cs := by
    unfold Value.okWide at hv
    rw [hfs] at hv
    obtain ⟨cs, h, _⟩ := hv
    exact ⟨cs, h⟩
  obtain ⟨fuel, hd⟩ := hd
  obtain ⟨xs, n, rfl, hx, hlen, hxl, hread⟩ := DataW.trod_struct hfs hd
  rw [hc23] at hlen
  have hfl : fs.size = 14 := by
    have := congrArg List.length hm
    simpa [hdrTypes] using this
  rw [hfl] at hxl
  have hrd : ∀ (i ty off : Nat), hdrTypes[i]? = some (ty, off) → DataW.trod enc Tryd.prog W 0 (fun _ => true) true n ty (((Value.agg cs).cells.toList.drop off).take (Tryd.prog.cellsOf ty)) = xs[i]? := by
    intro i ty off h
    obtain ⟨f, h1, rfl, rfl⟩ := fld_at hm i ty off h
    exact hread i f h1
  have ecs : (Value.agg cs).cells = cs := rfl
  rw [ecs] at hrd hlen
  obtain ⟨l, rfl⟩ : ∃ l : List Value, cs = l.toArray := ⟨cs.toList, by simp⟩
  have hmk : ∀ (W' : World) (b' : Nat) (sp' : Nat → Bool) (hd' : Bool), fs.toList.mapM (fun f => DataW.trod enc Tryd.prog W' b' sp' hd' n f.type ((l.drop f.offset).take (Tryd.prog.cellsOf f.type))) = some xs := by
    intro W' b' sp' hd'
    refine mapM_of_get _ _ _ (by rw [hxl]; simpa using hfl) (fun i f hf => ?_)
    have hi : i < xs.length := by
      have := (List.getElem?_eq_some_iff.1 hf).1
      rw [hxl]
      have h2 : fs.toList.length = 14 := by simpa using hfl
      omega
    have hr := hread i f (by rw [← Array.getElem?_toList]; exact hf)
    rw [List.getElem?_eq_getElem hi] at hr ⊢
    have hmem : (f.type, f.offset) ∈ hdrTypes := by
      rw [← hm]
      exact List.mem_map_of_mem (f := fun f : Field => (f.type, f.offset)) (List.mem_of_getElem? hf)
    have hty : f.type = 2 ∨ f.type = 3 ∨ f.type = 5 ∨ f.type = 9 := (show ∀ p ∈ hdrTypes, p.1 = 2 ∨ p.1 = 3 ∨ p.1 = 5 ∨ p.1 = 9 by decide) _ hmem
    rcases hty with e | e | e | e
    · rw [e] at hr ⊢
      exact trod_same_int hu2 hr
    · rw [e] at hr ⊢
      exact trod_same_int hu3 hr
    · rw [e] at hr ⊢
      exact trod_same_int hu5 hr
    · rw [e] at hr ⊢
      exact trod_same_str hu9 hr
  have hlen' : l.length = 14 := by simpa using hlen
  obtain ⟨c0, c1, c2, c3, c4, c5, c6, c7, c8, c9, c10, c11, c12, c13, rfl⟩ : ∃ c0 c1 c2 c3 c4 c5 c6 c7 c8 c9 c10 c11 c12 c13, l = [c0, c1, c2, c3, c4, c5, c6, c7, c8, c9, c10, c11, c12, c13] := by
    match l, hlen' with
    | [c0, c1, c2, c3, c4, c5, c6, c7, c8, c9, c10, c11, c12, c13], _ => exact ⟨_, _, _, _, _, _, _, _, _, _, _, _, _, _, rfl⟩
  obtain ⟨y0, y1, y2, y3, y4, y5, y6, y7, y8, y9, y10, y11, y12, y13, rfl⟩ : ∃ y0 y1 y2 y3 y4 y5 y6 y7 y8 y9 y10 y11 y12 y13, xs = [y0, y1, y2, y3, y4, y5, y6, y7, y8, y9, y10, y11, y12, y13] := by
    match xs, hxl with
    | [y0, y1, y2, y3, y4, y5, y6, y7, y8, y9, y10, y11, y12, y13], _ => exact ⟨_, _, _, _, _, _, _, _, _, _, _, _, _, _, rfl⟩
  have r0 : DataW.trod enc Tryd.prog W 0 (fun _ => true) true n 3 [c0] = some y0 := by simpa [hc3] using hrd 0 3 0 rfl
  have r1 : DataW.trod enc Tryd.prog W 0 (fun _ => true) true n 9 [c1] = some y1 := by simpa [hc9] using hrd 1 9 1 rfl
  have r2 : DataW.trod enc Tryd.prog W 0 (fun _ => true) true n 9 [c2] = some y2 := by simpa [hc9] using hrd 2 9 2 rfl
  have r3 : DataW.trod enc Tryd.prog W 0 (fun _ => true) true n 2 [c3] = some y3 := by simpa [hc2] using hrd 3 2 3 rfl
  have r4 : DataW.trod enc Tryd.prog W 0 (fun _ => true) true n 2 [c4] = some y4 := by simpa [hc2] using hrd 4 2 4 rfl
  have r5 : DataW.trod enc Tryd.prog W 0 (fun _ => true) true n 2 [c5] = some y5 := by simpa [hc2] using hrd 5 2 5 rfl
  have r6 : DataW.trod enc Tryd.prog W 0 (fun _ => true) true n 2 [c6] = some y6 := by simpa [hc2] using hrd 6 2 6 rfl
  have r7 : DataW.trod enc Tryd.prog W 0 (fun _ => true) true n 2 [c7] = some y7 := by simpa [hc2] using hrd 7 2 7 rfl
  have r8 : DataW.trod enc Tryd.prog W 0 (fun _ => true) true n 5 [c8] = some y8 := by simpa [hc5] using hrd 8 5 8 rfl
  have r9 : DataW.trod enc Tryd.prog W 0 (fun _ => true) true n 9 [c9] = some y9 := by simpa [hc9] using hrd 9 9 9 rfl
  have r10 : DataW.trod enc Tryd.prog W 0 (fun _ => true) true n 9 [c10] = some y10 := by simpa [hc9] using hrd 10 9 10 rfl
  have r11 : DataW.trod enc Tryd.prog W 0 (fun _ => true) true n 9 [c11] = some y11 := by simpa [hc9] using hrd 11 9 11 rfl
  have r12 : DataW.trod enc Tryd.prog W 0 (fun _ => true) true n 2 [c12] = some y12 := by simpa [hc2] using hrd 12 2 12 rfl
  have r13 : DataW.trod enc Tryd.prog W 0 (fun _ => true) true n 2 [c13] = some y13 := by simpa [hc2] using hrd 13 2 13 rfl
  obtain ⟨m0, e0, rfl, w0⟩ := DataW.trod_int hu3 r0
  obtain rfl := (List.cons.inj e0).1
  obtain ⟨m1, e1, rfl, w1⟩ := DataW.trod_string hu9 r1
  obtain rfl := (List.cons.inj e1).1
  obtain ⟨m2, e2, rfl, w2⟩ := DataW.trod_string hu9 r2
  obtain rfl := (List.cons.inj e2).1
  obtain ⟨m3, e3, rfl, w3⟩ := DataW.trod_int hu2 r3
  obtain rfl := (List.cons.inj e3).1
  obtain ⟨m4, e4, rfl, w4⟩ := DataW.trod_int hu2 r4
  obtain rfl := (List.cons.inj e4).1
  obtain ⟨m5, e5, rfl, w5⟩ := DataW.trod_int hu2 r5
  obtain rfl := (List.cons.inj e5).1
  obtain ⟨m6, e6, rfl, w6⟩ := DataW.trod_int hu2 r6
  obtain rfl := (List.cons.inj e6).1
  obtain ⟨m7, e7, rfl, w7⟩ := DataW.trod_int hu2 r7
  obtain rfl := (List.cons.inj e7).1
  obtain ⟨m8, e8, rfl, w8⟩ := DataW.trod_int hu5 r8
  obtain rfl := (List.cons.inj e8).1
  obtain ⟨m9, e9, rfl, w9⟩ := DataW.trod_string hu9 r9
  obtain rfl := (List.cons.inj e9).1
  obtain ⟨m10, e10, rfl, w10⟩ := DataW.trod_string hu9 r10
  obtain rfl := (List.cons.inj e10).1
  obtain ⟨m11, e11, rfl, w11⟩ := DataW.trod_string hu9 r11
  obtain rfl := (List.cons.inj e11).1
  obtain ⟨m12, e12, rfl, w12⟩ := DataW.trod_int hu2 r12
  obtain rfl := (List.cons.inj e12).1
  obtain ⟨m13, e13, rfl, w13⟩ := DataW.trod_int hu2 r13
  obtain rfl := (List.cons.inj e13).1
  obtain ⟨hb0, hb1⟩ := fits8 w8
  have hb : ((UInt8.ofNat m8.toNat).toNat : Int) = m8 := by
    simp
    omega
  have hmax : maxLen = 9223372036854775807 := by decide
  refine ⟨⟨m0, m1, m2, m3, m4, m5, m6, m7, UInt8.ofNat m8.toNat, m9, m10, m11, m12, m13⟩, ?_, ⟨fits64 w0, fits64 w3, fits64 w4, fits64 w5, fits64 w6, fits64 w7, fits64 w12, fits64 w13, fun k => ?_⟩, ?_, fun W' b' sp' hd' => ⟨n + 1, ?_⟩⟩
  · simp only [hdrCells, bv, hb]
  · rw [← hmax]
    unfold txt
    split
    · exact w1
    · exact w9
    · exact w10
    · exact w11
    · exact w2
  · have := congrArg Prod.snd hx
    simpa using this
  · have hmk' := trod_struct_mk hfs (by rw [hc23]; exact hlen') (hmk W' b' sp' hd')
    have hx1 := congrArg Prod.fst hx
    dsimp only at hx1
    rw [hx1]
    exact hmk'
end Go.Proofs.YtjeaofabpfgngaaDoor
