/-
  What the listed variables give a walk; the world behind a walk.
  No condition.
-/
import Derived.Test.YtjeaofabpfgngaaDoorA14
import Derived.OpenShut
namespace Go.Proofs.YtjeaofabpfgngaaDoor
open Go.ChangeShapes Go.WideShapes Go.ChangeAt Go.RowKit Go.KE

/-- Every block of a world, as a frame. -/
def frame (W : World) : Fr := ⟨fun k o => W.heap[k]? = some o, W.os, W.tape, W.output⟩
theorem frame_st (W : World) : St (frame W) [] W := ⟨fun _ _ h => h, nofun, nofun, .nil, rfl, rfl, rfl⟩
theorem frame_kept {W W' : World} {L : Bl} (h : St (frame W) L W') (may : MemPlace → Prop) : W.keptBut W' may := by
  refine ⟨h.os, h.output, fun i hi => ?_⟩
  have e : W'.heap[i]? = W.heap[i]? := by
    rw [Array.getElem?_eq_getElem hi]
    exact h.fr i _ (Array.getElem?_eq_getElem hi)
  rw [e]
  cases hw : W.heap[i]? with
  | none => rfl
  | some o =>
    cases o with
    | cells c t fr => exact ⟨rfl, rfl, rfl, fun _ _ => rfl⟩
    | map es clock => exact .inr ⟨rfl, rfl⟩
    | _ => rfl

theorem gc_of_var {W : World} {n : String} {g : Nat} {cs : Array Value} {l : List Value} (hg : Tryd.prog.globalNamed n = some g) (h : W.var? Tryd.prog n = some cs) (hl : cs.toList = l) : GC (frame W) g l := by
  simp only [World.var?, hg, Option.bind_some] at h
  split at h
  · rename_i cs' t fr hw
    obtain rfl := Option.some.inj h
    exact ⟨t, fr, by show W.heap[g]? = _; rw [hw, ← hl]⟩
  · cases h

/-- A listed variable: its name, number, type and reading. -/
theorem laid_var {P : Program} {w : World} {n : String} {d : DataW Unit} {g : Nat} {t : TypeId} (hg : P.globalNamed n = some g) (ht : (P.globals[g]?).map (·.type) = some t) : ∀ (l : List (String × DataW Unit)) (ps : List MemPlace), DataW.LaidVars P w l ps → (n, d) ∈ l →
    ∃ cs fuel p, w.var? P n = some cs ∧ DataW.trod (fun _ => ()) P w 0 (fun _ => true) false fuel t cs.toList = some (d, p)
  | [], _, _, h => by cases h
  | (nm, dd) :: r, ps, hl, hm => by
    obtain ⟨g', t', cs, fuel, p, q, h1, h2, h3, h4, h5, h6⟩ := hl
    rcases List.mem_cons.1 hm with e | e
    · obtain ⟨rfl, rfl⟩ := Prod.mk.inj e
      obtain rfl := Option.some.inj (h1.symm.trans hg)
      obtain rfl := Option.some.inj (h2.symm.trans ht)
      exact ⟨cs, fuel, p, h3, h4⟩
    · exact laid_var hg ht r q h5 e

/-- An array of numbers that is read. -/
theorem open_arr {H : Type} {enc : TypeId × Value → H} {P : Program} {w : World} {b : Nat} {sp : Nat → Bool} {hd : Bool} {t e : TypeId} {k : IntKind} {fuel : Nat} {cs : List Value} {l : List Int} {p : List MemPlace} (ht : P.underlying t = some (.array l.length e)) (he : P.underlying e = some (.int k)) (hc : P.cellsOf e = 1) (hct : P.cellsOf t = l.length)
    (h : DataW.trod enc P w b sp hd fuel t cs = some (.agg (l.map fun m => .lit (.int k m)), p)) : cs = l.map (.int k) := by
  obtain ⟨xs, m, rfl, hx, hlen, hxl, hread⟩ := DataW.trod_array ht h
  have h1 := (Prod.mk.inj hx).1
  rw [DataW.agg.injEq] at h1
  refine List.ext_getElem? fun i => ?_
  by_cases hi : i < l.length
  · have hr := hread i hi
    rw [hc, List.getElem?_eq_getElem (by omega)] at hr
    obtain ⟨a, ea, ey, _⟩ := DataW.trod_int he hr
    have h2 : (xs.map (·.1))[i]? = (l.map fun m => (DataW.lit (.int k m) : DataW H))[i]? := by rw [h1]
    rw [List.getElem?_map, List.getElem?_eq_getElem (by omega), List.getElem?_map, List.getElem?_eq_getElem hi, ey] at h2
    simp at h2
    have h3 : ((cs.drop (i * 1)).take 1)[0]? = some (.int k a) := by rw [ea]; rfl
    rw [List.getElem?_take, if_pos (by omega), List.getElem?_drop] at h3
    simp at h3
    rw [h3, List.getElem?_map, List.getElem?_eq_getElem hi, h2]; rfl
  · rw [List.getElem?_eq_none (by omega), List.getElem?_eq_none (by simp; omega)]

theorem hu45 : (match Tryd.prog.underlying 45 with | some (.struct fs) => fs.toList.map (fun f => (f.type, f.offset)) | _ => []) = [(3, 0), (3, 1)] := by kernel_rfl
theorem hc45 : Tryd.prog.cellsOf 45 = 2 := by kernel_rfl
set_option maxRecDepth 10000 in
/-- A span that is read. -/
theorem open_span {H : Type} {enc : TypeId × Value → H} {w : World} {b : Nat} {sp : Nat → Bool} {hd : Bool} {fuel : Nat} {cs : List Value} {x y : Int} {p : List MemPlace}
    (h : DataW.trod enc Tryd.prog w b sp hd fuel 45 cs = some (.agg [.lit (.int .i64 x), .lit (.int .i64 y)], p)) : cs = [i64 x, i64 y] := by
  have h0 := hu45
  split at h0
  · rename_i fs hfs
    obtain ⟨xs, n, rfl, hx, hlen, hxl, hread⟩ := DataW.trod_struct hfs h
    rw [hc45] at hlen
    obtain ⟨f0, g0, t0, o0⟩ := fld_at h0 0 3 0 rfl
    obtain ⟨f1, g1, t1, o1⟩ := fld_at h0 1 3 1 rfl
    have r0 := hread 0 f0 g0
    have r1 := hread 1 f1 g1
    rw [t0, o0, hc3] at r0
    rw [t1, o1, hc3] at r1
    have hf2 : fs.size = 2 := by
      have := congrArg List.length h0
      simpa using this
    rw [hf2] at hxl
    match cs, hlen, xs, hxl with
    | [c0, c1], _, [y0, y1], _ =>
      obtain ⟨m0, e0, ey0, _⟩ := DataW.trod_int hu3 r0
      obtain ⟨m1, e1, ey1, _⟩ := DataW.trod_int hu3 r1
      simp at e0 e1 hx
      subst e0 e1
      rw [ey0, ey1] at hx
      simp at hx
      obtain ⟨⟨rfl, rfl⟩, _⟩ := hx
      rfl
  · simp at h0

theorem glob_of {W : World} {l : List (String × DataW Unit)} (h : laidMet Tryd.prog l W) (h0 : ("satchel/header.atType", Rows.laid_satchel_header_atType) ∈ l) (h1 : ("satchel/header.atMagic", Rows.laid_satchel_header_atMagic) ∈ l) (h2 : ("satchel/header.atName", Rows.laid_satchel_header_atName) ∈ l)
    (h3 : ("satchel/header.atLink", Rows.laid_satchel_header_atLink) ∈ l) (h4 : ("satchel/header.atUser", Rows.laid_satchel_header_atUser) ∈ l) (h5 : ("satchel/header.atGroup", Rows.laid_satchel_header_atGroup) ∈ l) (h6 : ("satchel/header.atPrefix", Rows.laid_satchel_header_atPrefix) ∈ l) : Glob (frame W) := by
  obtain ⟨ps, hl, _, _⟩ := h
  have span : ∀ (n : String) (g : Nat) (x y : Int), Tryd.prog.globalNamed n = some g → (Tryd.prog.globals[g]?).map (·.type) = some 45 → (n, DataW.agg [.lit (.int .i64 x), .lit (.int .i64 y)]) ∈ l → GC (frame W) g (sp x y) := by
    intro n g x y hg ht hm
    obtain ⟨cs, fuel, p, hv, hd⟩ := laid_var hg ht l ps hl hm
    exact gc_of_var hg hv (open_span hd)
  refine ⟨?_, span _ _ _ _ (by kernel_rfl) (by kernel_rfl) h1, span _ _ _ _ (by kernel_rfl) (by kernel_rfl) h2, span _ _ _ _ (by kernel_rfl) (by kernel_rfl) h3, span _ _ _ _ (by kernel_rfl) (by kernel_rfl) h4, span _ _ _ _ (by kernel_rfl) (by kernel_rfl) h5, span _ _ _ _ (by kernel_rfl) (by kernel_rfl) h6⟩
  have hg : Tryd.prog.globalNamed "satchel/header.atType" = some 0 := by kernel_rfl
  obtain ⟨cs, fuel, p, hv, hd⟩ := laid_var hg (t := 3) (by kernel_rfl) l ps hl h0
  obtain ⟨m, e1, e2, _⟩ := DataW.trod_int hu3 hd
  have hm : m = 156 := by
    have := congrArg Prod.fst e2
    simp [Rows.laid_satchel_header_atType] at this
    exact this.symm
  subst hm
  exact gc_of_var hg hv e1
theorem deBr_of {W : World} {l : List (String × DataW Unit)} (h : laidMet Tryd.prog l W) (h0 : ("math/bits.deBruijn64tab", Rows.laid_math_bits_deBruijn64tab) ∈ l) : GC (frame W) 10 (u8s deBr) := by
  obtain ⟨ps, hl, _, _⟩ := h
  have hg : Tryd.prog.globalNamed "math/bits.deBruijn64tab" = some 10 := by kernel_rfl
  obtain ⟨t, ht⟩ : ∃ t, (Tryd.prog.globals[10]?).map (·.type) = some t ∧ Tryd.prog.underlying t = some (.array deBr.length 5) ∧ Tryd.prog.cellsOf t = deBr.length := ⟨142, by kernel_rfl, by kernel_rfl, by kernel_rfl⟩
  obtain ⟨cs, fuel, p, hv, hd⟩ := laid_var hg ht.1 l ps hl h0
  exact gc_of_var hg hv (open_arr ht.2.1 hu5 hc5 ht.2.2 hd)
end Go.Proofs.YtjeaofabpfgngaaDoor
