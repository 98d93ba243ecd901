/-
  HeaderReads: for every header the law returns true, and the header reads behind the call as it read before.
  Condition: the package-level variables that the row lists hold what the programs' texts lay (the card ties them to the texts).
-/
import Derived.Test.YtjeaofabpfgngaaDoorA44
import Derived.Test.YtjeaofabpfgngaaDoorCards
import Derived.Lay
import Derived.ChangeBook
import Derived.ChangeStays
import Derived.Deep.Frames
import Derived.Test.YtjeaofabpfgngaaDoorTie
namespace Go.Proofs.YtjeaofabpfgngaaDoor
open Go.ChangeShapes Go.WideShapes Go.ChangeAt Go.RowKit Go.KE

theorem all_met5 (os : Os) (args : Array Value) : laidMetH Tryd.prog Rows.headerReadsRow.laid ((World.laidAll Tryd.prog os Rows.headerReadsRow.laid).forCall (fun _ _ => 0) ⟨#[], args, []⟩).memory := by
  rw [MakeChecks.laidMetH_plain _ _ _ (by kernel_rfl)]
  exact laidMet_laidAll _ (by kernel_rfl) (by kernel_rfl)

theorem hu30 : Tryd.prog.underlying 30 = some (.slice 5) := by kernel_rfl
theorem laidOut : laidOutB Tryd.prog = true := by kernel_rfl
theorem rec30 : Tryd.prog.readableRec 30 = true := by kernel_rfl
set_option maxRecDepth 100000 in
theorem row30 : 30 < Tryd.prog.types.size := of_decide_eq_true (by kernel_rfl)
theorem cell_in {W : World} {a : Addr} {v : Value} (h : W.cell? a = some v) : ∃ c t fr, W.heap[a.block]? = some (.cells c t fr) ∧ a.spot = none ∧ c[a.off]? = some v := by
  unfold World.cell? at h
  split at h
  · rename_i c t fr hw
    split at h
    · cases h
    · rename_i hs
      exact ⟨c, t, fr, hw, by simpa using hs, h⟩
  · cases h
set_option maxRecDepth 100000 in
/-- A slice of bytes that is read: its bytes, and that it reads as before where nothing of it was written. -/
theorem open_sl {H : Type} {enc : TypeId × Value → H} {W : World} {base : Nat} {v : Value} {d : DataW H} {ps : List MemPlace} (hv : Value.okWide Tryd.prog W .any base 30 v) (hd : DataW.Trod enc Tryd.prog W 0 (fun _ => true) true 30 v d ps) :
    ∃ b : List UInt8, SlF (frame W) v b ∧ ∀ W', W.keptBut W' (fun _ => False) → DataW.Trod enc Tryd.prog W' 0 (fun b => decide (b < W.heap.size)) true 30 v d ps := by
  obtain ⟨a, len, cap, rfl⟩ := okWide_slice hu30 hv
  obtain ⟨fuel, hf⟩ := hd
  have hcase := open_ints hu30 hu5 hc5 hf
  have hlt : ∀ p ∈ ps, p.block < W.heap.size := by
    intro p hp
    rcases hcase with ⟨_, h2⟩ | ⟨a', len', cap', zs, h1, hb, hl, hm, hz, hx, hcell, hwf⟩
    · rw [(Prod.mk.inj h2).2] at hp
      cases hp
    · rw [(Prod.mk.inj hx).2] at hp
      obtain ⟨i, hi, rfl⟩ := MemPlace.mem_row.1 hp
      obtain ⟨c, t, fr, hw, _⟩ := cell_in (hcell i hi)
      have e : (a'.add i).block = a'.block := by unfold Addr.add; split <;> rfl
      rw [e] at hw
      exact (Array.getElem?_eq_some_iff.1 hw).1
  have hkeep : ∀ W', W.keptBut W' (fun _ => False) → DataW.Trod enc Tryd.prog W' 0 (fun b => decide (b < W.heap.size)) true 30 (.slice a len cap) d ps := fun W' hk =>
    ⟨fuel, DataW.trod_stays (kids_book laidOut rec30) (book_sized rec30) (fun h => by cases h) ⟨row30, book_self 30⟩ hf
      (fun p hp => hk.sameAt (hlt p hp) (fun h => h) (fun b e => by
        have := DataW.trod_good (kids_book laidOut rec30) (fun h => by cases h) fuel 30 _ _ ⟨row30, book_self 30⟩ hf p hp
        subst e
        exact this))
      (fun p hp => by simpa using hlt p hp)⟩
  rcases hcase with ⟨h1, _⟩ | ⟨a', len', cap', zs, h1, hb, hl, hm, hz, hx, hcell, hwf⟩
  · have h3 : (Value.slice a len cap) = .slice none 0 0 := (List.cons.inj h1).1
    rw [Value.slice.injEq] at h3
    obtain ⟨rfl, rfl, rfl⟩ := h3
    exact ⟨[], .inl ⟨rfl, _, _, rfl⟩, hkeep⟩
  · have h3 : (Value.slice a len cap) = .slice (some a') len' cap' := (List.cons.inj h1).1
    rw [Value.slice.injEq] at h3
    obtain ⟨rfl, rfl, rfl⟩ := h3
    by_cases h0 : len = 0
    · subst h0
      exact ⟨[], .inl ⟨rfl, _, _, rfl⟩, hkeep⟩
    · have hzc : zs.length = cap := by rw [hz]; rfl
      obtain ⟨c, t, fr, hw, hspot, _⟩ := cell_in (hcell 0 (by omega))
      have e0 : a'.add 0 = a' := rfl
      rw [e0] at hw hspot
      obtain ⟨k, o, sp⟩ := a'
      dsimp only at hw hspot
      subst hspot
      have hcs : ∀ i, i < zs.length → c[o + i]? = some (.int .u8 (zs.getD i 0)) := fun i hi => by
        obtain ⟨c2, t2, fr2, hw2, _, hv2⟩ := cell_in (hcell i hi)
        rw [add_plain] at hw2 hv2
        dsimp only at hw2 hv2
        rw [hw] at hw2
        injection hw2 with e
        injection e with e1 e2 e3
        rw [e1]
        exact hv2
      have hbl : ((zs.take len).map fun n => UInt8.ofNat n.toNat).length = len := by simp; omega
      refine ⟨(zs.take len).map fun n => UInt8.ofNat n.toNat, .inr ⟨k, o, cap, c.toList, t, fr, by rw [hbl], by simpa [frame] using hw, ?_⟩, hkeep⟩
      rw [hbl]
      have hsz : o + len ≤ c.toList.length := by
        have := (Array.getElem?_eq_some_iff.1 (hcs (len - 1) (by omega))).1
        simp
        omega
      have hm2 := Cut.mk hsz
      have e : (c.toList.drop o).take len = bvs ((zs.take len).map fun n => UInt8.ofNat n.toNat) := by
        refine List.ext_getElem? fun i => ?_
        rw [List.getElem?_take]
        by_cases hi : i < len
        · rw [if_pos hi, List.getElem?_drop, Array.getElem?_toList, hcs i (by omega)]
          have hiz : i < zs.length := by omega
          have hg : (zs.take len)[i]? = some zs[i] := by rw [List.getElem?_take, if_pos hi, List.getElem?_eq_getElem hiz]
          have hd : zs.getD i 0 = zs[i] := by rw [List.getD_eq_getElem?_getD, List.getElem?_eq_getElem hiz]; rfl
          obtain ⟨g0, g1⟩ := fits8 (hwf zs[i] (List.getElem_mem hiz))
          have hb8 : ((zs.take len).map fun n => UInt8.ofNat n.toNat)[i]? = some (UInt8.ofNat zs[i].toNat) := by rw [List.getElem?_map, hg]; rfl
          rw [hd, bvs_at hb8]
          have : ((UInt8.ofNat zs[i].toNat).toNat : Int) = zs[i] := by simp; omega
          show some (Value.int .u8 zs[i]) = some (Value.int .u8 ((UInt8.ofNat zs[i].toNat).toNat : Int))
          rw [this]
        · rw [if_neg hi, List.getElem?_eq_none (by rw [bvs_length, hbl]; omega)]
      rw [← e]
      exact hm2

set_option maxRecDepth 100000 in
theorem reads_lifted (os : Os) (started : os.Started) (H : Type) (enc : TypeId × Value → H) :
    ReturnsInHanded {} Tryd.checked os 5 .any (fun w args => (Rows.headerReadsSpec.pre enc Tryd.prog Tryd.f5 [] false w args ∧ laidMetH Tryd.prog Rows.headerReadsRow.laid w) ∧ sizedMet enc Tryd.prog Tryd.f5 (OpenSpec.ofChange Rows.headerReadsSpec) false w args)
      (Rows.headerReadsSpec.post enc Tryd.prog Tryd.f5 false true false false) := by
  refine returnsInHanded_of_change_and (C := Tryd.checked) (X := fun w _ => laidMetH Tryd.prog Rows.headerReadsRow.laid w) (fun _ _ _ hh h => h.of_heap hh) Tryd.ownKnob started (by kernel_rfl) Tryd.func5
    (ChangeSpec.witness_shaped (enc := enc) (C := Tryd.checked) (os := os) (X := fun w _ => laidMetH Tryd.prog Rows.headerReadsRow.laid w) false (World.laidAll Tryd.prog os Rows.headerReadsRow.laid) #[.slice none 0 0] 8 (World.laidAll_os _ _ _) (World.shaped_of_ZipB (by kernel_rfl) (by kernel_rfl)) (by kernel_rfl) (by kernel_rfl) (by kernel_rfl) (all_met5 os _)) ?_
  intro W base args ds gs before hval0 hW _ _ hL _
  have hval : ∀ (j : Nat) t v, Tryd.f5.params[j]? = some t → args[j]? = some v → Value.okWide Tryd.prog W .any base t v := hval0
  have hW' := hW
  obtain ⟨p, q, hA0, hV, rfl, hfz, hnd⟩ := hW
  have hA : DataW.TrodAll enc Tryd.prog W 0 (fun _ => true) true Tryd.f5.params.toList args.toList ds p := hA0
  rw [Tryd.params5] at hA hval
  obtain ⟨v0, d0, rfl, rfl, h0⟩ := trodAll_one hA
  obtain ⟨rfl, rfl⟩ := trodVars_none hV
  obtain ⟨b, hsl, hback⟩ := open_sl (hval 0 30 v0 rfl rfl) h0
  clear hA0 hval0
  have hm : laidMet Tryd.prog Rows.headerReadsRow.laid W := by
    have e : (Rows.headerReadsRow.laid.filter fun x => x.2.handleName?.isSome) = [] := by kernel_rfl
    unfold laidMetH at hL
    rw [e] at hL
    exact hL
  have hg : Glob (frame W) := glob_of hm (by simp [Rows.headerReadsRow]) (by simp [Rows.headerReadsRow]) (by simp [Rows.headerReadsRow]) (by simp [Rows.headerReadsRow]) (by simp [Rows.headerReadsRow]) (by simp [Rows.headerReadsRow]) (by simp [Rows.headerReadsRow])
  have hg10 : GC (frame W) 10 (u8s deBr) := deBr_of hm (by simp [Rows.headerReadsRow])
  have hw := reads_any (frame W) hg hg10 v0 b hsl
  unfold Does at hw
  refine (hw W (frame_st W)).mono fun e W' ⟨v, L', hR, he, hs⟩ => ?_
  obtain ⟨rfl, rfl⟩ := hR
  subst he
  refine ⟨_, rfl, _, _, _, [], p, [], hW', ?_, ?_, ?_, frame_kept hs _, fun h => by cases h⟩
  · exact trodAll_mk1 (shut_bool hu4 true)
  · exact trodAll_mk1 (hback W' (frame_kept hs _))
  · rfl

theorem reads_holds : Rows.HeaderReadsSaid :=
  OpenClaim.holds_of_wide 5 Tryd.f5 rfl rfl rfl rfl rfl rfl rfl ⟨rfl, rfl, rfl, rfl, rfl⟩ rfl rfl rfl rfl rfl (by kernel_rfl) Tryd.func5 (by kernel_rfl)
    (of_decide_eq_true (by kernel_rfl)) (by unfold Func.isWrapper; first | (rw [if_pos (by decide +kernel)]; kernel_rfl) | (rw [if_neg (by decide +kernel)]; exact ⟨rfl, rfl⟩))
    (fun os started H enc _ => reads_lifted os started H enc)

theorem headerReads_card : Rows.HeaderReadsCardSaid :=
  Claim7.holds_tied_plain_at .later [] [.data, .data, .data, .data, .data, .data, .data, .wider, .data, .data, .data, .pinned] true (true, "81b63a4454abb9425122ea576bd21ac44fe62e7ee53d0680050faf2df2d8bb59") false
    reads_holds (fun _ h => by cases h) (by kernel_rfl) (fun _ h => by cases h) headerReads_row_tie rfl ⟨rfl, rfl⟩ (by kernel_rfl) rfl
    (fun f fn hf hfn => by
      obtain rfl : f = 5 := Option.some.inj ((show Tryd.prog.funcNamed "satchel/satchellaw13.HeaderReads" = some 5 by kernel_rfl).symm.trans hf) |>.symm
      obtain rfl : fn = Tryd.f5 := (Option.some.inj (Tryd.func5.symm.trans hfn)).symm
      exact ⟨by kernel_rfl, fun j t ht => by
        rw [Tryd.params5] at ht
        have h3 : t = 30 := by
          rcases j with _ | j
          · simpa using ht.symm
          · simp at ht
        subst h3
        exact (show Tryd.prog.wantsStandIn 30 = false by kernel_rfl)⟩)
    (by kernel_rfl)
#print axioms headerReads_card
end Go.Proofs.YtjeaofabpfgngaaDoor
