/-
  HeaderWrites: for every header the law returns true, and the header reads behind the call as it read before.
  Condition: the package-level variables that the row lists hold what the programs' texts lay (the card ties them to the texts).
-/
import Derived.Test.YtjeaofabpfgngaaDoorA26
import Derived.Test.YtjeaofabpfgngaaDoorCards
import Derived.Test.YtjeaofabpfgngaaDoorTie
namespace Go.Proofs.YtjeaofabpfgngaaDoor
open Go.ChangeShapes Go.WideShapes Go.ChangeAt Go.RowKit Go.KE

theorem door_met4 (os : Os) (args : Array Value) : laidMetH Tryd.prog Rows.headerWritesRow.laid ((World.doorLaid Tryd.prog 68 os).forCall (fun _ _ => 0) ⟨#[], args, []⟩).memory :=
  laidMetH_of_parts3 (fuel := 8) (laidMet_of_run' 8 (by kernel_rfl) (by kernel_rfl)) (by kernel_rfl) (by kernel_rfl)

set_option maxRecDepth 100000 in
theorem writes_lifted (os : Os) (started : os.Started) (H : Type) (enc : TypeId × Value → H) :
    ReturnsInHanded {} Tryd.checked os 4 .any (fun w args => (Rows.headerWritesSpec.pre enc Tryd.prog Tryd.f4 [] false w args ∧ laidMetH Tryd.prog Rows.headerWritesRow.laid w) ∧ sizedMet enc Tryd.prog Tryd.f4 (OpenSpec.ofChange Rows.headerWritesSpec) false w args)
      (Rows.headerWritesSpec.post enc Tryd.prog Tryd.f4 false true false false) := by
  refine returnsInHanded_of_change_and (C := Tryd.checked) (X := fun w _ => laidMetH Tryd.prog Rows.headerWritesRow.laid w) (fun _ _ _ hh h => h.of_heap hh) Tryd.ownKnob started (by kernel_rfl) Tryd.func4
    (ChangeSpec.witness_shaped (enc := enc) (C := Tryd.checked) (os := os) (X := fun w _ => laidMetH Tryd.prog Rows.headerWritesRow.laid w) false (World.doorLaid Tryd.prog 68 os) #[.agg (hdrCells lastHdr).toArray] 8 rfl (World.shaped_of_RefB (by kernel_rfl) (by kernel_rfl)) (by kernel_rfl) (by kernel_rfl) (by kernel_rfl) (door_met4 os _)) ?_
  intro W base args ds gs before hval0 hW _ hsz hL _
  have hval : ∀ (j : Nat) t v, Tryd.f4.params[j]? = some t → args[j]? = some v → Value.okWide Tryd.prog W .any base t v := hval0
  have hW' := hW
  obtain ⟨p, q, hA0, hV, rfl, hfz, hnd⟩ := hW
  have hA : DataW.TrodAll enc Tryd.prog W 0 (fun _ => true) true Tryd.f4.params.toList args.toList ds p := hA0
  rw [Tryd.params4] at hA hval
  obtain ⟨v0, d0, rfl, rfl, h0⟩ := trodAll_one hA
  obtain ⟨rfl, rfl⟩ := trodVars_none hV
  obtain ⟨h, rfl, hf, rfl, hback⟩ := open_hdr (hval 0 23 v0 rfl rfl) h0
  have hs : HSized h := hdr_sized h0 (List.all_eq_true.2 fun n hn => List.all_eq_true.1 hsz n (DataW.weights_mem_each (j := 0) (t := 23) (by simp [Tryd.params4]) rfl n hn))
  clear hA0 hval0
  have hm : laidMet Tryd.prog Rows.headerWritesRow.laid W := by
    have e : (Rows.headerWritesRow.laid.filter fun x => x.2.handleName?.isSome) = [] := by kernel_rfl
    unfold laidMetH at hL
    rw [e] at hL
    exact hL
  have hg : Glob (frame W) := glob_of hm (by simp [Rows.headerWritesRow]) (by simp [Rows.headerWritesRow]) (by simp [Rows.headerWritesRow]) (by simp [Rows.headerWritesRow]) (by simp [Rows.headerWritesRow]) (by simp [Rows.headerWritesRow]) (by simp [Rows.headerWritesRow])
  have hg10 : GC (frame W) 10 (u8s deBr) := deBr_of hm (by simp [Rows.headerWritesRow])
  have hw := writes_any (frame W) hg hg10 h hf hs
  unfold Does at hw
  refine (hw W (frame_st W)).mono fun e W' ⟨v, L', hR, he, hs⟩ => ?_
  obtain ⟨rfl, rfl⟩ := hR
  subst he
  refine ⟨_, rfl, _, _, _, [], [], [], hW', ?_, ?_, ?_, frame_kept hs _, fun h => by cases h⟩
  · exact trodAll_mk1 (shut_bool hu4 true)
  · exact trodAll_mk1 (hback _ _ _ _)
  · rfl

theorem writes_holds : Rows.HeaderWritesSaid :=
  OpenClaim.holds_of_wide 4 Tryd.f4 rfl rfl rfl rfl rfl rfl rfl ⟨rfl, rfl, rfl, rfl, rfl⟩ rfl rfl rfl rfl rfl (by kernel_rfl) Tryd.func4 (by kernel_rfl)
    (of_decide_eq_true (by kernel_rfl)) (by unfold Func.isWrapper; first | (rw [if_pos (by decide +kernel)]; kernel_rfl) | (rw [if_neg (by decide +kernel)]; exact ⟨rfl, rfl⟩))
    (fun os started H enc _ => writes_lifted os started H enc)

theorem headerWrites_card : Rows.HeaderWritesCardSaid :=
  Claim7.holds_tied_plain_at .later [] [.data, .data, .data, .data, .data, .data, .wider, .data, .data, .data] true (true, "81b63a4454abb9425122ea576bd21ac44fe62e7ee53d0680050faf2df2d8bb59") false
    writes_holds (fun _ h => by cases h) (by kernel_rfl) (fun _ h => by cases h) headerWrites_row_tie rfl ⟨rfl, rfl⟩ (by kernel_rfl) rfl
    (fun f fn hf hfn => by
      obtain rfl : f = 4 := Option.some.inj ((show Tryd.prog.funcNamed "satchel/satchellaw13.HeaderWrites" = some 4 by kernel_rfl).symm.trans hf) |>.symm
      obtain rfl : fn = Tryd.f4 := (Option.some.inj (Tryd.func4.symm.trans hfn)).symm
      exact ⟨by kernel_rfl, fun j t ht => by
        rw [Tryd.params4] at ht
        have h3 : t = 23 := by
          rcases j with _ | j
          · simpa using ht.symm
          · simp at ht
        subst h3
        exact (show Tryd.prog.wantsStandIn 23 = false by kernel_rfl)⟩)
    (by kernel_rfl)
#print axioms headerWrites_card
end Go.Proofs.YtjeaofabpfgngaaDoor
