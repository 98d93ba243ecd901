/-
  HeaderBack: for every header the law returns true, and the header reads behind the call as it read before.
  Condition: the package-level variables that the row lists hold what the programs' texts lay (the card ties them to the texts).
-/
import Derived.Test.YtjeaofabpfgngaaDoorA39
import Derived.Test.YtjeaofabpfgngaaDoorCards
import Derived.Lay
import Derived.Test.YtjeaofabpfgngaaDoorTie
namespace Go.Proofs.YtjeaofabpfgngaaDoor
open Go.ChangeShapes Go.WideShapes Go.ChangeAt Go.RowKit Go.KE

theorem all_met6 (os : Os) (args : Array Value) : laidMetH Tryd.prog Rows.headerBackRow.laid ((World.laidAll Tryd.prog os Rows.headerBackRow.laid).forCall (fun _ _ => 0) ⟨#[], args, []⟩).memory := by
  rw [MakeChecks.laidMetH_plain _ _ _ (by kernel_rfl)]
  exact laidMet_laidAll _ (by kernel_rfl) (by kernel_rfl)

set_option maxRecDepth 100000 in
theorem back_lifted (os : Os) (started : os.Started) (H : Type) (enc : TypeId × Value → H) :
    ReturnsInHanded {} Tryd.checked os 6 .any (fun w args => (Rows.headerBackSpec.pre enc Tryd.prog Tryd.f6 [] false w args ∧ laidMetH Tryd.prog Rows.headerBackRow.laid w) ∧ sizedMet enc Tryd.prog Tryd.f6 (OpenSpec.ofChange Rows.headerBackSpec) false w args)
      (Rows.headerBackSpec.post enc Tryd.prog Tryd.f6 false true false false) := by
  refine returnsInHanded_of_change_and (C := Tryd.checked) (X := fun w _ => laidMetH Tryd.prog Rows.headerBackRow.laid w) (fun _ _ _ hh h => h.of_heap hh) Tryd.ownKnob started (by kernel_rfl) Tryd.func6
    (ChangeSpec.witness_shaped (enc := enc) (C := Tryd.checked) (os := os) (X := fun w _ => laidMetH Tryd.prog Rows.headerBackRow.laid w) false (World.laidAll Tryd.prog os Rows.headerBackRow.laid) #[.agg (hdrCells lastHdr).toArray] 8 (World.laidAll_os _ _ _) (World.shaped_of_ZipB (by kernel_rfl) (by kernel_rfl)) (by kernel_rfl) (by kernel_rfl) (by kernel_rfl) (all_met6 os _)) ?_
  intro W base args ds gs before hval0 hW _ _ hL _
  have hval : ∀ (j : Nat) t v, Tryd.f6.params[j]? = some t → args[j]? = some v → Value.okWide Tryd.prog W .any base t v := hval0
  have hW' := hW
  obtain ⟨p, q, hA0, hV, rfl, hfz, hnd⟩ := hW
  have hA : DataW.TrodAll enc Tryd.prog W 0 (fun _ => true) true Tryd.f6.params.toList args.toList ds p := hA0
  rw [Tryd.params6] at hA hval
  obtain ⟨v0, d0, rfl, rfl, h0⟩ := trodAll_one hA
  obtain ⟨rfl, rfl⟩ := trodVars_none hV
  obtain ⟨h, rfl, hf, rfl, hback⟩ := open_hdr (hval 0 23 v0 rfl rfl) h0
  clear hA0 hval0
  have hm : laidMet Tryd.prog Rows.headerBackRow.laid W := by
    have e : (Rows.headerBackRow.laid.filter fun x => x.2.handleName?.isSome) = [] := by kernel_rfl
    unfold laidMetH at hL
    rw [e] at hL
    exact hL
  have hg : Glob (frame W) := glob_of hm (by simp [Rows.headerBackRow]) (by simp [Rows.headerBackRow]) (by simp [Rows.headerBackRow]) (by simp [Rows.headerBackRow]) (by simp [Rows.headerBackRow]) (by simp [Rows.headerBackRow]) (by simp [Rows.headerBackRow])
  have hg10 : GC (frame W) 10 (u8s deBr) := deBr_of hm (by simp [Rows.headerBackRow])
  have hw := back_any (frame W) hg hg10 h hf
  unfold Does at hw
  refine (hw W (frame_st W)).mono fun e W' ⟨v, L', hR, he, hs⟩ => ?_
  obtain ⟨rfl, rfl⟩ := hR
  subst he
  refine ⟨_, rfl, _, _, _, [], [], [], hW', ?_, ?_, ?_, frame_kept hs _, fun h => by cases h⟩
  · exact trodAll_mk1 (shut_bool hu4 true)
  · exact trodAll_mk1 (hback _ _ _ _)
  · rfl

theorem back_holds : Rows.HeaderBackSaid :=
  OpenClaim.holds_of_wide 6 Tryd.f6 rfl rfl rfl rfl rfl rfl rfl ⟨rfl, rfl, rfl, rfl, rfl⟩ rfl rfl rfl rfl rfl (by kernel_rfl) Tryd.func6 (by kernel_rfl)
    (of_decide_eq_true (by kernel_rfl)) (by unfold Func.isWrapper; first | (rw [if_pos (by decide +kernel)]; kernel_rfl) | (rw [if_neg (by decide +kernel)]; exact ⟨rfl, rfl⟩))
    (fun os started H enc _ => back_lifted os started H enc)

theorem headerBack_card : Rows.HeaderBackCardSaid :=
  Claim7.holds_tied_plain_at .later [] [.data, .data, .data, .data, .data, .data, .data, .wider, .data, .data, .data, .pinned] true (true, "81b63a4454abb9425122ea576bd21ac44fe62e7ee53d0680050faf2df2d8bb59") false
    back_holds (fun _ h => by cases h) (by kernel_rfl) (fun _ h => by cases h) headerBack_row_tie rfl ⟨rfl, rfl⟩ (by kernel_rfl) rfl
    (fun f fn hf hfn => by
      obtain rfl : f = 6 := Option.some.inj ((show Tryd.prog.funcNamed "satchel/satchellaw13.HeaderBack" = some 6 by kernel_rfl).symm.trans hf) |>.symm
      obtain rfl : fn = Tryd.f6 := (Option.some.inj (Tryd.func6.symm.trans hfn)).symm
      exact ⟨by kernel_rfl, fun j t ht => by
        rw [Tryd.params6] at ht
        have h3 : t = 23 := by
          rcases j with _ | j
          · simpa using ht.symm
          · simp at ht
        subst h3
        exact (show Tryd.prog.wantsStandIn 23 = false by kernel_rfl)⟩)
    (by kernel_rfl)
#print axioms headerBack_card
end Go.Proofs.YtjeaofabpfgngaaDoor
