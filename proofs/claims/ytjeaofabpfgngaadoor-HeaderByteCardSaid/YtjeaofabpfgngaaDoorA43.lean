/-
  HeaderByte: for every header the law returns true, and the header reads behind the call as it read before.
  Condition: the package-level variables that the row lists hold what the programs' texts lay (the card ties them to the texts).
-/
import Derived.Test.YtjeaofabpfgngaaDoorA42
import Derived.Test.YtjeaofabpfgngaaDoorCards
import Derived.Lay
import Derived.Test.YtjeaofabpfgngaaDoorTie
namespace Go.Proofs.YtjeaofabpfgngaaDoor
open Go.ChangeShapes Go.WideShapes Go.ChangeAt Go.RowKit Go.KE

theorem all_met7 (os : Os) (args : Array Value) : laidMetH Tryd.prog Rows.headerByteRow.laid ((World.laidAll Tryd.prog os Rows.headerByteRow.laid).forCall (fun _ _ => 0) ⟨#[], args, []⟩).memory := by
  rw [MakeChecks.laidMetH_plain _ _ _ (by kernel_rfl)]
  exact laidMet_laidAll _ (by kernel_rfl) (by kernel_rfl)

set_option maxRecDepth 100000 in
theorem byte_lifted (os : Os) (started : os.Started) (H : Type) (enc : TypeId × Value → H) :
    ReturnsInHanded {} Tryd.checked os 7 .any (fun w args => (Rows.headerByteSpec.pre enc Tryd.prog Tryd.f7 [] false w args ∧ laidMetH Tryd.prog Rows.headerByteRow.laid w) ∧ sizedMet enc Tryd.prog Tryd.f7 (OpenSpec.ofChange Rows.headerByteSpec) false w args)
      (Rows.headerByteSpec.post enc Tryd.prog Tryd.f7 false true false false) := by
  refine returnsInHanded_of_change_and (C := Tryd.checked) (X := fun w _ => laidMetH Tryd.prog Rows.headerByteRow.laid w) (fun _ _ _ hh h => h.of_heap hh) Tryd.ownKnob started (by kernel_rfl) Tryd.func7
    (ChangeSpec.witness_shaped (enc := enc) (C := Tryd.checked) (os := os) (X := fun w _ => laidMetH Tryd.prog Rows.headerByteRow.laid w) false (World.laidAll Tryd.prog os Rows.headerByteRow.laid) #[.agg (hdrCells lastHdr).toArray, .int .i64 0, .int .u8 0] 8 (World.laidAll_os _ _ _) (World.shaped_of_ZipB (by kernel_rfl) (by kernel_rfl)) (by kernel_rfl) (by kernel_rfl) (by kernel_rfl) (all_met7 os _)) ?_
  intro W base args ds gs before hval0 hW _ _ hL _
  have hval : ∀ (j : Nat) t v, Tryd.f7.params[j]? = some t → args[j]? = some v → Value.okWide Tryd.prog W .any base t v := hval0
  have hW' := hW
  obtain ⟨p, q, hA0, hV, rfl, hfz, hnd⟩ := hW
  have hA : DataW.TrodAll enc Tryd.prog W 0 (fun _ => true) true Tryd.f7.params.toList args.toList ds p := hA0
  rw [Tryd.params7] at hA hval
  obtain ⟨v0, v1, v2, d0, d1, d2, p0, p1, p2, rfl, rfl, rfl, h0, h1, h2⟩ := trodAll_three hA
  obtain ⟨rfl, rfl⟩ := trodVars_none hV
  obtain ⟨h, rfl, hf, rfl, hback⟩ := open_hdr (hval 0 23 v0 rfl rfl) h0
  obtain ⟨n1, rfl, rfl, rfl, hw1⟩ := open_int hu3 (hval 1 3 v1 rfl rfl) h1
  obtain ⟨n2, rfl, rfl, rfl, hw2⟩ := open_int hu5 (hval 2 5 v2 rfl rfl) h2
  obtain ⟨y, rfl⟩ : ∃ y : UInt8, n2 = (y.toNat : Int) := by
    obtain ⟨hb0, hb1⟩ := fits8 hw2
    refine ⟨UInt8.ofNat n2.toNat, ?_⟩
    simp
    omega
  clear hA0 hval0
  have hm : laidMet Tryd.prog Rows.headerByteRow.laid W := by
    have e : (Rows.headerByteRow.laid.filter fun x => x.2.handleName?.isSome) = [] := by kernel_rfl
    unfold laidMetH at hL
    rw [e] at hL
    exact hL
  have hg : Glob (frame W) := glob_of hm (by simp [Rows.headerByteRow]) (by simp [Rows.headerByteRow]) (by simp [Rows.headerByteRow]) (by simp [Rows.headerByteRow]) (by simp [Rows.headerByteRow]) (by simp [Rows.headerByteRow]) (by simp [Rows.headerByteRow])
  have hg10 : GC (frame W) 10 (u8s deBr) := deBr_of hm (by simp [Rows.headerByteRow])
  have hw := byte_any (frame W) hg hg10 h hf n1 (fits64 hw1) y
  unfold Does at hw
  refine (hw W (frame_st W)).mono fun e W' ⟨v, L', hR, he, hs⟩ => ?_
  obtain ⟨rfl, rfl⟩ := hR
  subst he
  refine ⟨_, rfl, _, _, _, [], [], [], hW', ?_, ?_, ?_, frame_kept hs _, fun h => by cases h⟩
  · exact trodAll_mk1 (shut_bool hu4 true)
  · exact trodAll_mk3 (hback _ _ _ _) (shut_int hu3 hw1) (shut_int hu5 hw2)
  · rfl

theorem byte_holds : Rows.HeaderByteSaid :=
  OpenClaim.holds_of_wide 7 Tryd.f7 rfl rfl rfl rfl rfl rfl rfl ⟨rfl, rfl, rfl, rfl, rfl⟩ rfl rfl rfl rfl rfl (by kernel_rfl) Tryd.func7 (by kernel_rfl)
    (of_decide_eq_true (by kernel_rfl)) (by unfold Func.isWrapper; first | (rw [if_pos (by decide +kernel)]; kernel_rfl) | (rw [if_neg (by decide +kernel)]; exact ⟨rfl, rfl⟩))
    (fun os started H enc _ => byte_lifted os started H enc)

theorem headerByte_card : Rows.HeaderByteCardSaid :=
  Claim7.holds_tied_plain_at .later [] [.data, .data, .data, .data, .data, .data, .data, .wider, .data, .data, .data, .pinned] true (true, "81b63a4454abb9425122ea576bd21ac44fe62e7ee53d0680050faf2df2d8bb59") false
    byte_holds (fun _ h => by cases h) (by kernel_rfl) (fun _ h => by cases h) headerByte_row_tie rfl ⟨rfl, rfl⟩ (by kernel_rfl) rfl
    (fun f fn hf hfn => by
      obtain rfl : f = 7 := Option.some.inj ((show Tryd.prog.funcNamed "satchel/satchellaw13.HeaderByte" = some 7 by kernel_rfl).symm.trans hf) |>.symm
      obtain rfl : fn = Tryd.f7 := (Option.some.inj (Tryd.func7.symm.trans hfn)).symm
      exact ⟨by kernel_rfl, fun j t ht => by
        rw [Tryd.params7] at ht
        have h3 : t = 23 ∨ t = 3 ∨ t = 5 := by
          rcases j with _ | _ | _ | j
          · exact .inl (by simpa using ht.symm)
          · exact .inr (.inl (by simpa using ht.symm))
          · exact .inr (.inr (by simpa using ht.symm))
          · simp at ht
        rcases h3 with rfl | rfl | rfl
        · exact (show Tryd.prog.wantsStandIn 23 = false by kernel_rfl)
        · exact (show Tryd.prog.wantsStandIn 3 = false by kernel_rfl)
        · exact (show Tryd.prog.wantsStandIn 5 = false by kernel_rfl)⟩)
    (by kernel_rfl)
#print axioms headerByte_card
end Go.Proofs.YtjeaofabpfgngaaDoor
