/-
  The engine of these proofs: a loop that is left at several places.
  No condition: every lemma is over any program.
-/
import Derived.Test.YtjeaofabpfgngaaDoorK12
namespace Go.KE
section
variable {P : Program} {n : Nat} {F : Fr} {Q : Post} {E : Sl} {L : Bl}

/-- What holds where a loop's block is left; another way out goes its own way. -/
def JX {β : Type} (n : Nat) (F : Fr) (Q : Post) (id : Nat) (J : β → Prop) (Ej : β → Sl) (Lj : β → Bl) : Post := fun e a w =>
  (e = .exit id → ∃ y, J y ∧ Env n a (Ej y) ∧ St F (Lj y) w) ∧ (e ≠ .exit id → Q e a w)

theorem a_loopJ {α β : Type} {c : Code} {E' : Sl} (id : Nat) (I : α → Prop) (ch : α → Sl) (Li : α → Bl) (μ : α → Nat) (x0 : α) (hI : I x0) (J : β → Prop) (chj : β → Sl) (Lj : β → Bl)
    (round : ∀ x, I x → KW P n F c (LoopQ n F I (fun x => ch x ++ E') Li μ x (JX n F Q id J (fun y => chj y ++ E') Lj)) (ch x ++ E') (Li x))
    (after : ∀ y, J y → KQ n F Q (.exit id) (chj y ++ E') (Lj y))
    (hK : Keep c [] E E' := by (repeat (first | exact Keep.nil | apply Keep.take (by rfl) (by rfl) | apply Keep.again (by rfl) | apply Keep.drop (by rfl))); done)
    (hE : Sub E (ch x0) := by (repeat (first | exact trivial | refine ⟨rfl, ?_⟩)); done) (hL : L = Li x0 := by rfl) : KW P n F (.loop c) Q E L := by
  have h := KW_loop (P := P) (n := n) (F := F) (Q := JX n F Q id J (fun y => chj y ++ E') Lj) (E := E) (L := L) I (fun x => ch x ++ E') Li μ x0 hI (hE.app (hK.sub E fun _ _ _ _ h => h)) hL round
  unfold KW KQ at *
  intro a w he hs
  refine wp_mono (h a w he hs) fun e a' w' hq => ?_
  by_cases hn : e = .exit id
  · subst hn
    obtain ⟨y, hJ, h1, h2⟩ := hq.1 rfl
    exact after y hJ a' w' h1 h2
  · exact hq.2 hn
theorem a_out {β : Type} {id : Nat} {J : β → Prop} {Ej : β → Sl} {Lj : β → Bl} (y : β) (hJ : J y) (hs : Sub E (Ej y) := by (repeat (first | exact trivial | refine ⟨rfl, ?_⟩)); done) (hL : L = Lj y := by rfl) : KQ n F (JX n F Q id J Ej Lj) (.exit id) E L := by
  unfold KQ
  exact fun a w he hs' => ⟨fun _ => ⟨y, hJ, he.weaken hs, hL ▸ hs'⟩, fun h => absurd rfl h⟩
theorem a_past {β : Type} {id : Nat} {J : β → Prop} {Ej : β → Sl} {Lj : β → Bl} {e : Exit} (h : KQ n F Q e E L) (he : e ≠ .exit id := by nofun) : KQ n F (JX n F Q id J Ej Lj) e E L := by
  unfold KQ at *
  exact fun a w hv hs => ⟨fun hn => absurd hn he, fun _ => h a w hv hs⟩
end
end Go.KE
