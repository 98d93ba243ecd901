/-
  The engine of these proofs: paths that come together again.
  No condition: every lemma is over any program.
-/
import Derived.Test.YtjeaofabpfgngaaDoorK8
namespace Go.KE
section
variable {P : Program} {n : Nat} {F : Fr} {Q : Post} {E : Sl} {L : Bl}

/-- What holds where two paths meet; a path that leaves goes its own way. -/
def JQ {α : Type} (n : Nat) (F : Fr) (Q : Post) (I : α → Prop) (Ei : α → Sl) (Li : α → Bl) : Post := fun e a w =>
  (e = .normal → ∃ x, I x ∧ Env n a (Ei x) ∧ St F (Li x) w) ∧ (e ≠ .normal → Q e a w)

theorem a_join {α : Type} {c : Code} (I : α → Prop) (Ei : α → Sl) (Li : α → Bl) (h : KW P n F c (JQ n F Q I Ei Li) E L) (k : ∀ x, I x → KQ n F Q .normal (Ei x) (Li x)) : KW P n F c Q E L := by
  unfold KW KQ at *
  intro a w he hs
  refine wp_mono (h a w he hs) fun e a' w' hq => ?_
  by_cases hn : e = .normal
  · subst hn
    obtain ⟨x, hI, h1, h2⟩ := hq.1 rfl
    exact k x hI a' w' h1 h2
  · exact hq.2 hn

theorem a_met {α : Type} {I : α → Prop} {Ei : α → Sl} {Li : α → Bl} (x : α) (hI : I x) (hs : Sub E (Ei x) := by (repeat (first | exact trivial | refine ⟨rfl, ?_⟩)); done) (hL : L = Li x := by rfl) : KQ n F (JQ n F Q I Ei Li) .normal E L := by
  unfold KQ
  exact fun a w he hs' => ⟨fun _ => ⟨x, hI, he.weaken hs, hL ▸ hs'⟩, fun h => absurd rfl h⟩

theorem a_left {α : Type} {I : α → Prop} {Ei : α → Sl} {Li : α → Bl} {e : Exit} (h : KQ n F Q e E L) (he : e ≠ .normal := by nofun) : KQ n F (JQ n F Q I Ei Li) e E L := by
  unfold KQ at *
  exact fun a w hv hs => ⟨fun hn => absurd hn he, fun _ => h a w hv hs⟩
/-- A step that makes or turns memory, where it is the one that may come up. -/
theorem x_m {Lq : Bl} {ops : Array Oper} {N k : Nat} {dst : Nat} {op : Op} {ty : TypeId} {pos : String} {after : Array Edge} {g : Option (Nat × Bool)} {α : Type} {R : α → Prop} {v : α → Value} {L' : α → Bl}
    (hv : StepAt P n F E L op ty R v L') (kk : ∀ x, R x → KX P n F Lq ops N Q (k + 1) ((dst, v x) :: E) (L' x))
    (hi : ops[k]? = some ⟨some dst, op, ty, pos, after, g⟩ := by rfl) (hs : onlyAt ops N k = true := by decide +kernel) (hL : Sl1 L Lq := by (repeat (first | exact Sl1.nil | apply Sl1.keep | apply Sl1.skip)); done)
    (hg : Want ops E true g := by first | exact .none rfl | exact .some rfl rfl rfl) (hd : Nat.blt dst n = true := by rfl) : KX P n F Lq ops N Q k E L :=
  KX_one hi hs hL fun _ hK => KO_m hg hd hv fun x hR => hK _ _ (kk x hR)
/-! A drawn region whose steps are taken out of the text's order. -/
theorem y_start {Lq : Bl} {ops : Array Oper} {N : Nat} (h : KA P n F Lq ops Q N (listedK N 0) E L) : KX P n F Lq ops N Q 0 E L := by
  unfold KX
  exact h
theorem y_p {Lq : Bl} {ops : Array Oper} {fuel : Nat} {listed : Array Bool} (i : Nat) {dst : Nat} {op : Op} {ty : TypeId} {pos : String} {after : Array Edge} {g : Option (Nat × Bool)} {v : Value}
    (hv : PureAt P n F E Lq op ty v) (k : KA P n F Lq ops Q fuel (listed.setIfInBounds i true) ((dst, v) :: E) L)
    (hi : ops[i]? = some ⟨some dst, op, ty, pos, after, g⟩ := by rfl) (hr : (Region.ready .any ops listed).contains i = true := by decide +kernel) (hf : Region.free .any ops listed i = true := by decide +kernel) (hns : Region.noSelect ops = true := by decide +kernel)
    (hg : Want ops E true g := by first | exact .none rfl | exact .some rfl rfl rfl) (hd : Nat.blt dst n = true := by rfl) : KA P n F Lq ops Q (fuel + 1) listed E L := KA_p i k hi hr hf hns hg hd hv
theorem y_call {Lq : Bl} {ops : Array Oper} {fuel : Nat} {listed : Array Bool} (i : Nat) {dst : Nat} {ty : TypeId} {pos : String} {after : Array Edge} {g : Option (Nat × Bool)} {fo : Operand} {xs : List Operand} {ts : Array TypeId} {f : FuncId} {vs first cap args : List Value} {R : Value → Bl → Prop} [hbody : Body P f]
    (h : Does P f args (F.plus L) [] R) (kk : ∀ v L', R v L' → KA P n F Lq ops Q fuel (listed.setIfInBounds i true) ((dst, v) :: E) (L' ++ L))
    (hi : ops[i]? = some ⟨some dst, .call { callee := .value fo, args := xs.toArray, argTypes := ts }, ty, pos, after, g⟩ := by rfl) (hr : Region.ready .any ops listed = [i] := by decide +kernel) (hL : Sl1 L Lq := by (repeat (first | exact Sl1.nil | apply Sl1.keep | apply Sl1.skip)); done)
    (hg : Want ops E true g := by first | exact .none rfl | exact .some rfl rfl rfl) (hd : Nat.blt dst n = true := by rfl) (hf : ev E fo = some (.func (.func f) first.toArray cap.toArray) := by rfl) (hvs : evs E xs = some vs := by rfl) (hargs : first ++ vs ++ cap = args := by rfl) :
    KA P n F Lq ops Q (fuel + 1) listed E L :=
  KA_one hr hi hL (KO_call (Lp := []) (Lf := L) hg hd hf hvs (List.Perm.refl _) (by rw [hargs]; exact h) fun v L' hR => KK_KA (kk v L' hR))
theorem y_back {Lq : Bl} {ops : Array Oper} {fuel : Nat} {listed : Array Bool} {N : Nat} (k : Nat) (h : KX P n F Lq ops N Q k E L) (hl : listed = listedK N k := by decide +kernel) (hn : fuel = N - k := by rfl) : KA P n F Lq ops Q fuel listed E L := by
  subst hl hn
  unfold KX at h
  exact h
/-- The blocks that a body made may be forgotten. -/
theorem Does_clear {f : FuncId} {args : List Value} {p : Value → Prop} (h : Does P f args F L (fun v _ => p v)) : Does P f args F L (fun v L' => L' = [] ∧ p v) := by
  unfold Does at *
  exact fun w hs => (h w hs).mono fun e w' ⟨v, L', hp, he, hs'⟩ => ⟨v, [], ⟨rfl, hp⟩, he, St.drop (L1 := L') (by simpa using hs')⟩
end
end Go.KE
