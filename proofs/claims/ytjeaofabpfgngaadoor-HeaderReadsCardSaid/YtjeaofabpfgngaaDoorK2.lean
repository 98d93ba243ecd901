/-
  The engine of these proofs, second part: rules for code, for a list of operations, for calls and for a function's body, over the assertions of the first part.
  No condition: every lemma is over any program.
-/
import Derived.Test.YtjeaofabpfgngaaDoorK1
namespace Go.KE

abbrev Sl := List (Nat × Value)
abbrev Post := Exit → Act → World → Prop

def KQ (n : Nat) (F : Fr) (Q : Post) (e : Exit) (E : Sl) (L : Bl) : Prop := ∀ a w, Env n a E → St F L w → Q e a w
def KW (P : Program) (n : Nat) (F : Fr) (c : Code) (Q : Post) (E : Sl) (L : Bl) : Prop := ∀ a w, Env n a E → St F L w → c.wp P Q a w
def KL (P : Program) (n : Nat) (F : Fr) (ops : Array Oper) (Q : Post) (rest : List Oper) (E : Sl) (L : Bl) : Prop := ∀ a w, Env n a E → St F L w → wpList P ops Q rest a w

section
variable {P : Program} {n : Nat} {F : Fr} {Q Q' : Post} {E E' : Sl} {L L' : Bl}

theorem KW_seq {x y : Code} (h : KW P n F x (Exit.then (y.wp P Q) Q) E L) : KW P n F (.seq x y) Q E L := fun a w he hs => wp_seq (h a w he hs)
theorem KW_region {id : Nat} {l : List Oper} (h : KL P n F l.toArray Q l E L) : KW P n F (.region id l.toArray false) Q E L := fun a w he hs => wp_region_lit (h a w he hs)
theorem KL_nil {ops : Array Oper} (h : KQ n F Q .normal E L) : KL P n F ops Q [] E L := fun a w he hs => wpList_nil (h a w he hs)
theorem KW_ret (h : KQ n F Q .ret E L) : KW P n F .ret Q E L := fun a w he hs => wp_ret (h a w he hs)
theorem KW_exit {id : Nat} (h : KQ n F Q (.exit id) E L) : KW P n F (.exit id) Q E L := fun a w he hs => wp_exit (h a w he hs)
theorem KW_skip (h : KQ n F Q .normal E L) : KW P n F .skip Q E L := fun a w he hs => wp_skip (h a w he hs)
theorem KW_block {id : Nat} {c : Code} (h : KW P n F c (Exit.inBlock id Q) E L) : KW P n F (.block id c) Q E L := fun a w he hs => wp_block (h a w he hs)

theorem KQ_then {y : Code} (h : KW P n F y Q E L) : KQ n F (Exit.then (y.wp P Q) Q') .normal E L := h
theorem KQ_then_exit {K : Act → World → Prop} {id : Nat} (h : KQ n F Q' (.exit id) E L) : KQ n F (Exit.then K Q') (.exit id) E L := h
theorem KQ_then_ret {K : Act → World → Prop} (h : KQ n F Q' .ret E L) : KQ n F (Exit.then K Q') .ret E L := h
theorem KQ_block_n {id : Nat} (h : KQ n F Q .normal E L) : KQ n F (Exit.inBlock id Q) .normal E L := h
theorem KQ_block_ret {id : Nat} (h : KQ n F Q .ret E L) : KQ n F (Exit.inBlock id Q) .ret E L := h
theorem KQ_block_hit {id : Nat} (h : KQ n F Q .normal E L) : KQ n F (Exit.inBlock id Q) (.exit id) E L := fun a w he hs => by
  show (if id = id then Q .normal a w else Q (.exit id) a w)
  rw [if_pos rfl]; exact h a w he hs
theorem KQ_block_miss {id id' : Nat} (hne : Nat.beq id' id = false) (h : KQ n F Q (.exit id') E L) : KQ n F (Exit.inBlock id Q) (.exit id') E L := fun a w he hs => by
  show (if id' = id then Q .normal a w else Q (.exit id') a w)
  rw [if_neg (Nat.ne_of_beq_eq_false hne)]; exact h a w he hs

theorem KW_cond {c : Operand} {x y : Code} {b : Bool} (hc : ev E c = some (.bool b)) (ht : b = true → KW P n F x Q E L) (hf : b = false → KW P n F y Q E L) : KW P n F (.cond c x y) Q E L :=
  fun a w he hs => wp_cond_split (he.ev hc) (fun h => ht h a w he hs) (fun h => hf h a w he hs)
theorem KW_if {c : Operand} {x y : Code} {p : Prop} [Decidable p] (hc : ev E c = some (.bool (decide p))) (ht : p → KW P n F x Q E L) (hf : ¬ p → KW P n F y Q E L) : KW P n F (.cond c x y) Q E L :=
  KW_cond hc (fun h => ht (of_decide_eq_true h)) (fun h => hf (of_decide_eq_false h))
theorem KW_yes {c : Operand} {x y : Code} {b : Bool} (hc : ev E c = some (.bool b)) (hb : b = true) (ht : KW P n F x Q E L) : KW P n F (.cond c x y) Q E L :=
  KW_cond hc (fun _ => ht) (fun h => by rw [hb] at h; cases h)
theorem KW_no {c : Operand} {x y : Code} {b : Bool} (hc : ev E c = some (.bool b)) (hb : b = false) (hf : KW P n F y Q E L) : KW P n F (.cond c x y) Q E L :=
  KW_cond hc (fun h => by rw [hb] at h; cases h) (fun _ => hf)

theorem KW_weaken {c : Code} (hs : Sub E E') (h : KW P n F c Q E' L) : KW P n F c Q E L := fun a w he hs' => h a w (he.weaken hs) hs'
theorem KL_weaken {ops : Array Oper} {l : List Oper} (hs : Sub E E') (h : KL P n F ops Q l E' L) : KL P n F ops Q l E L := fun a w he hs' => h a w (he.weaken hs) hs'
theorem KW_perm {c : Code} (hp : L.Perm L') (h : KW P n F c Q E L') : KW P n F c Q E L := fun a w he hs => h a w he (hs.perm hp)
theorem KL_perm {ops : Array Oper} {l : List Oper} (hp : L.Perm L') (h : KL P n F ops Q l E L') : KL P n F ops Q l E L := fun a w he hs => h a w he (hs.perm hp)
theorem KQ_perm {e : Exit} (hp : L.Perm L') (h : KQ n F Q e E L') : KQ n F Q e E L := fun a w he hs => h a w he (hs.perm hp)
theorem KQ_weaken {e : Exit} (hs : Sub E E') (h : KQ n F Q e E' L) : KQ n F Q e E L := fun a w he hs' => h a w (he.weaken hs) hs'
theorem KQ_drop {e : Exit} {L1 : Bl} (h : KQ n F Q e E L) : KQ n F Q e E (L1 ++ L) := fun a w he hs => h a w he hs.drop
theorem KW_drop {c : Code} {L1 : Bl} (h : KW P n F c Q E L) : KW P n F c Q E (L1 ++ L) := fun a w he hs => h a w he hs.drop
/-- What the assertion says may be used. -/
theorem KW_use {c : Code} {p : Prop} (hp : ∀ w, St F L w → p) (h : p → KW P n F c Q E L) : KW P n F c Q E L := fun a w he hs => h (hp w hs) a w he hs
theorem KL_use {ops : Array Oper} {l : List Oper} {p : Prop} (hp : ∀ w, St F L w → p) (h : p → KL P n F ops Q l E L) : KL P n F ops Q l E L := fun a w he hs => h (hp w hs) a w he hs

/-! ### a loop -/
theorem least (p : Nat → Prop) (h : ∃ k, p k) : ∃ k, p k ∧ ∀ m, p m → k ≤ m := by
  obtain ⟨k, hk⟩ := h
  induction k using Nat.strongRecOn with
  | _ k ih =>
    by_cases hc : ∃ m, m < k ∧ p m
    · obtain ⟨m, hm, hp⟩ := hc; exact ih m hm hp
    · exact ⟨k, hk, fun m hm => by
        rcases Nat.lt_or_ge m k with h | h
        · exact absurd ⟨m, h, hm⟩ hc
        · exact h⟩

open Classical in
theorem wp_loop_g {α : Type} {c : Code} {a : Act} {w : World} (I : α → Act → World → Prop) (μ : α → Nat) (x0 : α) (h0 : I x0 a w)
    (round : ∀ x (a : Act) (w : World), I x a w → c.wp P (Exit.then (fun a' w' => ∃ x', I x' a' w' ∧ μ x' < μ x) Q) a w) : (Code.loop c).wp P Q a w := by
  let p : Act → World → Nat → Prop := fun a w k => ∃ x, I x a w ∧ μ x = k
  let m : Act → World → Nat := fun a w => if h : ∃ k, p a w k then (least (p a w) h).choose else 0
  have hm : ∀ a w (h : ∃ k, p a w k), p a w (m a w) ∧ ∀ k, p a w k → m a w ≤ k := fun a w h => by
    have := (least (p a w) h).choose_spec
    simp only [m]
    rw [dif_pos h]
    exact this
  refine wp_loop (fun a w => ∃ x, I x a w) m ⟨x0, h0⟩ fun a w ⟨x, hx⟩ => ?_
  obtain ⟨⟨y, hy, hym⟩, _⟩ := hm a w ⟨μ x, x, hx, rfl⟩
  refine wp_mono (round y a w hy) fun e a' w' hq => ?_
  cases e with
  | normal =>
    obtain ⟨x', hx', hlt⟩ := hq
    refine ⟨⟨x', hx'⟩, ?_⟩
    have := (hm a' w' ⟨μ x', x', hx', rfl⟩).2 (μ x') ⟨x', hx', rfl⟩
    rw [← hym]
    exact Nat.lt_of_le_of_lt this hlt
  | exit id => exact hq
  | goto l => exact hq
  | ret => exact hq
  | panic ch => exact hq
  | outgrown => exact hq

def LoopQ {α : Type} (n : Nat) (F : Fr) (I : α → Prop) (Ei : α → Sl) (Li : α → Bl) (μ : α → Nat) (x : α) (Q : Post) : Post :=
  Exit.then (fun a w => ∃ x', (I x' ∧ Env n a (Ei x') ∧ St F (Li x') w) ∧ μ x' < μ x) Q

theorem KW_loop {α : Type} {c : Code} (I : α → Prop) (Ei : α → Sl) (Li : α → Bl) (μ : α → Nat) (x0 : α) (hI : I x0) (hE : Sub E (Ei x0)) (hL : L = Li x0)
    (round : ∀ x, I x → KW P n F c (LoopQ n F I Ei Li μ x Q) (Ei x) (Li x)) : KW P n F (.loop c) Q E L := fun _ _ he hs =>
  wp_loop_g (fun x a w => I x ∧ Env n a (Ei x) ∧ St F (Li x) w) μ x0 ⟨hI, he.weaken hE, hL ▸ hs⟩ fun x a w ⟨h1, h2, h3⟩ => round x h1 a w h2 h3

theorem KQ_loop {α : Type} {I : α → Prop} {Ei : α → Sl} {Li : α → Bl} {μ : α → Nat} {x : α} (x' : α) (hI : I x') (hμ : μ x' < μ x) (hE : Sub E (Ei x')) (hL : L = Li x') :
    KQ n F (LoopQ n F I Ei Li μ x Q) .normal E L := fun _ _ he hs => ⟨x', ⟨hI, he.weaken hE, hL ▸ hs⟩, hμ⟩
theorem KQ_loop_exit {α : Type} {I : α → Prop} {Ei : α → Sl} {Li : α → Bl} {μ : α → Nat} {x : α} {id : Nat} (h : KQ n F Q (.exit id) E L) :
    KQ n F (LoopQ n F I Ei Li μ x Q) (.exit id) E L := h
theorem KQ_loop_ret {α : Type} {I : α → Prop} {Ei : α → Sl} {Li : α → Bl} {μ : α → Nat} {x : α} (h : KQ n F Q .ret E L) :
    KQ n F (LoopQ n F I Ei Li μ x Q) .ret E L := h

/-! ### operations -/
structure PureAt (P : Program) (n : Nat) (F : Fr) (E : Sl) (L : Bl) (o : Op) (ty : TypeId) (v : Value) : Prop where of ::
  run : ∀ (a : Act) w (oo : Oper), oo.op = o → oo.type = ty → Env n a E → St F L w → (execOp a.eval oo).run P w = .ok (.value v) w
/-- The operation yields a value and leaves a world with other blocks: for some x. -/
structure StepAt (P : Program) (n : Nat) (F : Fr) (E : Sl) (L : Bl) (o : Op) (ty : TypeId) {α : Type} (R : α → Prop) (v : α → Value) (L' : α → Bl) : Prop where of ::
  run : ∀ (a : Act) w (oo : Oper), oo.op = o → oo.type = ty → Env n a E → St F L w → ∃ x w', R x ∧ (execOp a.eval oo).run P w = .ok (.value (v x)) w' ∧ St F (L' x) w'
structure SkipAt (P : Program) (n : Nat) (F : Fr) (E : Sl) (L : Bl) (o : Op) (ty : TypeId) (L' : Bl) : Prop where of ::
  run : ∀ (a : Act) w (oo : Oper), oo.op = o → oo.type = ty → Env n a E → St F L w → ∃ w', (execOp a.eval oo).run P w = .ok .skip w' ∧ St F L' w'

/-- The guard says yes (or there is none); no. -/
inductive Want (ops : Array Oper) (E : Sl) (b : Bool) : Option (Nat × Bool) → Prop where
  | none (h : b = true) : Want ops E b none
  | some {j d : Nat} {want x : Bool} (hd : (ops[j]?).bind (·.dst) = some d) (hx : get? E d = some (.bool x)) (h : (x == want) = b) : Want ops E b (some (j, want))
  | undef {j d : Nat} {want : Bool} (hd : (ops[j]?).bind (·.dst) = some d) (hx : get? E d = some undef) (h : b = false) : Want ops E b (some (j, want))

theorem Want.eq {ops : Array Oper} {b : Bool} {o : Oper} (h : Want ops E b o.guard) {a : Act} (he : Env n a E) : Region.wanted o (yielded ops a.tmps) = b := by
  generalize hg : o.guard = g at h
  unfold Region.wanted
  rw [hg]
  cases h with
  | none h => exact h.symm
  | some hd hx h =>
    simp only [yielded, hd, Option.bind_some, he.2.2 _ _ hx]
    rw [← h]
    rename_i j d want x
    cases x <;> cases want <;> rfl
  | undef hd hx h =>
    simp only [yielded, hd, Option.bind_some, he.2.2 _ _ hx]
    rw [h]; rfl

theorem KL_p {ops : Array Oper} {dst : Nat} {op : Op} {ty : TypeId} {pos : String} {after : Array Edge} {g : Option (Nat × Bool)} {rest : List Oper} {v : Value}
    (hg : Want ops E true g) (hd : Nat.blt dst n = true) (hv : PureAt P n F E L op ty v) (k : KL P n F ops Q rest ((dst, v) :: E) L) :
    KL P n F ops Q (⟨some dst, op, ty, pos, after, g⟩ :: rest) E L := fun a w he hs =>
  wpList_step fun K hK => by
    rw [if_pos (Want.eq (o := ⟨some dst, op, ty, pos, after, g⟩) hg he)]
    unfold Oper.wp
    rw [hv.run a w _ rfl rfl he hs]
    exact hK _ _ (k _ _ (he.put hd v) hs)

theorem KL_m {ops : Array Oper} {dst : Nat} {op : Op} {ty : TypeId} {pos : String} {after : Array Edge} {g : Option (Nat × Bool)} {rest : List Oper} {α : Type} {R : α → Prop} {v : α → Value} {L' : α → Bl}
    (hg : Want ops E true g) (hd : Nat.blt dst n = true) (hv : StepAt P n F E L op ty R v L') (k : ∀ x, R x → KL P n F ops Q rest ((dst, v x) :: E) (L' x)) :
    KL P n F ops Q (⟨some dst, op, ty, pos, after, g⟩ :: rest) E L := fun a w he hs =>
  wpList_step fun K hK => by
    rw [if_pos (Want.eq (o := ⟨some dst, op, ty, pos, after, g⟩) hg he)]
    unfold Oper.wp
    obtain ⟨x, w', hR, hr, hs'⟩ := hv.run a w ⟨some dst, op, ty, pos, after, g⟩ rfl rfl he hs
    rw [hr]
    exact hK _ _ (k x hR _ _ (he.put hd _) hs')

/-- The same where nothing takes the value. -/
theorem KL_m0 {ops : Array Oper} {op : Op} {ty : TypeId} {pos : String} {after : Array Edge} {g : Option (Nat × Bool)} {rest : List Oper} {α : Type} {R : α → Prop} {v : α → Value} {L' : α → Bl}
    (hg : Want ops E true g) (hv : StepAt P n F E L op ty R v L') (k : ∀ x, R x → KL P n F ops Q rest E (L' x)) :
    KL P n F ops Q (⟨none, op, ty, pos, after, g⟩ :: rest) E L := fun a w he hs =>
  wpList_step fun K hK => by
    rw [if_pos (Want.eq (o := ⟨none, op, ty, pos, after, g⟩) hg he)]
    unfold Oper.wp
    obtain ⟨x, w', hR, hr, hs'⟩ := hv.run a w ⟨none, op, ty, pos, after, g⟩ rfl rfl he hs
    rw [hr]
    exact hK _ _ (k x hR _ _ he hs')

theorem KL_s {ops : Array Oper} {op : Op} {ty : TypeId} {pos : String} {after : Array Edge} {g : Option (Nat × Bool)} {rest : List Oper} {L' : Bl}
    (hg : Want ops E true g) (hv : SkipAt P n F E L op ty L') (k : KL P n F ops Q rest E L') :
    KL P n F ops Q (⟨none, op, ty, pos, after, g⟩ :: rest) E L := fun a w he hs =>
  wpList_step fun K hK => by
    rw [if_pos (Want.eq (o := ⟨none, op, ty, pos, after, g⟩) hg he)]
    unfold Oper.wp
    obtain ⟨w', hr, hs'⟩ := hv.run a w ⟨none, op, ty, pos, after, g⟩ rfl rfl he hs
    rw [hr]
    exact hK _ _ (k _ _ he hs')

/-- The guard says no. -/
theorem KL_un {ops : Array Oper} {dst : Nat} {op : Op} {ty : TypeId} {pos : String} {after : Array Edge} {g : Option (Nat × Bool)} {rest : List Oper}
    (hg : Want ops E false g) (hd : Nat.blt dst n = true) (k : KL P n F ops Q rest ((dst, undef) :: E) L) :
    KL P n F ops Q (⟨some dst, op, ty, pos, after, g⟩ :: rest) E L := fun a w he hs =>
  wpList_step fun K hK => by
    rw [if_neg (by rw [Want.eq (o := ⟨some dst, op, ty, pos, after, g⟩) hg he]; simp)]
    exact hK _ _ (k _ _ (he.put hd undef) hs)
theorem KL_un0 {ops : Array Oper} {op : Op} {ty : TypeId} {pos : String} {after : Array Edge} {g : Option (Nat × Bool)} {rest : List Oper}
    (hg : Want ops E false g) (k : KL P n F ops Q rest E L) :
    KL P n F ops Q (⟨none, op, ty, pos, after, g⟩ :: rest) E L := fun a w he hs =>
  wpList_step fun K hK => by
    rw [if_neg (by rw [Want.eq (o := ⟨none, op, ty, pos, after, g⟩) hg he]; simp)]
    exact hK _ _ (k _ _ he hs)

/-! ### calls -/
/-- What a call of f does: in every world that holds F and L it returns some v and leaves blocks L' with R v L'. -/
def Does (P : Program) (f : FuncId) (args : List Value) (F : Fr) (L : Bl) (R : Value → Bl → Prop) : Prop :=
  ∀ w, St F L w → Calls P f args.toArray w fun e w' => ∃ v L', R v L' ∧ e = .returned v ∧ St F L' w'

theorem Does.mono {f : FuncId} {args : List Value} {R R' : Value → Bl → Prop} (h : Does P f args F L R) (hr : ∀ v L', R v L' → R' v L') : Does P f args F L R' :=
  fun w hs => (h w hs).mono fun _ _ ⟨v, L', a, b, c⟩ => ⟨v, L', hr _ _ a, b, c⟩

/-- A function that has a body: a call enters it. -/
class Body (P : Program) (f : FuncId) : Prop where
  run : ∀ args w, (callFunc f args).run P w = .ok (.enter f args) w

def evs (E : Sl) : List Operand → Option (List Value)
  | [] => some []
  | x :: r => match ev E x, evs E r with
    | some v, some vs => some (v :: vs)
    | _, _ => none

theorem Env.evs {a : Act} (h : Env n a E) : ∀ {l : List Operand} {vs : List Value}, evs E l = some vs → l.map a.eval = vs
  | [], vs, hl => by simp only [KE.evs] at hl; cases hl; rfl
  | x :: r, vs, hl => by
    simp only [KE.evs] at hl
    split at hl
    · rename_i v vs' h1 h2
      cases hl
      simp [h.ev h1, Env.evs h h2]
    · cases hl

theorem KL_call {ops : Array Oper} {dst : Nat} {fo : Operand} {as : List Operand} {ts : Array TypeId} {ty : TypeId} {pos : String} {after : Array Edge} {g : Option (Nat × Bool)} {rest : List Oper}
    {f : FuncId} {vs first cap : List Value} {Lp Lf : Bl} {R : Value → Bl → Prop} [hbody : Body P f]
    (hg : Want ops E true g) (hd : Nat.blt dst n = true) (hf : ev E fo = some (.func (.func f) first.toArray cap.toArray)) (hvs : evs E as = some vs)
    (hp : L.Perm (Lp ++ Lf)) (h : Does P f (first ++ vs ++ cap) (F.plus Lf) Lp R) (k : ∀ v L', R v L' → KL P n F ops Q rest ((dst, v) :: E) (L' ++ Lf)) :
    KL P n F ops Q (⟨some dst, .call { callee := .value fo, args := as.toArray, argTypes := ts }, ty, pos, after, g⟩ :: rest) E L := fun a w he hs =>
  wpList_step fun K hK => by
    rw [if_pos (Want.eq (o := ⟨some dst, .call { callee := .value fo, args := as.toArray, argTypes := ts }, ty, pos, after, g⟩) hg he)]
    unfold Oper.wp
    have hmap : (as.toArray.map a.eval) = vs.toArray := by rw [List.map_toArray, he.evs hvs]
    have hr : (execOp a.eval ⟨some dst, .call { callee := .value fo, args := as.toArray, argTypes := ts }, ty, pos, after, g⟩).run P w = .ok (.enter f (first ++ vs ++ cap).toArray) w := by
      simp only [execOp, resolve, he.ev hf, Deferred.ofValue, hmap]
      have e : first.toArray ++ vs.toArray ++ cap.toArray = (first ++ vs ++ cap).toArray := by simp
      simp [invoke, hbody.run]
    rw [hr]
    show Calls P f _ w _
    have hs1 := hs.perm hp
    refine (h w hs1.give).mono ?_
    rintro e w' ⟨v, L', hR, rfl, hs'⟩
    exact hK _ _ (k v L' hR _ _ (he.put hd v) (St.take hs1 hs'))

theorem KL_call_none {ops : Array Oper} {fo : Operand} {as : List Operand} {ts : Array TypeId} {ty : TypeId} {pos : String} {after : Array Edge} {g : Option (Nat × Bool)} {rest : List Oper}
    {f : FuncId} {vs first cap : List Value} {Lp Lf : Bl} {R : Value → Bl → Prop} [hbody : Body P f]
    (hg : Want ops E true g) (hf : ev E fo = some (.func (.func f) first.toArray cap.toArray)) (hvs : evs E as = some vs)
    (hp : L.Perm (Lp ++ Lf)) (h : Does P f (first ++ vs ++ cap) (F.plus Lf) Lp R) (k : ∀ v L', R v L' → KL P n F ops Q rest E (L' ++ Lf)) :
    KL P n F ops Q (⟨none, .call { callee := .value fo, args := as.toArray, argTypes := ts }, ty, pos, after, g⟩ :: rest) E L := fun a w he hs =>
  wpList_step fun K hK => by
    rw [if_pos (Want.eq (o := ⟨none, .call { callee := .value fo, args := as.toArray, argTypes := ts }, ty, pos, after, g⟩) hg he)]
    unfold Oper.wp
    have hmap : (as.toArray.map a.eval) = vs.toArray := by rw [List.map_toArray, he.evs hvs]
    have hr : (execOp a.eval ⟨none, .call { callee := .value fo, args := as.toArray, argTypes := ts }, ty, pos, after, g⟩).run P w = .ok (.enter f (first ++ vs ++ cap).toArray) w := by
      simp only [execOp, resolve, he.ev hf, Deferred.ofValue, hmap]
      have e : first.toArray ++ vs.toArray ++ cap.toArray = (first ++ vs ++ cap).toArray := by simp
      simp [invoke, hbody.run]
    rw [hr]
    show Calls P f _ w _
    have hs1 := hs.perm hp
    refine (h w hs1.give).mono ?_
    rintro e w' ⟨v, L', hR, rfl, hs'⟩
    exact hK _ _ (k v L' hR _ _ he (St.take hs1 hs'))

/-! ### a function's body -/
def RQ (P : Program) (F : Fr) (fn : Func) (R : Value → Bl → Prop) : Post := bodyPost P fn fun e w' => ∃ v L', R v L' ∧ e = .returned v ∧ St F L' w'

def params : Nat → List Value → Sl
  | _, [] => []
  | i, v :: r => (i, v) :: params (i + 1) r

theorem params_get : ∀ (l : List Value) (i t : Nat) (v : Value), get? (params i l) t = some v → i ≤ t ∧ l[t - i]? = some v
  | [], _, _, _, h => by simp [params, get?] at h
  | u :: r, i, t, v, h => by
    simp only [params, get?] at h
    cases hb : Nat.beq i t with
    | true => rw [hb] at h; have e : i = t := Nat.eq_of_beq_eq_true hb; subst e; obtain rfl : u = v := Option.some.inj h; simp
    | false =>
      rw [hb] at h
      have hne : i ≠ t := Nat.ne_of_beq_eq_false hb
      obtain ⟨h1, h2⟩ := params_get r (i + 1) t v h
      refine ⟨by omega, ?_⟩
      have : t - i = (t - (i + 1)) + 1 := by omega
      rw [this]; simpa using h2

theorem Does_of {f : FuncId} {fn : Func} {c : Code} {args : List Value} {R : Value → Bl → Prop} (hf : P.funcs[f]? = some fn) (hb : fn.body = some c) (hn : fn.ntmps = n) (hlen : args.length ≤ n)
    (h : KW P n F c (RQ P F fn R) (params 0 args) L) : Does P f args F L R := fun w hs => by
  refine calls_of_wp hf hb (h _ w ⟨rfl, ?_, fun t v ht => ?_⟩ hs)
  · simp [hn]; omega
  · obtain ⟨_, h2⟩ := params_get args 0 t v ht
    simp only [Nat.sub_zero] at h2
    have hlt : t < args.length := by
      rcases Nat.lt_or_ge t args.length with h' | h'
      · exact h'
      · rw [List.getElem?_eq_none h'] at h2; cases h2
    show (args.toArray ++ _)[t]? = _
    rw [Array.getElem?_append_left (by simpa using hlt)]
    simpa using h2

/-- The results' values. -/
def ResAt (P : Program) (n : Nat) (F : Fr) (E : Sl) (L : Bl) (r : ResultVar) (v : Value) : Prop :=
  ∀ a w, Env n a E → St F L w → (match r with | .tmp t => (pure (a.tmps.getD t undef) : Sem Value) | .cell x t => do loadVar t (← asAddr (a.tmps.getD x undef))).run P w = .ok v w

theorem ResAt.tmp {t : Nat} {v : Value} (h : get? E t = some v) : ResAt P n F E L (.tmp t) v := fun a w he _ => by
  have := he.2.2 t v h
  simp [this]

theorem andThen_inv {α β : Type} {x : Result α} {f : α → World → Result β} {v : β} {w : World} (h : x.andThen f = .ok v w) : ∃ a w1, x = .ok a w1 ∧ f a w1 = .ok v w := by
  cases x with
  | ok a w1 => exact ⟨a, w1, rfl, h⟩
  | halt e w1 => cases h

theorem ResAt.cell_inv {x : Tmp} {t : TypeId} {v : Value} (h : ResAt P n F E L (.cell x t) v) {a : Act} {w : World} (he : Env n a E) (hs : St F L w) :
    ∃ ad w1, (asAddr (a.tmps[x]?.getD undef)).run P w = .ok ad w1 ∧ (loadVar t ad).run P w1 = .ok v w := by
  have := h a w he hs
  simp at this
  exact andThen_inv this
theorem ResAt.tmp_inv {t : Tmp} {v : Value} (h : ResAt P n F E L (.tmp t) v) {a : Act} {w : World} (he : Env n a E) (hs : St F L w) : a.tmps[t]?.getD undef = v := by
  have := h a w he hs
  simpa using this

theorem KQ_ret1 {e : Exit} (he : e = .ret ∨ e = .normal) {fn : Func} {R : Value → Bl → Prop} {r : ResultVar} {v : Value} (hr : fn.results = #[r]) (h : ResAt P n F E L r v) (hR : R v L) : KQ n F (RQ P F fn R) e E L := fun a w hv hs => by
  have hres : (results fn a.tmps).run P w = .ok v w := by
    cases r with
    | tmp t => simp [results, hr, h.tmp_inv hv hs]
    | cell x t => obtain ⟨ad, w1, h1, h2⟩ := h.cell_inv hv hs; simp [results, hr, h1, h2]
  rcases he with rfl | rfl <;> exact ⟨hv.1, v, hres, v, L, hR, rfl, hs⟩

theorem KQ_ret2 {e : Exit} (he : e = .ret ∨ e = .normal) {fn : Func} {R : Value → Bl → Prop} {r r' : ResultVar} {v v' : Value} (hr : fn.results = #[r, r']) (h : ResAt P n F E L r v) (h' : ResAt P n F E L r' v') (hR : R (.tuple #[v, v']) L) :
    KQ n F (RQ P F fn R) e E L := fun a w hv hs => by
  have hres : (results fn a.tmps).run P w = .ok (.tuple #[v, v']) w := by
    cases r with
    | tmp t => cases r' with
      | tmp t' => simp [results, hr, h.tmp_inv hv hs, h'.tmp_inv hv hs]
      | cell x t' => obtain ⟨ad, w1, h1, h2⟩ := h'.cell_inv hv hs; simp [results, hr, h.tmp_inv hv hs, h1, h2]
    | cell x t => obtain ⟨ad, w1, h1, h2⟩ := h.cell_inv hv hs; cases r' with
      | tmp t' => simp [results, hr, h'.tmp_inv hv hs, h1, h2]
      | cell x t' => obtain ⟨ad', w1', h1', h2'⟩ := h'.cell_inv hv hs; simp [results, hr, h1, h2, h1', h2']
  rcases he with rfl | rfl <;> exact ⟨hv.1, _, hres, _, L, hR, rfl, hs⟩

theorem KQ_ret3 {e : Exit} (he : e = .ret ∨ e = .normal) {fn : Func} {R : Value → Bl → Prop} {r r' r'' : ResultVar} {v v' v'' : Value} (hr : fn.results = #[r, r', r'']) (h : ResAt P n F E L r v) (h' : ResAt P n F E L r' v') (h'' : ResAt P n F E L r'' v'')
    (hR : R (.tuple #[v, v', v'']) L) : KQ n F (RQ P F fn R) e E L := fun a w hv hs => by
  have hres : (results fn a.tmps).run P w = .ok (.tuple #[v, v', v'']) w := by
    have cell : ∀ {x t v}, ResAt P n F E L (.cell x t) v → ∃ ad w1, (asAddr (a.tmps[x]?.getD undef)).run P w = .ok ad w1 ∧ (loadVar t ad).run P w1 = .ok v w := fun h => h.cell_inv hv hs
    have tmp : ∀ {t v}, ResAt P n F E L (.tmp t) v → a.tmps[t]?.getD undef = v := fun h => h.tmp_inv hv hs
    cases r with
    | tmp t =>
      have e1 := tmp h
      cases r' with
      | tmp t' =>
        have e2 := tmp h'
        cases r'' with
        | tmp t'' => simp [results, hr, e1, e2, tmp h'']
        | cell x t'' => obtain ⟨ad, w1, p1, q1⟩ := cell h''; simp [results, hr, e1, e2, p1, q1]
      | cell x' t' =>
        obtain ⟨ad', w1', p2, q2⟩ := cell h'
        cases r'' with
        | tmp t'' => simp [results, hr, e1, p2, q2, tmp h'']
        | cell x t'' => obtain ⟨ad, w1, p1, q1⟩ := cell h''; simp [results, hr, e1, p2, q2, p1, q1]
    | cell x3 t =>
      obtain ⟨ad3, w3, p3, q3⟩ := cell h
      cases r' with
      | tmp t' =>
        have e2 := tmp h'
        cases r'' with
        | tmp t'' => simp [results, hr, p3, q3, e2, tmp h'']
        | cell x t'' => obtain ⟨ad, w1, p1, q1⟩ := cell h''; simp [results, hr, p3, q3, e2, p1, q1]
      | cell x' t' =>
        obtain ⟨ad', w1', p2, q2⟩ := cell h'
        cases r'' with
        | tmp t'' => simp [results, hr, p3, q3, p2, q2, tmp h'']
        | cell x t'' => obtain ⟨ad, w1, p1, q1⟩ := cell h''; simp [results, hr, p3, q3, p2, q2, p1, q1]
  rcases he with rfl | rfl <;> exact ⟨hv.1, _, hres, _, L, hR, rfl, hs⟩

theorem KQ_ret0 {e : Exit} (he : e = .ret ∨ e = .normal) {fn : Func} {R : Value → Bl → Prop} (hr : fn.results = #[]) (hR : R (.tuple #[]) L) : KQ n F (RQ P F fn R) e E L := fun a w hv hs => by
  have hres : (results fn a.tmps).run P w = .ok (.tuple #[]) w := by simp [results, hr]
  rcases he with rfl | rfl <;> exact ⟨hv.1, _, hres, _, L, hR, rfl, hs⟩
end
attribute [irreducible] KQ KW KL Does
end Go.KE
