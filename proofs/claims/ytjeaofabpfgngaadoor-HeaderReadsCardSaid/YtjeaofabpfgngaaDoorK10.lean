/-
  The engine of these proofs: shorter words for loads, stores and loops; what a loop leaves alone is found by the rule.
  No condition: every lemma is over any program.
-/
import Derived.Test.YtjeaofabpfgngaaDoorK9
import Derived.Stop.BytesEq
namespace Go.KE

/-! ### what a piece of code writes -/
def opsWrite (l : List Oper) (d : Nat) : Bool := l.any fun o => match o.dst with | some e => Nat.beq e d | none => false
def writes : Code → Nat → Bool
  | .skip, _ | .exit _, _ | .label _, _ | .goto _, _ | .ret, _ | .refuse _, _ => false
  | .region _ ops _, d => opsWrite ops.toList d
  | .seq a b, d => writes a d || writes b d
  | .cond _ a b, d => writes a d || writes b d
  | .block _ b, d | .loop b, d | .scope b, d => writes b d
  | .rangeFunc _ ps a b, d => ps.toList.any (fun e => Nat.beq e d) || writes a d || writes b d
def listed : List Nat → Nat → Bool
  | [], _ => false
  | e :: r, d => bif Nat.beq e d then true else listed r d
/-- The slots of E that c does not write, each once. -/
inductive Keep (c : Code) : List Nat → Sl → Sl → Prop where
  | nil {s} : Keep c s [] []
  | drop {s d v E E'} (h : writes c d = true) (k : Keep c s E E') : Keep c s ((d, v) :: E) E'
  | again {s d v E E'} (h : listed s d = true) (k : Keep c s E E') : Keep c s ((d, v) :: E) E'
  | take {s d v E E'} (h : writes c d = false) (h' : listed s d = false) (k : Keep c (d :: s) E E') : Keep c s ((d, v) :: E) ((d, v) :: E')

theorem listed_cons {s : List Nat} {d t : Nat} : listed (d :: s) t = false ↔ Nat.beq d t = false ∧ listed s t = false := by
  simp only [listed]
  cases Nat.beq d t <;> simp

theorem Keep.sub {c : Code} {s : List Nat} {E E' : Sl} (h : Keep c s E E') : ∀ (E0 : Sl), (∀ t v, listed s t = false → writes c t = false → get? E t = some v → get? E0 t = some v) → Sub E0 E' := by
  induction h with
  | nil => intro E0 _; exact trivial
  | @drop s d v E E' h k ih =>
    intro E0 h0
    refine ih E0 fun t u hs hw hu => h0 t u hs hw ?_
    simp only [get?]
    cases hb : Nat.beq d t with
    | true => have e : d = t := Nat.eq_of_beq_eq_true hb; subst e; rw [h] at hw; cases hw
    | false => exact hu
  | @again s d v E E' h k ih =>
    intro E0 h0
    refine ih E0 fun t u hs hw hu => h0 t u hs hw ?_
    simp only [get?]
    cases hb : Nat.beq d t with
    | true => have e : d = t := Nat.eq_of_beq_eq_true hb; subst e; rw [h] at hs; cases hs
    | false => exact hu
  | @take s d v E E' h h' k ih =>
    intro E0 h0
    refine ⟨h0 d v h' h (by simp [get?]), ih E0 fun t u hs hw hu => ?_⟩
    obtain ⟨hs1, hs2⟩ := listed_cons.1 hs
    exact h0 t u hs2 hw (by simp only [get?, hs1]; exact hu)

theorem Sub.app {E A B : Sl} (h1 : Sub E A) (h2 : Sub E B) : Sub E (A ++ B) := by
  induction A with
  | nil => exact h2
  | cons p A ih => exact ⟨h1.1, ih h1.2⟩

section
variable {P : Program} {n : Nat} {F : Fr} {Q : Post} {E : Sl} {L Lq : Bl}

/-- A loop: 'ch' are the slots that a round writes and that are read later; the others are kept by themselves. -/
theorem a_loopK {α : Type} {c : Code} {E' : Sl} (I : α → Prop) (ch : α → Sl) (Li : α → Bl) (μ : α → Nat) (x0 : α) (hI : I x0)
    (round : ∀ x, I x → KW P n F c (LoopQ n F I (fun x => ch x ++ E') Li μ x Q) (ch x ++ E') (Li x))
    (hK : Keep c [] E E' := by (repeat (first | exact Keep.nil | apply Keep.take (by rfl) (by rfl) | apply Keep.again (by rfl) | apply Keep.drop (by rfl))); done)
    (hE : Sub E (ch x0) := by (repeat (first | exact trivial | refine ⟨rfl, ?_⟩)); done) (hL : L = Li x0 := by rfl) : KW P n F (.loop c) Q E L :=
  KW_loop I (fun x => ch x ++ E') Li μ x0 hI (hE.app (hK.sub E fun _ _ _ _ h => h)) hL round
/-- Two paths that meet: the slots that neither writes are kept by themselves. -/
theorem a_joinK {α : Type} {c : Code} {E' : Sl} (I : α → Prop) (ch : α → Sl) (Li : α → Bl)
    (h : KW P n F c (JQ n F Q I (fun x => ch x ++ E') Li) E L) (k : ∀ x, I x → KQ n F Q .normal (ch x ++ E') (Li x))
    (_hK : Keep c [] E E' := by (repeat (first | exact Keep.nil | apply Keep.take (by rfl) (by rfl) | apply Keep.again (by rfl) | apply Keep.drop (by rfl))); done) : KW P n F c Q E L :=
  a_join I (fun x => ch x ++ E') Li h k

/-- A load of one cell at a place that is named. -/
theorem a_ld {ops : Array Oper} {rest : List Oper} {dst : Nat} {x : Operand} {t et ty : TypeId} {pos : String} {after : Array Edge} {g : Option (Nat × Bool)} {b o : Nat} {l : List Value} {fr : Nat × Nat} {v : Value} [h : TS P t] (hv : l[o]? = some v)
    (k : KL P n F ops Q rest ((dst, v) :: E) L) (hg : Want ops E true g := by first | exact .none rfl | exact .some rfl rfl rfl) (hd : Nat.blt dst n = true := by rfl)
    (hx : ev E x = some (.pointer (some ⟨b, o, none⟩)) := by rfl)
    (hb : Held F L b (.cells l.toArray et fr) := by first | (apply Held.own; (repeat (first | exact List.Mem.head _ | apply List.Mem.tail)); done) | (apply Held.fr; assumption) | (apply Held.fr; apply Or.inr; (repeat (first | exact List.Mem.head _ | apply List.Mem.tail)); done)) :
    KL P n F ops Q (⟨some dst, .load t x, ty, pos, after, g⟩ :: rest) E L := KL_p hg hd (p_load hx hb hv) k
/-- A load of a struct or an array at a place that is named. -/
theorem a_ldA {ops : Array Oper} {rest : List Oper} {dst : Nat} {x : Operand} {t et ty : TypeId} {pos : String} {after : Array Edge} {g : Option (Nat × Bool)} {b o size bytes : Nat} {z : Value} {l cs : List Value} {fr : Nat × Nat} [h : TA P t] [hz : TZ P t z size bytes] (hc : Cut l o size cs)
    (k : KL P n F ops Q rest ((dst, .agg cs.toArray) :: E) L) (hg : Want ops E true g := by first | exact .none rfl | exact .some rfl rfl rfl) (hd : Nat.blt dst n = true := by rfl)
    (hx : ev E x = some (.pointer (some ⟨b, o, none⟩)) := by rfl)
    (hb : Held F L b (.cells l.toArray et fr) := by first | (apply Held.own; (repeat (first | exact List.Mem.head _ | apply List.Mem.tail)); done) | (apply Held.fr; assumption) | (apply Held.fr; apply Or.inr; (repeat (first | exact List.Mem.head _ | apply List.Mem.tail)); done)) :
    KL P n F ops Q (⟨some dst, .load t x, ty, pos, after, g⟩ :: rest) E L := KL_p hg hd (p_load_agg hx hb hc) k
/-- A store at a place that is named. -/
theorem a_st {ops : Array Oper} {rest : List Oper} {ty : TypeId} {pos : String} {after : Array Edge} {x y : Operand} {t et : TypeId} {b o size bytes : Nat} {z v : Value} {l cs l' : List Value} {L' : Bl} [hz : TZ P t z size bytes] (hp : Patch l o cs l')
    (k : KL P n F ops Q rest E L') (h1 : oneCells cs := by exact oneCells_of rfl) (hlen : cs.length = size := by rfl)
    (hx : ev E x = some (.pointer (some ⟨b, o, none⟩)) := by rfl) (hy : ev E y = some v := by rfl) (hcs : v.cells = cs.toArray := by rfl)
    (hb : BSet L b (.cells l.toArray et (0, 0)) (.cells l'.toArray et (0, 0)) L' := by (repeat (first | exact BSet.head | apply BSet.tail)); done) : KL P n F ops Q (⟨none, .store t x y, ty, pos, after, none⟩ :: rest) E L :=
  KL_s (.none rfl) (s_store hx hy hcs hlen hb hp h1) k
/-- The same in a drawn region. -/
theorem x_ld {ops : Array Oper} {N k : Nat} {dst : Nat} {x : Operand} {t et ty : TypeId} {pos : String} {after : Array Edge} {g : Option (Nat × Bool)} {b o : Nat} {l : List Value} {fr : Nat × Nat} {v : Value} [h : TS P t] (hv : l[o]? = some v)
    (kk : KX P n F Lq ops N Q (k + 1) ((dst, v) :: E) L) (hi : ops[k]? = some ⟨some dst, .load t x, ty, pos, after, g⟩ := by rfl) (hs : firmAt ops N k = true := by decide +kernel)
    (hg : Want ops E true g := by first | exact .none rfl | exact .some rfl rfl rfl) (hd : Nat.blt dst n = true := by rfl)
    (hx : ev E x = some (.pointer (some ⟨b, o, none⟩)) := by rfl)
    (hb : Held F Lq b (.cells l.toArray et fr) := by first | (apply Held.own; (repeat (first | exact List.Mem.head _ | apply List.Mem.tail)); done) | (apply Held.fr; assumption) | (apply Held.fr; apply Or.inr; (repeat (first | exact List.Mem.head _ | apply List.Mem.tail)); done)) :
    KX P n F Lq ops N Q k E L := KX_p kk hi hs hg hd (p_load hx hb hv)
theorem x_ldA {ops : Array Oper} {N k : Nat} {dst : Nat} {x : Operand} {t et ty : TypeId} {pos : String} {after : Array Edge} {g : Option (Nat × Bool)} {b o size bytes : Nat} {z : Value} {l cs : List Value} {fr : Nat × Nat} [h : TA P t] [hz : TZ P t z size bytes] (hc : Cut l o size cs)
    (kk : KX P n F Lq ops N Q (k + 1) ((dst, .agg cs.toArray) :: E) L) (hi : ops[k]? = some ⟨some dst, .load t x, ty, pos, after, g⟩ := by rfl) (hs : firmAt ops N k = true := by decide +kernel)
    (hg : Want ops E true g := by first | exact .none rfl | exact .some rfl rfl rfl) (hd : Nat.blt dst n = true := by rfl)
    (hx : ev E x = some (.pointer (some ⟨b, o, none⟩)) := by rfl)
    (hb : Held F Lq b (.cells l.toArray et fr) := by first | (apply Held.own; (repeat (first | exact List.Mem.head _ | apply List.Mem.tail)); done) | (apply Held.fr; assumption) | (apply Held.fr; apply Or.inr; (repeat (first | exact List.Mem.head _ | apply List.Mem.tail)); done)) :
    KX P n F Lq ops N Q k E L := KX_p kk hi hs hg hd (p_load_agg hx hb hc)
/-- A store that is the one operation that may come up. -/
theorem x_st {ops : Array Oper} {N k : Nat} {ty : TypeId} {pos : String} {after : Array Edge} {x y : Operand} {t et : TypeId} {b o size bytes : Nat} {z v : Value} {l cs l' : List Value} {L' : Bl} [hz : TZ P t z size bytes] (hp : Patch l o cs l')
    (kk : KX P n F Lq ops N Q (k + 1) E L') (h1 : oneCells cs := by exact oneCells_of rfl) (hlen : cs.length = size := by rfl)
    (hi : ops[k]? = some ⟨none, .store t x y, ty, pos, after, none⟩ := by rfl) (hs : onlyAt ops N k = true := by decide +kernel) (hL : Sl1 L Lq := by (repeat (first | exact Sl1.nil | apply Sl1.keep | apply Sl1.skip)); done)
    (hx : ev E x = some (.pointer (some ⟨b, o, none⟩)) := by rfl) (hy : ev E y = some v := by rfl) (hcs : v.cells = cs.toArray := by rfl)
    (hb : BSet L b (.cells l.toArray et (0, 0)) (.cells l'.toArray et (0, 0)) L' := by (repeat (first | exact BSet.head | apply BSet.tail)); done) : KX P n F Lq ops N Q k E L :=
  KX_one hi hs hL fun _ hK => KO_s (.none rfl) (s_store hx hy hcs hlen hb hp h1) (hK _ _ kk)
/-- Two aggregates are compared: what the model's comparison answers. -/
theorem p_aggEq {x y : Operand} {t u ty : TypeId} {xs ys : Array Value} {b : Bool} (hx : ev E x = some (.agg xs)) (hy : ev E y = some (.agg ys)) (hp : P.eqGuardType P.depth t = false) (he : ∀ w, (Op.equal t (.agg xs) (.agg ys)).run P w = .ok b w) :
    PureAt P n F E L (.binOp .eql t x y u) ty (.bool b) := .of fun a w oo ho _ hv _ => by
  have hg : ∀ w, (eqGuard .eql t x y (.agg xs) (.agg ys)).run P w = .ok () w := fun w => by
    unfold eqGuard
    simp [hp]
  simp only [execOp, ho, hv.ev hx, hv.ev hy, Sem.run_bind, hg, Result.andThen]
  simp [binOp, he]
/-- The place of an element, named. -/
theorem a_ixA {ops : Array Oper} {rest : List Oper} {dst : Nat} {x i : Operand} {t e ty : TypeId} {pos : String} {after : Array Edge} {g : Option (Nat × Bool)} {k' : IntKind} {len b o size bytes : Nat} {z : Value} {j : Int} (o' : Nat) [h : TU P t (.array len e)] [hz : TZ P e z size bytes]
    (k : KL P n F ops Q rest ((dst, .pointer (some ⟨b, o', none⟩)) :: E) L) (hg : Want ops E true g := by first | exact .none rfl | exact .some rfl rfl rfl) (hd : Nat.blt dst n = true := by rfl)
    (hx : ev E x = some (.pointer (some ⟨b, o, none⟩)) := by rfl) (hi : ev E i = some (.int k' j) := by rfl) (h0 : 0 ≤ j := by omega) (h1 : j < len := by omega) (ho' : o + j.toNat * size = o' := by omega) :
    KL P n F ops Q (⟨some dst, .indexAddr t x i, ty, pos, after, g⟩ :: rest) E L := KL_p hg hd (p_indexAddr_array hx hi h0 h1 ho') k
theorem a_ixS {ops : Array Oper} {rest : List Oper} {dst : Nat} {x i : Operand} {t e ty : TypeId} {pos : String} {after : Array Edge} {g : Option (Nat × Bool)} {k' : IntKind} {b o m c size bytes : Nat} {z : Value} {j : Int} (o' : Nat) [h : TU P t (.slice e)] [hz : TZ P e z size bytes]
    (k : KL P n F ops Q rest ((dst, .pointer (some ⟨b, o', none⟩)) :: E) L) (hg : Want ops E true g := by first | exact .none rfl | exact .some rfl rfl rfl) (hd : Nat.blt dst n = true := by rfl)
    (hx : ev E x = some (.slice (some ⟨b, o, none⟩) m c) := by rfl) (hi : ev E i = some (.int k' j) := by rfl) (h0 : 0 ≤ j := by omega) (h1 : j < m := by omega) (ho' : o + j.toNat * size = o' := by omega) :
    KL P n F ops Q (⟨some dst, .indexAddr t x i, ty, pos, after, g⟩ :: rest) E L := KL_p hg hd (p_indexAddr_slice hx hi h0 h1 ho') k
/-- A pure operation by hand, its own proof named last. -/
theorem a_pure {ops : Array Oper} {rest : List Oper} {dst : Nat} {op : Op} {ty : TypeId} {pos : String} {after : Array Edge} {g : Option (Nat × Bool)} {v : Value} (hv : PureAt P n F E L op ty v)
    (k : KL P n F ops Q rest ((dst, v) :: E) L) (hg : Want ops E true g := by first | exact .none rfl | exact .some rfl rfl rfl) (hd : Nat.blt dst n = true := by rfl) : KL P n F ops Q (⟨some dst, op, ty, pos, after, g⟩ :: rest) E L := KL_p hg hd hv k
/-- A step that makes or turns memory. -/
theorem a_mem {ops : Array Oper} {rest : List Oper} {dst : Nat} {op : Op} {ty : TypeId} {pos : String} {after : Array Edge} {g : Option (Nat × Bool)} {α : Type} {R : α → Prop} {v : α → Value} {L' : α → Bl} (hv : StepAt P n F E L op ty R v L')
    (k : ∀ x, R x → KL P n F ops Q rest ((dst, v x) :: E) (L' x)) (hg : Want ops E true g := by first | exact .none rfl | exact .some rfl rfl rfl) (hd : Nat.blt dst n = true := by rfl) : KL P n F ops Q (⟨some dst, op, ty, pos, after, g⟩ :: rest) E L := KL_m hg hd hv k
/-- The blocks said in other words. -/
theorem KW_reL {c : Code} {L' : Bl} (hL : L = L') (h : KW P n F c Q E L') : KW P n F c Q E L := hL ▸ h
theorem KL_reL {ops : Array Oper} {l : List Oper} {L' : Bl} (hL : L = L') (h : KL P n F ops Q l E L') : KL P n F ops Q l E L := hL ▸ h
theorem KQ_reL {e : Exit} {L' : Bl} (hL : L = L') (h : KQ n F Q e E L') : KQ n F Q e E L := hL ▸ h
/-- xs[l:], where something is left in the slice's room. -/
theorem a_slL {ops : Array Oper} {rest : List Oper} {dst : Nat} {x lo : Operand} {t e ty : TypeId} {pos : String} {after : Array Edge} {g : Option (Nat × Bool)} {len cap b o size bytes : Nat} {z : Value} {kl : IntKind} {l : Int} (o' m' c' : Nat) [ht : TU P t (.slice e)] [hz : TZ P e z size bytes]
    (k : KL P n F ops Q rest ((dst, .slice (some ⟨b, o', none⟩) m' c') :: E) L) (hg : Want ops E true g := by first | exact .none rfl | exact .some rfl rfl rfl) (hd : Nat.blt dst n = true := by rfl)
    (hx : ev E x = some (.slice (some ⟨b, o, none⟩) len cap) := by rfl) (hl : ev E lo = some (.int kl l) := by rfl) (h0 : 0 ≤ l := by omega) (h1 : l ≤ len := by omega) (hne : l.toNat ≠ cap := by omega) (ho' : o + l.toNat * size = o' := by omega) (hm : len - l.toNat = m' := by omega) (hc : cap - l.toNat = c' := by omega) :
    KL P n F ops Q (⟨some dst, .slice t x (some lo) none none, ty, pos, after, g⟩ :: rest) E L := KL_p hg hd (by
      have := p_slice_sl_l (P := P) (n := n) (F := F) (L := L) (ty := ty) (t := t) (e := e) hx hl h0 h1
      rw [if_neg hne, ho', hm, hc] at this
      exact this) k
end
end Go.KE
