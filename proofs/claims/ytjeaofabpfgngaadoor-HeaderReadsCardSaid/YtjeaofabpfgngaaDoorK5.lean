/-
  The engine of these proofs, fifth part: regions whose operations come up in any order that their edges let.
  No condition: every lemma is over any program.
-/
import Derived.Test.YtjeaofabpfgngaaDoorK3
import Derived.Deep.Quiet
import Derived.Deep.RegionHeld3
namespace Go.KE
attribute [local semireducible] KQ KW KL Does

section
variable {P : Program} {md : Region.Mode} {ops : Array Oper} {Q : Post} {C : World → Prop}

/-- Whatever order is taken; each world on the way is one of C. -/
def wpAnyC (P : Program) (md : Region.Mode) (ops : Array Oper) (Q : Post) (C : World → Prop) : Nat → Array Bool → Act → World → Prop
  | 0, listed, a, w => C w ∧ Region.ready md ops listed = [] ∧ Q .normal a w
  | fuel + 1, listed, a, w => C w ∧ (Region.ready md ops listed = [] → Q .normal a w) ∧
    ∀ i ∈ Region.ready md ops listed, wpOp P ops Q i (wpAnyC P md ops Q C fuel (listed.setIfInBounds i true)) a w

theorem wpAnyC.cls : ∀ {fuel : Nat} {listed : Array Bool} {a : Act} {w : World}, wpAnyC P md ops Q C fuel listed a w → C w
  | 0, _, _, _, h => h.1
  | _ + 1, _, _, _, h => h.1

theorem wpAny_of_C : ∀ (fuel : Nat) (listed : Array Bool) (a : Act) (w : World), wpAnyC P md ops Q C fuel listed a w → wpAny P md ops Q fuel listed a w
  | 0, _, _, _, h => ⟨h.2.1, h.2.2⟩
  | fuel + 1, _, _, _, h => ⟨h.2.1, fun i hi => wpOp_mono (fun a w => wpAny_of_C fuel _ a w) (h.2.2 i hi)⟩

theorem wpAnyC.mono {C' : World → Prop} (hc : ∀ w, C w → C' w) : ∀ (fuel : Nat) (listed : Array Bool) (a : Act) (w : World), wpAnyC P md ops Q C fuel listed a w → wpAnyC P md ops Q C' fuel listed a w
  | 0, _, _, _, h => ⟨hc _ h.1, h.2⟩
  | fuel + 1, _, _, _, h => ⟨hc _ h.1, h.2.1, fun i hi => wpOp_mono (fun a w => wpAnyC.mono hc fuel _ a w) (h.2.2 i hi)⟩

/-- In state a, in every world of C, the operation yields v and changes nothing; or its guard says no, and v is 'undef'. -/
def Firm (P : Program) (ops : Array Oper) (C : World → Prop) (o : Oper) (v : Value) (a : Act) : Prop :=
  (Region.wanted o (yielded ops a.tmps) = true ∧ ∀ w, C w → (execOp a.eval o).run P w = .ok (.value v) w) ∨
  (Region.wanted o (yielded ops a.tmps) = false ∧ v = undef)

theorem Firm.of_same {o : Oper} {v : Value} {a a' : Act} (hy : Firm P ops C o v a) (he : execOp a'.eval o = execOp a.eval o)
    (hw : Region.wanted o (yielded ops a'.tmps) = Region.wanted o (yielded ops a.tmps)) : Firm P ops C o v a' := by
  unfold Firm at *; rw [he, hw]; exact hy

theorem Firm.op {i : Nat} {o : Oper} {v : Value} {a : Act} {w : World} (hi : ops[i]? = some o) (hy : Firm P ops C o v a) (hC : C w) {K : Act → World → Prop} (h : K (a.put o.dst v) w) : wpOp P ops Q i K a w := by
  unfold wpOp
  simp only [hi]
  rcases hy with ⟨hw, hv⟩ | ⟨hw, rfl⟩
  · rw [if_pos hw]
    refine .inl ?_
    unfold Oper.wp
    rw [hv w hC]; exact h
  · rw [hw]; exact h

theorem wpOp_put {j : Nat} {oi oj : Oper} {v : Value} (hQ : ∀ ch a w, ¬ Q (.panic ch) a w) (hj : ops[j]? = some oj) (hap : oi.apart ops oj = true)
    (hsi : ∀ cs b, oi.op ≠ .select cs b) (hsj : ∀ cs b, oj.op ≠ .select cs b) {K : Act → World → Prop} {a : Act} {w : World}
    (hy : Firm P ops C oi v a) (h : wpOp P ops Q j K (a.put oi.dst v) w) :
    wpOp P ops Q j (fun a' w' => Firm P ops C oi v a' ∧ K (a'.put oi.dst v) w') a w := by
  obtain ⟨h1, h2, h3⟩ := Oper.apart_spec hap
  have keep : ∀ (a : Act), Firm P ops C oi v a → ∀ u, Firm P ops C oi v (a.put oj.dst u) := fun a hy u =>
    hy.of_same (execOp_put oi hsi a oj.dst u h3) (wanted_put oi a oj.dst u h3)
  unfold wpOp at *
  simp only [hj] at *
  rw [wanted_put oj a oi.dst v h1] at h
  split
  · rename_i hw
    simp only [hw, if_true] at h
    rcases h with h | ⟨h, ho⟩
    · refine .inl ?_
      unfold Oper.wp at *
      rw [execOp_put oj hsj a oi.dst v h1] at h
      have kp : ∀ u w', K ((a.put oi.dst v).put oj.dst u) w' → Firm P ops C oi v (a.put oj.dst u) ∧ K ((a.put oj.dst u).put oi.dst v) w' := fun u w' hk =>
        ⟨keep a hy u, by rw [← Act.put_comm a v u h2]; exact hk⟩
      generalize (execOp a.eval oj).run P w = r at *
      cases r with
      | ok nx w' =>
        cases nx <;> simp only [Oper.upon] at h ⊢
        case value u => exact kp u w' h
        case skip => exact kp undef w' h
        case defer d =>
          refine ⟨?_, ?_⟩
          · exact (show Firm P ops C oi v ({ a with defers := d :: a.defers } : Act) from hy).of_same (execOp_put oi hsi _ oj.dst undef h3) (wanted_put oi _ oj.dst undef h3)
          · have e : ({ a.put oi.dst v with defers := d :: (a.put oi.dst v).defers } : Act).put oj.dst undef = (({ a with defers := d :: a.defers } : Act).put oj.dst undef).put oi.dst v := by
              rw [← Act.put_comm ({ a with defers := d :: a.defers } : Act) v undef h2]
              cases oi.dst <;> rfl
            rw [← e]; exact h
        case enter f args =>
          refine Calls.mono h (fun e w'' hh => ?_)
          cases e with
          | returned u => exact kp u w'' hh
          | panicked ch => exact absurd hh (hQ _ _ _)
          | outgrown => exact hh
        case row nm args => exact Rows.mono h (fun u w'' hh => kp u w'' hh)
      | halt x w' => cases x <;> simp only [Oper.upon] at h; exact absurd h (hQ _ _ _)
    · exact .inr ⟨by unfold Oper.asks at *; rwa [execOp_put oj hsj a oi.dst v h1] at h, ho⟩
  · rename_i hw
    simp only [hw] at h
    exact ⟨keep a hy _, by rw [← Act.put_comm a v undef h2]; exact h⟩

/-- A firm operation that may come up now may be taken first. -/
theorem wpAnyC_first {i : Nat} {oi : Oper} {v : Value} (hQ : ∀ ch a w, ¬ Q (.panic ch) a w) (hi : ops[i]? = some oi) (hsel : ∀ (j : Nat) (o : Oper) cs b, ops[j]? = some o → o.op ≠ .select cs b) :
    ∀ (fuel : Nat) (listed : Array Bool) (a : Act) (w : World),
      (∀ j oj, ops[j]? = some oj → j ≠ i → listed.getD j true = false → (∀ e ∈ oj.after, Region.binds md e = true → e.on ≠ i) → oi.apart ops oj = true) →
      i ∈ Region.ready md ops listed → Firm P ops C oi v a →
      wpAnyC P md ops Q C fuel (listed.setIfInBounds i true) (a.put oi.dst v) w → wpAnyC P md ops Q C (fuel + 1) listed a w := by
  intro fuel
  induction fuel with
  | zero =>
    intro listed a w _ hr hy H
    refine ⟨H.1, fun h => (by rw [h] at hr; cases hr), fun j hj => ?_⟩
    by_cases hji : j = i
    · subst hji; exact hy.op hi H.1 H
    · have := ready_mono hj hji
      rw [H.2.1] at this
      cases this
  | succ fuel ih =>
    intro listed a w hfree hr hy H
    refine ⟨H.1, fun h => (by rw [h] at hr; cases hr), fun j hj => ?_⟩
    by_cases hji : j = i
    · subst hji; exact hy.op hi H.1 H
    · have h1 := H.2.2 j (ready_mono hj hji)
      obtain ⟨hjun, oj, hoj, hall⟩ := mem_ready.1 hj
      have hnot : ∀ e ∈ oj.after, Region.binds md e = true → e.on ≠ i := fun e he hb heq => by
        have h1 := hall e he hb
        have h0 := (mem_ready.1 hr).1
        rw [heq] at h1
        rcases Nat.lt_or_ge i listed.size with h' | h'
        · simp [h'] at h0 h1; rw [h0] at h1; cases h1
        · simp [Array.getElem?_eq_none h'] at h1
      have h2 := wpOp_put hQ hoj (hfree j oj hoj hji hjun hnot) (fun cs b => hsel i oi cs b hi) (fun cs b => hsel j oj cs b hoj) hy h1
      have hfree' : ∀ k ok, ops[k]? = some ok → k ≠ i → (listed.setIfInBounds j true).getD k true = false →
          (∀ e ∈ ok.after, Region.binds md e = true → e.on ≠ i) → oi.apart ops ok = true := fun k ok hk hki hun hno => by
        refine hfree k ok hk hki ?_ hno
        by_cases hjk : j = k
        · subst hjk; exact hjun
        · rw [getD_set_ne true hjk] at hun; exact hun
      refine wpOp_mono (fun a' w' h3 => ih (listed.setIfInBounds j true) a' w' hfree' (ready_mono hr (Ne.symm hji)) h3.1 ?_) h2
      rw [Array.setIfInBounds_comm _ _ hji]
      exact h3.2
end

/-- A program that draws any order that the edges let. -/
class Mixed (P : Program) : Prop where
  h : P.follows .mixedOrders = true

/-- The rest of a region in any order: what is listed has come up. Lq: the blocks that no operation of the region turns. -/
def KA (P : Program) (n : Nat) (F : Fr) (Lq : Bl) (ops : Array Oper) (Q : Post) (fuel : Nat) (listed : Array Bool) (E : Sl) (L : Bl) : Prop :=
  ∀ a w, Env n a E → St F L w → wpAnyC P .any ops (NoPanic Q) (St F Lq) fuel listed a w
/-- One operation, then K. -/
def KK (n : Nat) (F : Fr) (K : Act → World → Prop) (E : Sl) (L : Bl) : Prop := ∀ a w, Env n a E → St F L w → K a w
def KO (P : Program) (n : Nat) (F : Fr) (ops : Array Oper) (Q : Post) (o : Oper) (K : Act → World → Prop) (E : Sl) (L : Bl) : Prop :=
  ∀ a w, Env n a E → St F L w → if Region.wanted o (yielded ops a.tmps) then o.wp P a w K Q else K (a.put o.dst undef) w

section
variable {P : Program} {n : Nat} {F : Fr} {Q : Post} {E : Sl} {L Lq : Bl} {ops : Array Oper}

def SubL (L Lq : Bl) : Prop := ∀ p ∈ Lq, p ∈ L
theorem St.sub {w : World} (h : St F L w) (hs : SubL L Lq) (hn : (Lq.map (·.1)).Nodup) : St F Lq w :=
  ⟨h.fr, fun p hp => h.own p (hs p hp), fun p hp => h.apart p (hs p hp), hn, h.os, h.tape, h.output⟩

/-- The blocks of Lq stand among L's. -/
inductive Sl1 : Bl → Bl → Prop where
  | nil {M} : Sl1 M []
  | keep {p M N} (h : Sl1 M N) : Sl1 (p :: M) (p :: N)
  | skip {p M N} (h : Sl1 M N) : Sl1 (p :: M) N
theorem Sl1.sublist {L Lq : Bl} (h : Sl1 L Lq) : Lq.Sublist L := by
  induction h with
  | nil => exact List.nil_sublist _
  | keep h ih => exact ih.cons_cons _
  | skip h ih => exact ih.cons _
theorem St.sl1 {w : World} (h : St F L w) (hs : Sl1 L Lq) : St F Lq w :=
  h.sub (fun _ hp => hs.sublist.subset hp) ((hs.sublist.map _).nodup h.nodup)

theorem KW_draw {id : Nat} {l : List Oper} [hm : Mixed P] (Lq : Bl) (h : KA P n F Lq l.toArray Q l.length (Array.replicate l.length false) E L) : KW P n F (.region id l.toArray true) Q E L := fun a w he hs =>
  wp_region_noPanic (wp_region_any hm.h (by
    have := h a w.drew he hs.drew
    simp only [List.size_toArray]
    exact wpAny_of_C _ _ _ _ this))

theorem noPanic_not (ch : List PanicEntry) (a : Act) (w : World) : ¬ NoPanic Q (.panic ch) a w := fun h => h

/-- A firm operation is taken. -/
theorem KA_p {fuel : Nat} {listed : Array Bool} (i : Nat) {dst : Nat} {op : Op} {ty : TypeId} {pos : String} {after : Array Edge} {g : Option (Nat × Bool)} {v : Value}
    (k : KA P n F Lq ops Q fuel (listed.setIfInBounds i true) ((dst, v) :: E) L)
    (hi : ops[i]? = some ⟨some dst, op, ty, pos, after, g⟩) (hr : (Region.ready .any ops listed).contains i = true) (hf : Region.free .any ops listed i = true) (hns : Region.noSelect ops = true)
    (hg : Want ops E true g) (hd : Nat.blt dst n = true) (hv : PureAt P n F E Lq op ty v) : KA P n F Lq ops Q (fuel + 1) listed E L := fun a w he hs =>
  wpAnyC_first (oi := ⟨some dst, op, ty, pos, after, g⟩) (v := v) noPanic_not hi (Region.noSelect_spec hns) fuel listed a w (Region.free_spec hi hf) (by simpa using hr)
    (.inl ⟨Want.eq (o := ⟨some dst, op, ty, pos, after, g⟩) hg he, fun w' hw' => hv.run a w' _ rfl rfl he hw'⟩) (k _ _ (he.put hd v) hs)

theorem KA_un {fuel : Nat} {listed : Array Bool} (i : Nat) {dst : Nat} {op : Op} {ty : TypeId} {pos : String} {after : Array Edge} {g : Option (Nat × Bool)}
    (k : KA P n F Lq ops Q fuel (listed.setIfInBounds i true) ((dst, undef) :: E) L)
    (hi : ops[i]? = some ⟨some dst, op, ty, pos, after, g⟩) (hr : (Region.ready .any ops listed).contains i = true) (hf : Region.free .any ops listed i = true) (hns : Region.noSelect ops = true)
    (hg : Want ops E false g) (hd : Nat.blt dst n = true) : KA P n F Lq ops Q (fuel + 1) listed E L := fun a w he hs =>
  wpAnyC_first (oi := ⟨some dst, op, ty, pos, after, g⟩) (v := undef) noPanic_not hi (Region.noSelect_spec hns) fuel listed a w (Region.free_spec hi hf) (by simpa using hr)
    (.inr ⟨Want.eq (o := ⟨some dst, op, ty, pos, after, g⟩) hg he, rfl⟩) (k _ _ (he.put hd undef) hs)

/-- Each operation that may come up now is taken. -/
theorem KA_all {fuel : Nat} {listed : Array Bool} {is : List Nat} (hr : Region.ready .any ops listed = is) (hne : is ≠ []) (hL : Sl1 L Lq)
    (h : ∀ i ∈ is, ∃ o, ops[i]? = some o ∧ KO P n F ops (NoPanic Q) o (wpAnyC P .any ops (NoPanic Q) (St F Lq) fuel (listed.setIfInBounds i true)) E L) : KA P n F Lq ops Q (fuel + 1) listed E L := fun a w he hs =>
  ⟨hs.sl1 hL, fun h0 => absurd (hr.symm.trans h0) hne, fun i hi => by
    rw [hr] at hi
    obtain ⟨o, ho, hk⟩ := h i hi
    have := hk a w he hs
    unfold wpOp
    simp only [ho]
    split
    · rename_i hw; rw [if_pos hw] at this; exact .inl this
    · rename_i hw; rw [if_neg hw] at this; exact this⟩

theorem KA_one {fuel : Nat} {listed : Array Bool} {i : Nat} {o : Oper} (hr : Region.ready .any ops listed = [i]) (hi : ops[i]? = some o) (hL : Sl1 L Lq)
    (h : KO P n F ops (NoPanic Q) o (wpAnyC P .any ops (NoPanic Q) (St F Lq) fuel (listed.setIfInBounds i true)) E L) : KA P n F Lq ops Q (fuel + 1) listed E L :=
  KA_all hr (by simp) hL fun j hj => by
    obtain rfl := List.mem_singleton.1 hj
    exact ⟨o, hi, h⟩

theorem KA_nil {listed : Array Bool} (hr : Region.ready .any ops listed = []) (hL : Sl1 L Lq) (h : KQ n F Q .normal E L) : KA P n F Lq ops Q 0 listed E L := fun a w he hs =>
  ⟨hs.sl1 hL, hr, NoPanic.normal (h a w he hs)⟩

/-- More blocks are held from here on. -/
theorem KA_more {fuel : Nat} {listed : Array Bool} (Lq' : Bl) (hL : Sl1 Lq' Lq) (h : KA P n F Lq' ops Q fuel listed E L) : KA P n F Lq ops Q fuel listed E L := fun a w he hs =>
  wpAnyC.mono (fun _ hw => hw.sl1 hL) _ _ _ _ (h a w he hs)

theorem KK_KA {fuel : Nat} {listed : Array Bool} (h : KA P n F Lq ops Q fuel listed E L) : KK n F (wpAnyC P .any ops (NoPanic Q) (St F Lq) fuel listed) E L := h

/-! ### one operation -/
variable {K : Act → World → Prop} {Q0 : Post}
theorem KO_p {dst : Nat} {op : Op} {ty : TypeId} {pos : String} {after : Array Edge} {g : Option (Nat × Bool)} {v : Value}
    (hg : Want ops E true g) (hd : Nat.blt dst n = true) (hv : PureAt P n F E L op ty v) (k : KK n F K ((dst, v) :: E) L) :
    KO P n F ops Q0 ⟨some dst, op, ty, pos, after, g⟩ K E L := fun a w he hs => by
  rw [if_pos (Want.eq (o := ⟨some dst, op, ty, pos, after, g⟩) hg he)]
  unfold Oper.wp
  rw [hv.run a w _ rfl rfl he hs]
  exact k _ _ (he.put hd v) hs
theorem KO_m {dst : Nat} {op : Op} {ty : TypeId} {pos : String} {after : Array Edge} {g : Option (Nat × Bool)} {α : Type} {R : α → Prop} {v : α → Value} {L' : α → Bl}
    (hg : Want ops E true g) (hd : Nat.blt dst n = true) (hv : StepAt P n F E L op ty R v L') (k : ∀ x, R x → KK n F K ((dst, v x) :: E) (L' x)) :
    KO P n F ops Q0 ⟨some dst, op, ty, pos, after, g⟩ K E L := fun a w he hs => by
  rw [if_pos (Want.eq (o := ⟨some dst, op, ty, pos, after, g⟩) hg he)]
  unfold Oper.wp
  obtain ⟨x, w', hR, hr, hs'⟩ := hv.run a w ⟨some dst, op, ty, pos, after, g⟩ rfl rfl he hs
  rw [hr]
  exact k x hR _ _ (he.put hd _) hs'
theorem KO_s {op : Op} {ty : TypeId} {pos : String} {after : Array Edge} {g : Option (Nat × Bool)} {L' : Bl}
    (hg : Want ops E true g) (hv : SkipAt P n F E L op ty L') (k : KK n F K E L') :
    KO P n F ops Q0 ⟨none, op, ty, pos, after, g⟩ K E L := fun a w he hs => by
  rw [if_pos (Want.eq (o := ⟨none, op, ty, pos, after, g⟩) hg he)]
  unfold Oper.wp
  obtain ⟨w', hr, hs'⟩ := hv.run a w ⟨none, op, ty, pos, after, g⟩ rfl rfl he hs
  rw [hr]
  exact k _ _ he hs'
theorem KO_un {dst : Nat} {op : Op} {ty : TypeId} {pos : String} {after : Array Edge} {g : Option (Nat × Bool)}
    (hg : Want ops E false g) (hd : Nat.blt dst n = true) (k : KK n F K ((dst, undef) :: E) L) :
    KO P n F ops Q0 ⟨some dst, op, ty, pos, after, g⟩ K E L := fun a w he hs => by
  rw [if_neg (by rw [Want.eq (o := ⟨some dst, op, ty, pos, after, g⟩) hg he]; simp)]
  exact k _ _ (he.put hd undef) hs
theorem KO_call {dst : Nat} {fo : Operand} {as : List Operand} {ts : Array TypeId} {ty : TypeId} {pos : String} {after : Array Edge} {g : Option (Nat × Bool)}
    {f : FuncId} {vs first cap : List Value} {Lp Lf : Bl} {R : Value → Bl → Prop} [hbody : Body P f]
    (hg : Want ops E true g) (hd : Nat.blt dst n = true) (hf : ev E fo = some (.func (.func f) first.toArray cap.toArray)) (hvs : evs E as = some vs)
    (hp : L.Perm (Lp ++ Lf)) (h : Does P f (first ++ vs ++ cap) (F.plus Lf) Lp R) (k : ∀ v L', R v L' → KK n F K ((dst, v) :: E) (L' ++ Lf)) :
    KO P n F ops Q0 ⟨some dst, .call { callee := .value fo, args := as.toArray, argTypes := ts }, ty, pos, after, g⟩ K E L := fun a w he hs => by
  rw [if_pos (Want.eq (o := ⟨some dst, .call { callee := .value fo, args := as.toArray, argTypes := ts }, ty, pos, after, g⟩) hg he)]
  unfold Oper.wp
  have hmap : (as.toArray.map a.eval) = vs.toArray := by rw [List.map_toArray, he.evs hvs]
  have hr : (execOp a.eval ⟨some dst, .call { callee := .value fo, args := as.toArray, argTypes := ts }, ty, pos, after, g⟩).run P w = .ok (.enter f (first ++ vs ++ cap).toArray) w := by
    simp only [execOp, resolve, he.ev hf, Deferred.ofValue, hmap]
    simp [invoke, hbody.run]
  rw [hr]
  show Calls P f _ w _
  have hs1 := hs.perm hp
  refine (h w hs1.give).mono ?_
  rintro e w' ⟨v, L', hR, rfl, hs'⟩
  exact k v L' hR _ _ (he.put hd v) (St.take hs1 hs')

/-! ### in the order of the text -/
def listedK (N k : Nat) : Array Bool := (List.replicate k true ++ List.replicate (N - k) false).toArray
theorem listedK_succ {N k : Nat} (h : k < N) : (listedK N k).setIfInBounds k true = listedK N (k + 1) := by
  unfold listedK
  have e : N - k = (N - (k + 1)) + 1 := by omega
  rw [e, List.replicate_succ, List.replicate_succ']
  simp

def firmAt (ops : Array Oper) (N k : Nat) : Bool := (Region.ready .any ops (listedK N k)).contains k && Region.free .any ops (listedK N k) k && Region.noSelect ops && Nat.blt k N
def onlyAt (ops : Array Oper) (N k : Nat) : Bool := Region.ready .any ops (listedK N k) == [k] && Nat.blt k N

def KX (P : Program) (n : Nat) (F : Fr) (Lq : Bl) (ops : Array Oper) (N : Nat) (Q : Post) (k : Nat) (E : Sl) (L : Bl) : Prop := KA P n F Lq ops Q (N - k) (listedK N k) E L

theorem KX_start {id : Nat} {l : List Oper} [hm : Mixed P] (Lq : Bl) {N : Nat} (hN : l.length = N) (h : KX P n F Lq l.toArray N Q 0 E L) : KW P n F (.region id l.toArray true) Q E L :=
  KW_draw Lq (by rw [hN]; simpa [KX, listedK] using h)

theorem KX_p {N k : Nat} {dst : Nat} {op : Op} {ty : TypeId} {pos : String} {after : Array Edge} {g : Option (Nat × Bool)} {v : Value}
    (h : KX P n F Lq ops N Q (k + 1) ((dst, v) :: E) L) (hi : ops[k]? = some ⟨some dst, op, ty, pos, after, g⟩) (hs : firmAt ops N k = true)
    (hg : Want ops E true g) (hd : Nat.blt dst n = true) (hv : PureAt P n F E Lq op ty v) : KX P n F Lq ops N Q k E L := by
  simp only [firmAt, Bool.and_eq_true] at hs
  have hk : k < N := by simpa [Nat.blt_eq] using hs.2
  have e : N - k = (N - (k + 1)) + 1 := by omega
  unfold KX
  rw [e]
  refine KA_p k ?_ hi hs.1.1.1 hs.1.1.2 hs.1.2 hg hd hv
  rw [listedK_succ hk]; exact h
theorem KX_un {N k : Nat} {dst : Nat} {op : Op} {ty : TypeId} {pos : String} {after : Array Edge} {g : Option (Nat × Bool)}
    (h : KX P n F Lq ops N Q (k + 1) ((dst, undef) :: E) L) (hi : ops[k]? = some ⟨some dst, op, ty, pos, after, g⟩) (hs : firmAt ops N k = true)
    (hg : Want ops E false g) (hd : Nat.blt dst n = true) : KX P n F Lq ops N Q k E L := by
  simp only [firmAt, Bool.and_eq_true] at hs
  have hk : k < N := by simpa [Nat.blt_eq] using hs.2
  have e : N - k = (N - (k + 1)) + 1 := by omega
  unfold KX
  rw [e]
  refine KA_un k ?_ hi hs.1.1.1 hs.1.1.2 hs.1.2 hg hd
  rw [listedK_succ hk]; exact h
/-- The operation is the only one that may come up now: K is handed on. -/
theorem KX_one {N k : Nat} {o : Oper} (hi : ops[k]? = some o) (hs : onlyAt ops N k = true) (hL : Sl1 L Lq)
    (h : ∀ K : Act → World → Prop, (∀ E' L', KX P n F Lq ops N Q (k + 1) E' L' → KK n F K E' L') → KO P n F ops (NoPanic Q) o K E L) : KX P n F Lq ops N Q k E L := by
  simp only [onlyAt, Bool.and_eq_true, beq_iff_eq] at hs
  have hk : k < N := by simpa [Nat.blt_eq] using hs.2
  have e : N - k = (N - (k + 1)) + 1 := by omega
  unfold KX
  rw [e]
  refine KA_one hs.1 hi hL (h _ fun E' L' hx => ?_)
  have : KA P n F Lq ops Q (N - (k + 1)) (listedK N (k + 1)) E' L' := hx
  rw [← listedK_succ hk] at this
  exact KK_KA this
theorem KX_more {N k : Nat} (Lq' : Bl) (hL : Sl1 Lq' Lq) (h : KX P n F Lq' ops N Q k E L) : KX P n F Lq ops N Q k E L := KA_more Lq' hL h
theorem KX_end {N : Nat} (hs : (Region.ready .any ops (listedK N N)).isEmpty = true) (hL : Sl1 L Lq) (h : KQ n F Q .normal E L) : KX P n F Lq ops N Q N E L := by
  unfold KX
  rw [Nat.sub_self]
  exact KA_nil (by simpa using hs) hL h
end
attribute [irreducible] KA KK KO KX
end Go.KE
