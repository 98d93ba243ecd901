/-
  The engine of these proofs: drawn regions whose last operation turns a block that an earlier one reads.
  No condition: every lemma is over any program.
-/
import Derived.Test.YtjeaofabpfgngaaDoorK10
namespace Go.KE
attribute [local semireducible] KQ KW KL Does KA KK KO KX

section
variable {P : Program} {md : Region.Mode} {ops : Array Oper} {Q : Post} {C : World → Prop} {last : Nat}

/-- Whatever order is taken; each world on the way, up to the last operation, is one of C. -/
def wpAnyL (P : Program) (md : Region.Mode) (ops : Array Oper) (Q : Post) (C : World → Prop) (last : Nat) : Nat → Array Bool → Act → World → Prop
  | 0, listed, a, w => (listed.getD last true = false → C w) ∧ Region.ready md ops listed = [] ∧ Q .normal a w
  | fuel + 1, listed, a, w => (listed.getD last true = false → C w) ∧ (Region.ready md ops listed = [] → Q .normal a w) ∧
    ∀ i ∈ Region.ready md ops listed, wpOp P ops Q i (wpAnyL P md ops Q C last fuel (listed.setIfInBounds i true)) a w

theorem wpAnyL.cls : ∀ {fuel : Nat} {listed : Array Bool} {a : Act} {w : World}, wpAnyL P md ops Q C last fuel listed a w → listed.getD last true = false → C w
  | 0, _, _, _, h => h.1
  | _ + 1, _, _, _, h => h.1

theorem wpAny_of_L : ∀ (fuel : Nat) (listed : Array Bool) (a : Act) (w : World), wpAnyL P md ops Q C last fuel listed a w → wpAny P md ops Q fuel listed a w
  | 0, _, _, _, h => ⟨h.2.1, h.2.2⟩
  | fuel + 1, _, _, _, h => ⟨h.2.1, fun i hi => wpOp_mono (fun a w => wpAny_of_L fuel _ a w) (h.2.2 i hi)⟩

theorem wpAnyL.mono {C' : World → Prop} (hc : ∀ w, C w → C' w) : ∀ (fuel : Nat) (listed : Array Bool) (a : Act) (w : World), wpAnyL P md ops Q C last fuel listed a w → wpAnyL P md ops Q C' last fuel listed a w
  | 0, _, _, _, h => ⟨fun hl => hc _ (h.1 hl), h.2⟩
  | fuel + 1, _, _, _, h => ⟨fun hl => hc _ (h.1 hl), h.2.1, fun i hi => wpOp_mono (fun a w => wpAnyL.mono hc fuel _ a w) (h.2.2 i hi)⟩

theorem getD_set_self {l : Array Bool} {i j : Nat} (h : i ≠ j) : (l.setIfInBounds i true).getD j true = l.getD j true := getD_set_ne true h

/-- A firm operation that may come up now may be taken first, where the last operation waits for it. -/
theorem wpAnyL_first {i : Nat} {oi : Oper} {v : Value} (hQ : ∀ ch a w, ¬ Q (.panic ch) a w) (hi : ops[i]? = some oi) (hsel : ∀ (j : Nat) (o : Oper) cs b, ops[j]? = some o → o.op ≠ .select cs b)
    (hne : i ≠ last) (hdep : ∀ ol, ops[last]? = some ol → ∃ e ∈ ol.after, Region.binds md e = true ∧ e.on = i) :
    ∀ (fuel : Nat) (listed : Array Bool) (a : Act) (w : World),
      (∀ j oj, ops[j]? = some oj → j ≠ i → listed.getD j true = false → (∀ e ∈ oj.after, Region.binds md e = true → e.on ≠ i) → oi.apart ops oj = true) →
      listed.getD last true = false →
      i ∈ Region.ready md ops listed → Firm P ops C oi v a →
      wpAnyL P md ops Q C last fuel (listed.setIfInBounds i true) (a.put oi.dst v) w → wpAnyL P md ops Q C last (fuel + 1) listed a w := by
  intro fuel
  induction fuel with
  | zero =>
    intro listed a w _ hlast hr hy H
    have hC := H.1 (by rw [getD_set_self hne]; exact hlast)
    refine ⟨fun _ => hC, fun h => (by rw [h] at hr; cases hr), fun j hj => ?_⟩
    by_cases hji : j = i
    · subst hji; exact hy.op hi hC H
    · have := ready_mono hj hji
      rw [H.2.1] at this
      cases this
  | succ fuel ih =>
    intro listed a w hfree hlast hr hy H
    have hC := H.1 (by rw [getD_set_self hne]; exact hlast)
    refine ⟨fun _ => hC, fun h => (by rw [h] at hr; cases hr), fun j hj => ?_⟩
    by_cases hji : j = i
    · subst hji; exact hy.op hi hC H
    · have h1 := H.2.2 j (ready_mono hj hji)
      obtain ⟨hjun, oj, hoj, hall⟩ := mem_ready.1 hj
      have hnot : ∀ e ∈ oj.after, Region.binds md e = true → e.on ≠ i := fun e he hb heq => by
        have h1 := hall e he hb
        have h0 := (mem_ready.1 hr).1
        rw [heq] at h1
        rcases Nat.lt_or_ge i listed.size with h' | h'
        · simp [h'] at h0 h1; rw [h0] at h1; cases h1
        · simp [Array.getElem?_eq_none h'] at h1
      have hjl : j ≠ last := fun e => by
        subst e
        obtain ⟨e, he, hb, hon⟩ := hdep oj hoj
        exact hnot e he hb hon
      have h2 := wpOp_put hQ hoj (hfree j oj hoj hji hjun hnot) (fun cs b => hsel i oi cs b hi) (fun cs b => hsel j oj cs b hoj) hy h1
      have hfree' : ∀ k ok, ops[k]? = some ok → k ≠ i → (listed.setIfInBounds j true).getD k true = false →
          (∀ e ∈ ok.after, Region.binds md e = true → e.on ≠ i) → oi.apart ops ok = true := fun k ok hk hki hun hno => by
        refine hfree k ok hk hki ?_ hno
        by_cases hjk : j = k
        · subst hjk; exact hjun
        · rw [getD_set_ne true hjk] at hun; exact hun
      refine wpOp_mono (fun a' w' h3 => ih (listed.setIfInBounds j true) a' w' hfree' (by rw [getD_set_self hjl]; exact hlast) (ready_mono hr (Ne.symm hji)) h3.1 ?_) h2
      rw [Array.setIfInBounds_comm _ _ hji]
      exact h3.2
end

/-- The rest of a drawn region from its k-th operation on, in the order of the text. -/
def KZ (P : Program) (n : Nat) (F : Fr) (Lq : Bl) (ops : Array Oper) (N : Nat) (Q : Post) (k : Nat) (E : Sl) (L : Bl) : Prop :=
  ∀ a w, Env n a E → St F L w → wpAnyL P .any ops (NoPanic Q) (St F Lq) (N - 1) (N - k) (listedK N k) a w

def lastDep (ops : Array Oper) (N k : Nat) : Bool := match ops[N - 1]? with
  | some o => o.after.any fun e => Region.binds .any e && e.on == k
  | none => false
def firmZ (ops : Array Oper) (N k : Nat) : Bool := (Region.ready .any ops (listedK N k)).contains k && Region.free .any ops (listedK N k) k && Region.noSelect ops && Nat.blt (k + 1) N && lastDep ops N k

section
variable {P : Program} {n : Nat} {F : Fr} {Q : Post} {E : Sl} {L Lq : Bl} {ops : Array Oper}

theorem KZ_start {id : Nat} {l : List Oper} [hm : Mixed P] (Lq : Bl) {N : Nat} (hN : l.length = N) (h : KZ P n F Lq l.toArray N Q 0 E L) : KW P n F (.region id l.toArray true) Q E L := fun a w he hs =>
  wp_region_noPanic (wp_region_any hm.h (by
    have := h a w.drew he hs.drew
    simp only [List.size_toArray, hN]
    have e : listedK N 0 = Array.replicate N false := by simp [listedK]
    rw [e, Nat.sub_zero] at this
    exact wpAny_of_L _ _ _ _ this))

theorem listedK_last {N k : Nat} (h : k + 1 < N) : (listedK N k).getD (N - 1) true = false := by
  simp only [listedK, Array.getD_eq_getD_getElem?, List.getElem?_toArray]
  rw [List.getElem?_append_right (by simp; omega), List.getElem?_replicate, if_pos (by simp; omega)]; rfl

theorem KZ_first {N k : Nat} {o : Oper} {v : Value} (hi : ops[k]? = some o) (hs : firmZ ops N k = true)
    (h : ∀ a w, Env n a E → St F L w → Firm P ops (St F Lq) o v a ∧ wpAnyL P .any ops (NoPanic Q) (St F Lq) (N - 1) (N - (k + 1)) (listedK N (k + 1)) (a.put o.dst v) w) : KZ P n F Lq ops N Q k E L := fun a w he hst => by
  simp only [firmZ, Bool.and_eq_true] at hs
  obtain ⟨⟨⟨⟨h1, h2⟩, h3⟩, h4⟩, h5⟩ := hs
  have hk : k + 1 < N := by simpa [Nat.blt_eq] using h4
  obtain ⟨hf, hw⟩ := h a w he hst
  have e : N - k = (N - (k + 1)) + 1 := by omega
  rw [e]
  refine wpAnyL_first noPanic_not hi (Region.noSelect_spec h3) (by omega) ?_ _ _ _ _ (Region.free_spec hi h2) (listedK_last hk) (by simpa using h1) hf ?_
  · intro ol hol
    simp only [lastDep, hol] at h5
    rw [← Array.any_toList, List.any_eq_true] at h5
    obtain ⟨e, he, hb⟩ := h5
    simp only [Bool.and_eq_true, beq_iff_eq] at hb
    exact ⟨e, by simpa using he, hb.1, hb.2⟩
  · rw [listedK_succ (by omega)]; exact hw

theorem KZ_p {N k : Nat} {dst : Nat} {op : Op} {ty : TypeId} {pos : String} {after : Array Edge} {g : Option (Nat × Bool)} {v : Value}
    (h : KZ P n F Lq ops N Q (k + 1) ((dst, v) :: E) L) (hi : ops[k]? = some ⟨some dst, op, ty, pos, after, g⟩) (hs : firmZ ops N k = true)
    (hg : Want ops E true g) (hd : Nat.blt dst n = true) (hv : PureAt P n F E Lq op ty v) : KZ P n F Lq ops N Q k E L :=
  KZ_first hi hs fun a _ he hst => ⟨.inl ⟨Want.eq (o := ⟨some dst, op, ty, pos, after, g⟩) hg he, fun w' hw' => hv.run a w' _ rfl rfl he hw'⟩, h _ _ (he.put hd v) hst⟩
theorem KZ_un {N k : Nat} {dst : Nat} {op : Op} {ty : TypeId} {pos : String} {after : Array Edge} {g : Option (Nat × Bool)}
    (h : KZ P n F Lq ops N Q (k + 1) ((dst, undef) :: E) L) (hi : ops[k]? = some ⟨some dst, op, ty, pos, after, g⟩) (hs : firmZ ops N k = true)
    (hg : Want ops E false g) (hd : Nat.blt dst n = true) : KZ P n F Lq ops N Q k E L :=
  KZ_first hi hs fun _ _ he hst => ⟨.inr ⟨Want.eq (o := ⟨some dst, op, ty, pos, after, g⟩) hg he, rfl⟩, h _ _ (he.put hd undef) hst⟩
/-- The operation is the only one that may come up now. -/
theorem KZ_one {N k : Nat} {o : Oper} (hi : ops[k]? = some o) (hs : onlyAt ops N k = true) (hL : Sl1 L Lq)
    (h : ∀ K : Act → World → Prop, (∀ E' L', KZ P n F Lq ops N Q (k + 1) E' L' → KK n F K E' L') → KO P n F ops (NoPanic Q) o K E L) : KZ P n F Lq ops N Q k E L := fun a w he hst => by
  simp only [onlyAt, Bool.and_eq_true, beq_iff_eq] at hs
  have hk : k < N := by simpa [Nat.blt_eq] using hs.2
  have e : N - k = (N - (k + 1)) + 1 := by omega
  rw [e]
  refine ⟨fun _ => hst.sl1 hL, fun h0 => (by rw [hs.1] at h0; cases h0), fun i hr => ?_⟩
  rw [hs.1] at hr
  obtain rfl := List.mem_singleton.1 hr
  have := h (wpAnyL P .any ops (NoPanic Q) (St F Lq) (N - 1) (N - (i + 1)) (listedK N (i + 1))) (fun E' L' hz => hz) a w he hst
  unfold wpOp
  simp only [hi]
  rw [listedK_succ hk]
  split
  · rename_i hw; rw [if_pos hw] at this; exact .inl this
  · rename_i hw; rw [if_neg hw] at this; exact this
theorem KZ_more {N k : Nat} (Lq' : Bl) (hL : Sl1 Lq' Lq) (h : KZ P n F Lq' ops N Q k E L) : KZ P n F Lq ops N Q k E L := fun a w he hs =>
  wpAnyL.mono (fun _ hw => hw.sl1 hL) _ _ _ _ (h a w he hs)
theorem KZ_end {N : Nat} (hN : Nat.blt 0 N = true) (hs : (Region.ready .any ops (listedK N N)).isEmpty = true) (h : KQ n F Q .normal E L) : KZ P n F Lq ops N Q N E L := fun a w he hst => by
  rw [Nat.sub_self]
  refine ⟨fun hl => ?_, by simpa using hs, NoPanic.normal (h a w he hst)⟩
  have h0 : 0 < N := by simpa [Nat.blt_eq] using hN
  exfalso
  have : (listedK N N).getD (N - 1) true = true := by
    simp only [listedK, Array.getD_eq_getD_getElem?, Nat.sub_self, List.replicate_zero, List.append_nil, List.getElem?_toArray, List.getElem?_replicate]
    split <;> rfl
  rw [this] at hl
  cases hl
end
attribute [irreducible] KZ
section
variable {P : Program} {n : Nat} {F : Fr} {Q : Post} {E : Sl} {L Lq : Bl}
/-- A firm operation. -/
theorem z_p {ops : Array Oper} {N k : Nat} {dst : Nat} {op : Op} {ty : TypeId} {pos : String} {after : Array Edge} {g : Option (Nat × Bool)} {v : Value}
    (h : KZ P n F Lq ops N Q (k + 1) ((dst, v) :: E) L) (hi : ops[k]? = some ⟨some dst, op, ty, pos, after, g⟩ := by rfl) (hs : firmZ ops N k = true := by decide +kernel)
    (hg : Want ops E true g := by first | exact .none rfl | exact .some rfl rfl rfl) (hd : Nat.blt dst n = true := by rfl)
    (hv : PureAt P n F E Lq op ty v := by
      first
        | exact p_move (by rfl)
        | exact p_assign (by rfl)
        | exact p_fieldAddr (by rfl)
        | exact p_load (by rfl) (by first | (apply Held.own; (repeat (first | exact List.Mem.head _ | apply List.Mem.tail)); done) | (apply Held.fr; assumption) | (apply Held.fr; apply Or.inr; (repeat (first | exact List.Mem.head _ | apply List.Mem.tail)); done)) (by rfl)
        | exact p_load_agg (by rfl) (by first | (apply Held.own; (repeat (first | exact List.Mem.head _ | apply List.Mem.tail)); done) | (apply Held.fr; assumption) | (apply Held.fr; apply Or.inr; (repeat (first | exact List.Mem.head _ | apply List.Mem.tail)); done)) (by (repeat (first | exact Cut.nil | apply Cut.cons | apply Cut.skip)); done)
        | exact p_extract (by rfl) (by rfl)
        | exact p_inc (by rfl) (by rfl) (by simp only [Fits]; omega)
        | exact p_dec (by rfl) (by rfl) (by simp only [Fits]; omega)
        | exact p_add' (by rfl) (by rfl) (by simp only [Fits]; omega)
        | exact p_sub' (by rfl) (by rfl) (by simp only [Fits]; omega)
        | exact p_lss_t (by rfl) (by rfl) (by omega)
        | exact p_lss_f (by rfl) (by rfl) (by omega)
        | exact p_leq_t (by rfl) (by rfl) (by omega)
        | exact p_leq_f (by rfl) (by rfl) (by omega)
        | exact p_gtr_t (by rfl) (by rfl) (by omega)
        | exact p_gtr_f (by rfl) (by rfl) (by omega)
        | exact p_geq_t (by rfl) (by rfl) (by omega)
        | exact p_geq_f (by rfl) (by rfl) (by omega)
        | exact p_eql_t (by rfl) (by rfl) (by omega)
        | exact p_eql_f (by rfl) (by rfl) (by omega)
        | exact p_neq_t (by rfl) (by rfl) (by omega)
        | exact p_neq_f (by rfl) (by rfl) (by omega)
        | exact p_seq_t (by rfl) (by rfl) (by assumption)
        | exact p_seq_f (by rfl) (by rfl) (by assumption)
        | exact p_sneq_t (by rfl) (by rfl) (by assumption)
        | exact p_sneq_f (by rfl) (by rfl) (by assumption)
        | exact p_lss (by rfl) (by rfl)
        | exact p_leq (by rfl) (by rfl)
        | exact p_gtr (by rfl) (by rfl)
        | exact p_geq (by rfl) (by rfl)
        | exact p_eql (by rfl) (by rfl)
        | exact p_neq (by rfl) (by rfl)
        | exact p_seq (by rfl) (by rfl)
        | exact p_sneq (by rfl) (by rfl)
        | exact p_beq (by rfl) (by rfl)
        | exact p_bneq (by rfl) (by rfl)
        | exact p_not (by rfl)
        | exact p_pick_t (by rfl) (by rfl)
        | exact p_pick_f (by rfl) (by rfl)
        | exact p_len_slice (by rfl)
        | exact p_len_str (by rfl)
        | exact p_indexAddr_slice (by rfl) (by rfl) (by omega) (by omega) (by first | ((try simp only [Nat.zero_add, Nat.mul_one, Int.toNat_natCast]); rfl))
        | exact p_indexAddr_array (by rfl) (by rfl) (by omega) (by omega) (by first | ((try simp only [Nat.zero_add, Nat.mul_one, Int.toNat_natCast]); rfl))
        | exact p_nilCheck_ptr (by rfl)
        | exact p_convert_int' (by rfl) (by simp only [Fits]; omega)
        | exact p_pick (by rfl) (by rfl) (by rfl)
        | exact p_slice_arr (by rfl) (by rfl) (by rfl) (by omega) (by omega) (by omega) (by omega) (by first | ((try simp only [Nat.zero_add, Nat.mul_one, Int.toNat_natCast]); rfl))
        | exact p_slice_sl (by rfl) (by rfl) (by rfl) (by omega) (by omega) (by omega) (by omega) (by first | ((try simp only [Nat.zero_add, Nat.mul_one, Int.toNat_natCast]); rfl))
        | exact p_slice_sl_l (by rfl) (by rfl) (by omega) (by omega)
        | exact p_slice_sl_h (by rfl) (by rfl) (by omega) (by omega)
        | exact p_slice_str (by rfl) (by rfl) (by rfl) (by omega) (by omega) (by omega)
        | exact p_slice_str_l (by rfl) (by rfl) (by omega) (by omega)
        | exact p_slice_str_h (by rfl) (by rfl) (by omega) (by omega)
        | exact p_sadd (by rfl) (by rfl) (by omega)
        | exact p_build0
        | exact p_buildS (by rfl) (by (repeat (first | exact PartsS.nil | apply PartsS.int | apply PartsS.str | apply PartsS.bool | apply PartsS.slice | apply PartsS.ptr | apply PartsS.map | apply PartsS.func | apply PartsS.agg | apply PartsS.skip)); all_goals rfl) (by (try simp only [List.cons_append, List.nil_append]); rfl)
        | exact p_add (by rfl) (by rfl)
        | exact p_sub (by rfl) (by rfl)
        | exact p_mul' (by rfl) (by rfl) (by simp only [Fits]; omega)
        | exact p_mul (by rfl) (by rfl)
        | exact p_convert_int (by rfl)) : KZ P n F Lq ops N Q k E L := KZ_p h hi hs hg hd hv
/-- The last operation, a plain one. -/
theorem z_pl {ops : Array Oper} {N k : Nat} {dst : Nat} {op : Op} {ty : TypeId} {pos : String} {after : Array Edge} {g : Option (Nat × Bool)} {v : Value}
    (h : KZ P n F Lq ops N Q (k + 1) ((dst, v) :: E) L) (hi : ops[k]? = some ⟨some dst, op, ty, pos, after, g⟩ := by rfl) (hs : onlyAt ops N k = true := by decide +kernel) (hL : Sl1 L Lq := by (repeat (first | exact Sl1.nil | apply Sl1.keep | apply Sl1.skip)); done)
    (hg : Want ops E true g := by first | exact .none rfl | exact .some rfl rfl rfl) (hd : Nat.blt dst n = true := by rfl)
    (hv : PureAt P n F E L op ty v := by
      first
        | exact p_move (by rfl)
        | exact p_assign (by rfl)
        | exact p_fieldAddr (by rfl)
        | exact p_load (by rfl) (by first | (apply Held.own; (repeat (first | exact List.Mem.head _ | apply List.Mem.tail)); done) | (apply Held.fr; assumption) | (apply Held.fr; apply Or.inr; (repeat (first | exact List.Mem.head _ | apply List.Mem.tail)); done)) (by rfl)
        | exact p_load_agg (by rfl) (by first | (apply Held.own; (repeat (first | exact List.Mem.head _ | apply List.Mem.tail)); done) | (apply Held.fr; assumption) | (apply Held.fr; apply Or.inr; (repeat (first | exact List.Mem.head _ | apply List.Mem.tail)); done)) (by (repeat (first | exact Cut.nil | apply Cut.cons | apply Cut.skip)); done)
        | exact p_extract (by rfl) (by rfl)
        | exact p_inc (by rfl) (by rfl) (by simp only [Fits]; omega)
        | exact p_dec (by rfl) (by rfl) (by simp only [Fits]; omega)
        | exact p_add' (by rfl) (by rfl) (by simp only [Fits]; omega)
        | exact p_sub' (by rfl) (by rfl) (by simp only [Fits]; omega)
        | exact p_lss_t (by rfl) (by rfl) (by omega)
        | exact p_lss_f (by rfl) (by rfl) (by omega)
        | exact p_leq_t (by rfl) (by rfl) (by omega)
        | exact p_leq_f (by rfl) (by rfl) (by omega)
        | exact p_gtr_t (by rfl) (by rfl) (by omega)
        | exact p_gtr_f (by rfl) (by rfl) (by omega)
        | exact p_geq_t (by rfl) (by rfl) (by omega)
        | exact p_geq_f (by rfl) (by rfl) (by omega)
        | exact p_eql_t (by rfl) (by rfl) (by omega)
        | exact p_eql_f (by rfl) (by rfl) (by omega)
        | exact p_neq_t (by rfl) (by rfl) (by omega)
        | exact p_neq_f (by rfl) (by rfl) (by omega)
        | exact p_seq_t (by rfl) (by rfl) (by assumption)
        | exact p_seq_f (by rfl) (by rfl) (by assumption)
        | exact p_sneq_t (by rfl) (by rfl) (by assumption)
        | exact p_sneq_f (by rfl) (by rfl) (by assumption)
        | exact p_lss (by rfl) (by rfl)
        | exact p_leq (by rfl) (by rfl)
        | exact p_gtr (by rfl) (by rfl)
        | exact p_geq (by rfl) (by rfl)
        | exact p_eql (by rfl) (by rfl)
        | exact p_neq (by rfl) (by rfl)
        | exact p_seq (by rfl) (by rfl)
        | exact p_sneq (by rfl) (by rfl)
        | exact p_beq (by rfl) (by rfl)
        | exact p_bneq (by rfl) (by rfl)
        | exact p_not (by rfl)
        | exact p_pick_t (by rfl) (by rfl)
        | exact p_pick_f (by rfl) (by rfl)
        | exact p_len_slice (by rfl)
        | exact p_len_str (by rfl)
        | exact p_indexAddr_slice (by rfl) (by rfl) (by omega) (by omega) (by first | ((try simp only [Nat.zero_add, Nat.mul_one, Int.toNat_natCast]); rfl))
        | exact p_indexAddr_array (by rfl) (by rfl) (by omega) (by omega) (by first | ((try simp only [Nat.zero_add, Nat.mul_one, Int.toNat_natCast]); rfl))
        | exact p_nilCheck_ptr (by rfl)
        | exact p_convert_int' (by rfl) (by simp only [Fits]; omega)
        | exact p_pick (by rfl) (by rfl) (by rfl)
        | exact p_slice_arr (by rfl) (by rfl) (by rfl) (by omega) (by omega) (by omega) (by omega) (by first | ((try simp only [Nat.zero_add, Nat.mul_one, Int.toNat_natCast]); rfl))
        | exact p_slice_sl (by rfl) (by rfl) (by rfl) (by omega) (by omega) (by omega) (by omega) (by first | ((try simp only [Nat.zero_add, Nat.mul_one, Int.toNat_natCast]); rfl))
        | exact p_slice_sl_l (by rfl) (by rfl) (by omega) (by omega)
        | exact p_slice_sl_h (by rfl) (by rfl) (by omega) (by omega)
        | exact p_slice_str (by rfl) (by rfl) (by rfl) (by omega) (by omega) (by omega)
        | exact p_slice_str_l (by rfl) (by rfl) (by omega) (by omega)
        | exact p_slice_str_h (by rfl) (by rfl) (by omega) (by omega)
        | exact p_sadd (by rfl) (by rfl) (by omega)
        | exact p_build0
        | exact p_buildS (by rfl) (by (repeat (first | exact PartsS.nil | apply PartsS.int | apply PartsS.str | apply PartsS.bool | apply PartsS.slice | apply PartsS.ptr | apply PartsS.map | apply PartsS.func | apply PartsS.agg | apply PartsS.skip)); all_goals rfl) (by (try simp only [List.cons_append, List.nil_append]); rfl)
        | exact p_add (by rfl) (by rfl)
        | exact p_sub (by rfl) (by rfl)
        | exact p_mul' (by rfl) (by rfl) (by simp only [Fits]; omega)
        | exact p_mul (by rfl) (by rfl)
        | exact p_convert_int (by rfl)) : KZ P n F Lq ops N Q k E L := KZ_one hi hs hL fun _ hK => KO_p hg hd hv (hK _ _ h)
theorem z_un {ops : Array Oper} {N k : Nat} {dst : Nat} {op : Op} {ty : TypeId} {pos : String} {after : Array Edge} {g : Option (Nat × Bool)}
    (h : KZ P n F Lq ops N Q (k + 1) ((dst, undef) :: E) L) (hi : ops[k]? = some ⟨some dst, op, ty, pos, after, g⟩ := by rfl) (hs : firmZ ops N k = true := by decide +kernel)
    (hg : Want ops E false g := by first | exact .some rfl rfl rfl | exact .undef rfl rfl rfl) (hd : Nat.blt dst n = true := by rfl) : KZ P n F Lq ops N Q k E L := KZ_un h hi hs hg hd
theorem z_start {id : Nat} {l : List Oper} [hm : Mixed P] (Lq : Bl) {N : Nat} (h : KZ P n F Lq l.toArray N Q 0 E L) (hN : l.length = N := by rfl) : KW P n F (.region id l.toArray true) Q E L := KZ_start Lq hN h
theorem z_end {ops : Array Oper} {N : Nat} (h : KQ n F Q .normal E L) (hN : Nat.blt 0 N = true := by rfl) (hs : (Region.ready .any ops (listedK N N)).isEmpty = true := by decide +kernel) : KZ P n F Lq ops N Q N E L := KZ_end hN hs h
theorem z_call {ops : Array Oper} {N k : Nat} {dst : Nat} {ty : TypeId} {pos : String} {after : Array Edge} {g : Option (Nat × Bool)} {fo : Operand} {as : List Operand} {ts : Array TypeId} {f : FuncId} {vs first cap args : List Value} {R : Value → Bl → Prop} [hbody : Body P f]
    (h : Does P f args (F.plus L) [] R) (kk : ∀ v L', R v L' → KZ P n F Lq ops N Q (k + 1) ((dst, v) :: E) (L' ++ L))
    (hi : ops[k]? = some ⟨some dst, .call { callee := .value fo, args := as.toArray, argTypes := ts }, ty, pos, after, g⟩ := by rfl) (hs : onlyAt ops N k = true := by decide +kernel) (hL : Sl1 L Lq := by (repeat (first | exact Sl1.nil | apply Sl1.keep | apply Sl1.skip)); done)
    (hg : Want ops E true g := by first | exact .none rfl | exact .some rfl rfl rfl) (hd : Nat.blt dst n = true := by rfl) (hf : ev E fo = some (.func (.func f) first.toArray cap.toArray) := by rfl) (hvs : evs E as = some vs := by rfl) (hargs : first ++ vs ++ cap = args := by rfl) :
    KZ P n F Lq ops N Q k E L := KZ_one hi hs hL fun _ hK => KO_call (Lp := []) (Lf := L) hg hd hf hvs (List.Perm.refl _) (by rw [hargs]; exact h) fun v L' hR => hK _ _ (kk v L' hR)
theorem z_m {ops : Array Oper} {N k : Nat} {dst : Nat} {op : Op} {ty : TypeId} {pos : String} {after : Array Edge} {g : Option (Nat × Bool)} {α : Type} {R : α → Prop} {v : α → Value} {L' : α → Bl}
    (hv : StepAt P n F E L op ty R v L') (kk : ∀ x, R x → KZ P n F Lq ops N Q (k + 1) ((dst, v x) :: E) (L' x))
    (hi : ops[k]? = some ⟨some dst, op, ty, pos, after, g⟩ := by rfl) (hs : onlyAt ops N k = true := by decide +kernel) (hL : Sl1 L Lq := by (repeat (first | exact Sl1.nil | apply Sl1.keep | apply Sl1.skip)); done)
    (hg : Want ops E true g := by first | exact .none rfl | exact .some rfl rfl rfl) (hd : Nat.blt dst n = true := by rfl) : KZ P n F Lq ops N Q k E L :=
  KZ_one hi hs hL fun _ hK => KO_m hg hd hv fun x hR => hK _ _ (kk x hR)
theorem z_st {ops : Array Oper} {N k : Nat} {ty : TypeId} {pos : String} {after : Array Edge} {x y : Operand} {t et : TypeId} {b o size bytes : Nat} {z v : Value} {l cs l' : List Value} {L' : Bl} [hz : TZ P t z size bytes] (hp : Patch l o cs l')
    (kk : KZ P n F Lq ops N Q (k + 1) E L') (h1 : oneCells cs := by exact oneCells_of rfl) (hlen : cs.length = size := by rfl)
    (hi : ops[k]? = some ⟨none, .store t x y, ty, pos, after, none⟩ := by rfl) (hs : onlyAt ops N k = true := by decide +kernel) (hL : Sl1 L Lq := by (repeat (first | exact Sl1.nil | apply Sl1.keep | apply Sl1.skip)); done)
    (hx : ev E x = some (.pointer (some ⟨b, o, none⟩)) := by rfl) (hy : ev E y = some v := by rfl) (hcs : v.cells = cs.toArray := by rfl)
    (hb : BSet L b (.cells l.toArray et (0, 0)) (.cells l'.toArray et (0, 0)) L' := by (repeat (first | exact BSet.head | apply BSet.tail)); done) : KZ P n F Lq ops N Q k E L :=
  KZ_one hi hs hL fun _ hK => KO_s (.none rfl) (s_store hx hy hcs hlen hb hp h1) (hK _ _ kk)
theorem z_ld {ops : Array Oper} {N k : Nat} {dst : Nat} {x : Operand} {t et ty : TypeId} {pos : String} {after : Array Edge} {g : Option (Nat × Bool)} {b o : Nat} {l : List Value} {fr : Nat × Nat} {v : Value} [h : TS P t] (hv : l[o]? = some v)
    (kk : KZ P n F Lq ops N Q (k + 1) ((dst, v) :: E) L) (hi : ops[k]? = some ⟨some dst, .load t x, ty, pos, after, g⟩ := by rfl) (hs : firmZ ops N k = true := by decide +kernel)
    (hg : Want ops E true g := by first | exact .none rfl | exact .some rfl rfl rfl) (hd : Nat.blt dst n = true := by rfl)
    (hx : ev E x = some (.pointer (some ⟨b, o, none⟩)) := by rfl)
    (hb : Held F Lq b (.cells l.toArray et fr) := by first | (apply Held.own; (repeat (first | exact List.Mem.head _ | apply List.Mem.tail)); done) | (apply Held.fr; assumption) | (apply Held.fr; apply Or.inr; (repeat (first | exact List.Mem.head _ | apply List.Mem.tail)); done)) :
    KZ P n F Lq ops N Q k E L := KZ_p kk hi hs hg hd (p_load hx hb hv)
theorem z_ldA {ops : Array Oper} {N k : Nat} {dst : Nat} {x : Operand} {t et ty : TypeId} {pos : String} {after : Array Edge} {g : Option (Nat × Bool)} {b o size bytes : Nat} {z : Value} {l cs : List Value} {fr : Nat × Nat} [h : TA P t] [hz : TZ P t z size bytes] (hc : Cut l o size cs)
    (kk : KZ P n F Lq ops N Q (k + 1) ((dst, .agg cs.toArray) :: E) L) (hi : ops[k]? = some ⟨some dst, .load t x, ty, pos, after, g⟩ := by rfl) (hs : firmZ ops N k = true := by decide +kernel)
    (hg : Want ops E true g := by first | exact .none rfl | exact .some rfl rfl rfl) (hd : Nat.blt dst n = true := by rfl)
    (hx : ev E x = some (.pointer (some ⟨b, o, none⟩)) := by rfl)
    (hb : Held F Lq b (.cells l.toArray et fr) := by first | (apply Held.own; (repeat (first | exact List.Mem.head _ | apply List.Mem.tail)); done) | (apply Held.fr; assumption) | (apply Held.fr; apply Or.inr; (repeat (first | exact List.Mem.head _ | apply List.Mem.tail)); done)) :
    KZ P n F Lq ops N Q k E L := KZ_p kk hi hs hg hd (p_load_agg hx hb hc)
theorem goZ {ops : Array Oper} {N k : Nat} {q : Prop} (h : q) (f : Later q → KZ P n F Lq ops N Q k E L := by
      intro h
      repeat (first
        | refine KL_nil ?_
        | refine KW_seq ?_
        | refine KW_region ?_
        | refine KQ_then ?_
        | refine KW_skip ?_
        | refine KW_block ?_
        | refine KW_ret ?_
        | refine KW_exit ?_
        | refine KQ_then_exit ?_
        | refine KQ_then_ret ?_
        | refine KQ_block_n ?_
        | refine KQ_block_ret ?_
        | refine KQ_block_hit ?_
        | refine KQ_block_miss rfl ?_
        | refine KQ_loop_exit ?_
        | refine KQ_loop_ret ?_
        | refine KW_yes rfl rfl ?_
        | refine KW_no rfl rfl ?_
        | refine a_p ?_
        | refine z_p ?_
        | refine z_pl ?_
        | refine z_un ?_
        | refine z_end ?_
        | refine a_store ?_
        | refine a_un ?_)
      exact h.h) : KZ P n F Lq ops N Q k E L := f ⟨h⟩


end
end Go.KE
