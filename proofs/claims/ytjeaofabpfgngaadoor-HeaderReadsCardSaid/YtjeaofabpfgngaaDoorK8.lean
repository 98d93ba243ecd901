/-
  The engine of these proofs, last part: rules that find their own side conditions (printed by gen_k8.py).
  No condition: every lemma is over any program.
-/
import Derived.Test.YtjeaofabpfgngaaDoorK7
namespace Go.KE
section
variable {P : Program} {n : Nat} {F : Fr} {Q : Post} {E : Sl} {L Lq : Bl}

/-- One plain operation. -/
theorem a_p {ops : Array Oper} {rest : List Oper} {dst : Nat} {op : Op} {ty : TypeId} {pos : String} {after : Array Edge} {g : Option (Nat × Bool)} {v : Value}
    (k : KL P n F ops Q rest ((dst, v) :: E) L)
    (hg : Want ops E true g := by first | exact .none rfl | exact .some rfl rfl rfl) (hd : Nat.blt dst n = true := by rfl)
    (hv : PureAt P n F E L op ty v := by
      first
        | exact p_move (by rfl)
        | exact p_assign (by rfl)
        | exact p_fieldAddr (by rfl)
        | exact p_load (by rfl) (by first | (apply Held.own; (repeat (first | exact List.Mem.head _ | apply List.Mem.tail)); done) | (apply Held.fr; assumption) | (apply Held.fr; apply Or.inr; (repeat (first | exact List.Mem.head _ | apply List.Mem.tail)); done)) (by rfl)
        | exact p_load_agg (by rfl) (by first | (apply Held.own; (repeat (first | exact List.Mem.head _ | apply List.Mem.tail)); done) | (apply Held.fr; assumption) | (apply Held.fr; apply Or.inr; (repeat (first | exact List.Mem.head _ | apply List.Mem.tail)); done)) (by (repeat (first | exact Cut.nil | apply Cut.cons | apply Cut.skip)); done)
        | exact p_extract (by rfl) (by rfl)
        | exact p_inc (by rfl) (by rfl) (by simp only [Fits]; omega)
        | exact p_dec (by rfl) (by rfl) (by simp only [Fits]; omega)
        | exact p_add' (by rfl) (by rfl) (by simp only [Fits]; omega)
        | exact p_sub' (by rfl) (by rfl) (by simp only [Fits]; omega)
        | exact p_lss_t (by rfl) (by rfl) (by omega)
        | exact p_lss_f (by rfl) (by rfl) (by omega)
        | exact p_leq_t (by rfl) (by rfl) (by omega)
        | exact p_leq_f (by rfl) (by rfl) (by omega)
        | exact p_gtr_t (by rfl) (by rfl) (by omega)
        | exact p_gtr_f (by rfl) (by rfl) (by omega)
        | exact p_geq_t (by rfl) (by rfl) (by omega)
        | exact p_geq_f (by rfl) (by rfl) (by omega)
        | exact p_eql_t (by rfl) (by rfl) (by omega)
        | exact p_eql_f (by rfl) (by rfl) (by omega)
        | exact p_neq_t (by rfl) (by rfl) (by omega)
        | exact p_neq_f (by rfl) (by rfl) (by omega)
        | exact p_seq_t (by rfl) (by rfl) (by assumption)
        | exact p_seq_f (by rfl) (by rfl) (by assumption)
        | exact p_sneq_t (by rfl) (by rfl) (by assumption)
        | exact p_sneq_f (by rfl) (by rfl) (by assumption)
        | exact p_lss (by rfl) (by rfl)
        | exact p_leq (by rfl) (by rfl)
        | exact p_gtr (by rfl) (by rfl)
        | exact p_geq (by rfl) (by rfl)
        | exact p_eql (by rfl) (by rfl)
        | exact p_neq (by rfl) (by rfl)
        | exact p_seq (by rfl) (by rfl)
        | exact p_sneq (by rfl) (by rfl)
        | exact p_beq (by rfl) (by rfl)
        | exact p_bneq (by rfl) (by rfl)
        | exact p_not (by rfl)
        | exact p_pick_t (by rfl) (by rfl)
        | exact p_pick_f (by rfl) (by rfl)
        | exact p_len_slice (by rfl)
        | exact p_len_str (by rfl)
        | exact p_indexAddr_slice (by rfl) (by rfl) (by omega) (by omega) (by first | ((try simp only [Nat.zero_add, Nat.mul_one, Int.toNat_natCast]); rfl))
        | exact p_indexAddr_array (by rfl) (by rfl) (by omega) (by omega) (by first | ((try simp only [Nat.zero_add, Nat.mul_one, Int.toNat_natCast]); rfl))
        | exact p_nilCheck_ptr (by rfl)
        | exact p_convert_int' (by rfl) (by simp only [Fits]; omega)
        | exact p_pick (by rfl) (by rfl) (by rfl)
        | exact p_slice_arr (by rfl) (by rfl) (by rfl) (by omega) (by omega) (by omega) (by omega) (by first | ((try simp only [Nat.zero_add, Nat.mul_one, Int.toNat_natCast]); rfl))
        | exact p_slice_sl (by rfl) (by rfl) (by rfl) (by omega) (by omega) (by omega) (by omega) (by first | ((try simp only [Nat.zero_add, Nat.mul_one, Int.toNat_natCast]); rfl))
        | exact p_slice_sl_l (by rfl) (by rfl) (by omega) (by omega)
        | exact p_slice_sl_h (by rfl) (by rfl) (by omega) (by omega)
        | exact p_slice_str (by rfl) (by rfl) (by rfl) (by omega) (by omega) (by omega)
        | exact p_slice_str_l (by rfl) (by rfl) (by omega) (by omega)
        | exact p_slice_str_h (by rfl) (by rfl) (by omega) (by omega)
        | exact p_sadd (by rfl) (by rfl) (by omega)
        | exact p_build0
        | exact p_buildS (by rfl) (by (repeat (first | exact PartsS.nil | apply PartsS.int | apply PartsS.str | apply PartsS.bool | apply PartsS.slice | apply PartsS.ptr | apply PartsS.map | apply PartsS.func | apply PartsS.agg | apply PartsS.skip)); all_goals rfl) (by (try simp only [List.cons_append, List.nil_append]); rfl)
        | exact p_add (by rfl) (by rfl)
        | exact p_sub (by rfl) (by rfl)
        | exact p_mul' (by rfl) (by rfl) (by simp only [Fits]; omega)
        | exact p_mul (by rfl) (by rfl)
        | exact p_convert_int (by rfl)) : KL P n F ops Q (⟨some dst, op, ty, pos, after, g⟩ :: rest) E L := KL_p hg hd hv k

/-- An operation whose guard says no. -/
theorem a_un {ops : Array Oper} {rest : List Oper} {dst : Nat} {op : Op} {ty : TypeId} {pos : String} {after : Array Edge} {g : Option (Nat × Bool)} (k : KL P n F ops Q rest ((dst, undef) :: E) L) (hg : Want ops E false g := by first | exact .some rfl rfl rfl | exact .undef rfl rfl rfl) (hd : Nat.blt dst n = true := by rfl) :
    KL P n F ops Q (⟨some dst, op, ty, pos, after, g⟩ :: rest) E L := KL_un hg hd k

theorem a_box {ops : Array Oper} {rest : List Oper} {ty : TypeId} {pos : String} {after : Array Edge} {dst : Nat} {x : Operand} {t : TypeId} {v : Value} {l : List Value}
    (k : ∀ b, KL P n F ops Q rest ((dst, .pointer (some ⟨b, 0, none⟩)) :: E) ((b, .cells l.toArray t (0, 0)) :: L))
    (hd : Nat.blt dst n = true := by rfl) (hx : ev E x = some v := by rfl) (hl : v.cells = l.toArray := by rfl) :
    KL P n F ops Q (⟨some dst, .box t x, ty, pos, after, none⟩ :: rest) E L := KL_m (.none rfl) hd (m_box hx hl) fun b _ => k b
theorem a_alloc {ops : Array Oper} {rest : List Oper} {ty : TypeId} {pos : String} {after : Array Edge} {dst t : Nat} {z : Value} {size bytes : Nat} {l : List Value} [hz : TZ P t z size bytes]
    (k : ∀ b, KL P n F ops Q rest ((dst, .pointer (some ⟨b, 0, none⟩)) :: E) ((b, .cells l.toArray t (0, 0)) :: L))
    (hd : Nat.blt dst n = true := by rfl) (hl : z.cells = l.toArray := by rfl) :
    KL P n F ops Q (⟨some dst, .alloc t, ty, pos, after, none⟩ :: rest) E L := KL_m (.none rfl) hd (m_alloc hl) fun b _ => k b

theorem a_store {ops : Array Oper} {rest : List Oper} {ty : TypeId} {pos : String} {after : Array Edge} {x y : Operand} {t et : TypeId} {b o size bytes : Nat} {z v : Value} {l cs l' : List Value} {L' : Bl} [hz : TZ P t z size bytes]
    (k : KL P n F ops Q rest E L')
    (hx : ev E x = some (.pointer (some ⟨b, o, none⟩)) := by rfl) (hy : ev E y = some v := by rfl) (hcs : v.cells = cs.toArray := by rfl) (hlen : cs.length = size := by rfl)
    (hb : BSet L b (.cells l.toArray et (0, 0)) (.cells l'.toArray et (0, 0)) L' := by (repeat (first | exact BSet.head | apply BSet.tail)); done) (hp : Patch l o cs l' := by (repeat (first | exact Patch.nil | apply Patch.cons | apply Patch.skip)); done)
    (h1 : cs.all Value.oneCell' = true := by rfl) : KL P n F ops Q (⟨none, .store t x y, ty, pos, after, none⟩ :: rest) E L := KL_s (.none rfl) (s_store hx hy hcs hlen hb hp (oneCells_of h1)) k
theorem a_slit {ops : Array Oper} {rest : List Oper} {ty : TypeId} {pos : String} {after : Array Edge} {dst t e size bytes len : Nat} {z : Value} {zl : List Value} {ps : List (Nat × Operand)} {vs : List (Nat × Value)} {l0 l : List Value} [ht : TU P t (.slice e)] [hz : TZ P e z size bytes]
    (k : ∀ b, KL P n F ops Q rest ((dst, .slice (some ⟨b, 0, none⟩) len len) :: E) ((b, .cells l.toArray e (0, 0)) :: L))
    (hd : Nat.blt dst n = true := by rfl) (hzl : z.cells = zl.toArray := by rfl) (hps : evp E ps = some vs := by rfl) (hl : Parts size 0 vs l0 := by (repeat (first | exact Parts.nil | apply Parts.int | apply Parts.str | apply Parts.bool | apply Parts.slice | apply Parts.ptr | apply Parts.map | apply Parts.func | apply Parts.agg)); all_goals rfl) (hl0 : l0 = l := by (try simp only [List.cons_append, List.nil_append]); rfl) (hlen : l.length = len * size := by rfl) (hsm : len * size ≤ 16777216 := by decide) :
    KL P n F ops Q (⟨some dst, .buildSlice t len ps.toArray, ty, pos, after, none⟩ :: rest) E L := KL_m (.none rfl) hd (m_buildSlice hzl hps (hl0 ▸ hl) hlen hsm) fun b _ => k b
theorem a_makeMap {ops : Array Oper} {rest : List Oper} {ty : TypeId} {pos : String} {after : Array Edge} {dst t : Nat} (k : ∀ b, KL P n F ops Q rest ((dst, .map (some b)) :: E) ((b, .map #[] 0) :: L)) (hd : Nat.blt dst n = true := by rfl) :
    KL P n F ops Q (⟨some dst, .makeMap t none, ty, pos, after, none⟩ :: rest) E L := KL_m (.none rfl) hd m_makeMap fun b _ => k b
theorem a_insert {ops : Array Oper} {rest : List Oper} {ty : TypeId} {pos : String} {after : Array Edge} {m x y : Operand} {t kt et b clock : Nat} {d : TypeDesc} {kv v : Value} {es : List MapEntry} {L' : Bl} [ht : TU P t (.map kt et)] [hk : TU P kt d]
    (k : KL P n F ops Q rest E L') (hd : plainKey d = true := by rfl) (hm : ev E m = some (.map (some b)) := by rfl) (hx : ev E x = some kv := by rfl) (hy : ev E y = some v := by rfl)
    (hb : BSet L b (.map es.toArray clock) (.map (es ++ [(⟨kv, v, clock⟩ : MapEntry)]).toArray (clock + 1)) L' := by (repeat (first | exact BSet.head | apply BSet.tail)); done) (hf : Instr.findNow d kv es 0 = some none := by rfl) :
    KL P n F ops Q (⟨none, .insert t m x y, ty, pos, after, none⟩ :: rest) E L := KL_s (.none rfl) (s_insert hd hm hx hy hb hf) k

/-- A call of a function that turns none of the list's blocks. -/
theorem a_call {ops : Array Oper} {rest : List Oper} {ty : TypeId} {pos : String} {after : Array Edge} {dst : Nat} {g : Option (Nat × Bool)} {fo : Operand} {as : List Operand} {ts : Array TypeId} {f : FuncId} {vs first cap args : List Value} {R : Value → Bl → Prop} [hbody : Body P f]
    (h : Does P f args (F.plus L) [] R) (k : ∀ v L', R v L' → KL P n F ops Q rest ((dst, v) :: E) (L' ++ L))
    (hg : Want ops E true g := by first | exact .none rfl | exact .some rfl rfl rfl) (hd : Nat.blt dst n = true := by rfl) (hf : ev E fo = some (.func (.func f) first.toArray cap.toArray) := by rfl) (hvs : evs E as = some vs := by rfl) (hargs : first ++ vs ++ cap = args := by rfl) :
    KL P n F ops Q (⟨some dst, .call { callee := .value fo, args := as.toArray, argTypes := ts }, ty, pos, after, g⟩ :: rest) E L :=
  KL_call (Lp := []) (Lf := L) hg hd hf hvs (List.Perm.refl _) (by rw [hargs]; exact h) k
/-- A call of a function that turns the blocks Lp. -/
theorem a_callL {ops : Array Oper} {rest : List Oper} {ty : TypeId} {pos : String} {after : Array Edge} {dst : Nat} {g : Option (Nat × Bool)} {Lp Lf : Bl} {fo : Operand} {as : List Operand} {ts : Array TypeId} {f : FuncId} {vs first cap args : List Value} {R : Value → Bl → Prop} [hbody : Body P f]
    (h : Does P f args (F.plus Lf) Lp R) (hp : L.Perm (Lp ++ Lf)) (k : ∀ v L', R v L' → KL P n F ops Q rest ((dst, v) :: E) (L' ++ Lf))
    (hg : Want ops E true g := by first | exact .none rfl | exact .some rfl rfl rfl) (hd : Nat.blt dst n = true := by rfl) (hf : ev E fo = some (.func (.func f) first.toArray cap.toArray) := by rfl) (hvs : evs E as = some vs := by rfl) (hargs : first ++ vs ++ cap = args := by rfl) :
    KL P n F ops Q (⟨some dst, .call { callee := .value fo, args := as.toArray, argTypes := ts }, ty, pos, after, g⟩ :: rest) E L :=
  KL_call hg hd hf hvs hp (by rw [hargs]; exact h) k
theorem a_call_none {ops : Array Oper} {rest : List Oper} {ty : TypeId} {pos : String} {after : Array Edge} {g : Option (Nat × Bool)} {fo : Operand} {as : List Operand} {ts : Array TypeId} {f : FuncId} {vs first cap args : List Value} {R : Value → Bl → Prop} [hbody : Body P f]
    (h : Does P f args (F.plus L) [] R) (k : ∀ v L', R v L' → KL P n F ops Q rest E (L' ++ L))
    (hg : Want ops E true g := by first | exact .none rfl | exact .some rfl rfl rfl) (hf : ev E fo = some (.func (.func f) first.toArray cap.toArray) := by rfl) (hvs : evs E as = some vs := by rfl) (hargs : first ++ vs ++ cap = args := by rfl) :
    KL P n F ops Q (⟨none, .call { callee := .value fo, args := as.toArray, argTypes := ts }, ty, pos, after, g⟩ :: rest) E L :=
  KL_call_none (Lp := []) (Lf := L) hg hf hvs (List.Perm.refl _) (by rw [hargs]; exact h) k

/-! ### regions in any order -/
/-- A firm operation. -/
theorem x_p {ops : Array Oper} {N k : Nat} {dst : Nat} {op : Op} {ty : TypeId} {pos : String} {after : Array Edge} {g : Option (Nat × Bool)} {v : Value}
    (h : KX P n F Lq ops N Q (k + 1) ((dst, v) :: E) L) (hi : ops[k]? = some ⟨some dst, op, ty, pos, after, g⟩ := by rfl) (hs : firmAt ops N k = true := by decide +kernel)
    (hg : Want ops E true g := by first | exact .none rfl | exact .some rfl rfl rfl) (hd : Nat.blt dst n = true := by rfl)
    (hv : PureAt P n F E Lq op ty v := by
      first
        | exact p_move (by rfl)
        | exact p_assign (by rfl)
        | exact p_fieldAddr (by rfl)
        | exact p_load (by rfl) (by first | (apply Held.own; (repeat (first | exact List.Mem.head _ | apply List.Mem.tail)); done) | (apply Held.fr; assumption) | (apply Held.fr; apply Or.inr; (repeat (first | exact List.Mem.head _ | apply List.Mem.tail)); done)) (by rfl)
        | exact p_load_agg (by rfl) (by first | (apply Held.own; (repeat (first | exact List.Mem.head _ | apply List.Mem.tail)); done) | (apply Held.fr; assumption) | (apply Held.fr; apply Or.inr; (repeat (first | exact List.Mem.head _ | apply List.Mem.tail)); done)) (by (repeat (first | exact Cut.nil | apply Cut.cons | apply Cut.skip)); done)
        | exact p_extract (by rfl) (by rfl)
        | exact p_inc (by rfl) (by rfl) (by simp only [Fits]; omega)
        | exact p_dec (by rfl) (by rfl) (by simp only [Fits]; omega)
        | exact p_add' (by rfl) (by rfl) (by simp only [Fits]; omega)
        | exact p_sub' (by rfl) (by rfl) (by simp only [Fits]; omega)
        | exact p_lss_t (by rfl) (by rfl) (by omega)
        | exact p_lss_f (by rfl) (by rfl) (by omega)
        | exact p_leq_t (by rfl) (by rfl) (by omega)
        | exact p_leq_f (by rfl) (by rfl) (by omega)
        | exact p_gtr_t (by rfl) (by rfl) (by omega)
        | exact p_gtr_f (by rfl) (by rfl) (by omega)
        | exact p_geq_t (by rfl) (by rfl) (by omega)
        | exact p_geq_f (by rfl) (by rfl) (by omega)
        | exact p_eql_t (by rfl) (by rfl) (by omega)
        | exact p_eql_f (by rfl) (by rfl) (by omega)
        | exact p_neq_t (by rfl) (by rfl) (by omega)
        | exact p_neq_f (by rfl) (by rfl) (by omega)
        | exact p_seq_t (by rfl) (by rfl) (by assumption)
        | exact p_seq_f (by rfl) (by rfl) (by assumption)
        | exact p_sneq_t (by rfl) (by rfl) (by assumption)
        | exact p_sneq_f (by rfl) (by rfl) (by assumption)
        | exact p_lss (by rfl) (by rfl)
        | exact p_leq (by rfl) (by rfl)
        | exact p_gtr (by rfl) (by rfl)
        | exact p_geq (by rfl) (by rfl)
        | exact p_eql (by rfl) (by rfl)
        | exact p_neq (by rfl) (by rfl)
        | exact p_seq (by rfl) (by rfl)
        | exact p_sneq (by rfl) (by rfl)
        | exact p_beq (by rfl) (by rfl)
        | exact p_bneq (by rfl) (by rfl)
        | exact p_not (by rfl)
        | exact p_pick_t (by rfl) (by rfl)
        | exact p_pick_f (by rfl) (by rfl)
        | exact p_len_slice (by rfl)
        | exact p_len_str (by rfl)
        | exact p_indexAddr_slice (by rfl) (by rfl) (by omega) (by omega) (by first | ((try simp only [Nat.zero_add, Nat.mul_one, Int.toNat_natCast]); rfl))
        | exact p_indexAddr_array (by rfl) (by rfl) (by omega) (by omega) (by first | ((try simp only [Nat.zero_add, Nat.mul_one, Int.toNat_natCast]); rfl))
        | exact p_nilCheck_ptr (by rfl)
        | exact p_convert_int' (by rfl) (by simp only [Fits]; omega)
        | exact p_pick (by rfl) (by rfl) (by rfl)
        | exact p_slice_arr (by rfl) (by rfl) (by rfl) (by omega) (by omega) (by omega) (by omega) (by first | ((try simp only [Nat.zero_add, Nat.mul_one, Int.toNat_natCast]); rfl))
        | exact p_slice_sl (by rfl) (by rfl) (by rfl) (by omega) (by omega) (by omega) (by omega) (by first | ((try simp only [Nat.zero_add, Nat.mul_one, Int.toNat_natCast]); rfl))
        | exact p_slice_sl_l (by rfl) (by rfl) (by omega) (by omega)
        | exact p_slice_sl_h (by rfl) (by rfl) (by omega) (by omega)
        | exact p_slice_str (by rfl) (by rfl) (by rfl) (by omega) (by omega) (by omega)
        | exact p_slice_str_l (by rfl) (by rfl) (by omega) (by omega)
        | exact p_slice_str_h (by rfl) (by rfl) (by omega) (by omega)
        | exact p_sadd (by rfl) (by rfl) (by omega)
        | exact p_build0
        | exact p_buildS (by rfl) (by (repeat (first | exact PartsS.nil | apply PartsS.int | apply PartsS.str | apply PartsS.bool | apply PartsS.slice | apply PartsS.ptr | apply PartsS.map | apply PartsS.func | apply PartsS.agg | apply PartsS.skip)); all_goals rfl) (by (try simp only [List.cons_append, List.nil_append]); rfl)
        | exact p_add (by rfl) (by rfl)
        | exact p_sub (by rfl) (by rfl)
        | exact p_mul' (by rfl) (by rfl) (by simp only [Fits]; omega)
        | exact p_mul (by rfl) (by rfl)
        | exact p_convert_int (by rfl)) : KX P n F Lq ops N Q k E L := KX_p h hi hs hg hd hv
theorem x_un {ops : Array Oper} {N k : Nat} {dst : Nat} {op : Op} {ty : TypeId} {pos : String} {after : Array Edge} {g : Option (Nat × Bool)}
    (h : KX P n F Lq ops N Q (k + 1) ((dst, undef) :: E) L) (hi : ops[k]? = some ⟨some dst, op, ty, pos, after, g⟩ := by rfl) (hs : firmAt ops N k = true := by decide +kernel)
    (hg : Want ops E false g := by first | exact .some rfl rfl rfl | exact .undef rfl rfl rfl) (hd : Nat.blt dst n = true := by rfl) : KX P n F Lq ops N Q k E L := KX_un h hi hs hg hd
theorem x_start {id : Nat} {l : List Oper} [hm : Mixed P] (Lq : Bl) {N : Nat} (h : KX P n F Lq l.toArray N Q 0 E L) (hN : l.length = N := by rfl) : KW P n F (.region id l.toArray true) Q E L := KX_start Lq hN h
theorem x_end {ops : Array Oper} {N : Nat} (h : KQ n F Q .normal E L) (hs : (Region.ready .any ops (listedK N N)).isEmpty = true := by decide +kernel) (hL : Sl1 L Lq := by (repeat (first | exact Sl1.nil | apply Sl1.keep | apply Sl1.skip)); done) : KX P n F Lq ops N Q N E L := KX_end hs hL h
/-- A call that may come up alone. -/
theorem x_call {ops : Array Oper} {N k : Nat} {dst : Nat} {ty : TypeId} {pos : String} {after : Array Edge} {g : Option (Nat × Bool)} {fo : Operand} {as : List Operand} {ts : Array TypeId} {f : FuncId} {vs first cap args : List Value} {R : Value → Bl → Prop} [hbody : Body P f]
    (h : Does P f args (F.plus L) [] R) (kk : ∀ v L', R v L' → KX P n F Lq ops N Q (k + 1) ((dst, v) :: E) (L' ++ L))
    (hi : ops[k]? = some ⟨some dst, .call { callee := .value fo, args := as.toArray, argTypes := ts }, ty, pos, after, g⟩ := by rfl) (hs : onlyAt ops N k = true := by decide +kernel) (hL : Sl1 L Lq := by (repeat (first | exact Sl1.nil | apply Sl1.keep | apply Sl1.skip)); done)
    (hg : Want ops E true g := by first | exact .none rfl | exact .some rfl rfl rfl) (hd : Nat.blt dst n = true := by rfl) (hf : ev E fo = some (.func (.func f) first.toArray cap.toArray) := by rfl) (hvs : evs E as = some vs := by rfl) (hargs : first ++ vs ++ cap = args := by rfl) :
    KX P n F Lq ops N Q k E L := KX_one hi hs hL fun _ hK => KO_call (Lp := []) (Lf := L) hg hd hf hvs (List.Perm.refl _) (by rw [hargs]; exact h) fun v L' hR => hK _ _ (kk v L' hR)
theorem x_store {ops : Array Oper} {N k : Nat} {x y : Operand} {t et ty : TypeId} {pos : String} {after : Array Edge} {b o size bytes : Nat} {z v : Value} {l cs l' : List Value} {L' : Bl} [hz : TZ P t z size bytes]
    (kk : KX P n F Lq ops N Q (k + 1) E L')
    (hi : ops[k]? = some ⟨none, .store t x y, ty, pos, after, none⟩ := by rfl) (hs : onlyAt ops N k = true := by decide +kernel) (hL : Sl1 L Lq := by (repeat (first | exact Sl1.nil | apply Sl1.keep | apply Sl1.skip)); done)
    (hx : ev E x = some (.pointer (some ⟨b, o, none⟩)) := by rfl) (hy : ev E y = some v := by rfl) (hcs : v.cells = cs.toArray := by rfl) (hlen : cs.length = size := by rfl)
    (hb : BSet L b (.cells l.toArray et (0, 0)) (.cells l'.toArray et (0, 0)) L' := by (repeat (first | exact BSet.head | apply BSet.tail)); done) (hp : Patch l o cs l' := by (repeat (first | exact Patch.nil | apply Patch.cons | apply Patch.skip)); done)
    (h1 : cs.all Value.oneCell' = true := by rfl) : KX P n F Lq ops N Q k E L := KX_one hi hs hL fun _ hK => KO_s (.none rfl) (s_store hx hy hcs hlen hb hp (oneCells_of h1)) (hK _ _ kk)

theorem KQ_clear {e : Exit} (h : KQ n F Q e E []) : KQ n F Q e E L := by
  have := KQ_drop (L1 := L) h
  rwa [List.append_nil] at this
theorem KW_t {c : Operand} {x y : Code} {p : Prop} [Decidable p] (ht : KW P n F x Q E L) (hc : ev E c = some (.bool (decide p)) := by rfl) (hp : p := by omega) : KW P n F (.cond c x y) Q E L := KW_if hc (fun _ => ht) (fun h => absurd hp h)
theorem KW_f {c : Operand} {x y : Code} {p : Prop} [Decidable p] (hf : KW P n F y Q E L) (hc : ev E c = some (.bool (decide p)) := by rfl) (hp : ¬ p := by omega) : KW P n F (.cond c x y) Q E L := KW_if hc (fun h => absurd h hp) (fun _ => hf)

/-! ### all plain steps from here -/
structure Later (q : Prop) : Prop where
  h : q
theorem goW {c : Code} {q : Prop} (h : q) (f : Later q → KW P n F c Q E L := by
      intro h
      repeat (first
        | refine KW_seq ?_
        | refine KL_nil ?_
        | refine KW_region ?_
        | refine KQ_then ?_
        | refine KW_skip ?_
        | refine KW_block ?_
        | refine KW_ret ?_
        | refine KW_exit ?_
        | refine KQ_then_exit ?_
        | refine KQ_then_ret ?_
        | refine KQ_block_n ?_
        | refine KQ_block_ret ?_
        | refine KQ_block_hit ?_
        | refine KQ_block_miss rfl ?_
        | refine KQ_loop_exit ?_
        | refine KQ_loop_ret ?_
        | refine KW_yes rfl rfl ?_
        | refine KW_no rfl rfl ?_
        | refine a_p ?_
        | refine x_p ?_
        | refine x_un ?_
        | refine x_end ?_
        | refine a_store ?_
        | refine a_un ?_)
      exact h.h) : KW P n F c Q E L := f ⟨h⟩
theorem goL {ops : Array Oper} {l : List Oper} {q : Prop} (h : q) (f : Later q → KL P n F ops Q l E L := by
      intro h
      repeat (first
        | refine KL_nil ?_
        | refine KW_seq ?_
        | refine KW_region ?_
        | refine KQ_then ?_
        | refine KW_skip ?_
        | refine KW_block ?_
        | refine KW_ret ?_
        | refine KW_exit ?_
        | refine KQ_then_exit ?_
        | refine KQ_then_ret ?_
        | refine KQ_block_n ?_
        | refine KQ_block_ret ?_
        | refine KQ_block_hit ?_
        | refine KQ_block_miss rfl ?_
        | refine KQ_loop_exit ?_
        | refine KQ_loop_ret ?_
        | refine KW_yes rfl rfl ?_
        | refine KW_no rfl rfl ?_
        | refine a_p ?_
        | refine x_p ?_
        | refine x_un ?_
        | refine x_end ?_
        | refine a_store ?_
        | refine a_un ?_)
      exact h.h) : KL P n F ops Q l E L := f ⟨h⟩
theorem goQ {e : Exit} {q : Prop} (h : q) (f : Later q → KQ n F Q e E L := by
      intro h
      repeat (first
        | refine KQ_then ?_
        | refine KL_nil ?_
        | refine KW_seq ?_
        | refine KW_region ?_
        | refine KW_skip ?_
        | refine KW_block ?_
        | refine KW_ret ?_
        | refine KW_exit ?_
        | refine KQ_then_exit ?_
        | refine KQ_then_ret ?_
        | refine KQ_block_n ?_
        | refine KQ_block_ret ?_
        | refine KQ_block_hit ?_
        | refine KQ_block_miss rfl ?_
        | refine KQ_loop_exit ?_
        | refine KQ_loop_ret ?_
        | refine KW_yes rfl rfl ?_
        | refine KW_no rfl rfl ?_
        | refine a_p ?_
        | refine x_p ?_
        | refine x_un ?_
        | refine x_end ?_
        | refine a_store ?_
        | refine a_un ?_)
      exact h.h) : KQ n F Q e E L := f ⟨h⟩
theorem goX {ops : Array Oper} {N k : Nat} {q : Prop} (h : q) (f : Later q → KX P n F Lq ops N Q k E L := by
      intro h
      repeat (first
        | refine KL_nil ?_
        | refine KW_seq ?_
        | refine KW_region ?_
        | refine KQ_then ?_
        | refine KW_skip ?_
        | refine KW_block ?_
        | refine KW_ret ?_
        | refine KW_exit ?_
        | refine KQ_then_exit ?_
        | refine KQ_then_ret ?_
        | refine KQ_block_n ?_
        | refine KQ_block_ret ?_
        | refine KQ_block_hit ?_
        | refine KQ_block_miss rfl ?_
        | refine KQ_loop_exit ?_
        | refine KQ_loop_ret ?_
        | refine KW_yes rfl rfl ?_
        | refine KW_no rfl rfl ?_
        | refine a_p ?_
        | refine x_p ?_
        | refine x_un ?_
        | refine x_end ?_
        | refine a_store ?_
        | refine a_un ?_)
      exact h.h) : KX P n F Lq ops N Q k E L := f ⟨h⟩

theorem a_loop {α : Type} {c : Code} (I : α → Prop) (Ei : α → Sl) (Li : α → Bl) (μ : α → Nat) (x0 : α) (hI : I x0)
    (round : ∀ x, I x → KW P n F c (LoopQ n F I Ei Li μ x Q) (Ei x) (Li x))
    (hE : Sub E (Ei x0) := by (repeat (first | exact trivial | refine ⟨rfl, ?_⟩)); done) (hL : L = Li x0 := by rfl) : KW P n F (.loop c) Q E L := KW_loop I Ei Li μ x0 hI hE hL round
theorem a_next {α : Type} {I : α → Prop} {Ei : α → Sl} {Li : α → Bl} {μ : α → Nat} {x : α} (x' : α) (hI : I x') (hμ : μ x' < μ x)
    (hE : Sub E (Ei x') := by (repeat (first | exact trivial | refine ⟨rfl, ?_⟩)); done) (hL : L = Li x' := by rfl) :
    KQ n F (LoopQ n F I Ei Li μ x Q) .normal E L := KQ_loop x' hI hμ hE hL
theorem a_ret1 {e : Exit} {fn : Func} {R : Value → Bl → Prop} {t : Nat} {v : Value} (hR : R v L) (he : e = .ret ∨ e = .normal := by first | exact .inl rfl | exact .inr rfl) (hr : fn.results = #[.tmp t] := by rfl) (h : get? E t = some v := by rfl) :
    KQ n F (RQ P F fn R) e E L := KQ_ret1 he hr (.tmp h) hR
theorem a_ret2 {e : Exit} {fn : Func} {R : Value → Bl → Prop} {t t' : Nat} {v v' : Value} (hR : R (.tuple #[v, v']) L) (he : e = .ret ∨ e = .normal := by first | exact .inl rfl | exact .inr rfl) (hr : fn.results = #[.tmp t, .tmp t'] := by rfl) (h : get? E t = some v := by rfl) (h' : get? E t' = some v' := by rfl) :
    KQ n F (RQ P F fn R) e E L := KQ_ret2 he hr (.tmp h) (.tmp h') hR
theorem a_ret3 {e : Exit} {fn : Func} {R : Value → Bl → Prop} {t t' t'' : Nat} {v v' v'' : Value} (hR : R (.tuple #[v, v', v'']) L) (he : e = .ret ∨ e = .normal := by first | exact .inl rfl | exact .inr rfl) (hr : fn.results = #[.tmp t, .tmp t', .tmp t''] := by rfl) (h : get? E t = some v := by rfl) (h' : get? E t' = some v' := by rfl) (h'' : get? E t'' = some v'' := by rfl) :
    KQ n F (RQ P F fn R) e E L := KQ_ret3 he hr (.tmp h) (.tmp h') (.tmp h'') hR
/-- A contract that says the value and the very world. -/
theorem Does_of_calls {f : FuncId} {args : List Value} {v : Value} (h : ∀ w, Calls P f args.toArray w fun e w' => e = .returned v ∧ w' = w) : Does P f args F [] (fun u L' => L' = [] ∧ u = v) := by
  unfold Does
  exact fun w hs => (h w).mono fun e w' hh => ⟨v, [], ⟨rfl, rfl⟩, hh.1, by rw [hh.2]; exact hs⟩
/-- A result that lies in a block: a struct or an array. -/
theorem ResAt.agg {x t et b o size bytes : Nat} {z : Value} {l cs : List Value} {fr : Nat × Nat} [h : TA P t] [hz : TZ P t z size bytes] (hx : get? E x = some (.pointer (some ⟨b, o, none⟩))) (hb : Held F L b (.cells l.toArray et fr)) (hc : Cut l o size cs) :
    ResAt P n F E L (.cell x t) (.agg cs.toArray) := fun a w he hs => by
  have hl : (loadCells ⟨b, o, none⟩ cs.length).run P w = .ok cs.toArray w := run_loadCells_list w _ cs fun j v hj => by
    rw [addr_add, heap_cell (hb.heap hs)]; exact hc.get.2 j v hj
  rw [hc.get.1] at hl
  have hp := he.2.2 x _ hx
  simp [asAddr, hp, loadVar, h.isAgg, hz.sizeOf, hl]
end
end Go.KE
