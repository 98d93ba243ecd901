/-
  The engine of these proofs, third part: what single operations yield, over the assertions of the first part.
  No condition: every lemma is over any program.
-/
import Derived.Test.YtjeaofabpfgngaaDoorK2
import Derived.WalkSpells
import Derived.WalkLawsBesides
namespace Go.KE

/-- A type's description; its zero, its number of cells and of bytes. -/
class TU (P : Program) (t : TypeId) (d : outParam TypeDesc) : Prop where
  u : P.underlying t = some d
class TZ (P : Program) (t : TypeId) (z : outParam Value) (size bytes : outParam Nat) : Prop where
  i : (P.info? t).map (fun i => (i.zero, i.size, i.bytes)) = some (some z, size, bytes)
/-- Field f of a struct type: its place in cells. -/
class TF (P : Program) (s : TypeId) (f : Nat) (off : outParam Nat) : Prop where
  run : ∀ (b o : Nat) (w : World), (Instr.fieldAt s (.pointer (some ⟨b, o, none⟩)) f).run P w = .ok (.pointer (some ⟨b, o + off, none⟩)) w

def scalarD : TypeDesc → Bool
  | .struct _ | .array _ _ => false
  | _ => true
/-- A type whose values are one cell; a struct or array type. -/
class TS (P : Program) (t : TypeId) : Prop where
  s : (P.underlying t).map scalarD = some true
class TA (P : Program) (t : TypeId) : Prop where
  s : (P.underlying t).map scalarD = some false
theorem Body.of {P : Program} {f : FuncId} {fn : Func} (hf : P.funcs[f]? = some fn) (h1 : (fn.name == "runtime.NumGoroutine") = false) (h2 : fn.body.isNone = false) : Body P f where
  run args w := by
    simp only [callFunc, Sem.run_bind, run_program, Result.andThen, hf, h1, h2, Bool.false_eq_true, if_false]
    rfl

section
variable {P : Program} {n : Nat} {F : Fr} {E : Sl} {L : Bl} {ty : TypeId}

theorem TZ.parts {t : TypeId} {z : Value} {size bytes : Nat} (h : TZ P t z size bytes) : ∃ i, P.info? t = some i ∧ i.zero = some z ∧ i.size = size ∧ i.bytes = bytes := by
  have := h.i
  cases hq : P.info? t with
  | none => rw [hq] at this; simp at this
  | some i => rw [hq] at this; simp at this; exact ⟨i, rfl, this.1, this.2.1, this.2.2⟩

theorem TZ.sizeOf {t : TypeId} {z : Value} {size bytes : Nat} (h : TZ P t z size bytes) (w : World) : (Go.sizeOf t).run P w = .ok size w := by
  obtain ⟨i, h1, _, h3, _⟩ := h.parts
  simp [Go.sizeOf, typeInfo, h1, h3]
theorem TZ.zero {t : TypeId} {z : Value} {size bytes : Nat} (h : TZ P t z size bytes) (w : World) : (zeroValue t).run P w = .ok z w := by
  obtain ⟨i, h1, h2, _, _⟩ := h.parts
  simp [zeroValue, typeInfo, h1, h2]
theorem TS.isAgg {t : TypeId} (h : TS P t) (w : World) : (Go.isAgg t).run P w = .ok false w := by
  have := h.s
  cases hu : P.underlying t with
  | none => rw [hu] at this; simp at this
  | some d =>
    rw [hu] at this
    unfold Go.isAgg
    rw [Sem.run_bind, run_underlying hu w]
    cases d <;> simp_all [scalarD]
theorem TA.isAgg {t : TypeId} (h : TA P t) (w : World) : (Go.isAgg t).run P w = .ok true w := by
  have := h.s
  cases hu : P.underlying t with
  | none => rw [hu] at this; simp at this
  | some d =>
    rw [hu] at this
    unfold Go.isAgg
    rw [Sem.run_bind, run_underlying hu w]
    cases d <;> simp_all [scalarD]

/-! ### plain operations -/
theorem p_move {x : Operand} {v : Value} (hx : ev E x = some v) : PureAt P n F E L (.move x) ty v := .of fun a w oo ho _ he _ => by
  simp only [execOp, ho, he.ev hx]; rfl
theorem p_assign {x : Operand} {v : Value} (hx : ev E x = some v) : PureAt P n F E L (.assign x) ty v := .of fun a w oo ho _ he _ => by
  simp only [execOp, ho, he.ev hx]; rfl
theorem p_pick_t {c x y : Operand} {v : Value} (hc : ev E c = some (.bool true)) (hx : ev E x = some v) : PureAt P n F E L (.pick c x y) ty v := .of fun a w oo ho _ he _ => by
  simp [execOp, ho, he.ev hc, he.ev hx, asBool]
theorem p_pick_f {c x y : Operand} {v : Value} (hc : ev E c = some (.bool false)) (hx : ev E y = some v) : PureAt P n F E L (.pick c x y) ty v := .of fun a w oo ho _ he _ => by
  simp [execOp, ho, he.ev hc, he.ev hx, asBool]
theorem p_pick {c x y : Operand} {b b1 b2 : Bool} (hc : ev E c = some (.bool b)) (hx : ev E x = some (.bool b1)) (hy : ev E y = some (.bool b2)) : PureAt P n F E L (.pick c x y) ty (.bool (bif b then b1 else b2)) := .of fun a w oo ho _ he _ => by
  cases b <;> simp [execOp, ho, he.ev hc, he.ev hx, he.ev hy, asBool]

theorem p_nilCheck_ptr {x : Operand} {ad : Addr} (hx : ev E x = some (.pointer (some ad))) : PureAt P n F E L (.nilCheck x) ty (.pointer (some ad)) := .of fun a w oo ho _ he _ => by
  simp [execOp, ho, he.ev hx]

theorem p_extract {x : Operand} {i : Nat} {vs : List Value} {v : Value} (hx : ev E x = some (.tuple vs.toArray)) (hv : vs[i]? = some v) : PureAt P n F E L (.extract x i) ty v := .of fun a w oo ho _ he _ => by
  simp [execOp, ho, he.ev hx, Instr.extract, hv]

theorem p_not {x : Operand} {t : TypeId} {b : Bool} (hx : ev E x = some (.bool b)) : PureAt P n F E L (.unOp .not t x) ty (.bool (!b)) := .of fun a w oo ho _ he _ => by
  simp [execOp, ho, he.ev hx, Op.unary]

theorem beq_decide (p q : Int) : (p == q) = decide (p = q) := by
  by_cases h : p = q <;> simp [h]

section ints
variable {x y : Operand} {t u : TypeId} {k : IntKind} {p q : Int}
theorem p_bin {op : BinOp} {v : Value} (hx : ev E x = some (.int k p)) (hy : ev E y = some (.int k q)) (hr : ∀ w, (binOp op t (.int k p) (.int k q)).run P w = .ok v w) : PureAt P n F E L (.binOp op t x y u) ty v := .of fun a w oo ho _ he _ => by
  have hg : ∀ w, (eqGuard op t x y (.int k p) (.int k q)).run P w = .ok () w := fun w => by
    unfold eqGuard; split <;> rfl
  simp only [execOp, ho, he.ev hx, he.ev hy, Sem.run_bind, hg, hr, Result.andThen]
  rfl
theorem p_lss (hx : ev E x = some (.int k p)) (hy : ev E y = some (.int k q)) : PureAt P n F E L (.binOp .lss t x y u) ty (.bool (decide (p < q))) := p_bin hx hy fun w => by simp [binOp, Op.intCmp]
theorem p_leq (hx : ev E x = some (.int k p)) (hy : ev E y = some (.int k q)) : PureAt P n F E L (.binOp .leq t x y u) ty (.bool (decide (p ≤ q))) := p_bin hx hy fun w => by simp [binOp, Op.intCmp]
theorem p_gtr (hx : ev E x = some (.int k p)) (hy : ev E y = some (.int k q)) : PureAt P n F E L (.binOp .gtr t x y u) ty (.bool (decide (q < p))) := p_bin hx hy fun w => by simp [binOp, Op.intCmp]
theorem p_geq (hx : ev E x = some (.int k p)) (hy : ev E y = some (.int k q)) : PureAt P n F E L (.binOp .geq t x y u) ty (.bool (decide (q ≤ p))) := p_bin hx hy fun w => by simp [binOp, Op.intCmp]
theorem p_eql (hx : ev E x = some (.int k p)) (hy : ev E y = some (.int k q)) : PureAt P n F E L (.binOp .eql t x y u) ty (.bool (decide (p = q))) := p_bin hx hy fun w => by
  simp only [binOp, Op.intCmp]; simp [beq_decide]
theorem p_neq (hx : ev E x = some (.int k p)) (hy : ev E y = some (.int k q)) : PureAt P n F E L (.binOp .neq t x y u) ty (.bool (decide (p ≠ q))) := p_bin hx hy fun w => by
  simp only [binOp, Op.intCmp]; simp [bne, beq_decide]
theorem p_add (hx : ev E x = some (.int k p)) (hy : ev E y = some (.int k q)) : PureAt P n F E L (.binOp .add t x y u) ty (.int k (k.wrap (p + q))) := p_bin hx hy fun w => by simp [binOp, Op.intArith]
theorem p_sub (hx : ev E x = some (.int k p)) (hy : ev E y = some (.int k q)) : PureAt P n F E L (.binOp .sub t x y u) ty (.int k (k.wrap (p - q))) := p_bin hx hy fun w => by simp [binOp, Op.intArith]
theorem p_mul (hx : ev E x = some (.int k p)) (hy : ev E y = some (.int k q)) : PureAt P n F E L (.binOp .mul t x y u) ty (.int k (k.wrap (p * q))) := p_bin hx hy fun w => by simp [binOp, Op.intArith]
end ints

/-- The numbers of a kind. -/
def Fits : IntKind → Int → Prop
  | .i8, x => -128 ≤ x ∧ x ≤ 127
  | .i16, x => -32768 ≤ x ∧ x ≤ 32767
  | .i32, x => -2147483648 ≤ x ∧ x ≤ 2147483647
  | .i64, x => -9223372036854775808 ≤ x ∧ x ≤ 9223372036854775807
  | .u8, x => 0 ≤ x ∧ x ≤ 255
  | .u16, x => 0 ≤ x ∧ x ≤ 65535
  | .u32, x => 0 ≤ x ∧ x ≤ 4294967295
  | .u64, x => 0 ≤ x ∧ x ≤ 18446744073709551615

theorem Fits.wrap {k : IntKind} {x : Int} (h : Fits k x) : k.wrap x = x := by
  cases k <;> simp only [Fits] at h <;> simp [IntKind.wrap, IntKind.bits, IntKind.signed] <;> omega

theorem wrap_fits (k : IntKind) (x : Int) : Fits k (k.wrap x) := by
  cases k <;> simp [Fits, IntKind.wrap, IntKind.bits, IntKind.signed] <;> omega

section ints2
variable {x y : Operand} {t u : TypeId} {k : IntKind} {p q : Int}
theorem p_add' (hx : ev E x = some (.int k p)) (hy : ev E y = some (.int k q)) (h : Fits k (p + q)) : PureAt P n F E L (.binOp .add t x y u) ty (.int k (p + q)) := by
  have := p_add (P := P) (n := n) (F := F) (L := L) (ty := ty) (t := t) (u := u) hx hy; rwa [h.wrap] at this
theorem p_sub' (hx : ev E x = some (.int k p)) (hy : ev E y = some (.int k q)) (h : Fits k (p - q)) : PureAt P n F E L (.binOp .sub t x y u) ty (.int k (p - q)) := by
  have := p_sub (P := P) (n := n) (F := F) (L := L) (ty := ty) (t := t) (u := u) hx hy; rwa [h.wrap] at this
theorem p_mul' (hx : ev E x = some (.int k p)) (hy : ev E y = some (.int k q)) (h : Fits k (p * q)) : PureAt P n F E L (.binOp .mul t x y u) ty (.int k (p * q)) := by
  have := p_mul (P := P) (n := n) (F := F) (L := L) (ty := ty) (t := t) (u := u) hx hy; rwa [h.wrap] at this
end ints2

/-- One more, one less, of a counter. -/
theorem p_inc {x y : Operand} {t u : TypeId} {k : IntKind} {a : Nat} (hx : ev E x = some (.int k (a : Int))) (hy : ev E y = some (.int k 1)) (h : Fits k ((a : Int) + 1)) : PureAt P n F E L (.binOp .add t x y u) ty (.int k ((a + 1 : Nat) : Int)) := p_add' hx hy h
theorem p_dec {x y : Operand} {t u : TypeId} {k : IntKind} {a : Nat} (hx : ev E x = some (.int k ((a + 1 : Nat) : Int))) (hy : ev E y = some (.int k 1)) (h : Fits k (a : Int)) : PureAt P n F E L (.binOp .sub t x y u) ty (.int k (a : Int)) := by
  have e : ((a + 1 : Nat) : Int) - 1 = a := by omega
  have := p_sub' (P := P) (n := n) (F := F) (L := L) (ty := ty) (t := t) (u := u) hx hy (by rw [e]; exact h)
  rwa [e] at this

section ints3
variable {x y : Operand} {t u : TypeId} {k : IntKind} {p q : Int}
theorem p_lss_t (hx : ev E x = some (.int k p)) (hy : ev E y = some (.int k q)) (h : p < q) : PureAt P n F E L (.binOp .lss t x y u) ty (.bool true) := by
  have := p_lss (P := P) (n := n) (F := F) (L := L) (ty := ty) (t := t) (u := u) hx hy; rwa [decide_eq_true h] at this
theorem p_lss_f (hx : ev E x = some (.int k p)) (hy : ev E y = some (.int k q)) (h : ¬ (p < q)) : PureAt P n F E L (.binOp .lss t x y u) ty (.bool false) := by
  have := p_lss (P := P) (n := n) (F := F) (L := L) (ty := ty) (t := t) (u := u) hx hy; rwa [decide_eq_false h] at this
theorem p_leq_t (hx : ev E x = some (.int k p)) (hy : ev E y = some (.int k q)) (h : p ≤ q) : PureAt P n F E L (.binOp .leq t x y u) ty (.bool true) := by
  have := p_leq (P := P) (n := n) (F := F) (L := L) (ty := ty) (t := t) (u := u) hx hy; rwa [decide_eq_true h] at this
theorem p_leq_f (hx : ev E x = some (.int k p)) (hy : ev E y = some (.int k q)) (h : ¬ (p ≤ q)) : PureAt P n F E L (.binOp .leq t x y u) ty (.bool false) := by
  have := p_leq (P := P) (n := n) (F := F) (L := L) (ty := ty) (t := t) (u := u) hx hy; rwa [decide_eq_false h] at this
theorem p_gtr_t (hx : ev E x = some (.int k p)) (hy : ev E y = some (.int k q)) (h : q < p) : PureAt P n F E L (.binOp .gtr t x y u) ty (.bool true) := by
  have := p_gtr (P := P) (n := n) (F := F) (L := L) (ty := ty) (t := t) (u := u) hx hy; rwa [decide_eq_true h] at this
theorem p_gtr_f (hx : ev E x = some (.int k p)) (hy : ev E y = some (.int k q)) (h : ¬ (q < p)) : PureAt P n F E L (.binOp .gtr t x y u) ty (.bool false) := by
  have := p_gtr (P := P) (n := n) (F := F) (L := L) (ty := ty) (t := t) (u := u) hx hy; rwa [decide_eq_false h] at this
theorem p_geq_t (hx : ev E x = some (.int k p)) (hy : ev E y = some (.int k q)) (h : q ≤ p) : PureAt P n F E L (.binOp .geq t x y u) ty (.bool true) := by
  have := p_geq (P := P) (n := n) (F := F) (L := L) (ty := ty) (t := t) (u := u) hx hy; rwa [decide_eq_true h] at this
theorem p_geq_f (hx : ev E x = some (.int k p)) (hy : ev E y = some (.int k q)) (h : ¬ (q ≤ p)) : PureAt P n F E L (.binOp .geq t x y u) ty (.bool false) := by
  have := p_geq (P := P) (n := n) (F := F) (L := L) (ty := ty) (t := t) (u := u) hx hy; rwa [decide_eq_false h] at this
theorem p_eql_t (hx : ev E x = some (.int k p)) (hy : ev E y = some (.int k q)) (h : p = q) : PureAt P n F E L (.binOp .eql t x y u) ty (.bool true) := by
  have := p_eql (P := P) (n := n) (F := F) (L := L) (ty := ty) (t := t) (u := u) hx hy; rwa [decide_eq_true h] at this
theorem p_eql_f (hx : ev E x = some (.int k p)) (hy : ev E y = some (.int k q)) (h : ¬ (p = q)) : PureAt P n F E L (.binOp .eql t x y u) ty (.bool false) := by
  have := p_eql (P := P) (n := n) (F := F) (L := L) (ty := ty) (t := t) (u := u) hx hy; rwa [decide_eq_false h] at this
theorem p_neq_t (hx : ev E x = some (.int k p)) (hy : ev E y = some (.int k q)) (h : p ≠ q) : PureAt P n F E L (.binOp .neq t x y u) ty (.bool true) := by
  have := p_neq (P := P) (n := n) (F := F) (L := L) (ty := ty) (t := t) (u := u) hx hy; rwa [decide_eq_true h] at this
theorem p_neq_f (hx : ev E x = some (.int k p)) (hy : ev E y = some (.int k q)) (h : ¬ (p ≠ q)) : PureAt P n F E L (.binOp .neq t x y u) ty (.bool false) := by
  have := p_neq (P := P) (n := n) (F := F) (L := L) (ty := ty) (t := t) (u := u) hx hy; rwa [decide_eq_false h] at this
end ints3

theorem p_convert_int {x : Operand} {src dst : TypeId} {k k' : IntKind} {p : Int} {d : TypeDesc} [h1 : TU P src d] [h2 : TU P dst (.int k')] (hx : ev E x = some (.int k p)) : PureAt P n F E L (.convert src dst x) ty (.int k' (k'.wrap p)) := .of fun a w oo ho _ he _ => by
  simp only [execOp, ho, he.ev hx, Sem.run_bind]
  have : (convert src dst (.int k p)).run P w = .ok (.int k' (k'.wrap p)) w := by
    have hk : P.intKind dst = k' := by simp [Program.intKind, h2.u]
    rw [run_convert_int w src dst k p (by rw [h1.u]; rfl) (by rw [h2.u, hk]), hk]
  rw [this]; rfl
theorem p_convert_int' {x : Operand} {src dst : TypeId} {k k' : IntKind} {p : Int} {d : TypeDesc} [h1 : TU P src d] [h2 : TU P dst (.int k')] (hx : ev E x = some (.int k p)) (h : Fits k' p) : PureAt P n F E L (.convert src dst x) ty (.int k' p) := by
  have := p_convert_int (P := P) (n := n) (F := F) (L := L) (ty := ty) (src := src) (dst := dst) hx; rwa [h.wrap] at this

/-! ### strings -/
section strs
variable {x y : Operand} {t u : TypeId} {p q : ByteArray}
theorem p_sbin {op : BinOp} {v : Value} (hx : ev E x = some (.string p)) (hy : ev E y = some (.string q)) (hr : ∀ w, (binOp op t (.string p) (.string q)).run P w = .ok v w) : PureAt P n F E L (.binOp op t x y u) ty v := .of fun a w oo ho _ he _ => by
  have hg : ∀ w, (eqGuard op t x y (.string p) (.string q)).run P w = .ok () w := fun w => by
    unfold eqGuard; split <;> rfl
  simp only [execOp, ho, he.ev hx, he.ev hy, Sem.run_bind, hg, hr, Result.andThen]
  rfl
theorem p_sadd (hx : ev E x = some (.string p)) (hy : ev E y = some (.string q)) (h : p.size + q.size ≤ 9223372036854775807) : PureAt P n F E L (.binOp .add t x y u) ty (.string (p ++ q)) := p_sbin hx hy fun w => by
  simp only [binOp]; exact run_string_add_sum w p q h
end strs
theorem p_len_str {x : Operand} {t : TypeId} {s : ByteArray} [h : TU P t .string] (hx : ev E x = some (.string s)) : PureAt P n F E L (.call { callee := .builtin .len, args := #[x], argTypes := #[t] }) ty (.int .i64 s.size) := .of fun a w oo ho _ he _ => by
  simp [execOp, ho, he.ev hx, resolve, invoke, builtin, Builtin.len_, run_underlying h.u, goInt]
theorem p_len_slice {x : Operand} {t e : TypeId} {ad : Option Addr} {m c : Nat} [h : TU P t (.slice e)] (hx : ev E x = some (.slice ad m c)) : PureAt P n F E L (.call { callee := .builtin .len, args := #[x], argTypes := #[t] }) ty (.int .i64 m) := .of fun a w oo ho _ he _ => by
  have := run_len_slice (P := P) w t oo.type ad m c (by rw [h.u]; simp [Program.elem, h.u])
  simp [execOp, ho, he.ev hx, resolve, invoke, builtin, this, goInt]

/-! ### addresses -/
theorem p_fieldAddr {x : Operand} {s : TypeId} {f b o off : Nat} [h : TF P s f off] (hx : ev E x = some (.pointer (some ⟨b, o, none⟩))) : PureAt P n F E L (.fieldAddr s x f) ty (.pointer (some ⟨b, o + off, none⟩)) := .of fun a w oo ho _ he _ => by
  simp only [execOp, ho, he.ev hx, Sem.run_bind, h.run]; rfl

theorem addr_add (b o m : Nat) : (⟨b, o, none⟩ : Addr).add m = ⟨b, o + m, none⟩ := by
  unfold Addr.add; split <;> simp_all

theorem p_indexAddr_slice {o' : Nat} {x i : Operand} {t e : TypeId} {k : IntKind} {b o m c size bytes : Nat} {z : Value} {j : Int} [h : TU P t (.slice e)] [hz : TZ P e z size bytes]
    (hx : ev E x = some (.slice (some ⟨b, o, none⟩) m c)) (hi : ev E i = some (.int k j)) (h0 : 0 ≤ j) (h1 : j < m) (ho' : o + j.toNat * size = o') : PureAt P n F E L (.indexAddr t x i) ty (.pointer (some ⟨b, o', none⟩)) := .of fun a w oo ho _ he _ => by
  subst ho'
  have he' : P.elem t = e := by simp [Program.elem, h.u]
  have := run_indexAt_slice (P := P) w t ⟨b, o, none⟩ m c k j (by rw [he', h.u])
  rw [if_pos ⟨h0, h1⟩, he', hz.sizeOf, Result.andThen, addr_add] at this
  simp only [execOp, ho, he.ev hx, he.ev hi, Sem.run_bind, this]; rfl

theorem p_indexAddr_array {o' : Nat} {x i : Operand} {t e : TypeId} {k : IntKind} {len b o size bytes : Nat} {z : Value} {j : Int} [h : TU P t (.array len e)] [hz : TZ P e z size bytes]
    (hx : ev E x = some (.pointer (some ⟨b, o, none⟩))) (hi : ev E i = some (.int k j)) (h0 : 0 ≤ j) (h1 : j < len) (ho' : o + j.toNat * size = o') : PureAt P n F E L (.indexAddr t x i) ty (.pointer (some ⟨b, o', none⟩)) := .of fun a w oo ho _ he _ => by
  subst ho'
  have he' : P.elem t = e := by simp [Program.elem, h.u]
  have hl' : P.arrayLen t = len := by simp [Program.arrayLen, h.u]
  have := run_indexAt_array (P := P) w t ⟨b, o, none⟩ k j (by rw [he', hl', h.u])
  rw [hl', if_pos ⟨h0, h1⟩, he', hz.sizeOf, Result.andThen, addr_add] at this
  simp only [execOp, ho, he.ev hx, he.ev hi, Sem.run_bind, this]; rfl

/-! ### loads and stores -/
theorem heap_cell {w : World} {b o : Nat} {l : List Value} {t : TypeId} {fr : Nat × Nat} (h : w.heap[b]? = some (.cells l.toArray t fr)) : w.cell? ⟨b, o, none⟩ = l[o]? := by
  simp [World.cell?, h]

/-- 'cs' is what lies in 'l' from place o on, k of them. -/
inductive Cut : List Value → Nat → Nat → List Value → Prop where
  | nil {l} : Cut l 0 0 []
  | cons {v l k cs} (h : Cut l 0 k cs) : Cut (v :: l) 0 (k + 1) (v :: cs)
  | skip {v l o k cs} (h : Cut l o k cs) : Cut (v :: l) (o + 1) k cs

theorem Cut.get {l : List Value} {o k : Nat} {cs : List Value} (h : Cut l o k cs) : cs.length = k ∧ ∀ j v, cs[j]? = some v → l[o + j]? = some v := by
  induction h with
  | nil => simp
  | cons h ih =>
    refine ⟨by simp [ih.1], fun j v hj => ?_⟩
    cases j with
    | zero => simpa using hj
    | succ j => have := ih.2 j v (by simpa using hj); simpa using this
  | skip h ih =>
    rename_i v l o k cs
    refine ⟨ih.1, fun j u hj => ?_⟩
    have := ih.2 j u hj
    have e : o + 1 + j = (o + j) + 1 := by omega
    rw [e]; simpa using this

theorem Cut.all (l : List Value) : Cut l 0 l.length l := by
  induction l with
  | nil => exact .nil
  | cons v l ih => exact .cons ih

theorem Cut.mk {l : List Value} : ∀ {o k : Nat}, o + k ≤ l.length → Cut l o k ((l.drop o).take k) := by
  induction l with
  | nil => intro o k h; simp at h; obtain ⟨rfl, rfl⟩ := h; exact .nil
  | cons v l ih =>
    intro o k h
    cases o with
    | succ o => exact .skip (by simpa using ih (o := o) (k := k) (by simp at h; omega))
    | zero =>
      cases k with
      | zero => exact .nil
      | succ k => exact .cons (by simpa using ih (o := 0) (k := k) (by simp at h; omega))

/-- A load of one cell; of a struct or an array. -/
theorem p_load {x : Operand} {t et : TypeId} {b o : Nat} {l : List Value} {fr : Nat × Nat} {v : Value} [h : TS P t] (hx : ev E x = some (.pointer (some ⟨b, o, none⟩)))
    (hb : Held F L b (.cells l.toArray et fr)) (hv : l[o]? = some v) : PureAt P n F E L (.load t x) ty v := .of fun a w oo ho _ he hs => by
  have hc : w.cell? ⟨b, o, none⟩ = some v := by rw [heap_cell (hb.heap hs), hv]
  simp only [execOp, ho, he.ev hx, Instr.loadAt, Instr.sureAddr, Sem.run_bind, Sem.run_pure, Result.andThen, loadVar, h.isAgg]
  simp [run_load, hc]

theorem p_load_agg {x : Operand} {t et : TypeId} {b o size bytes : Nat} {z : Value} {l cs : List Value} {fr : Nat × Nat} [h : TA P t] [hz : TZ P t z size bytes] (hx : ev E x = some (.pointer (some ⟨b, o, none⟩)))
    (hb : Held F L b (.cells l.toArray et fr)) (hc : Cut l o size cs) : PureAt P n F E L (.load t x) ty (.agg cs.toArray) := .of fun a w oo ho _ he hs => by
  have hl : (loadCells ⟨b, o, none⟩ cs.length).run P w = .ok cs.toArray w := run_loadCells_list w _ cs fun j v hj => by
    rw [addr_add, heap_cell (hb.heap hs)]; exact hc.get.2 j v hj
  rw [hc.get.1] at hl
  simp only [execOp, ho, he.ev hx, Instr.loadAt, Instr.sureAddr, Sem.run_bind, Sem.run_pure, Result.andThen, loadVar, h.isAgg, hz.sizeOf, if_true, hl]

/-- 'l'' is 'l' with 'cs' laid over it from place o on. -/
inductive Patch : List Value → Nat → List Value → List Value → Prop where
  | nil {l} : Patch l 0 [] l
  | cons {u l v cs l'} (h : Patch l 0 cs l') : Patch (u :: l) 0 (v :: cs) (v :: l')
  | skip {u l o cs l'} (h : Patch l o cs l') : Patch (u :: l) (o + 1) cs (u :: l')

theorem Patch.eq {l : List Value} {o : Nat} {cs l' : List Value} (h : Patch l o cs l') : o + cs.length ≤ l.length ∧ l' = l.take o ++ cs ++ l.drop (o + cs.length) := by
  induction h with
  | nil => simp
  | cons h ih => obtain ⟨h1, h2⟩ := ih; exact ⟨by simp; simpa using h1, by simp at h2 ⊢; exact h2⟩
  | skip h ih =>
    rename_i u l o cs l'
    obtain ⟨h1, h2⟩ := ih
    refine ⟨by simp; omega, ?_⟩
    have e : o + 1 + cs.length = (o + cs.length) + 1 := by omega
    rw [e, h2]; simp

theorem Patch.mk {l : List Value} {cs : List Value} : ∀ {o : Nat}, o + cs.length ≤ l.length → Patch l o cs (l.take o ++ cs ++ l.drop (o + cs.length)) := by
  induction l generalizing cs with
  | nil => intro o h; simp at h; obtain ⟨rfl, rfl⟩ := h; exact .nil
  | cons u l ih =>
    intro o h
    cases o with
    | succ o =>
      have := ih (cs := cs) (o := o) (by simp at h; omega)
      have e : o + 1 + cs.length = (o + cs.length) + 1 := by omega
      rw [e]; simpa using Patch.skip (u := u) this
    | zero =>
      cases cs with
      | nil => simpa using Patch.nil
      | cons v cs =>
        have := ih (cs := cs) (o := 0) (by simp at h ⊢; omega)
        simpa using Patch.cons (u := u) (v := v) this

/-- Block b of the list, turned from one object into another: the list behind it. -/
inductive BSet : Bl → Nat → Obj → Obj → Bl → Prop where
  | head {b o o' r} : BSet ((b, o) :: r) b o o' ((b, o') :: r)
  | tail {p r b o o' r'} (h : BSet r b o o' r') : BSet (p :: r) b o o' (p :: r')

theorem BSet.mem {L : Bl} {b : Nat} {o o' : Obj} {L' : Bl} (h : BSet L b o o' L') : (b, o) ∈ L := by
  induction h with
  | head => simp
  | tail h ih => exact List.mem_cons_of_mem _ ih

theorem BSet.eq {L : Bl} {b : Nat} {o o' : Obj} {L' : Bl} (h : BSet L b o o' L') (hn : (L.map (·.1)).Nodup) : bset L b o' = L' := by
  induction h with
  | head => simp [bset]
  | tail h ih =>
    rename_i p r b o o' r'
    obtain ⟨pb, po⟩ := p
    simp only [List.map_cons, List.nodup_cons] at hn
    have hne : pb ≠ b := fun e => hn.1 (by subst e; exact List.mem_map_of_mem (f := (·.1)) h.mem)
    simp only [bset]
    rw [if_neg hne, ih hn.2]

theorem St.bset {w w' : World} {b : Nat} {o o' : Obj} {L' : Bl} (h : St F L w) (hb : BSet L b o o' L') (hw : w'.heap[b]? = some o') (hot : ∀ j, j ≠ b → w'.heap[j]? = w.heap[j]?)
    (h1 : w'.os = w.os) (h2 : w'.tape = w.tape) (h3 : w'.output = w.output) : St F L' w' := by
  rw [← hb.eq h.nodup]; exact h.set hb.mem hw hot h1 h2 h3

def oneCells (cs : List Value) : Prop := ∀ v ∈ cs, v.oneCell' = true
theorem oneCells_of {cs : List Value} (h : cs.all Value.oneCell' = true) : oneCells cs := fun v hv => List.all_eq_true.1 h v hv

theorem St.row {w : World} {b : Nat} {l l' : List Value} {t : TypeId} {L' : Bl} (h : St F L w) (hb : BSet L b (.cells l.toArray t (0, 0)) (.cells l'.toArray t (0, 0)) L') : St F L' (w.setRow b l'.toArray) :=
  h.bset hb (setRow_heap w b _ _ t _ (h.own _ hb.mem)) (fun j hj => setRow_other w b j _ hj) rfl rfl rfl

theorem s_store {x y : Operand} {t et : TypeId} {b o size bytes : Nat} {z v : Value} {l cs l' : List Value} {L' : Bl} [hz : TZ P t z size bytes] (hx : ev E x = some (.pointer (some ⟨b, o, none⟩))) (hy : ev E y = some v) (hcs : v.cells = cs.toArray) (hlen : cs.length = size)
    (hb : BSet L b (.cells l.toArray et (0, 0)) (.cells l'.toArray et (0, 0)) L') (hp : Patch l o cs l') (h1 : oneCells cs) : SkipAt P n F E L (.store t x y) ty L' := .of fun a w oo ho _ he hs => by
  obtain ⟨p1, p2⟩ := hp.eq
  have hst := run_storeCells_at P b o et cs 0 l.toArray w (hs.own _ hb.mem) (by simpa using p1) h1
  have e : (List.take (o + 0) l.toArray.toList ++ cs ++ List.drop (o + 0 + cs.length) l.toArray.toList).toArray = l'.toArray := by rw [p2]; simp
  rw [e] at hst
  refine ⟨w.setRow b l'.toArray, ?_, hs.row hb⟩
  have hsz : cs.toArray.size = size := by simpa using hlen
  simp only [execOp, ho, he.ev hx, he.ev hy, Instr.storeAt, Instr.sureAddr, Sem.run_bind, Sem.run_pure, Result.andThen, storeVar, hz.sizeOf, hcs, hsz, ne_eq, not_true_eq_false, if_false, hst]

/-! ### new blocks -/
theorem m_alloc {t size bytes : Nat} {z : Value} {l : List Value} [hz : TZ P t z size bytes] (hl : z.cells = l.toArray) : StepAt P n F E L (.alloc t) ty (fun _ : Nat => True) (fun b => .pointer (some ⟨b, 0, none⟩)) (fun b => (b, .cells l.toArray t (0, 0)) :: L) := .of fun a w oo ho _ _ hs =>
  ⟨w.heap.size, w.alloc (.cells l.toArray t (0, 0)), trivial, by
    simp [execOp, ho, Instr.alloc, hz.zero, newVar, newRow, hl], hs.alloc _⟩

theorem m_box {x : Operand} {t : TypeId} {v : Value} {l : List Value} (hx : ev E x = some v) (hl : v.cells = l.toArray) : StepAt P n F E L (.box t x) ty (fun _ : Nat => True) (fun b => .pointer (some ⟨b, 0, none⟩)) (fun b => (b, .cells l.toArray t (0, 0)) :: L) := .of fun a w oo ho _ he hs =>
  ⟨w.heap.size, w.alloc (.cells l.toArray t (0, 0)), trivial, by
    simp [execOp, ho, he.ev hx, Instr.box, newVar, newRow, hl], hs.alloc _⟩
end
end Go.KE
