/-
  The engine of these proofs, sixth part: slices, strings, append, copy, make.
  No condition: every lemma is over any program.
-/
import Derived.Test.YtjeaofabpfgngaaDoorK5
import Derived.Laws.CopyRow
import Derived.Laws.MakeOwn
import Derived.Laws.IdiomStrings
namespace Go.KE

/-- No cell among the first k is barred. -/
def Thaw (fr : Nat × Nat) (k : Nat) : Prop := fr.2 ≤ fr.1 ∨ k ≤ fr.1
theorem Thaw.no {fr : Nat × Nat} {k j : Nat} (h : Thaw fr k) (hj : j < k) : (decide (fr.1 ≤ j) && decide (j < fr.2)) = false := by
  rcases h with h | h
  · by_cases h1 : fr.1 ≤ j
    · have : ¬ j < fr.2 := by omega
      simp [this]
    · simp [h1]
  · have : ¬ fr.1 ≤ j := by omega
    simp [this]
theorem Thaw.mono {fr : Nat × Nat} {k j : Nat} (h : Thaw fr k) (hj : j ≤ k) : Thaw fr j := by rcases h with h | h; exact .inl h; exact .inr (by omega)
theorem Thaw.zero (k : Nat) : Thaw (0, 0) k := .inl (Nat.le_refl _)

section
variable {P : Program} {n : Nat} {F : Fr} {E : Sl} {L : Bl} {ty : TypeId}

theorem run_storeCells_fr (g o : Nat) (t : TypeId) (fr : Nat × Nat) : ∀ (vs : List Value) (i : Nat) (cur : List Value) (w : World), w.heap[g]? = some (.cells cur.toArray t fr) → o + i + vs.length ≤ cur.length → Thaw fr cur.length → oneCells vs →
    (storeCells ⟨g, o, none⟩ vs i).run P w = .ok () (w.setRow g (cur.take (o + i) ++ vs ++ cur.drop (o + i + vs.length)).toArray)
  | [], i, cur, w, hg, _, _, _ => by
    simp only [storeCells, List.append_nil, List.length_nil, Nat.add_zero, List.take_append_drop]
    rw [setRow_self w g cur.toArray t fr hg]
    rfl
  | v :: rest, i, cur, w, hg, hl, hf, h1 => by
    have hi : o + i < cur.length := by simp at hl; omega
    have hcell : w.cell? ⟨g, o + i, none⟩ = some cur[o + i] := by simp [World.cell?, hg, hi]
    have hfro : w.frozen? ⟨g, o + i, none⟩ = false := by
      obtain ⟨f1, f2⟩ := fr
      simpa [World.frozen?, hg] using hf.no hi
    have hst : (store ((⟨g, o, none⟩ : Addr).add i) v).run P w = .ok () (w.setRow g (cur.set (o + i) v).toArray) := by
      rw [addr_add, run_store P w _ v _ (h1 v (by simp)), hcell]
      simp [hfro, setCell_eq_setRow w g (o + i) cur.toArray t fr v hg]
    have ih := run_storeCells_fr g o t fr rest (i + 1) (cur.set (o + i) v) (w.setRow g (cur.set (o + i) v).toArray) (setRow_heap w g cur.toArray _ t _ hg) (by simp at hl ⊢; omega) (by simpa using hf) (fun x hx => h1 x (by simp [hx]))
    simp only [storeCells, Sem.run_bind, hst, Result.andThen_ok, ih, setRow_setRow]
    congr 3
    have e := list_seg_step cur (o + i) v rest (by simp at hl ⊢; omega)
    simpa [Nat.add_assoc] using e

theorem St.row' {w : World} {b : Nat} {l l' : List Value} {t : TypeId} {fr : Nat × Nat} {L' : Bl} (h : St F L w) (hb : BSet L b (.cells l.toArray t fr) (.cells l'.toArray t fr) L') : St F L' (w.setRow b l'.toArray) :=
  h.bset hb (setRow_heap w b _ _ t _ (h.own _ hb.mem)) (fun j hj => setRow_other w b j _ hj) rfl rfl rfl

/-! ### slicing -/
theorem p_slice_arr {o' : Nat} {x lo hi : Operand} {t e : TypeId} {len b o size bytes : Nat} {z : Value} {kl kh : IntKind} {l h : Int} [ht : TU P t (.array len e)] [hz : TZ P e z size bytes]
    (hx : ev E x = some (.pointer (some ⟨b, o, none⟩))) (hl : ev E lo = some (.int kl l)) (hh : ev E hi = some (.int kh h)) (h0 : 0 ≤ l) (h1 : l ≤ h) (h2 : h ≤ len) (h3 : l < len) (ho' : o + l.toNat * size = o') :
    PureAt P n F E L (.slice t x (some lo) (some hi) none) ty (.slice (some ⟨b, o', none⟩) (h.toNat - l.toNat) (len - l.toNat)) := .of fun a w oo ho _ he _ => by
  subst ho'
  have he' : P.elem t = e := by simp [Program.elem, ht.u]
  have hl' : P.arrayLen t = len := by simp [Program.arrayLen, ht.u]
  have := run_sliceAt_array_lh (P := P) w t ⟨b, o, none⟩ (by rw [he', hl', ht.u]) kl kh l h h0 h1 (by rw [hl']; exact h2)
  rw [he', hl', hz.sizeOf, Result.andThen] at this
  simp only [slicedAt] at this
  rw [if_neg (by omega), addr_add] at this
  simp only [execOp, ho, he.ev hx, Option.map_some, Option.map_none, he.ev hl, he.ev hh, Sem.run_bind, this]; rfl

theorem p_slice_sl {o' : Nat} {x lo hi : Operand} {t e : TypeId} {len cap b o size bytes : Nat} {z : Value} {kl kh : IntKind} {l h : Int} [ht : TU P t (.slice e)] [hz : TZ P e z size bytes]
    (hx : ev E x = some (.slice (some ⟨b, o, none⟩) len cap)) (hl : ev E lo = some (.int kl l)) (hh : ev E hi = some (.int kh h)) (h0 : 0 ≤ l) (h1 : l ≤ h) (h2 : h ≤ cap) (h3 : l < cap) (ho' : o + l.toNat * size = o') :
    PureAt P n F E L (.slice t x (some lo) (some hi) none) ty (.slice (some ⟨b, o', none⟩) (h.toNat - l.toNat) (cap - l.toNat)) := .of fun a w oo ho _ he _ => by
  subst ho'
  have he' : P.elem t = e := by simp [Program.elem, ht.u]
  have hu : P.underlying t = some (.slice (P.elem t)) := by rw [he', ht.u]
  have := run_slice_lh (P := P) w t (some ⟨b, o, none⟩) len cap hu kl kh l h h0 h1 h2
  rw [he', hz.sizeOf, Result.andThen] at this
  simp only [sliced] at this
  rw [if_neg (by omega), Option.map_some, addr_add] at this
  simp only [execOp, ho, he.ev hx, Option.map_some, Option.map_none, he.ev hl, he.ev hh, run_sliceAt_slice w t _ _ _ _ hu, Sem.run_bind, this]; rfl
theorem p_slice_sl_l {x lo : Operand} {t e : TypeId} {len cap b o size bytes : Nat} {z : Value} {kl : IntKind} {l : Int} [ht : TU P t (.slice e)] [hz : TZ P e z size bytes]
    (hx : ev E x = some (.slice (some ⟨b, o, none⟩) len cap)) (hl : ev E lo = some (.int kl l)) (h0 : 0 ≤ l) (h1 : l ≤ len) :
    PureAt P n F E L (.slice t x (some lo) none none) ty (.slice (some ⟨b, o + (if l.toNat = cap then 0 else l.toNat * size), none⟩) (len - l.toNat) (cap - l.toNat)) := .of fun a w oo ho _ he _ => by
  have he' : P.elem t = e := by simp [Program.elem, ht.u]
  have hu : P.underlying t = some (.slice (P.elem t)) := by rw [he', ht.u]
  have := run_slice_l (P := P) w t (some ⟨b, o, none⟩) len cap hu kl l h0 h1
  rw [he', hz.sizeOf, Result.andThen] at this
  have e2 : sliced (some ⟨b, o, none⟩) l.toNat len cap size = .slice (some ⟨b, o + (if l.toNat = cap then 0 else l.toNat * size), none⟩) (len - l.toNat) (cap - l.toNat) := by
    simp only [sliced]
    by_cases hc : cap = l.toNat
    · rw [if_pos hc, if_pos hc.symm]; rfl
    · rw [if_neg hc, if_neg (fun h => hc h.symm), Option.map_some, addr_add]
  rw [e2] at this
  simp only [execOp, ho, he.ev hx, Option.map_some, Option.map_none, he.ev hl, run_sliceAt_slice w t _ _ _ _ hu, Sem.run_bind, this]; rfl
theorem p_slice_sl_h {x hi : Operand} {t e : TypeId} {len cap size bytes : Nat} {ad : Option Addr} {z : Value} {kh : IntKind} {h : Int} [ht : TU P t (.slice e)] [hz : TZ P e z size bytes]
    (hx : ev E x = some (.slice ad len cap)) (hh : ev E hi = some (.int kh h)) (h0 : 0 ≤ h) (h1 : h ≤ cap) :
    PureAt P n F E L (.slice t x none (some hi) none) ty (.slice ad h.toNat cap) := .of fun a w oo ho _ he _ => by
  have he' : P.elem t = e := by simp [Program.elem, ht.u]
  have hu : P.underlying t = some (.slice (P.elem t)) := by rw [he', ht.u]
  have := run_slice_h (P := P) w t ad len cap hu kh h h0 h1
  rw [he', hz.sizeOf, Result.andThen] at this
  have e2 : sliced ad 0 h.toNat cap size = .slice ad h.toNat cap := by
    simp only [sliced]
    by_cases hc : cap = 0
    · rw [if_pos hc]; simp
    · rw [if_neg hc]; simp only [Nat.zero_mul]
      cases ad <;> simp [Addr.add]
  rw [e2] at this
  simp only [execOp, ho, he.ev hx, Option.map_some, Option.map_none, he.ev hh, run_sliceAt_slice w t _ _ _ _ hu, Sem.run_bind, this]; rfl
theorem p_slice_str {x lo hi : Operand} {t : TypeId} {s : ByteArray} {kl kh : IntKind} {l h : Int} [ht : TU P t .string]
    (hx : ev E x = some (.string s)) (hl : ev E lo = some (.int kl l)) (hh : ev E hi = some (.int kh h)) (h0 : 0 ≤ l) (h1 : l ≤ h) (h2 : h ≤ s.size) :
    PureAt P n F E L (.slice t x (some lo) (some hi) none) ty (.string (s.extract l.toNat h.toNat)) := .of fun a w oo ho _ he _ => by
  have hs : ∀ x lo hi mx, (Instr.sliceAt t x lo hi mx).run P w = (Instr.slice t x lo hi mx).run P w := fun x lo hi mx => by
    simp [Instr.sliceAt, run_underlying ht.u]
  simp only [execOp, ho, he.ev hx, Option.map_some, Option.map_none, he.ev hl, he.ev hh, Sem.run_bind, hs, run_slice_string w t s kl kh l h ht.u h0 h1 h2]; rfl
theorem p_slice_str_l {x lo : Operand} {t : TypeId} {s : ByteArray} {kl : IntKind} {l : Int} [ht : TU P t .string]
    (hx : ev E x = some (.string s)) (hl : ev E lo = some (.int kl l)) (h0 : 0 ≤ l) (h1 : l ≤ s.size) :
    PureAt P n F E L (.slice t x (some lo) none none) ty (.string (s.extract l.toNat s.size)) := .of fun a w oo ho _ he _ => by
  have hs : ∀ x lo hi mx, (Instr.sliceAt t x lo hi mx).run P w = (Instr.slice t x lo hi mx).run P w := fun x lo hi mx => by
    simp [Instr.sliceAt, run_underlying ht.u]
  simp only [execOp, ho, he.ev hx, Option.map_some, Option.map_none, he.ev hl, Sem.run_bind, hs, run_slice_string_from_if w t s kl l ht.u, if_pos (And.intro h0 h1)]; rfl
theorem p_slice_str_h {x hi : Operand} {t : TypeId} {s : ByteArray} {kh : IntKind} {h : Int} [ht : TU P t .string]
    (hx : ev E x = some (.string s)) (hh : ev E hi = some (.int kh h)) (h0 : 0 ≤ h) (h1 : h ≤ s.size) :
    PureAt P n F E L (.slice t x none (some hi) none) ty (.string (s.extract 0 h.toNat)) := .of fun a w oo ho _ he _ => by
  have hs : ∀ x lo hi mx, (Instr.sliceAt t x lo hi mx).run P w = (Instr.slice t x lo hi mx).run P w := fun x lo hi mx => by
    simp [Instr.sliceAt, run_underlying ht.u]
  have hr : (Instr.slice t (.string s) none (some (.int kh h)) none).run P w = .ok (.string (s.extract 0 h.toNat)) w := by
    simp [Instr.slice, run_underlying ht.u, Instr.sliceBounds, Instr.sliceBound, asIntOf, h0, h1]
  simp only [execOp, ho, he.ev hx, Option.map_some, Option.map_none, he.ev hh, Sem.run_bind, hs, hr]; rfl

/-! ### strings, bools -/
def bv (x : UInt8) : Value := .int .u8 (x.toNat : Int)
/-- Bytes as values. -/
def bvs (l : List UInt8) : List Value := l.map bv
theorem bvs_length (l : List UInt8) : (bvs l).length = l.length := by simp [bvs]
theorem bvs_append (l m : List UInt8) : bvs (l ++ m) = bvs l ++ bvs m := by simp [bvs]
theorem bvs_take (l : List UInt8) (k : Nat) : (bvs l).take k = bvs (l.take k) := by simp [bvs]
theorem bvs_drop (l : List UInt8) (k : Nat) : (bvs l).drop k = bvs (l.drop k) := by simp [bvs]
theorem bvs_get {l : List UInt8} {k : Nat} {x : UInt8} (h : l[k]? = some x) : (bvs l)[k]? = some (bv x) := by simp [bvs, h]
theorem bvs_one (l : List UInt8) : oneCells (bvs l) := fun u hu => by obtain ⟨x, _, rfl⟩ := List.mem_map.1 hu; rfl
theorem str_ext {p q : ByteArray} (h : p.toList = q.toList) : p = q := by
  rw [ByteArray.toList_eq, ByteArray.toList_eq] at h
  cases p; cases q
  congr
  exact Array.ext' h

theorem p_seq {x y : Operand} {t u : TypeId} {p q : ByteArray} (hx : ev E x = some (.string p)) (hy : ev E y = some (.string q)) : PureAt P n F E L (.binOp .eql t x y u) ty (.bool (decide (p = q))) := p_sbin hx hy fun w => by
  simp only [binOp_string_eql]; by_cases h : p = q
  · simp [h]
  · have : ¬ p.toList = q.toList := fun e => h (str_ext e)
    simp [h, this]
theorem p_sneq {x y : Operand} {t u : TypeId} {p q : ByteArray} (hx : ev E x = some (.string p)) (hy : ev E y = some (.string q)) : PureAt P n F E L (.binOp .neq t x y u) ty (.bool (decide (p ≠ q))) := p_sbin hx hy fun w => by
  simp only [binOp_string_neq]; by_cases h : p = q
  · simp [h]
  · have : ¬ p.toList = q.toList := fun e => h (str_ext e)
    simp [h, this]
theorem p_seq_t {x y : Operand} {t u : TypeId} {p q : ByteArray} (hx : ev E x = some (.string p)) (hy : ev E y = some (.string q)) (h : p = q) : PureAt P n F E L (.binOp .eql t x y u) ty (.bool true) := by
  have := p_seq (P := P) (n := n) (F := F) (L := L) (ty := ty) (t := t) (u := u) hx hy; rwa [decide_eq_true h] at this
theorem p_seq_f {x y : Operand} {t u : TypeId} {p q : ByteArray} (hx : ev E x = some (.string p)) (hy : ev E y = some (.string q)) (h : ¬ (p = q)) : PureAt P n F E L (.binOp .eql t x y u) ty (.bool false) := by
  have := p_seq (P := P) (n := n) (F := F) (L := L) (ty := ty) (t := t) (u := u) hx hy; rwa [decide_eq_false h] at this
theorem p_sneq_t {x y : Operand} {t u : TypeId} {p q : ByteArray} (hx : ev E x = some (.string p)) (hy : ev E y = some (.string q)) (h : p ≠ q) : PureAt P n F E L (.binOp .neq t x y u) ty (.bool true) := by
  have := p_sneq (P := P) (n := n) (F := F) (L := L) (ty := ty) (t := t) (u := u) hx hy; rwa [decide_eq_true h] at this
theorem p_sneq_f {x y : Operand} {t u : TypeId} {p q : ByteArray} (hx : ev E x = some (.string p)) (hy : ev E y = some (.string q)) (h : p = q) : PureAt P n F E L (.binOp .neq t x y u) ty (.bool false) := by
  have := p_sneq (P := P) (n := n) (F := F) (L := L) (ty := ty) (t := t) (u := u) hx hy; rwa [decide_eq_false (fun c => c h)] at this
theorem p_index_str {x i : Operand} {t : TypeId} {s : ByteArray} {k : IntKind} {j : Int} {c : UInt8} [ht : TU P t .string] (hx : ev E x = some (.string s)) (hi : ev E i = some (.int k j)) (h0 : 0 ≤ j) (hc : s.data.toList[j.toNat]? = some c) :
    PureAt P n F E L (.index t x i) ty (.int .u8 c.toNat) := .of fun a w oo ho _ he _ => by
  have hlt : j.toNat < s.size := by
    rcases Nat.lt_or_ge j.toNat s.size with h | h
    · exact h
    · rw [List.getElem?_eq_none (by simpa using h)] at hc; cases hc
  have hs : 0 ≤ j ∧ j < s.size := ⟨h0, by omega⟩
  have hr := run_index_string (P := P) w t s k j ht.u
  rw [dif_pos hs] at hr
  have e : s[j.toNat] = c := by
    have : s.data.toList[j.toNat]? = some s.data[j.toNat] := by simp [hlt]
    rw [this] at hc; exact Option.some.inj hc
  rw [e] at hr
  simp only [execOp, ho, he.ev hx, he.ev hi, Sem.run_bind, hr]; rfl
/-- An element of one cell of an array value. -/
theorem p_index_arr {x i : Operand} {t e : TypeId} {len bytes : Nat} {z : Value} {l : List Value} {k : IntKind} {j : Int} {v : Value} [ht : TU P t (.array len e)] [hz : TZ P e z 1 bytes] [hs : TS P e] (hx : ev E x = some (.agg l.toArray)) (hi : ev E i = some (.int k j)) (h0 : 0 ≤ j) (h1 : j < len) (hv : l[j.toNat]? = some v) :
    PureAt P n F E L (.index t x i) ty v := .of fun a w oo ho _ he _ => by
  have hp : (part e l.toArray (j.toNat * 1)).run P w = .ok v w := by
    simp [part, hs.isAgg, hv]
  have hr : (Instr.index t (.agg l.toArray) (.int k j)).run P w = .ok v w := by
    simp only [Instr.index, asIntOf, Sem.run_bind, Sem.run_pure, Result.andThen, run_underlying ht.u]
    rw [if_pos ⟨h0, h1⟩]
    simp only [Sem.run_bind, hz.sizeOf, Result.andThen, hp]
  simp only [execOp, ho, he.ev hx, he.ev hi, Sem.run_bind, hr]; rfl
theorem p_beq {x y : Operand} {t u : TypeId} {p q : Bool} [ht : TU P t .bool] (hx : ev E x = some (.bool p)) (hy : ev E y = some (.bool q)) : PureAt P n F E L (.binOp .eql t x y u) ty (.bool (p == q)) := .of fun a w oo ho _ he _ => by
  have hg : (eqGuard .eql t x y (.bool p) (.bool q)).run P w = .ok () w := by unfold eqGuard; rfl
  simp only [execOp, ho, he.ev hx, he.ev hy, Sem.run_bind, hg, Result.andThen, run_eql_bool w t p q ht.u]; rfl
theorem p_bneq {x y : Operand} {t u : TypeId} {p q : Bool} [ht : TU P t .bool] (hx : ev E x = some (.bool p)) (hy : ev E y = some (.bool q)) : PureAt P n F E L (.binOp .neq t x y u) ty (.bool (p != q)) := .of fun a w oo ho _ he _ => by
  have hg : (eqGuard .neq t x y (.bool p) (.bool q)).run P w = .ok () w := by unfold eqGuard; rfl
  simp only [execOp, ho, he.ev hx, he.ev hy, Sem.run_bind, hg, Result.andThen, run_neq_bool w t p q ht.u]; rfl

/-- A string out of bytes that lie in memory. -/
theorem p_string {x : Operand} {src dst e : TypeId} {b o m c : Nat} {l : List Value} {et : TypeId} {fr : Nat × Nat} {bs : List UInt8} [h1 : TU P src (.slice e)] [h2 : TU P e (.int .u8)] [h3 : TU P dst .string]
    (hx : ev E x = some (.slice (some ⟨b, o, none⟩) m c)) (hb : Held F L b (.cells l.toArray et fr)) (hc : Cut l o m (bvs bs)) :
    PureAt P n F E L (.convert src dst x) ty (.string ⟨bs.toArray⟩) := .of fun a w oo ho _ he hs => by
  have hlen := hc.get.1
  rw [bvs_length] at hlen
  subst hlen
  have hr := run_convert_bytes_back (P := P) w src dst e ⟨b, o, none⟩ c bs h1.u h2.u h3.u (fun j hj => by
    rw [addr_add, heap_cell (hb.heap hs)]
    exact hc.get.2 j _ (bvs_get (by simp [hj])))
  simp only [execOp, ho, he.ev hx, Sem.run_bind, hr]; rfl

/-! ### a slice that the call owns -/
structure Own where
  b : Nat
  cap : Nat
  rest : List Value
  fr : Nat × Nat

def slV (len : Nat) : Option Own → Value
  | none => .slice none 0 0
  | some s => .slice (some ⟨s.b, 0, none⟩) len s.cap
def slL (et : TypeId) (xs : List Value) : Option Own → Bl
  | none => []
  | some s => [(s.b, .cells (xs ++ s.rest).toArray et s.fr)]
def slOK (size len : Nat) (xs : List Value) : Option Own → Prop
  | none => len = 0 ∧ xs = []
  | some s => xs.length = len * size ∧ (xs ++ s.rest).length = s.cap * size ∧ len ≤ s.cap ∧ Thaw s.fr (s.cap * size)

/-- Cells that lie in memory, as an append's or a copy's source. -/
def Src (F : Fr) (L : Bl) (size : Nat) (v : Value) (m : Nat) (news : List Value) : Prop :=
  news.length = m * size ∧ oneCells news ∧ ∃ ad c, v = .slice ad m c ∧ (m = 0 ∨ ∃ b o l t fr, ad = some ⟨b, o, none⟩ ∧ Held F L b (.cells l t fr) ∧ ∀ j u, news[j]? = some u → l[o + j]? = some u)

theorem Src.cut {size b o m c : Nat} {l news : List Value} {t : TypeId} {fr : Nat × Nat} (hb : Held F L b (.cells l.toArray t fr)) (hc : Cut l o (m * size) news) (h1 : oneCells news) : Src F L size (.slice (some ⟨b, o, none⟩) m c) m news :=
  ⟨hc.get.1, h1, _, _, rfl, .inr ⟨b, o, l.toArray, t, fr, rfl, hb, fun j u hu => by have := hc.get.2 j u hu; simpa using this⟩⟩
theorem oneCells_nil : oneCells [] := fun _ h => by cases h
theorem Src.empty {size : Nat} {ad : Option Addr} {c : Nat} : Src F L size (.slice ad 0 c) 0 [] := ⟨by simp, oneCells_nil, ad, c, rfl, .inl rfl⟩

theorem Src.first {size m : Nat} {v : Value} {news : List Value} (h : Src F L size v m news) {w : World} (hs : St F L w) : (Builtin.lenOf v).run P w = .ok m w ∧ ∀ k, k ≤ m → (Builtin.firstCells size k v).run P w = .ok (news.take (k * size)).toArray w := by
  obtain ⟨hl, _, ad, c, rfl, hh⟩ := h
  refine ⟨rfl, fun k hk => ?_⟩
  rcases hh with rfl | ⟨b, o, l, t, fr, rfl, hb, hc⟩
  · obtain rfl : k = 0 := by omega
    cases ad <;> simp [Builtin.firstCells, loadCells, loadCellsFrom]
  · have hlen : (news.take (k * size)).length = k * size := by
      rw [List.length_take, hl]; exact Nat.min_eq_left (Nat.mul_le_mul_right _ hk)
    have := run_loadCells_list (P := P) w ⟨b, o, none⟩ (news.take (k * size)) (fun j u hu => by
      rw [addr_add]
      simp only [World.cell?, hb.heap hs]
      refine hc j u ?_
      rw [List.getElem?_take] at hu
      split at hu
      · exact hu
      · cases hu)
    rw [hlen] at this
    simp [Builtin.firstCells, this]

theorem zeroCells_toList {z : List Value} {n : Nat} : (Builtin.zeroCells z.toArray n).toList.length = n * z.length := by
  simp [Builtin.zeroCells]

theorem slL_mem {et : TypeId} {xs : List Value} {s : Own} {Lr : Bl} (hp : L.Perm (slL et xs (some s) ++ Lr)) : (s.b, .cells (xs ++ s.rest).toArray et s.fr) ∈ L :=
  hp.mem_iff.2 (by simp [slL])

theorem m_append {s x : Operand} {t e size bytes : Nat} {z : Value} {zl : List Value} {sv : Option Own} {len m : Nat} {xs news : List Value} {v : Value} {Lr : Bl} [ht : TU P t (.slice e)] [hz : TZ P e z size bytes]
    (hzl : z.cells = zl.toArray) (hzs : zl.length = size) (hx : ev E s = some (slV len sv)) (hy : ev E x = some v) (hp : L.Perm (slL e xs sv ++ Lr)) (hok : slOK size len xs sv) (hsrc : Src F L size v m news)
    (hbytes : (len + m) * bytes ≤ 140737488355328) (hmax : len + m ≤ 9223372036854775807) (hpos : 0 < size) :
    StepAt P n F E L (.call { callee := .builtin .append, args := #[s, x], argTypes := #[t, t] }) ty (fun sv' : Option Own => slOK size (len + m) (xs ++ news) sv' ∧ (sv' = none → sv = none ∧ m = 0)) (fun sv' => slV (len + m) sv') (fun sv' => slL e (xs ++ news) sv' ++ Lr) := .of fun a w oo ho _ he hs => by
  obtain ⟨i, hi1, hi2, hi3, hi4⟩ := hz.parts
  subst hi3 hi4
  have hs' := hs.perm hp
  obtain ⟨hlenOf, hfirst⟩ := hsrc.first (P := P) hs
  obtain ⟨hnl, hn1, ad, c, rfl, hsrc'⟩ := hsrc
  have hex : ∀ r w', (Builtin.append_ #[t, t] oo.type #[slV len sv, .slice ad m c]).run P w = .ok r w' → (execOp a.eval oo).run P w = .ok (.value r) w' := fun r w' h => by
    simp [execOp, ho, he.ev hx, he.ev hy, resolve, invoke, builtin, h]
  have hlen : xs.length = len * i.size := by
    cases sv with
    | none => obtain ⟨rfl, rfl⟩ := hok; simp
    | some s => exact hok.1
  have hxl : (xs ++ news).length = (len + m) * i.size := by rw [List.length_append, hlen, hnl, Nat.add_mul]
  have fresh : ∀ (old : Nat), old < len + m → ∃ s' : Own, s'.b = w.heap.size ∧ s'.cap = grownCap w (len + m) old e ∧ slOK i.size (len + m) (xs ++ news) (some s') ∧
      St F (slL e (xs ++ news) (some s') ++ Lr) (w.drew.alloc (.cells (xs.toArray ++ news.toArray ++ Builtin.zeroCells z.cells (grownCap w (len + m) old e - (len + m))) e)) := fun old ho => by
    have hge := grownCap_ge w (len + m) old e
    refine ⟨⟨w.heap.size, grownCap w (len + m) old e, (Builtin.zeroCells z.cells (grownCap w (len + m) old e - (len + m))).toList, (0, 0)⟩, rfl, rfl, ⟨hxl, ?_, hge, .zero _⟩, ?_⟩
    · rw [List.length_append, hxl, hzl, zeroCells_toList, hzs, ← Nat.add_mul]
      congr 1
      show len + m + (grownCap w (len + m) old e - (len + m)) = grownCap w (len + m) old e
      omega
    · have h1 := (hs'.drop.drew).alloc (.cells ((xs ++ news) ++ (Builtin.zeroCells z.cells (grownCap w (len + m) old e - (len + m))).toList).toArray e)
      have e1 : ((xs ++ news) ++ (Builtin.zeroCells z.cells (grownCap w (len + m) old e - (len + m))).toList).toArray = xs.toArray ++ news.toArray ++ Builtin.zeroCells z.cells (grownCap w (len + m) old e - (len + m)) := by
        apply Array.ext'; simp
      rw [e1] at h1
      simp only [slL, List.cons_append, List.nil_append]
      rw [e1]
      exact h1
  cases sv with
  | none =>
    obtain ⟨rfl, rfl⟩ := hok
    by_cases hm : m = 0
    · subst hm
      obtain rfl : news = [] := List.eq_nil_of_length_eq_zero (by simpa using hnl)
      refine ⟨none, w, ⟨⟨rfl, rfl⟩, fun _ => ⟨rfl, rfl⟩⟩, hex _ _ ?_, by simpa [slL] using hs'⟩
      have hf := hfirst 0 (Nat.le_refl _)
      simp only [Nat.zero_mul, List.take_zero] at hf
      simp [Builtin.append_, slV, run_underlying ht.u, Go.sizeOf, typeInfo, hi1, hlenOf, hf]
    · rcases hsrc' with h | ⟨b, o, l, t', fr, rfl, hb, hc⟩
      · exact absurd h hm
      · obtain ⟨s', e1, e2, hk, hst⟩ := fresh 0 (by omega)
        refine ⟨some s', _, ⟨hk, fun h => by cases h⟩, hex _ _ ?_, hst⟩
        have hr := run_append_nil (P := P) w t oo.type e i z ht.u hi1 hi2 ⟨b, o, none⟩ m c news hnl (fun j u hu => by rw [addr_add]; simp only [World.cell?, hb.heap hs]; exact hc j u hu) (by omega) (by omega) (by simp only [Nat.zero_add] at hbytes; omega)
        have e1' : s'.b = w.heap.size := e1
        simp only [Nat.zero_add] at hr e2 ⊢
        simp only [slV, e1', e2]
        rw [hr]
        simp
  | some s =>
    obtain ⟨h1, h2, h3, h4⟩ := hok
    have hblk := hs.own _ (slL_mem hp)
    simp only at hblk
    by_cases hroom : len + m ≤ s.cap
    · have hfit : len * i.size + news.length ≤ (xs ++ s.rest).length := by rw [hnl, h2, ← Nat.add_mul]; exact Nat.mul_le_mul_right _ hroom
      have hst := run_storeCells_fr (P := P) s.b (len * i.size) e s.fr news 0 (xs ++ s.rest) w hblk (by simpa using hfit) (by rw [h2]; exact h4) hn1
      have hrow : (xs ++ s.rest).take (len * i.size + 0) ++ news ++ (xs ++ s.rest).drop (len * i.size + 0 + news.length) = (xs ++ news) ++ s.rest.drop news.length := by
        rw [Nat.add_zero, ← hlen, List.take_left, List.drop_length_add_append]
      rw [hrow] at hst
      refine ⟨some ⟨s.b, s.cap, s.rest.drop news.length, s.fr⟩, w.setRow s.b ((xs ++ news) ++ s.rest.drop news.length).toArray, ⟨⟨hxl, ?_, hroom, h4⟩, fun h => by cases h⟩, hex _ _ ?_, ?_⟩
      · simp only [List.length_append, List.length_drop] at h2 hfit ⊢; omega
      · have hf := hfirst m (Nat.le_refl _)
        rw [show news.take (m * i.size) = news from List.take_of_length_le (by omega)] at hf
        simp [Builtin.append_, slV, run_underlying ht.u, Go.sizeOf, typeInfo, hi1, Builtin.lenOf, hroom, hf, addr_add, hst]
      · have := hs'.row' (b := s.b) (l := xs ++ s.rest) (l' := (xs ++ news) ++ s.rest.drop news.length) (t := e) (fr := s.fr) (L' := slL e (xs ++ news) (some ⟨s.b, s.cap, s.rest.drop news.length, s.fr⟩) ++ Lr) (by simp only [slL, List.cons_append, List.nil_append]; exact .head)
        exact this
    · have hm0 : m ≠ 0 := by omega
      rcases hsrc' with h | ⟨b, o, l, t', fr, rfl, hb, hc⟩
      · exact absurd h hm0
      · obtain ⟨s', e1, e2, hk, hst⟩ := fresh s.cap (by omega)
        refine ⟨some s', _, ⟨hk, fun h => by cases h⟩, hex _ _ ?_, hst⟩
        have holds : ∀ j u, xs[j]? = some u → w.cell? ((⟨s.b, 0, none⟩ : Addr).add j) = some u := fun j u hu => by
          rw [addr_add, heap_cell hblk, Nat.zero_add, List.getElem?_append_left]
          · exact hu
          · rcases Nat.lt_or_ge j xs.length with h | h
            · exact h
            · rw [List.getElem?_eq_none h] at hu; cases hu
        have hr := run_append_grow (P := P) w t oo.type e i z ht.u hi1 hi2 ⟨s.b, 0, none⟩ len s.cap xs hlen holds ⟨b, o, none⟩ m c news hnl (fun j u hu => by rw [addr_add]; simp only [World.cell?, hb.heap hs]; exact hc j u hu) (by omega) (by omega) (growslice_fits (by omega) hbytes)
        simp only [slV, e1, e2]
        exact hr

/-- 'copy' into a row of the list, of elements of one cell. -/
theorem m_copy {d s : Operand} {dT sT e bytes : Nat} {z v : Value} {g o dLen dCap m : Nat} {l l' news : List Value} {t : TypeId} {fr : Nat × Nat} {L' : Bl} [ht : TU P dT (.slice e)] [hz : TZ P e z 1 bytes]
    (hd : ev E d = some (.slice (some ⟨g, o, none⟩) dLen dCap)) (hsv : ev E s = some v) (hsrc : Src F L 1 v m news) (hb : BSet L g (.cells l.toArray t fr) (.cells l'.toArray t fr) L')
    (hp : Patch l o (news.take dLen) l') (hf : Thaw fr l.length) :
    StepAt P n F E L (.call { callee := .builtin .copy, args := #[d, s], argTypes := #[dT, sT] }) ty (fun _ : Unit => True) (fun _ => .int .i64 (Nat.min m dLen : Nat)) (fun _ => L') := .of fun a w oo ho _ he hs => by
  obtain ⟨hlenOf, hfirst⟩ := hsrc.first (P := P) hs
  obtain ⟨hnl, hn1, _⟩ := hsrc
  obtain ⟨p1, p2⟩ := hp.eq
  have hfc := hfirst (Nat.min m dLen) (Nat.min_le_left _ _)
  have hn : news.take (Nat.min m dLen * 1) = news.take dLen := by
    rw [Nat.mul_one] at *
    rcases Nat.le_total m dLen with h | h
    · rw [show Nat.min m dLen = m from Nat.min_eq_left h, List.take_of_length_le (by omega), List.take_of_length_le (by omega)]
    · rw [show Nat.min m dLen = dLen from Nat.min_eq_right h]
  rw [hn] at hfc
  have hst := run_storeCells_fr (P := P) g o t fr (news.take dLen) 0 l w (hs.own _ hb.mem) (by simpa using p1) hf (fun u hu => hn1 u (List.mem_of_mem_take hu))
  simp only [Nat.add_zero] at hst
  rw [← p2] at hst
  refine ⟨(), w.setRow g l'.toArray, trivial, ?_, hs.row' hb⟩
  have hcopy : (Builtin.copy_ #[dT, sT] oo.type #[.slice (some ⟨g, o, none⟩) dLen dCap, v]).run P w = .ok (.int .i64 (Nat.min m dLen : Nat)) (w.setRow g l'.toArray) := by
    simp [Builtin.copy_, run_underlying ht.u, hlenOf, hz.sizeOf, hfc, hst, goInt]
  simp [execOp, ho, he.ev hd, he.ev hsv, resolve, invoke, builtin, hcopy]

/-- A string as a copy's source. -/
theorem m_copy_str {d s : Operand} {dT sT e bytes : Nat} {z : Value} {g o dLen dCap : Nat} {l l' : List Value} {str : ByteArray} {t : TypeId} {fr : Nat × Nat} {L' : Bl} [ht : TU P dT (.slice e)] [hz : TZ P e z 1 bytes]
    (hd : ev E d = some (.slice (some ⟨g, o, none⟩) dLen dCap)) (hsv : ev E s = some (.string str)) (hb : BSet L g (.cells l.toArray t fr) (.cells l'.toArray t fr) L')
    (hp : Patch l o ((bvs str.data.toList).take dLen) l') (hf : Thaw fr l.length) :
    StepAt P n F E L (.call { callee := .builtin .copy, args := #[d, s], argTypes := #[dT, sT] }) ty (fun _ : Unit => True) (fun _ => .int .i64 (Nat.min str.size dLen : Nat)) (fun _ => L') := .of fun a w oo ho _ he hs => by
  obtain ⟨p1, p2⟩ := hp.eq
  have hfc : (Builtin.firstCells 1 (Nat.min str.size dLen) (.string str)).run P w = .ok ((bvs str.data.toList).take dLen).toArray w := by
    have hsz : str.data.toList.length = str.size := by simp
    have e : (bvs str.data.toList).take dLen = bvs (str.data.toList.take (Nat.min str.size dLen)) := by
      rw [bvs_take]
      rcases Nat.le_total str.size dLen with h | h
      · rw [show Nat.min str.size dLen = str.size from Nat.min_eq_left h, List.take_of_length_le (by omega), List.take_of_length_le (by omega)]
      · rw [show Nat.min str.size dLen = dLen from Nat.min_eq_right h]
    rw [e]
    simp only [Builtin.firstCells, Sem.run_pure]
    congr 1
    apply Array.ext'
    simp [bvs]
    rfl
  have hst := run_storeCells_fr (P := P) g o t fr ((bvs str.data.toList).take dLen) 0 l w (hs.own _ hb.mem) (by rw [Nat.add_zero]; exact p1) hf (fun u hu => bvs_one _ u (List.mem_of_mem_take hu))
  simp only [Nat.add_zero] at hst
  rw [← p2] at hst
  refine ⟨(), w.setRow g l'.toArray, trivial, ?_, hs.row' hb⟩
  have hcopy : (Builtin.copy_ #[dT, sT] oo.type #[.slice (some ⟨g, o, none⟩) dLen dCap, .string str]).run P w = .ok (.int .i64 (Nat.min str.size dLen : Nat)) (w.setRow g l'.toArray) := by
    simp [Builtin.copy_, run_underlying ht.u, Builtin.lenOf, hz.sizeOf, hfc, hst, goInt]
  simp [execOp, ho, he.ev hd, he.ev hsv, resolve, invoke, builtin, hcopy]

/-- '[]byte(s)'. -/
theorem m_bytes {x : Operand} {src dst e : TypeId} {s : ByteArray} [h1 : TU P src .string] [h2 : TU P dst (.slice e)] [h3 : TU P e (.int .u8)] (hx : ev E x = some (.string s)) :
    StepAt P n F E L (.convert src dst x) ty (fun sv : Own => slOK 1 s.size (bvs s.data.toList) (some sv)) (fun sv => slV s.size (some sv)) (fun sv => slL e (bvs s.data.toList) (some sv) ++ L) := .of fun a w oo ho _ he hs => by
  have hr := run_bytes_of_string (P := P) w src dst e s h1.u h2.u h3.u
  have hge := grownCap_ge w s.size 0 e
  have hrow : bytesRow s (grownCap w s.size 0 e) = ((bvs s.data.toList) ++ List.replicate (grownCap w s.size 0 e - s.size) (Value.int .u8 0)).toArray := by
    apply Array.ext'
    simp [bytesRow, bvs]
    exact fun _ _ => rfl
  have hsz : s.data.toList.length = s.size := by simp
  refine ⟨⟨w.heap.size, grownCap w s.size 0 e, List.replicate (grownCap w s.size 0 e - s.size) (Value.int .u8 0), ((bytesRow s (grownCap w s.size 0 e)).size, (bytesRow s (grownCap w s.size 0 e)).size + 1)⟩, w.drew.alloc (.cells (bytesRow s (grownCap w s.size 0 e)) e ((bytesRow s (grownCap w s.size 0 e)).size, (bytesRow s (grownCap w s.size 0 e)).size + 1)), ⟨by simp [bvs_length], ?_, hge, .inr ?_⟩, ?_, ?_⟩
  · simp only [List.length_append, bvs_length, List.length_replicate, hsz]; omega
  · rw [hrow]; simp only [List.size_toArray, List.length_append, bvs_length, List.length_replicate, hsz]; omega
  · simp only [execOp, ho, he.ev hx, Sem.run_bind, hr]; rfl
  · simp only [slL, List.cons_append, List.nil_append]
    rw [← hrow]
    exact hs.drew.alloc _
end
end Go.KE
