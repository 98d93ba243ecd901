/-
  header.said: whether a header says what its form has not, or a text with a byte 0.
  Conditions: the package-level variables hold what the program's text lays.
-/
import Derived.Test.YtjeaofabpfgngaaDoorA1
namespace Go.Proofs.YtjeaofabpfgngaaDoor
open Go.KE

structure Hdr where
  form : Int
  name : ByteArray
  pre : ByteArray
  mode : Int
  uid : Int
  gid : Int
  size : Int
  time : Int
  typ : UInt8
  link : ByteArray
  user : ByteArray
  group : ByteArray
  major : Int
  minor : Int

def hdrCells (h : Hdr) : List Value :=
  [i64 h.form, .string h.name, .string h.pre, i64 h.mode, i64 h.uid, i64 h.gid, i64 h.size, i64 h.time, bv h.typ, .string h.link, .string h.user, .string h.group, i64 h.major, i64 h.minor]

theorem indexByte_any (F : Fr) (s : ByteArray) : Does Tryd.prog 40 [.string s, .int .u8 0] F [] (fun u L' => L' = [] ∧ u = i64 (Lib.indexByte s.data.toList 0)) :=
  Does_of_calls fun w => Tryd.strings_IndexByte s 0 w

/-- text.has -/
theorem has_any (F : Fr) (f m : Int) (fv : Value) (b len cap : Nat) (form : Int) (zs : List Int) (hb : F.mem b (.cells (i64s zs).toArray 3 (0, 0))) (hzl : len = zs.length) (hlen : len ≤ 1000) :
    Does Tryd.prog 35 [.agg #[i64 f, i64 m, fv, .slice (some ⟨b, 0, none⟩) len cap], i64 form] F [] (fun v L' => L' = [] ∧ v = .bool (zs.contains form)) := by
  refine Does_of (n := 18) Tryd.func35 rfl rfl (by simp) ?_
  refine goW ?_
  refine a_box fun b1 => ?_
  refine goL ?_
  refine a_loop (fun k : Nat => k ≤ len ∧ (zs.take k).contains form = false) (fun k => [(10, i64 k), (8, .slice (some ⟨b, 0, none⟩) len cap), (9, i64 len), (1, i64 form)]) (fun _ => _) (fun k => len - k) 0 ⟨Nat.zero_le _, rfl⟩ ?_
  rintro k ⟨hk, hc⟩
  refine goW ?_
  refine KW_if rfl (fun h => ?_) (fun h => ?_)
  · have hkl : k < zs.length := by omega
    have hzk : (i64s zs)[k]? = some (i64 zs[k]) := by simp [i64s, hkl]
    have hstep : (zs.take (k + 1)).contains form = ((zs.take k).contains form || form == zs[k]) := by
      rw [List.take_succ_eq_append_getElem hkl, List.contains_append]
      simp only [List.contains_cons, List.contains_nil, Bool.or_false]
    refine goW ?_
    refine KL_p (.none rfl) rfl (p_load rfl (.fr hb) hzk) ?_
    refine goL ?_
    refine KW_if rfl (fun h => ?_) (fun h => ?_)
    · refine goW ?_
      refine KQ_drop (L1 := [_]) ?_
      refine a_ret1 ⟨rfl, ?_⟩
      have : zs.contains form = true := by
        rw [List.contains_iff_mem]; rw [← h]; exact List.getElem_mem _
      rw [this]
    · refine goW ?_
      refine a_next (k + 1) ⟨by omega, ?_⟩ (by omega)
      rw [hstep, hc]
      simp only [Bool.false_or, beq_eq_false_iff_ne]
      exact fun e => h e.symm
  · refine goW ?_
    refine KQ_drop (L1 := [_]) ?_
    refine a_ret1 ⟨rfl, ?_⟩
    have : zs.take k = zs := List.take_of_length_le (by omega)
    rw [this] at hc
    rw [hc]

/-- The texts of a header, with the forms that have them. -/
def txt (h : Hdr) : Nat → ByteArray × List Int
  | 0 => (h.name, [1, 2, 3])
  | 1 => (h.link, [1, 2, 3])
  | 2 => (h.user, [2, 3])
  | 3 => (h.group, [2, 3])
  | _ => (h.pre, [2])
def badTxt (form : Int) (t : ByteArray × List Int) : Bool := decide (0 ≤ Lib.indexByte t.1.data.toList 0) || (decide (t.1 ≠ ⟨#[]⟩) && !(t.2.contains form))
def num (h : Hdr) : Nat → Int × Int
  | 0 => (h.mode, 1)
  | 1 => (h.uid, 1)
  | 2 => (h.gid, 1)
  | 3 => (h.size, 1)
  | 4 => (h.time, 1)
  | 5 => (h.major, 2)
  | _ => (h.minor, 2)
def badNum (form : Int) (x : Int × Int) : Bool := decide (form < x.2) && decide (x.1 ≠ 0)
def saidB (h : Hdr) : Bool := (List.range 5).any (fun k => badTxt h.form (txt h k)) || (List.range 7).any (fun k => badNum h.form (num h k))

theorem said_txt {h : Hdr} (k : Nat) (hk : k < 5) (hb : badTxt h.form (txt h k) = true) : saidB h = true := by
  unfold saidB
  rw [Bool.or_eq_true]
  exact .inl (List.any_eq_true.2 ⟨k, List.mem_range.2 hk, hb⟩)
theorem said_num {h : Hdr} (k : Nat) (hk : k < 7) (hb : badNum h.form (num h k) = true) : saidB h = true := by
  unfold saidB
  rw [Bool.or_eq_true]
  exact .inr (List.any_eq_true.2 ⟨k, List.mem_range.2 hk, hb⟩)
theorem said_no {h : Hdr} (h1 : ∀ j, j < 5 → badTxt h.form (txt h j) = false) (h2 : ∀ j, j < 7 → badNum h.form (num h j) = false) : saidB h = false := by
  unfold saidB
  rw [Bool.or_eq_false_iff, List.any_eq_false, List.any_eq_false]
  exact ⟨fun j hj => by rw [h1 j (List.mem_range.1 hj)]; simp, fun j hj => by rw [h2 j (List.mem_range.1 hj)]; simp⟩
theorem lt_succ_cases {p : Nat → Prop} {k : Nat} (h : ∀ j, j < k → p j) (hk : p k) : ∀ j, j < k + 1 → p j := fun j hj => by
  rcases Nat.lt_or_ge j k with h' | h'
  · exact h j h'
  · obtain rfl : j = k := by omega
    exact hk

def tAt : Nat → Nat | 0 => 0 | 1 => 157 | 2 => 265 | 3 => 297 | _ => 345
def tLen : Nat → Nat | 0 => 100 | 1 => 100 | 2 => 32 | 3 => 32 | _ => 155
def tFld : Nat → Nat | 0 => 1 | 1 => 9 | 2 => 10 | 3 => 11 | _ => 2
def nAt : Nat → Nat | 0 => 100 | 1 => 108 | 2 => 116 | 3 => 124 | 4 => 136 | 5 => 329 | _ => 337
def nLen : Nat → Nat | 0 => 8 | 1 => 8 | 2 => 8 | 3 => 12 | 4 => 12 | 5 => 8 | _ => 8
def nFld : Nat → Nat | 0 => 3 | 1 => 4 | 2 => 5 | 3 => 6 | 4 => 7 | 5 => 12 | _ => 13
def tB (b3 b2 b1 : Nat) : Nat → Nat | 0 => b3 | 1 => b3 | 2 => b2 | 3 => b2 | _ => b1
def tN : Nat → Nat | 0 => 3 | 1 => 3 | 2 => 2 | 3 => 2 | _ => 1
abbrev tSl (b3 b2 b1 k : Nat) : Value := .slice (some ⟨tB b3 b2 b1 k, 0, none⟩) (tN k) (tN k)

theorem t_ok (k : Nat) : tAt k + tLen k ≤ 512 ∧ tAt k < 512 ∧ 32 ≤ tLen k := by
  unfold tAt tLen; split <;> omega
theorem n_ok (k : Nat) : nAt k + nLen k ≤ 512 ∧ nAt k < 512 ∧ 8 ≤ nLen k ∧ nLen k ≤ 12 := by
  unfold nAt nLen; split <;> omega

theorem t_row (b3 b2 b1 k : Nat) (h : k < 5) : Cut (textCells b3 b2 b1) (k * 4) 4 [i64 (tAt k), i64 (tLen k), fnv (41 + k), tSl b3 b2 b1 k] := by
  obtain rfl | rfl | rfl | rfl | rfl : k = 0 ∨ k = 1 ∨ k = 2 ∨ k = 3 ∨ k = 4 := by omega
  all_goals (repeat (first | exact Cut.nil | apply Cut.cons | apply Cut.skip))
theorem n_row (k : Nat) (h : k < 7) (hd : Hdr) : Cut numberCells (k * 4) 4 [i64 (nAt k), i64 (nLen k), fnv (46 + k), i64 (num hd k).2] := by
  obtain rfl | rfl | rfl | rfl | rfl | rfl | rfl : k = 0 ∨ k = 1 ∨ k = 2 ∨ k = 3 ∨ k = 4 ∨ k = 5 ∨ k = 6 := by omega
  all_goals (repeat (first | exact Cut.nil | apply Cut.cons | apply Cut.skip))
theorem t_fld (k : Nat) (h : k < 5) (hd : Hdr) : (hdrCells hd)[tFld k]? = some (.string (txt hd k).1) := by
  obtain rfl | rfl | rfl | rfl | rfl : k = 0 ∨ k = 1 ∨ k = 2 ∨ k = 3 ∨ k = 4 := by omega
  all_goals rfl
theorem n_fld (k : Nat) (h : k < 7) (hd : Hdr) : (hdrCells hd)[nFld k]? = some (i64 (num hd k).1) := by
  obtain rfl | rfl | rfl | rfl | rfl | rfl | rfl : k = 0 ∨ k = 1 ∨ k = 2 ∨ k = 3 ∨ k = 4 ∨ k = 5 ∨ k = 6 := by omega
  all_goals rfl

section calls
variable {n : Nat} {F : Fr} {Q : Post} {E : Sl} {L : Bl} {ops : Array Oper} {rest : List Oper} {ty : TypeId} {pos : String} {after : Array Edge} {dst : Nat} {fo : Operand} {xs : List Operand} {ts : Array TypeId}
theorem call_text (k : Nat) {b : Nat} (hk : k < 5) (c : KL Tryd.prog n F ops Q rest ((dst, .pointer (some ⟨b, tFld k, none⟩)) :: E) L)
    (hf : ev E fo = some (fnv (41 + k)) := by rfl) (hvs : evs E xs = some [.pointer (some ⟨b, 0, none⟩)] := by rfl) (hd : Nat.blt dst n = true := by rfl) :
    KL Tryd.prog n F ops Q (⟨some dst, .call { callee := .value fo, args := xs.toArray, argTypes := ts }, ty, pos, after, none⟩ :: rest) E L := by
  obtain rfl | rfl | rfl | rfl | rfl : k = 0 ∨ k = 1 ∨ k = 2 ∨ k = 3 ∨ k = 4 := by omega
  · exact a_call (clos41 _ b) (by rintro v L' ⟨rfl, rfl⟩; exact c) (.none rfl) hd hf hvs rfl
  · exact a_call (clos42 _ b) (by rintro v L' ⟨rfl, rfl⟩; exact c) (.none rfl) hd hf hvs rfl
  · exact a_call (clos43 _ b) (by rintro v L' ⟨rfl, rfl⟩; exact c) (.none rfl) hd hf hvs rfl
  · exact a_call (clos44 _ b) (by rintro v L' ⟨rfl, rfl⟩; exact c) (.none rfl) hd hf hvs rfl
  · exact a_call (clos45 _ b) (by rintro v L' ⟨rfl, rfl⟩; exact c) (.none rfl) hd hf hvs rfl
theorem call_num (k : Nat) {b : Nat} (hk : k < 7) (c : KL Tryd.prog n F ops Q rest ((dst, .pointer (some ⟨b, nFld k, none⟩)) :: E) L)
    (hf : ev E fo = some (fnv (46 + k)) := by rfl) (hvs : evs E xs = some [.pointer (some ⟨b, 0, none⟩)] := by rfl) (hd : Nat.blt dst n = true := by rfl) :
    KL Tryd.prog n F ops Q (⟨some dst, .call { callee := .value fo, args := xs.toArray, argTypes := ts }, ty, pos, after, none⟩ :: rest) E L := by
  obtain rfl | rfl | rfl | rfl | rfl | rfl | rfl : k = 0 ∨ k = 1 ∨ k = 2 ∨ k = 3 ∨ k = 4 ∨ k = 5 ∨ k = 6 := by omega
  · exact a_call (clos46 _ b) (by rintro v L' ⟨rfl, rfl⟩; exact c) (.none rfl) hd hf hvs rfl
  · exact a_call (clos47 _ b) (by rintro v L' ⟨rfl, rfl⟩; exact c) (.none rfl) hd hf hvs rfl
  · exact a_call (clos48 _ b) (by rintro v L' ⟨rfl, rfl⟩; exact c) (.none rfl) hd hf hvs rfl
  · exact a_call (clos49 _ b) (by rintro v L' ⟨rfl, rfl⟩; exact c) (.none rfl) hd hf hvs rfl
  · exact a_call (clos50 _ b) (by rintro v L' ⟨rfl, rfl⟩; exact c) (.none rfl) hd hf hvs rfl
  · exact a_call (clos51 _ b) (by rintro v L' ⟨rfl, rfl⟩; exact c) (.none rfl) hd hf hvs rfl
  · exact a_call (clos52 _ b) (by rintro v L' ⟨rfl, rfl⟩; exact c) (.none rfl) hd hf hvs rfl
theorem x_num {Lq : Bl} {N i : Nat} {g : Option (Nat × Bool)} (k : Nat) {b : Nat} (hk : k < 7) (c : KX Tryd.prog n F Lq ops N Q (i + 1) ((dst, .pointer (some ⟨b, nFld k, none⟩)) :: E) L)
    (hi : ops[i]? = some ⟨some dst, .call { callee := .value fo, args := xs.toArray, argTypes := ts }, ty, pos, after, g⟩ := by rfl) (hs : onlyAt ops N i = true := by decide +kernel) (hL : Sl1 L Lq := by (repeat (first | exact Sl1.nil | apply Sl1.keep | apply Sl1.skip)); done)
    (hg : Want ops E true g := by first | exact .none rfl | exact .some rfl rfl rfl) (hf : ev E fo = some (fnv (46 + k)) := by rfl) (hvs : evs E xs = some [.pointer (some ⟨b, 0, none⟩)] := by rfl) (hd : Nat.blt dst n = true := by rfl) :
    KX Tryd.prog n F Lq ops N Q i E L := by
  obtain rfl | rfl | rfl | rfl | rfl | rfl | rfl : k = 0 ∨ k = 1 ∨ k = 2 ∨ k = 3 ∨ k = 4 ∨ k = 5 ∨ k = 6 := by omega
  · exact x_call (clos46 _ b) (by rintro v L' ⟨rfl, rfl⟩; exact c) hi hs hL hg hd hf hvs rfl
  · exact x_call (clos47 _ b) (by rintro v L' ⟨rfl, rfl⟩; exact c) hi hs hL hg hd hf hvs rfl
  · exact x_call (clos48 _ b) (by rintro v L' ⟨rfl, rfl⟩; exact c) hi hs hL hg hd hf hvs rfl
  · exact x_call (clos49 _ b) (by rintro v L' ⟨rfl, rfl⟩; exact c) hi hs hL hg hd hf hvs rfl
  · exact x_call (clos50 _ b) (by rintro v L' ⟨rfl, rfl⟩; exact c) hi hs hL hg hd hf hvs rfl
  · exact x_call (clos51 _ b) (by rintro v L' ⟨rfl, rfl⟩; exact c) hi hs hL hg hd hf hvs rfl
  · exact x_call (clos52 _ b) (by rintro v L' ⟨rfl, rfl⟩; exact c) hi hs hL hg hd hf hvs rfl
end calls

theorem t_forms (b3 b2 b1 k : Nat) (h : k < 5) (hd : Hdr) : (tB b3 b2 b1 k, Obj.cells (i64s (txt hd k).2).toArray 3 (0, 0)) ∈ [(b1, Obj.cells [i64 2].toArray 3 (0, 0)), (b2, .cells [i64 2, i64 3].toArray 3 (0, 0)), (b3, .cells [i64 1, i64 2, i64 3].toArray 3 (0, 0))] ∧ tN k = (txt hd k).2.length := by
  obtain rfl | rfl | rfl | rfl | rfl : k = 0 ∨ k = 1 ∨ k = 2 ∨ k = 3 ∨ k = 4 := by omega
  · exact ⟨.tail _ (.tail _ (.head _)), rfl⟩
  · exact ⟨.tail _ (.tail _ (.head _)), rfl⟩
  · exact ⟨.tail _ (.head _), rfl⟩
  · exact ⟨.tail _ (.head _), rfl⟩
  · exact ⟨.head _, rfl⟩

set_option maxRecDepth 10000 in
set_option maxHeartbeats 4000000 in
theorem said_any (F : Fr) (hg : Glob F) (b : Nat) (et : TypeId) (fr : Nat × Nat) (h : Hdr) (hb : F.mem b (.cells (hdrCells h).toArray et fr)) :
    Does Tryd.prog 18 [.pointer (some ⟨b, 0, none⟩)] F [] (fun v L' => L' = [] ∧ v = .bool (saidB h)) := by
  refine Does_of (n := 60) Tryd.func18 rfl rfl (by simp) ?_
  refine goW ?_
  refine a_call (texts_any _ (hg.plus _)) ?_
  rintro v L' ⟨bt, b1, b2, b3, rfl, rfl⟩
  refine goL ?_
  refine a_loop (fun k : Nat => k ≤ 5 ∧ ∀ j, j < k → badTxt h.form (txt h j) = false) (fun k => [(10, i64 k), (8, .slice (some ⟨bt, 0, none⟩) 5 5), (9, i64 5), (0, .pointer (some ⟨b, 0, none⟩))])
    (fun _ => [(bt, .cells (textCells b3 b2 b1).toArray 49 (0, 0)), (b1, .cells [i64 2].toArray 3 (0, 0)), (b2, .cells [i64 2, i64 3].toArray 3 (0, 0)), (b3, .cells [i64 1, i64 2, i64 3].toArray 3 (0, 0))]) (fun k => 5 - k) 0 ⟨by omega, fun j hj => by omega⟩ ?_
  rintro k ⟨hk, hc⟩
  refine goW ?_
  refine KW_if rfl (fun hlt => ?_) (fun hlt => ?_)
  · have hk5 : k < 5 := by omega
    refine goW ?_
    refine KL_p (.none rfl) rfl (p_load_agg rfl (.own (.head _)) (t_row b3 b2 b1 k hk5)) ?_
    refine goL ?_
    refine a_alloc fun b4 => ?_
    refine goL ?_
    refine call_text k hk5 ?_
    refine goL ?_
    refine KL_p (.none rfl) rfl (p_load rfl (.fr hb) (t_fld k hk5 h)) ?_
    refine goL ?_
    by_cases hz : 0 ≤ Lib.indexByte (txt h k).1.data.toList 0
    · refine x_start [] ?_
      refine goX ?_
      refine x_call (indexByte_any _ _) ?_
      rintro v L' ⟨rfl, rfl⟩
      refine goX ?_
      refine KQ_clear ?_
      refine a_ret1 ⟨rfl, ?_⟩
      rw [said_txt k hk5 (by simp [badTxt, hz])]
    · by_cases he : (txt h k).1 = ⟨#[]⟩
      · refine x_start [] ?_
        refine goX ?_
        refine x_call (indexByte_any _ _) ?_
        rintro v L' ⟨rfl, rfl⟩
        refine goX ?_
        refine KQ_drop (L1 := [_]) ?_
        exact a_next (k + 1) ⟨by omega, lt_succ_cases hc (by rw [← Bool.not_eq_true]; simp only [badTxt, Bool.or_eq_true, decide_eq_true_eq, Bool.and_eq_true, not_or, not_and]; exact ⟨hz, fun e => absurd he e⟩)⟩ (by omega)
      · refine x_start [(b4, .cells [i64 (tAt k), i64 (tLen k), fnv (41 + k), tSl b3 b2 b1 k].toArray 49 (0, 0))] ?_
        refine goX ?_
        refine x_call (indexByte_any _ _) ?_
        rintro v L' ⟨rfl, rfl⟩
        refine goX ?_
        obtain ⟨hm1, hm2⟩ := t_forms b3 b2 b1 k hk5 h
        refine x_call (has_any _ _ _ _ (tB b3 b2 b1 k) (tN k) (tN k) _ (txt h k).2 (.inr (.tail _ (.tail _ hm1))) hm2 (by unfold tN; split <;> omega)) ?_
        rintro v L' ⟨rfl, hv⟩
        by_cases hh : (txt h k).2.contains h.form = true
        · rw [hh] at hv; subst hv
          refine goX ?_
          refine KQ_drop (L1 := [_]) ?_
          exact a_next (k + 1) ⟨by omega, lt_succ_cases hc (by rw [← Bool.not_eq_true]; simp only [badTxt, Bool.or_eq_true, decide_eq_true_eq, Bool.and_eq_true, not_or, not_and]; exact ⟨hz, fun _ => by rw [hh]; simp⟩)⟩ (by omega)
        · rw [Bool.not_eq_true] at hh
          rw [hh] at hv; subst hv
          refine goX ?_
          refine KQ_clear ?_
          refine a_ret1 ⟨rfl, ?_⟩
          rw [said_txt k hk5 (by simp only [badTxt, hh]; simp [he])]
  · obtain rfl : k = 5 := by omega
    refine goW ?_
    refine a_call (numbers_any _) ?_
    rintro v L' ⟨bn, rfl, rfl⟩
    refine goL ?_
    refine a_loop (fun k : Nat => k ≤ 7 ∧ ∀ j, j < k → badNum h.form (num h j) = false) (fun k => [(39, i64 k), (37, .slice (some ⟨bn, 0, none⟩) 7 7), (38, i64 7), (0, .pointer (some ⟨b, 0, none⟩))])
      (fun _ => [(bn, .cells numberCells.toArray 57 (0, 0)), (bt, .cells (textCells b3 b2 b1).toArray 49 (0, 0)), (b1, .cells [i64 2].toArray 3 (0, 0)), (b2, .cells [i64 2, i64 3].toArray 3 (0, 0)), (b3, .cells [i64 1, i64 2, i64 3].toArray 3 (0, 0))]) (fun k => 7 - k) 0 ⟨by omega, fun j hj => by omega⟩ ?_
    rintro k ⟨hk, hn⟩
    refine goW ?_
    refine KW_if rfl (fun hlt => ?_) (fun hlt => ?_)
    · have hk7 : k < 7 := by omega
      refine goW ?_
      refine KL_p (.none rfl) rfl (p_load_agg rfl (.own (.head _)) (n_row k hk7 h)) ?_
      refine goL ?_
      refine a_alloc fun b7 => ?_
      refine goL ?_
      refine x_start [(b7, .cells [i64 (nAt k), i64 (nLen k), fnv (46 + k), i64 (num h k).2].toArray 57 (0, 0))] ?_
      by_cases hf : h.form < (num h k).2
      · refine goX ?_
        refine x_num k hk7 ?_
        refine goX ?_
        refine KX_p ?_ rfl (by decide +kernel) (.some rfl rfl rfl) rfl (p_load rfl (.fr hb) (n_fld k hk7 h))
        by_cases hv0 : (num h k).1 = 0
        · refine goX ?_
          refine KQ_drop (L1 := [_]) ?_
          exact a_next (k + 1) ⟨by omega, lt_succ_cases hn (by simp [badNum, hv0])⟩ (by omega)
        · refine goX ?_
          refine KQ_clear ?_
          refine a_ret1 ⟨rfl, ?_⟩
          rw [said_num k hk7 (by simp [badNum, hf, hv0])]
      · refine goX ?_
        refine KQ_drop (L1 := [_]) ?_
        exact a_next (k + 1) ⟨by omega, lt_succ_cases hn (by simp [badNum, hf])⟩ (by omega)
    · obtain rfl : k = 7 := by omega
      refine goW ?_
      refine KQ_clear ?_
      refine a_ret1 ⟨rfl, ?_⟩
      rw [said_no hc hn]
end Go.Proofs.YtjeaofabpfgngaaDoor
