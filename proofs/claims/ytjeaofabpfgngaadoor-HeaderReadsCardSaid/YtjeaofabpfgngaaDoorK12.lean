/-
  The engine of these proofs: 'for k, v := range m' over a map that the loop does not write; two structs of plain cells compared.
  No condition: every lemma is over any program.
-/
import Derived.Test.YtjeaofabpfgngaaDoorK11
import Derived.Laws.IdiomRangeMap
namespace Go.KE

section
variable {P : Program} {n : Nat} {F : Fr} {Q : Post} {E : Sl} {L Lq : Bl} {ty : TypeId}

theorem m_range {x : Operand} {t kt et bm clock : Nat} {es : List MapEntry} [ht : TU P t (.map kt et)] (hx : ev E x = some (.map (some bm))) (hb : Held F L bm (.map es.toArray clock)) :
    StepAt P n F E L (.range t x) ty (fun _ : Nat => True) (fun b => .pointer (some ⟨b, 0, none⟩)) (fun b => (b, .mapIter (some bm) clock #[] clock) :: L) := .of fun a w oo ho _ he hs =>
  ⟨w.heap.size, w.alloc (.mapIter (some bm) clock #[] clock), trivial, by
    simp only [execOp, ho, he.ev hx, Sem.run_bind, run_range_map w t kt et bm es.toArray clock ht.u (hb.heap hs), Result.andThen]; rfl, hs.alloc _⟩

/-- What 'next' hands out: nothing, where nothing is left; or an entry that was not handed out yet. -/
def NextR (es : List MapEntry) (seen : List Nat) : Option MapEntry → Prop
  | none => ∀ e ∈ es, e.born ∈ seen
  | some e => e ∈ es ∧ e.born ∉ seen
def nextV : Option MapEntry → Value
  | none => .tuple #[.bool false]
  | some e => .tuple #[.bool true, e.key, e.val]

theorem setObj_iter {w : World} {b : Nat} {m : Option Nat} {s c : Nat} {l : Array Nat} {o' : Obj} (h : w.heap[b]? = some (.mapIter m s l c)) : (setObj b o').run P w = .ok () { w with heap := w.heap.setIfInBounds b o' } := by
  simp only [setObj, Sem.run, h]

theorem m_next {x : Operand} {bi bm since clock last : Nat} {es : List MapEntry} {seen : List Nat} {L' : MapEntry → Bl} (hx : ev E x = some (.pointer (some ⟨bi, 0, none⟩))) (hm : Held F L bm (.map es.toArray clock))
    (hold : ∀ e ∈ es, e.born < since) (hsc : since ≤ last) (hi : (bi, Obj.mapIter (some bm) since seen.toArray last) ∈ L)
    (hb : ∀ e, BSet L bi (.mapIter (some bm) since seen.toArray last) (.mapIter (some bm) since (seen ++ [e.born]).toArray clock) (L' e)) :
    StepAt P n F E L (.next x false) ty (NextR es seen) nextV (fun o => match o with | none => L | some e => L' e) := .of fun a w oo ho hty he hs => by
  have hgi : w.heap[bi]? = some (.mapIter (some bm) since seen.toArray last) := hs.own _ hi
  have hgm : w.heap[bm]? = some (.map es.toArray clock) := hm.heap hs
  have htest := next_test_false seen.toArray es.toArray since last (by simpa using hold) hsc
  have key : ∃ o : Option MapEntry, ∃ w', NextR es seen o ∧ (Instr.next (.pointer (some ⟨bi, 0, none⟩)) false oo.type).run P w = .ok (nextV o) w' ∧ St F (match o with | none => L | some e => L' e) w' := by
    simp only [Instr.next, getObj, Sem.run_bind, Sem.run, hgi, hgm, Result.andThen, htest, Bool.false_eq_true, if_false]
    have hmem : ∀ x, x ∈ (Array.filter (fun e => !seen.toArray.contains e.born) es.toArray).toList ↔ (x ∈ es ∧ x.born ∉ seen) := fun x => by simp
    generalize Array.filter (fun e => !seen.toArray.contains e.born) es.toArray = A at hmem ⊢
    have e1 : A.filter (fun x => decide (x.born < since)) = A := Array.filter_eq_self.2 (fun x hx => by simpa using hold x ((hmem x).1 (by simpa using hx)).1)
    have e2 : A.filter (fun x => decide (x.born ≥ since)) = #[] := by
      rw [Array.filter_eq_empty_iff]
      intro x hx
      have := hold x ((hmem x).1 (by simpa using hx)).1
      simp
      omega
    simp only [e1, e2, Array.append_empty]
    by_cases h0 : A.size = 0
    · obtain rfl : A = #[] := Array.eq_empty_of_size_eq_zero h0
      refine ⟨none, w, fun e he' => ?_, ?_, hs⟩
      · have := (hmem e).2
        simp at this
        exact Classical.not_not.1 fun hn => absurd hn (by simpa using this he')
      · simp [choose, Sem.run, Question.forced, nextV]
    · have hne : A.isEmpty = false := by simp [Array.isEmpty, h0]
      simp only [hne, Bool.false_eq_true, if_false, Array.empty_append, Array.size_map]
      have hch : ∃ (j : Nat) (w1 : World), j < A.size ∧ w1.heap = w.heap ∧ St F L w1 ∧ (choose (Question.mapNext A.size)).run P w = .ok j w1 := by
        by_cases hf : A.size ≤ 1
        · exact ⟨0, w, by omega, rfl, hs, by simp [choose, Sem.run, Question.forced, hf]⟩
        · exact ⟨_, w.drew, Nat.mod_lt _ (by omega), rfl, hs.drew, by
            simp only [choose, Sem.run, Question.forced, decide_eq_true_eq, hf, if_false, Question.cut]
            rfl⟩
      obtain ⟨j, w1, hj, hh, hs1, hrun⟩ := hch
      have hin : A[j] ∈ A.toList := by simp
      have hgi1 : w1.heap[bi]? = some (.mapIter (some bm) since seen.toArray last) := by rw [hh]; exact hgi
      refine ⟨some A[j], { w1 with heap := w1.heap.setIfInBounds bi (.mapIter (some bm) since (seen ++ [A[j].born]).toArray clock) }, (hmem _).1 hin, ?_, ?_⟩
      · simp only [hrun, Array.getElem?_map, Array.getElem?_eq_getElem hj, Option.map_some, Sem.run_bind, Result.andThen]
        have : seen.toArray.push A[j].born = (seen ++ [A[j].born]).toArray := by simp
        rw [this, setObj_iter hgi1]; rfl
      · refine hs1.bset (w' := { w1 with heap := w1.heap.setIfInBounds bi (.mapIter (some bm) since (seen ++ [A[j].born]).toArray clock) }) (hb A[j]) ?_ ?_ rfl rfl rfl
        · have := lt_of_get hgi1
          simp [this]
        · intro k hk
          simp [Array.getElem?_setIfInBounds_ne (Ne.symm hk)]
  obtain ⟨o, w', h1, h2, h3⟩ := key
  refine ⟨o, w', h1, ?_, h3⟩
  simp only [execOp, ho, he.ev hx, Sem.run_bind, h2, Result.andThen]
  rfl

theorem p_entry {x : Operand} {bi bm since clock : Nat} {es : List MapEntry} {seen : List Nat} {e : MapEntry} (hx : ev E x = some (.pointer (some ⟨bi, 0, none⟩))) (hi : Held F L bi (.mapIter (some bm) since (seen ++ [e.born]).toArray clock)) (hm : Held F L bm (.map es.toArray clock))
    (he : e ∈ es) (hn : (es.map (·.born)).Nodup) : PureAt P n F E L (.entry x) ty (.tuple #[e.key, e.val]) := .of fun a w oo ho _ hv hs => by
  have hgi := hi.heap hs
  have hgm := hm.heap hs
  have hf : es.toArray.find? (·.born == e.born) = some e := by rw [← Array.find?_toList]; exact find_born e es hn he
  have hr : (Instr.entry (.pointer (some ⟨bi, 0, none⟩))).run P w = .ok (.tuple #[e.key, e.val]) w := by
    have hb : (seen ++ [e.born]).toArray.back? = some e.born := by simp
    simp only [Instr.entry, getObj, Sem.run_bind, Sem.run, hgi, hgm, Result.andThen, hb, bne_self_eq_false, Bool.false_eq_true, if_false, hf]
    rfl
  simp only [execOp, ho, hv.ev hx, Sem.run_bind, hr]; rfl
/-- A firm operation by hand, in a drawn region. -/
theorem z_pure {ops : Array Oper} {N k : Nat} {dst : Nat} {op : Op} {pos : String} {after : Array Edge} {g : Option (Nat × Bool)} {v : Value} (hv : PureAt P n F E Lq op ty v)
    (kk : KZ P n F Lq ops N Q (k + 1) ((dst, v) :: E) L) (hi : ops[k]? = some ⟨some dst, op, ty, pos, after, g⟩ := by rfl) (hs : firmZ ops N k = true := by decide +kernel)
    (hg : Want ops E true g := by first | exact .none rfl | exact .some rfl rfl rfl) (hd : Nat.blt dst n = true := by rfl) : KZ P n F Lq ops N Q k E L := KZ_p kk hi hs hg hd hv
theorem x_pure {ops : Array Oper} {N k : Nat} {dst : Nat} {op : Op} {pos : String} {after : Array Edge} {g : Option (Nat × Bool)} {v : Value} (hv : PureAt P n F E Lq op ty v)
    (kk : KX P n F Lq ops N Q (k + 1) ((dst, v) :: E) L) (hi : ops[k]? = some ⟨some dst, op, ty, pos, after, g⟩ := by rfl) (hs : firmAt ops N k = true := by decide +kernel)
    (hg : Want ops E true g := by first | exact .none rfl | exact .some rfl rfl rfl) (hd : Nat.blt dst n = true := by rfl) : KX P n F Lq ops N Q k E L := KX_p kk hi hs hg hd hv
/-- From here on the steps of a drawn region are taken out of the text's order. -/
theorem y_at {ops : Array Oper} {N k : Nat} (h : KA P n F Lq ops Q (N - k) (listedK N k) E L) : KX P n F Lq ops N Q k E L := by
  unfold KX
  exact h
end
end Go.KE
