/-
  The engine of these proofs, first part: assertions on slots (Env) and on blocks (St), and rules for code and operations over them.
  No condition: every lemma is over any program.
-/
import Derived.WalkKit
namespace Go.KE

/-! ### slots -/
/-- The value that a list of written slots gives a slot. -/
def get? : List (Nat × Value) → Nat → Option Value
  | [], _ => none
  | (d, v) :: r, t => bif Nat.beq d t then some v else get? r t

/-- The frame has n slots, no deferred call, and holds what the list says. -/
def Env (n : Nat) (a : Act) (E : List (Nat × Value)) : Prop :=
  a.defers = [] ∧ a.tmps.size = n ∧ ∀ t v, get? E t = some v → a.tmps[t]? = some v

def ev (E : List (Nat × Value)) : Operand → Option Value
  | .tmp t => get? E t
  | .const v => some v
  | .global g => some (.pointer (some ⟨g, 0, none⟩))
  | .func f => some (.func (.func f) #[] #[])

theorem Env.ev {n : Nat} {a : Act} {E : List (Nat × Value)} (h : Env n a E) {x : Operand} {v : Value} (hx : ev E x = some v) : a.eval x = v := by
  cases x with
  | tmp t => have := h.2.2 t v hx; simp [Act.eval, Array.getD_eq_getD_getElem?, this]
  | const c => exact Option.some.inj hx
  | global g => exact Option.some.inj hx
  | func f => exact Option.some.inj hx

theorem Env.put {n : Nat} {a : Act} {E : List (Nat × Value)} (h : Env n a E) {d : Nat} (hd : Nat.blt d n = true) (v : Value) : Env n (a.put (some d) v) ((d, v) :: E) := by
  obtain ⟨h1, h2, h3⟩ := h
  have hdn : d < n := by simpa [Nat.blt_eq] using hd
  refine ⟨h1, by simp [Act.put, h2], fun t u hu => ?_⟩
  simp only [get?] at hu
  cases hb : Nat.beq d t with
  | true =>
    have e : d = t := Nat.eq_of_beq_eq_true hb
    rw [hb] at hu
    obtain rfl : v = u := Option.some.inj hu
    subst e
    simp [Act.put, h2, hdn]
  | false =>
    rw [hb] at hu
    have hne : d ≠ t := Nat.ne_of_beq_eq_false hb
    have := h3 t u hu
    simp only [Act.put]
    rw [Array.getElem?_setIfInBounds_ne hne]
    exact this

theorem Env.put_none {n : Nat} {a : Act} {E : List (Nat × Value)} (h : Env n a E) (v : Value) : Env n (a.put none v) E := h

/-- Every row of the second list is what the first list gives. -/
def Sub (E : List (Nat × Value)) : List (Nat × Value) → Prop
  | [] => True
  | (d, v) :: r => get? E d = some v ∧ Sub E r

theorem Sub.get {E : List (Nat × Value)} : ∀ {E' : List (Nat × Value)}, Sub E E' → ∀ t v, get? E' t = some v → get? E t = some v
  | [], _, _, _, h => by simp [get?] at h
  | (d, u) :: r, hs, t, v, h => by
    simp only [get?] at h
    cases hb : Nat.beq d t with
    | true => rw [hb] at h; have e : d = t := Nat.eq_of_beq_eq_true hb; obtain rfl : u = v := Option.some.inj h; subst e; exact hs.1
    | false => rw [hb] at h; exact Sub.get hs.2 t v h

theorem Env.weaken {n : Nat} {a : Act} {E E' : List (Nat × Value)} (h : Env n a E) (hs : Sub E E') : Env n a E' :=
  ⟨h.1, h.2.1, fun t v ht => h.2.2 t v (hs.get t v ht)⟩

/-! ### blocks -/
/-- What is known of memory and stays: blocks that nobody writes; the streams. -/
structure Fr where
  mem : Nat → Obj → Prop
  os : Os
  tape : Nat → Question → Nat
  output : Array (Nat × ByteArray)

abbrev Bl := List (Nat × Obj)

/-- The world holds the frame's blocks and, apart from them and from one another, the blocks of the list. -/
structure St (F : Fr) (L : Bl) (w : World) : Prop where
  fr : ∀ k o, F.mem k o → w.heap[k]? = some o
  own : ∀ p ∈ L, w.heap[p.1]? = some p.2
  apart : ∀ p ∈ L, ∀ o, ¬ F.mem p.1 o
  nodup : (L.map (·.1)).Nodup
  os : w.os = F.os
  tape : w.tape = F.tape
  output : w.output = F.output

/-- The frame with more blocks. -/
def Fr.plus (F : Fr) (L : Bl) : Fr := { F with mem := fun k o => F.mem k o ∨ (k, o) ∈ L }

theorem mem_key {L : Bl} {p : Nat × Obj} (h : p ∈ L) : p.1 ∈ L.map (·.1) := List.mem_map_of_mem (f := (·.1)) h

/-- Blocks of the list are given to the frame. -/
theorem St.give {F : Fr} {L1 L2 : Bl} {w : World} (h : St F (L1 ++ L2) w) : St (F.plus L2) L1 w := by
  have hn := h.nodup
  rw [List.map_append, List.nodup_append] at hn
  refine ⟨fun k o hk => ?_, fun p hp => h.own p (by simp [hp]), fun p hp o ho => ?_, hn.1, h.os, h.tape, h.output⟩
  · rcases hk with hk | hk
    · exact h.fr k o hk
    · exact h.own (k, o) (by simp [hk])
  · rcases ho with ho | ho
    · exact h.apart p (by simp [hp]) o ho
    · exact hn.2.2 p.1 (mem_key hp) p.1 (mem_key (p := (p.1, o)) ho) rfl

/-- And taken back. -/
theorem St.take {F : Fr} {L0 L1 L2 : Bl} {w0 w : World} (h0 : St F (L0 ++ L2) w0) (h : St (F.plus L2) L1 w) : St F (L1 ++ L2) w := by
  have hn := h0.nodup
  rw [List.map_append, List.nodup_append] at hn
  refine ⟨fun k o hk => h.fr k o (.inl hk), fun p hp => ?_, fun p hp o ho => ?_, ?_, h.os, h.tape, h.output⟩
  · rcases List.mem_append.1 hp with hp | hp
    · exact h.own p hp
    · exact h.fr p.1 p.2 (.inr hp)
  · rcases List.mem_append.1 hp with hp | hp
    · exact h.apart p hp o (.inl ho)
    · exact h0.apart p (by simp [hp]) o ho
  · rw [List.map_append, List.nodup_append]
    refine ⟨h.nodup, hn.2.1, ?_⟩
    intro a ha b hb e
    obtain ⟨p, hp, rfl⟩ := List.mem_map.1 ha
    obtain ⟨q, hq, rfl⟩ := List.mem_map.1 hb
    exact h.apart p hp q.2 (.inr (by have e' : p.1 = q.1 := e; rw [e']; exact hq))

theorem St.perm {F : Fr} {L L' : Bl} {w : World} (h : St F L w) (hp : L.Perm L') : St F L' w :=
  ⟨h.fr, fun p hm => h.own p (hp.mem_iff.2 hm), fun p hm => h.apart p (hp.mem_iff.2 hm), (hp.map _).nodup_iff.1 h.nodup, h.os, h.tape, h.output⟩

/-- Blocks are forgotten. -/
theorem St.drop {F : Fr} {L1 L2 : Bl} {w : World} (h : St F (L1 ++ L2) w) : St F L2 w := by
  have hn := h.nodup
  rw [List.map_append, List.nodup_append] at hn
  exact ⟨h.fr, fun p hm => h.own p (by simp [hm]), fun p hm => h.apart p (by simp [hm]), hn.2.1, h.os, h.tape, h.output⟩

theorem St.keep {F : Fr} {L1 L2 : Bl} {w : World} (h : St F (L1 ++ L2) w) : St F L1 w := by
  have hn := h.nodup
  rw [List.map_append, List.nodup_append] at hn
  exact ⟨h.fr, fun p hm => h.own p (by simp [hm]), fun p hm => h.apart p (by simp [hm]), hn.1, h.os, h.tape, h.output⟩

theorem lt_of_get {w : World} {k : Nat} {o : Obj} (h : w.heap[k]? = some o) : k < w.heap.size := by
  rcases Nat.lt_or_ge k w.heap.size with h' | h'
  · exact h'
  · rw [Array.getElem?_eq_none h'] at h; cases h

theorem St.alloc {F : Fr} {L : Bl} {w : World} (h : St F L w) (o : Obj) : St F ((w.heap.size, o) :: L) (w.alloc o) := by
  have hl : ∀ p ∈ L, p.1 < w.heap.size := fun p hp => lt_of_get (h.own p hp)
  refine ⟨fun k o' hk => ?_, fun p hp => ?_, fun p hp o' ho' => ?_, ?_, h.os, h.tape, h.output⟩
  · have := h.fr k o' hk
    rw [RowKit.Below.heap_alloc w o k (lt_of_get this)]; exact this
  · rcases List.mem_cons.1 hp with rfl | hp
    · show (w.heap.push o)[w.heap.size]? = some o; simp
    · rw [RowKit.Below.heap_alloc w o p.1 (hl p hp)]; exact h.own p hp
  · rcases List.mem_cons.1 hp with rfl | hp
    · exact absurd (lt_of_get (h.fr _ _ ho')) (Nat.lt_irrefl _)
    · exact h.apart p hp o' ho'
  · simp only [List.map_cons, List.nodup_cons]
    refine ⟨fun hm => ?_, h.nodup⟩
    obtain ⟨p, hp, e⟩ := List.mem_map.1 hm
    have := hl p hp
    omega

theorem St.drew {F : Fr} {L : Bl} {w : World} (h : St F L w) : St F L w.drew :=
  ⟨h.fr, h.own, h.apart, h.nodup, h.os, h.tape, h.output⟩

/-- A block of the list is replaced, in the world and in the list. -/
def bset : Bl → Nat → Obj → Bl
  | [], _, _ => []
  | (b, o) :: r, k, o' => if b = k then (b, o') :: r else (b, o) :: bset r k o'

theorem bset_keys : ∀ (L : Bl) (k : Nat) (o : Obj), (bset L k o).map (·.1) = L.map (·.1)
  | [], _, _ => rfl
  | (b, o') :: r, k, o => by
    simp only [bset]
    split
    · rfl
    · simp [bset_keys r k o]

theorem mem_bset : ∀ {L : Bl} {k : Nat} {o : Obj} {p : Nat × Obj}, (L.map (·.1)).Nodup → p ∈ bset L k o → (p.1 = k ∧ p.2 = o) ∨ (p.1 ≠ k ∧ p ∈ L)
  | [], _, _, _, _, h => by simp [bset] at h
  | (b, o') :: r, k, o, p, hn, h => by
    simp only [List.map_cons, List.nodup_cons] at hn
    simp only [bset] at h
    by_cases e : b = k
    · rw [if_pos e] at h
      rcases List.mem_cons.1 h with rfl | h
      · exact .inl ⟨e, rfl⟩
      · refine .inr ⟨fun hk => hn.1 ?_, List.mem_cons_of_mem _ h⟩
        rw [e, ← hk]; exact List.mem_map_of_mem (f := (·.1)) h
    · rw [if_neg e] at h
      rcases List.mem_cons.1 h with rfl | h
      · exact .inr ⟨e, List.mem_cons_self ..⟩
      · rcases mem_bset hn.2 h with h | ⟨h1, h2⟩
        · exact .inl h
        · exact .inr ⟨h1, List.mem_cons_of_mem _ h2⟩

/-- A world that differs from w at block k alone, which is one of the list. -/
theorem St.set {F : Fr} {L : Bl} {w w' : World} (h : St F L w) {k : Nat} {o o' : Obj} (hk : (k, o) ∈ L) (hw : w'.heap[k]? = some o') (hot : ∀ j, j ≠ k → w'.heap[j]? = w.heap[j]?)
    (h1 : w'.os = w.os) (h2 : w'.tape = w.tape) (h3 : w'.output = w.output) : St F (bset L k o') w' := by
  refine ⟨fun j q hj => ?_, fun p hp => ?_, fun p hp o2 ho2 => ?_, by rw [bset_keys]; exact h.nodup, h1.trans h.os, h2.trans h.tape, h3.trans h.output⟩
  · have hne : j ≠ k := fun e => by
      subst e
      exact h.apart _ hk _ hj
    rw [hot j hne]; exact h.fr j q hj
  · rcases mem_bset h.nodup hp with ⟨e1, e2⟩ | ⟨e1, e2⟩
    · rw [e1, e2]; exact hw
    · rw [hot _ e1]; exact h.own p e2
  · rcases mem_bset h.nodup hp with ⟨e1, e2⟩ | ⟨e1, e2⟩
    · rw [e1] at ho2; exact h.apart _ hk _ ho2
    · exact h.apart p e2 o2 ho2

/-- A block's object, in the list or in the frame. -/
inductive Held (F : Fr) (L : Bl) (b : Nat) (o : Obj) : Prop where
  | own (h : (b, o) ∈ L) : Held F L b o
  | fr (h : F.mem b o) : Held F L b o

theorem Held.heap {F : Fr} {L : Bl} {b : Nat} {o : Obj} (h : Held F L b o) {w : World} (hs : St F L w) : w.heap[b]? = some o := by
  cases h with
  | own h => exact hs.own _ h
  | fr h => exact hs.fr _ _ h

end Go.KE
