/-
  Two headers are compared: a header is what it is.
  No condition.
-/
import Derived.Test.YtjeaofabpfgngaaDoorA26
import Derived.Laws.StructEq
import Derived.ChangeKeysEq
namespace Go.Proofs.YtjeaofabpfgngaaDoor
open Go.KE

theorem eqFields_self {P : Program} (d : Nat) (xs : Array Value) : ∀ (fs : List Field), (∀ f ∈ fs, ∃ v, P.plainKey f.type = true ∧ xs[f.offset]? = some v ∧ ∀ w, (Op.equalIn d f.type v v).run P w = .ok true w) → ∀ w, (Op.eqFields d xs xs fs).run P w = .ok true w
  | [], _, w => by simp [Op.eqFields]
  | f :: fs, h, w => by
    obtain ⟨v, h1, h2, h3⟩ := h f (by simp)
    have ih := eqFields_self d xs fs (fun g hg => h g (by simp [hg])) w
    simp only [Op.eqFields]
    split
    · simp only [Sem.run_bind, run_part_plain _ h1 h2, Result.andThen_ok, h3, Bool.not_true, Bool.false_eq_true, if_false]
      exact ih
    · exact ih
theorem pk2 : Tryd.prog.plainKey 2 = true := by kernel_rfl
theorem pk3 : Tryd.prog.plainKey 3 = true := by kernel_rfl
theorem pk5 : Tryd.prog.plainKey 5 = true := by kernel_rfl
theorem pk9 : Tryd.prog.plainKey 9 = true := by kernel_rfl
theorem guard23 : Tryd.prog.eqGuardType Tryd.prog.depth 23 = false := by kernel_rfl
theorem stood23 : Tryd.prog.stoodInHeld 23 = false := by kernel_rfl
/-- A header's cell is of its type's kind. -/
theorem hdr_cell (h : Hdr) : ∀ p ∈ hdrTypes, ∃ v, (hdrCells h)[p.2]? = some v ∧ ((p.1 = 2 ∧ ∃ n, v = .int .i64 n) ∨ (p.1 = 3 ∧ ∃ n, v = .int .i64 n) ∨ (p.1 = 5 ∧ ∃ n, v = .int .u8 n) ∨ (p.1 = 9 ∧ ∃ s, v = .string s)) := by
  intro p hp
  simp only [hdrTypes, List.mem_cons, List.not_mem_nil, or_false] at hp
  rcases hp with rfl | rfl | rfl | rfl | rfl | rfl | rfl | rfl | rfl | rfl | rfl | rfl | rfl | rfl
  all_goals refine ⟨_, rfl, ?_⟩
  all_goals first
    | exact .inl ⟨rfl, _, rfl⟩
    | exact .inr (.inl ⟨rfl, _, rfl⟩)
    | exact .inr (.inr (.inl ⟨rfl, _, rfl⟩))
    | exact .inr (.inr (.inr ⟨rfl, _, rfl⟩))
set_option maxRecDepth 20000 in
theorem equal_hdr (h : Hdr) (w : World) : (Op.equal 23 (.agg (hdrCells h).toArray) (.agg (hdrCells h).toArray)).run Tryd.prog w = .ok true w := by
  obtain ⟨fs, hfs, hm⟩ := hdr_struct
  have hf : Tryd.prog.fieldsOf 23 = fs := by simp only [Program.fieldsOf, hfs]
  refine (run_equalIn_struct w 9999 23 _ _ (by rw [hf]; exact hfs) stood23).trans ?_
  rw [hf]
  refine eqFields_self 9999 _ _ (fun f hmem => ?_) w
  obtain ⟨v, h1, h2⟩ := hdr_cell h (f.type, f.offset) (hm ▸ List.mem_map_of_mem (f := fun f : Field => (f.type, f.offset)) hmem)
  refine ⟨v, ?_, by simpa using h1, ?_⟩
  · rcases h2 with ⟨e, _⟩ | ⟨e, _⟩ | ⟨e, _⟩ | ⟨e, _⟩
    all_goals (rw [show f.type = _ from e]; first | exact pk2 | exact pk3 | exact pk5 | exact pk9)
  · intro w
    rcases h2 with ⟨e, n, rfl⟩ | ⟨e, n, rfl⟩ | ⟨e, n, rfl⟩ | ⟨e, n, rfl⟩
    all_goals rw [show f.type = _ from e]
    · rw [run_equalIn_int w 9998 2 .i64 .i64 n n hu2]; simp
    · rw [run_equalIn_int w 9998 3 .i64 .i64 n n hu3]; simp
    · rw [run_equalIn_int w 9998 5 .u8 .u8 n n hu5]; simp
    · rw [run_equalIn_string w 9998 9 n n hu9]; simp
section
variable {n : Nat} {F : Fr} {E : Sl} {L : Bl}
/-- A header is compared with itself. -/
theorem p_eq_hdr {x y : Operand} {u ty : TypeId} {h : Hdr} (hx : ev E x = some (.agg (hdrCells h).toArray)) (hy : ev E y = some (.agg (hdrCells h).toArray)) : PureAt Tryd.prog n F E L (.binOp .eql 23 x y u) ty (.bool true) :=
  p_aggEq hx hy guard23 fun w => equal_hdr h w
end
end Go.Proofs.YtjeaofabpfgngaaDoor
