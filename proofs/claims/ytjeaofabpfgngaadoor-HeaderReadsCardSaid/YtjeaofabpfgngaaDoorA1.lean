/-
  The small functions of header: spans, the fields' closures, the tables of texts and numbers, the magics.
  Conditions: the package-level variables hold what the program's text lays.
-/
import Derived.Test.YtjeaofabpfgngaaDoorK8
import Derived.Test.YtjeaofabpfgngaaDoorT
import Derived.Test.YtjeaofabpfgngaaDoorTF
import Derived.Test.YtjeaofabpfgngaaDoorSh
namespace Go.Proofs.YtjeaofabpfgngaaDoor
open Go.KE
instance : Mixed Tryd.prog := ⟨by kernel_rfl⟩

/-- A block of the frame holds these cells. -/
def GC (F : Fr) (g : Nat) (l : List Value) : Prop := ∃ t fr, F.mem g (.cells l.toArray t fr)
theorem GC.plus {F : Fr} {g : Nat} {l : List Value} (h : GC F g l) (L : Bl) : GC (F.plus L) g l := let ⟨t, fr, h⟩ := h; ⟨t, fr, .inl h⟩

abbrev i64 (n : Int) : Value := .int .i64 n
def sp (f n : Int) : List Value := [i64 f, i64 n]

/-- The variables of package header. -/
structure Glob (F : Fr) : Prop where
  typ : GC F 0 [i64 156]
  magic : GC F 1 (sp 257 8)
  name : GC F 2 (sp 0 100)
  link : GC F 3 (sp 157 100)
  user : GC F 4 (sp 265 32)
  group : GC F 5 (sp 297 32)
  pre : GC F 6 (sp 345 155)
theorem Glob.plus {F : Fr} (h : Glob F) (L : Bl) : Glob (F.plus L) := ⟨h.typ.plus L, h.magic.plus L, h.name.plus L, h.link.plus L, h.user.plus L, h.group.plus L, h.pre.plus L⟩

/-- span.of -/
theorem of_any (F : Fr) (b : Nat) (f m : Int) (h0 : 0 ≤ f) (h1 : 0 ≤ m) (h2 : f + m ≤ 512) (h3 : f < 512) :
    Does Tryd.prog 20 [.agg #[i64 f, i64 m], .pointer (some ⟨b, 0, none⟩)] F [] (fun v L' => L' = [] ∧ v = .slice (some ⟨b, f.toNat, none⟩) ((f + m).toNat - f.toNat) (512 - f.toNat)) := by
  refine Does_of (n := 15) Tryd.func20 rfl rfl (by simp) ?_
  refine goW ?_
  refine a_box fun b1 => ?_
  refine goL ?_
  refine x_start [(b1, .cells [i64 f, i64 m].toArray 45 (0, 0))] ?_
  refine goX ?_
  refine KQ_drop (L1 := [_]) ?_
  refine a_ret1 ⟨rfl, rfl⟩

section closures
variable (F : Fr) (b : Nat)
theorem clos41 : Does Tryd.prog 41 [.pointer (some ⟨b, 0, none⟩)] F [] (fun v L' => L' = [] ∧ v = .pointer (some ⟨b, 1, none⟩)) := by
  refine Does_of (n := 6) Tryd.func41 rfl rfl (by simp) ?_
  refine goW ?_
  refine a_ret1 ⟨rfl, rfl⟩
theorem clos42 : Does Tryd.prog 42 [.pointer (some ⟨b, 0, none⟩)] F [] (fun v L' => L' = [] ∧ v = .pointer (some ⟨b, 9, none⟩)) := by
  refine Does_of (n := 6) Tryd.func42 rfl rfl (by simp) ?_
  refine goW ?_
  refine a_ret1 ⟨rfl, rfl⟩
theorem clos43 : Does Tryd.prog 43 [.pointer (some ⟨b, 0, none⟩)] F [] (fun v L' => L' = [] ∧ v = .pointer (some ⟨b, 10, none⟩)) := by
  refine Does_of (n := 6) Tryd.func43 rfl rfl (by simp) ?_
  refine goW ?_
  refine a_ret1 ⟨rfl, rfl⟩
theorem clos44 : Does Tryd.prog 44 [.pointer (some ⟨b, 0, none⟩)] F [] (fun v L' => L' = [] ∧ v = .pointer (some ⟨b, 11, none⟩)) := by
  refine Does_of (n := 6) Tryd.func44 rfl rfl (by simp) ?_
  refine goW ?_
  refine a_ret1 ⟨rfl, rfl⟩
theorem clos45 : Does Tryd.prog 45 [.pointer (some ⟨b, 0, none⟩)] F [] (fun v L' => L' = [] ∧ v = .pointer (some ⟨b, 2, none⟩)) := by
  refine Does_of (n := 6) Tryd.func45 rfl rfl (by simp) ?_
  refine goW ?_
  refine a_ret1 ⟨rfl, rfl⟩
theorem clos46 : Does Tryd.prog 46 [.pointer (some ⟨b, 0, none⟩)] F [] (fun v L' => L' = [] ∧ v = .pointer (some ⟨b, 3, none⟩)) := by
  refine Does_of (n := 6) Tryd.func46 rfl rfl (by simp) ?_
  refine goW ?_
  refine a_ret1 ⟨rfl, rfl⟩
theorem clos47 : Does Tryd.prog 47 [.pointer (some ⟨b, 0, none⟩)] F [] (fun v L' => L' = [] ∧ v = .pointer (some ⟨b, 4, none⟩)) := by
  refine Does_of (n := 6) Tryd.func47 rfl rfl (by simp) ?_
  refine goW ?_
  refine a_ret1 ⟨rfl, rfl⟩
theorem clos48 : Does Tryd.prog 48 [.pointer (some ⟨b, 0, none⟩)] F [] (fun v L' => L' = [] ∧ v = .pointer (some ⟨b, 5, none⟩)) := by
  refine Does_of (n := 6) Tryd.func48 rfl rfl (by simp) ?_
  refine goW ?_
  refine a_ret1 ⟨rfl, rfl⟩
theorem clos49 : Does Tryd.prog 49 [.pointer (some ⟨b, 0, none⟩)] F [] (fun v L' => L' = [] ∧ v = .pointer (some ⟨b, 6, none⟩)) := by
  refine Does_of (n := 6) Tryd.func49 rfl rfl (by simp) ?_
  refine goW ?_
  refine a_ret1 ⟨rfl, rfl⟩
theorem clos50 : Does Tryd.prog 50 [.pointer (some ⟨b, 0, none⟩)] F [] (fun v L' => L' = [] ∧ v = .pointer (some ⟨b, 7, none⟩)) := by
  refine Does_of (n := 6) Tryd.func50 rfl rfl (by simp) ?_
  refine goW ?_
  refine a_ret1 ⟨rfl, rfl⟩
theorem clos51 : Does Tryd.prog 51 [.pointer (some ⟨b, 0, none⟩)] F [] (fun v L' => L' = [] ∧ v = .pointer (some ⟨b, 12, none⟩)) := by
  refine Does_of (n := 6) Tryd.func51 rfl rfl (by simp) ?_
  refine goW ?_
  refine a_ret1 ⟨rfl, rfl⟩
theorem clos52 : Does Tryd.prog 52 [.pointer (some ⟨b, 0, none⟩)] F [] (fun v L' => L' = [] ∧ v = .pointer (some ⟨b, 13, none⟩)) := by
  refine Does_of (n := 6) Tryd.func52 rfl rfl (by simp) ?_
  refine goW ?_
  refine a_ret1 ⟨rfl, rfl⟩
end closures

abbrev fnv (f : Nat) : Value := .func (.func f) #[] #[]
def me (k : Int) (s : ByteArray) (c : Nat) : MapEntry := ⟨i64 k, .string s, c⟩
def mV7 : ByteArray := ⟨#[0, 0, 0, 0, 0, 0, 0, 0]⟩
def mUstar : ByteArray := ⟨#[117, 115, 116, 97, 114, 0, 48, 48]⟩
def mGNU : ByteArray := ⟨#[117, 115, 116, 97, 114, 32, 32, 0]⟩
def magicEs : List MapEntry := [me 1 mV7 0, me 2 mUstar 1, me 3 mGNU 2]

/-- magics -/
theorem magics_any (F : Fr) : Does Tryd.prog 17 [] F [] (fun v L' => ∃ b, L' = [(b, .map magicEs.toArray 3)] ∧ v = .map (some b)) := by
  refine Does_of (n := 3) Tryd.func17 rfl rfl (by simp) ?_
  refine goW ?_
  refine a_makeMap fun b1 => ?_
  refine a_insert ?_
  refine a_insert ?_
  refine a_insert ?_
  refine goL ?_
  refine a_ret1 ⟨b1, rfl, rfl⟩

def i64s (l : List Int) : List Value := l.map i64
def textCells (b3 b2 b1 : Nat) : List Value :=
  [i64 0, i64 100, fnv 41, .slice (some ⟨b3, 0, none⟩) 3 3, i64 157, i64 100, fnv 42, .slice (some ⟨b3, 0, none⟩) 3 3, i64 265, i64 32, fnv 43, .slice (some ⟨b2, 0, none⟩) 2 2,
   i64 297, i64 32, fnv 44, .slice (some ⟨b2, 0, none⟩) 2 2, i64 345, i64 155, fnv 45, .slice (some ⟨b1, 0, none⟩) 1 1]

/-- texts -/
theorem texts_any (F : Fr) (hg : Glob F) : Does Tryd.prog 19 [] F [] (fun v L' => ∃ b b1 b2 b3, L' = [(b, .cells (textCells b3 b2 b1).toArray 49 (0, 0)), (b1, .cells [i64 2].toArray 3 (0, 0)), (b2, .cells [i64 2, i64 3].toArray 3 (0, 0)), (b3, .cells [i64 1, i64 2, i64 3].toArray 3 (0, 0))] ∧ v = .slice (some ⟨b, 0, none⟩) 5 5) := by
  obtain ⟨t2, r2, h2⟩ := hg.name
  obtain ⟨t3, r3, h3⟩ := hg.link
  obtain ⟨t4, r4, h4⟩ := hg.user
  obtain ⟨t5, r5, h5⟩ := hg.group
  obtain ⟨t6, r6, h6⟩ := hg.pre
  refine Does_of (n := 21) Tryd.func19 rfl rfl (by simp) ?_
  refine goW ?_
  refine a_slit fun b3 => ?_
  refine a_slit fun b2 => ?_
  refine goL ?_
  refine a_slit fun b1 => ?_
  refine goL ?_
  refine a_slit fun b => ?_
  refine goL ?_
  refine a_ret1 ⟨b, b1, b2, b3, rfl, rfl⟩

def numberCells : List Value :=
  [i64 100, i64 8, fnv 46, i64 1, i64 108, i64 8, fnv 47, i64 1, i64 116, i64 8, fnv 48, i64 1, i64 124, i64 12, fnv 49, i64 1, i64 136, i64 12, fnv 50, i64 1, i64 329, i64 8, fnv 51, i64 2, i64 337, i64 8, fnv 52, i64 2]
set_option maxRecDepth 10000 in
/-- numbers -/
theorem numbers_any (F : Fr) : Does Tryd.prog 21 [] F [] (fun v L' => ∃ b, L' = [(b, .cells numberCells.toArray 57 (0, 0))] ∧ v = .slice (some ⟨b, 0, none⟩) 7 7) := by
  refine Does_of Tryd.func21 rfl rfl (by simp) ?_
  refine goW ?_
  refine a_slit fun b => ?_
  refine goL ?_
  refine a_ret1 ⟨b, rfl, rfl⟩
end Go.Proofs.YtjeaofabpfgngaaDoor
