/-
  satchel/field: PutOctal, Binary, PutBinary, PutNumber, Sums, PutSum.
  Condition: math/bits.deBruijn64tab holds what the library's text lays.
-/
import Derived.Test.YtjeaofabpfgngaaDoorA3
import Derived.Test.YtjeaofabpfgngaaDoorSh
namespace Go.Proofs.YtjeaofabpfgngaaDoor
open Go.KE

theorem st_below {F : Fr} {L : Bl} {w w' : World} (h : St F L w) (hb : RowKit.Below w.heap.size w w') : St F L w' :=
  ⟨fun k o hk => by rw [hb.block k (lt_of_get (h.fr k o hk))]; exact h.fr k o hk, fun p hp => by rw [hb.block p.1 (lt_of_get (h.own p hp))]; exact h.own p hp, h.apart, h.nodup, hb.os.trans h.os, hb.tape.trans h.tape, hb.output.trans h.output⟩

theorem Does_of_below {P : Program} {F : Fr} {f : FuncId} {args : List Value} {v : Value} (h : ∀ w, Calls P f args.toArray w fun e w' => e = .returned v ∧ RowKit.Below w.heap.size w w') : Does P f args F [] (fun u L' => L' = [] ∧ u = v) := by
  unfold Does
  exact fun w hs => (h w).mono fun e w' hh => ⟨v, [], ⟨rfl, rfl⟩, hh.1, st_below hs hh.2⟩

def zeros (k : Nat) : List UInt8 := List.replicate k 48
theorem repeat0 (c : Nat) : Lib.repeatL [(48 : UInt8)] c = zeros c := by
  induction c with
  | zero => rfl
  | succ c ih => rw [Lib.repeatL, ih]; rfl

theorem repeat_any (F : Fr) (c : Nat) (x : Int) (hx : x = c) (h : c ≤ 512) : Does Tryd.prog 54 [.string ⟨#[48]⟩, i64 x] F [] (fun v L' => L' = [] ∧ v = .string ⟨(zeros c).toArray⟩) := by
  subst hx
  refine Does_of_below fun w => ?_
  rw [← repeat0]
  exact Tryd.strings_Repeat ⟨#[48]⟩ c w (by omega) (by show 1 * c ≤ _; omega)

/-- A result of bytes: a fresh slice. -/
def BytesAt (bs : List UInt8) (s : Value) (L : Bl) : Prop := ∃ sv : Own, slOK 1 bs.length (bvs bs) (some sv) ∧ s = slV bs.length (some sv) ∧ L = slL 5 (bvs bs) (some sv)

def octField (n : Int) (w : Nat) : Option (List UInt8) :=
  if n < 0 ∨ (octI n).size + 1 > w then none else some (zeros (w - 1 - (octI n).size) ++ (octI n).data.toList ++ [0])

def OctR (n : Int) (w : Nat) (v : Value) (L : Bl) : Prop :=
  match octField n w with
  | none => L = [] ∧ v = .tuple #[.slice none 0 0, i64 122]
  | some bs => ∃ s, BytesAt bs s L ∧ v = .tuple #[s, i64 0]

theorem putOctal_any (F : Fr) (hg : GC F 10 (u8s deBr)) (n : Int) (h : Fits .i64 n) (w : Nat) (h1 : 2 ≤ w) (h2 : w ≤ 512) :
    Does Tryd.prog 22 [i64 n, i64 w] F [] (OctR n w) := by
  simp only [Fits] at h
  refine Does_of (n := 35) Tryd.func22 rfl rfl (by simp) ?_
  refine goW ?_
  refine a_call (formatInt53 _ (hg.plus _) n h) ?_
  rintro v L' ⟨rfl, rfl⟩
  unfold OctR octField
  by_cases hn : n < 0
  · refine goL ?_
    refine a_ret2 ?_
    rw [if_pos (.inl hn)]
    exact ⟨rfl, rfl⟩
  by_cases hl : (octI n).size > w - 1
  · refine goL ?_
    refine a_ret2 ?_
    rw [if_pos (.inr (by omega))]
    exact ⟨rfl, rfl⟩
  have hl' : (octI n).size + 1 ≤ w := by omega
  rw [if_neg (by omega)]
  refine goL ?_
  have hz : (⟨(zeros (w - 1 - (octI n).size)).toArray⟩ : ByteArray).size = w - 1 - (octI n).size := by
    show (zeros (w - 1 - (octI n).size)).toArray.size = _
    simp [zeros]
  refine a_call (repeat_any _ (w - 1 - (octI n).size) _ ?_ (by omega)) ?_
  · omega
  rintro v L' ⟨rfl, rfl⟩
  refine goL ?_
  have hsz : ((⟨(zeros (w - 1 - (octI n).size)).toArray⟩ : ByteArray) ++ octI n).size = w - 1 := by
    rw [ByteArray.size_append, hz]; omega
  have hby : ((⟨(zeros (w - 1 - (octI n).size)).toArray⟩ : ByteArray) ++ octI n).data.toList = zeros (w - 1 - (octI n).size) ++ (octI n).data.toList := by
    rw [ByteArray.data_append]; simp
  rw [← hby]
  generalize (⟨(zeros (w - 1 - (octI n).size)).toArray⟩ : ByteArray) ++ octI n = s at hsz ⊢
  refine KL_m (.none rfl) rfl (m_bytes rfl) fun sv hsv => ?_
  refine goL ?_
  refine a_slit fun b => ?_
  refine goL ?_
  refine KL_m (.none rfl) rfl (m_append (sv := some sv) (zl := [_]) (news := [_]) rfl rfl rfl rfl List.perm_middle.symm hsv (Src.cut (.own (.head _)) (.cons .nil) (oneCells_of rfl)) ?_ ?_ ?_) fun sv' hsv' => ?_
  · omega
  · omega
  · exact Nat.one_pos
  refine goL ?_
  refine KQ_perm List.perm_append_comm ?_
  refine KQ_drop (L1 := _ :: _) ?_
  refine a_ret2 ?_
  obtain ⟨h4, h5⟩ := hsv'
  cases sv' with
  | none => exact absurd (h5 rfl).1 nofun
  | some sv' =>
    have e : bvs (s.data.toList ++ [0]) = bvs s.data.toList ++ [Value.int .u8 0] := by simp [bvs]; rfl
    have e2 : (s.data.toList ++ [0]).length = s.size + 1 := by simp
    exact ⟨_, ⟨sv', by rw [e, e2]; exact h4, rfl, by rw [e]⟩, by rw [e2]⟩
end Go.Proofs.YtjeaofabpfgngaaDoor
