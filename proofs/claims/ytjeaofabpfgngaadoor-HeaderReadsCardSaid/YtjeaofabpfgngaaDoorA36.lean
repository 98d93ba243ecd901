/-
  What was written is read: plain Lean.
  No condition.
-/
import Derived.Test.YtjeaofabpfgngaaDoorA33
import Derived.Test.YtjeaofabpfgngaaDoorA25
namespace Go.Proofs.YtjeaofabpfgngaaDoor
open Go.KE

/-! ### pieces of a record -/
theorem sub_get {rs : List UInt8} {o n i : Nat} : (sub rs o n)[i]? = if i < n then rs[o + i]? else none := by
  rw [sub, List.getElem?_take]
  split
  · rw [List.getElem?_drop]
  · rfl
theorem sub_put_same {rs bs : List UInt8} {o : Nat} (h : o + bs.length ≤ rs.length) : sub (putAt rs o bs) o bs.length = bs := by
  refine List.ext_getElem? fun i => ?_
  rw [sub_get]
  by_cases hi : i < bs.length
  · rw [if_pos hi, putAt_get h, if_pos ⟨by omega, by omega⟩, Nat.add_sub_cancel_left]
  · rw [if_neg hi, List.getElem?_eq_none (by omega)]
theorem sub_put_other {rs bs : List UInt8} {o p n : Nat} (h : o + bs.length ≤ rs.length) (hd : p + n ≤ o ∨ o + bs.length ≤ p) : sub (putAt rs o bs) p n = sub rs p n := by
  refine List.ext_getElem? fun i => ?_
  rw [sub_get, sub_get]
  by_cases hi : i < n
  · rw [if_pos hi, if_pos hi, putAt_get h, if_neg (by omega)]
  · rw [if_neg hi, if_neg hi]
def pad (s : ByteArray) (n : Nat) : List UInt8 := s.data.toList ++ List.replicate (n - s.size) 0
theorem textsGo_sub (h : Hdr) : ∀ (m k : Nat) (rs rs' : List UInt8), textsGo h m k rs = some rs' → k + m = 5 → rs.length = 512 → Blank k rs →
    (∀ j, k ≤ j → j < 5 → sub rs' (tAt j) (tLen j) = pad (txt h j).1 (tLen j)) ∧ (∀ p n, (∀ j, k ≤ j → j < 5 → p + n ≤ tAt j ∨ tAt j + tLen j ≤ p) → sub rs' p n = sub rs p n)
  | 0, k, rs, rs', he, hk, _, _ => by
    rw [textsGo] at he
    obtain rfl := Option.some.inj he
    exact ⟨fun j h1 h2 => by omega, fun _ _ _ => rfl⟩
  | m + 1, k, rs, rs', he, hk, hl, hb => by
    rw [textsGo] at he
    split at he
    · cases he
    rename_i hsz
    obtain ⟨ht1, ht2, ht3⟩ := t_ok k
    have hsl : (txt h k).1.data.toList.length = (txt h k).1.size := by simp
    have hpl : (putAt rs (tAt k) (txt h k).1.data.toList).length = 512 := by rw [putAt_length (by omega)]; exact hl
    obtain ⟨h1, h2⟩ := textsGo_sub h m (k + 1) _ rs' he (by omega) hpl (hb.put (by omega) hl (by omega))
    refine ⟨fun j hj1 hj2 => ?_, fun p n hd => ?_⟩
    · by_cases hjk : j = k
      · subst hjk
        rw [h2 _ _ (fun i hi1 hi2 => (t_disj j i hj2 hi2 (by omega)))]
        refine List.ext_getElem? fun i => ?_
        rw [sub_get, pad]
        by_cases hi : i < tLen j
        · rw [if_pos hi, putAt_get (by omega)]
          by_cases his : i < (txt h j).1.size
          · rw [if_pos (by omega), List.getElem?_append_left (by omega), Nat.add_sub_cancel_left]
          · rw [if_neg (by omega), hb j (Nat.le_refl _) hj2 _ (by omega) (by omega), List.getElem?_append_right (by omega), List.getElem?_replicate, if_pos (by omega)]
        · rw [if_neg hi, List.getElem?_eq_none (by simp; omega)]
      · exact h1 j (by omega) hj2
    · rw [h2 p n (fun j hj1 hj2 => hd j (by omega) hj2)]
      have := hd k (Nat.le_refl _) (by omega)
      exact sub_put_other (by omega) (by omega)
theorem n_disj (j k : Nat) (hj : j < 7) (hk : k < 7) (h : j ≠ k) : nAt j + nLen j ≤ nAt k ∨ nAt k + nLen k ≤ nAt j := by
  obtain rfl | rfl | rfl | rfl | rfl | rfl | rfl : j = 0 ∨ j = 1 ∨ j = 2 ∨ j = 3 ∨ j = 4 ∨ j = 5 ∨ j = 6 := by omega
  all_goals
    obtain rfl | rfl | rfl | rfl | rfl | rfl | rfl : k = 0 ∨ k = 1 ∨ k = 2 ∨ k = 3 ∨ k = 4 ∨ k = 5 ∨ k = 6 := by omega
    all_goals first | exact absurd rfl h | (simp only [nAt, nLen]; omega)
theorem numsGo_sub (h : Hdr) : ∀ (m k : Nat) (rs rs' : List UInt8), numsGo h m k rs = some rs' → k + m = 7 → rs.length = 512 →
    (∀ j, k ≤ j → j < 7 → ¬ h.form < (num h j).2 → formField h.form (num h j).1 (nLen j) = some (sub rs' (nAt j) (nLen j)) ∧ ¬ ((num h j).1 < 0 ∧ nAt j ≠ 136)) ∧ (∀ p n, (∀ j, k ≤ j → j < 7 → p + n ≤ nAt j ∨ nAt j + nLen j ≤ p) → sub rs' p n = sub rs p n)
  | 0, k, rs, rs', he, hk, _ => by
    rw [numsGo] at he
    obtain rfl := Option.some.inj he
    exact ⟨fun j h1 h2 => by omega, fun _ _ _ => rfl⟩
  | m + 1, k, rs, rs', he, hk, hl => by
    rw [numsGo] at he
    obtain ⟨hn1, hn2, hn3, hn4⟩ := n_ok k
    split at he
    · rename_i hlt
      obtain ⟨h1, h2⟩ := numsGo_sub h m (k + 1) rs rs' he (by omega) hl
      refine ⟨fun j hj1 hj2 hj3 => ?_, fun p n hd => h2 p n fun j hj1 hj2 => hd j (by omega) hj2⟩
      by_cases hjk : j = k
      · subst hjk; exact absurd hlt hj3
      · exact h1 j (by omega) hj2 hj3
    · split at he
      · cases he
      rename_i bs hbs
      split at he
      · cases he
      rename_i hneg
      have hbl := formField_length hbs (by omega)
      have hpl : (putAt rs (nAt k) bs).length = 512 := by rw [putAt_length (by omega)]; exact hl
      obtain ⟨h1, h2⟩ := numsGo_sub h m (k + 1) _ rs' he (by omega) hpl
      refine ⟨fun j hj1 hj2 hj3 => ?_, fun p n hd => ?_⟩
      · by_cases hjk : j = k
        · subst hjk
          rw [h2 _ _ (fun i hi1 hi2 => (n_disj j i hj2 hi2 (by omega)))]
          have := sub_put_same (rs := rs) (bs := bs) (o := nAt j) (by omega)
          rw [hbl] at this
          rw [this]
          exact ⟨hbs, hneg⟩
        · exact h1 j (by omega) hj2 hj3
      · rw [h2 p n (fun j hj1 hj2 => hd j (by omega) hj2)]
        have := hd k (Nat.le_refl _) (by omega)
        exact sub_put_other (by omega) (by omega)

/-! ### reading what a field holds -/
theorem oct_digits (u : Nat) : ∀ c ∈ oct u, isD c = true := by
  induction u using Nat.strongRecOn with
  | _ u ih =>
    have hd : ∀ v : Nat, v < 8 → isD (UInt8.ofNat (48 + v)) = true := fun v hv => by
      simp only [isD, decide_eq_true_eq]
      simp
      omega
    by_cases h : u < 8
    · rw [oct_lt h]
      intro c hc
      obtain rfl := List.mem_singleton.1 hc
      exact hd u h
    · rw [oct_ge h]
      intro c hc
      rcases List.mem_append.1 hc with hc | hc
      · exact ih (u / 8) (by omega) c hc
      · obtain rfl := List.mem_singleton.1 hc
        exact hd _ (Nat.mod_lt _ (by omega))
theorem octN_oct (u : Nat) : octN (oct u) = u := by
  induction u using Nat.strongRecOn with
  | _ u ih =>
    by_cases h : u < 8
    · rw [oct_lt h]
      simp [octN]
      omega
    · rw [oct_ge h, octN_snoc, ih (u / 8) (by omega)]
      have : (UInt8.ofNat (48 + u % 8)).toNat = 48 + u % 8 := by simp; omega
      rw [this]
      omega
theorem octN_zeros (k : Nat) (l : List UInt8) : octN (zeros k ++ l) = octN l := by
  induction k with
  | zero => rfl
  | succ k ih =>
    rw [zeros, List.replicate_succ, List.cons_append]
    show List.foldl _ (0 * 8 + (48 - 48)) _ = _
    exact ih
theorem spanD_app : ∀ (a b : List UInt8), (∀ c ∈ a, isD c = true) → (∀ c, b.head? = some c → isD c = false) → spanD (a ++ b) = a.length
  | [], [], _, _ => rfl
  | [], c :: r, _, h => by
    have := h c rfl
    simp [spanD, this]
  | c :: r, b, h, hb => by
    rw [List.cons_append, spanD, if_pos (h c (by simp)), spanD_app r b (fun d hd => h d (by simp [hd])) hb]; rfl
theorem zeros_digits (k : Nat) : ∀ c ∈ zeros k, isD c = true := fun c hc => by
  obtain ⟨_, rfl⟩ := List.mem_replicate.1 hc
  rfl
/-- A field of octal digits, with a byte 0 (and blanks) behind them. -/
theorem octal_digits (d e : List UInt8) (hd : ∀ c ∈ d, isD c = true) (h0 : d ≠ []) (he : ∀ c, e.head? = some c → isD c = false) (hs : ∀ c ∈ e, isSp c = true) : octal (d ++ e) = ((octN d : Int), 0) := by
  obtain ⟨c, r, rfl⟩ : ∃ c r, d = c :: r := by
    cases d with
    | nil => exact absurd rfl h0
    | cons c r => exact ⟨c, r, rfl⟩
  have hc := hd c (by simp)
  have hdb : dropB (isB 32) (c :: r ++ e) = c :: r ++ e := by
    rw [List.cons_append, dropB, if_neg]
    simp only [isD, decide_eq_true_eq] at hc
    have : (32 : UInt8).toNat = 32 := rfl
    simp only [isB, decide_eq_true_eq]
    omega
  have hsp := spanD_app (c :: r) e hd he
  unfold octal
  rw [hdb, hsp, List.drop_left, List.take_left, if_neg]
  intro hany
  obtain ⟨x, hx, hf⟩ := any_iff.1 hany
  rw [hs x hx] at hf
  cases hf
theorem octal_field {n : Int} {w : Nat} {bs : List UInt8} (h : octField n w = some bs) : octal bs = (n, 0) ∧ (bs.headD 0).toNat < 128 := by
  unfold octField at h
  split at h
  · cases h
  rename_i hc
  have hn : 0 ≤ n := by omega
  have e2 : (octI n).data.toList = oct n.natAbs := by rw [octI, if_neg (by omega)]; simp
  rw [e2] at h
  obtain rfl := Option.some.inj h
  have hd : ∀ c ∈ zeros (w - 1 - (octI n).size) ++ oct n.natAbs, isD c = true := fun c hc => by
    rcases List.mem_append.1 hc with hc | hc
    · exact zeros_digits _ c hc
    · exact oct_digits _ c hc
  have hne : zeros (w - 1 - (octI n).size) ++ oct n.natAbs ≠ [] := by
    have := oct_bound n.natAbs
    intro e
    have e3 := (List.append_eq_nil_iff.1 e).2
    by_cases h8 : n.natAbs < 8
    · rw [oct_lt h8] at e3; cases e3
    · rw [oct_ge h8] at e3; simp at e3
  refine ⟨?_, ?_⟩
  · rw [octal_digits _ [0] hd hne (fun c hc => by obtain rfl : (0 : UInt8) = c := by simpa using hc
                                                  rfl) (fun c hc => by obtain rfl := List.mem_singleton.1 hc; rfl), octN_zeros, octN_oct]
    congr 1
    omega
  · generalize zeros (w - 1 - (octI n).size) ++ oct n.natAbs = d at *
    cases d with
    | nil => exact absurd rfl hne
    | cons c r =>
      have := hd c (by simp)
      simp only [isD, decide_eq_true_eq] at this
      show c.toNat < 128
      omega
theorem number_field {f n : Int} {w : Nat} {bs : List UInt8} (h : formField f n w = some bs) (hw : 2 ≤ w) : number bs = (n, 0) := by
  have key : ∀ bs, octField n w = some bs → number bs = (n, 0) := fun bs h => by
    obtain ⟨h1, h2⟩ := octal_field h
    rw [number, if_neg (by omega)]
    exact h1
  unfold formField at h
  split at h
  · unfold numField at h
    split at h
    · rename_i bs' h2
      obtain rfl := Option.some.inj h
      exact key _ h2
    · unfold binField at h
      split at h
      · cases h
      rename_i hb
      obtain rfl := Option.some.inj h
      have hlen := beGo_length w n []
      unfold binBytes at hb ⊢
      generalize beGo w n [] = l at *
      obtain ⟨c, r, rfl⟩ : ∃ c r, l = c :: r := by
        cases l with
        | nil => simp at hlen; omega
        | cons c r => exact ⟨c, r, rfl⟩
      have ho := orByte_eq c
      rw [flag] at hb ⊢
      rw [number, if_pos (by show 128 ≤ (orByte c).toNat; rw [ho]; split <;> omega)]
      rw [not_or, Classical.not_not, Classical.not_not] at hb
      exact Prod.ext hb.2 hb.1
  · exact key _ h
theorem preZ_app : ∀ (a : List UInt8) (k : Nat), hasZ a = false → preZ (a ++ List.replicate k 0) = a
  | [], 0, _ => rfl
  | [], k + 1, _ => by rw [List.nil_append, List.replicate_succ, preZ, if_pos (show (0 : UInt8).toNat = 0 from rfl)]
  | c :: r, k, h => by
    rw [hasZ, Bool.or_eq_false_iff, decide_eq_false_iff_not] at h
    rw [List.cons_append, preZ, if_neg h.1, preZ_app r k h.2]
theorem textOf_pad (s : ByteArray) (n : Nat) (h : hasZ s.data.toList = false) : textOf (pad s n) = s := by
  unfold textOf pad
  rw [preZ_app _ _ h]
end Go.Proofs.YtjeaofabpfgngaaDoor
