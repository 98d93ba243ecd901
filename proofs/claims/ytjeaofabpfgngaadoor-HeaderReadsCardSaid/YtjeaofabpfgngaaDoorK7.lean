/-
  The engine of these proofs, seventh part: make, composite literals, maps.
  No condition: every lemma is over any program.
-/
import Derived.Test.YtjeaofabpfgngaaDoorK6
namespace Go.KE
section
variable {P : Program} {n : Nat} {F : Fr} {E : Sl} {L : Bl} {ty : TypeId}

theorem madeCells_one (z : Value) (N : Nat) : madeCells #[z] N = (List.replicate N z).toArray := by
  apply Array.ext
  · simp [madeCells]
  · intro j h1 h2
    simp [madeCells, Nat.mod_one]

/-- 'make([]T, len, cap)', elements of one cell. -/
theorem m_make {x y : Operand} {t e bytes : Nat} {z : Value} {kx ky : IntKind} {l c : Int} [ht : TU P t (.slice e)] [hz : TZ P e z 1 bytes] (hz1 : z.cells = #[z]) (hx : ev E x = some (.int kx l)) (hy : ev E y = some (.int ky c))
    (h0 : 0 ≤ l) (hlc : l ≤ c) (hb : (bytes : Int) * c ≤ 281474976710656) (hN : c ≤ 9223372036854775807) :
    StepAt P n F E L (.makeSlice t x y) ty (fun _ : Nat => True) (fun b => .slice (some ⟨b, 0, none⟩) l.toNat c.toNat) (fun b => (b, .cells (List.replicate c.toNat z).toArray e (0, 0)) :: L) := .of fun a w oo ho _ he hs => by
  obtain ⟨i, hi1, hi2, hi3, hi4⟩ := hz.parts
  have hr := run_make (P := P) w t e i z ht.u hi1 hi2 kx ky l c h0 hlc (by rw [hi4]; exact hb) hN
  rw [hi3, Nat.mul_one, hz1, madeCells_one] at hr
  refine ⟨w.heap.size, w.alloc (.cells (List.replicate c.toNat z).toArray e (0, 0)), trivial, ?_, hs.alloc _⟩
  simp only [execOp, ho, he.ev hx, he.ev hy, Sem.run_bind, hr]; rfl

/-- The values of a literal's parts. -/
def evp (E : Sl) : List (Nat × Operand) → Option (List (Nat × Value))
  | [] => some []
  | (i, x) :: r => match ev E x, evp E r with
    | some v, some vs => some ((i, v) :: vs)
    | _, _ => none
theorem Env.evp {a : Act} (h : Env n a E) : ∀ {l : List (Nat × Operand)} {vs : List (Nat × Value)}, evp E l = some vs → l.map (fun (i, x) => (i, a.eval x)) = vs
  | [], vs, hl => by simp only [KE.evp] at hl; cases hl; rfl
  | (i, x) :: r, vs, hl => by
    simp only [KE.evp] at hl
    split at hl
    · rename_i v vs' h1 h2
      cases hl
      simp [h.ev h1, Env.evp h h2]
    · cases hl

/-- The parts in their order, each of its size, one behind the other: the cells. -/
inductive Parts (size : Nat) : Nat → List (Nat × Value) → List Value → Prop where
  | nil {k} : Parts size k [] []
  | cons {k v cs r l} (hv : v.cells = cs.toArray) (hs : cs.length = size) (h : Parts size (k + 1) r l) : Parts size k ((k, v) :: r) (cs ++ l)

theorem Parts.int {k : Nat} {kd : IntKind} {x : Int} {r : List (Nat × Value)} {l : List Value} (h : Parts 1 (k + 1) r l) : Parts 1 k ((k, .int kd x) :: r) ((.int kd x : Value) :: l) := .cons (cs := [.int kd x]) rfl rfl h
theorem Parts.str {k : Nat} {x : ByteArray} {r : List (Nat × Value)} {l : List Value} (h : Parts 1 (k + 1) r l) : Parts 1 k ((k, .string x) :: r) ((.string x : Value) :: l) := .cons (cs := [.string x]) rfl rfl h
theorem Parts.bool {k : Nat} {x : Bool} {r : List (Nat × Value)} {l : List Value} (h : Parts 1 (k + 1) r l) : Parts 1 k ((k, .bool x) :: r) ((.bool x : Value) :: l) := .cons (cs := [.bool x]) rfl rfl h
theorem Parts.slice {k : Nat} {x : Option Addr} {a b : Nat} {r : List (Nat × Value)} {l : List Value} (h : Parts 1 (k + 1) r l) : Parts 1 k ((k, .slice x a b) :: r) ((.slice x a b : Value) :: l) := .cons (cs := [.slice x a b]) rfl rfl h
theorem Parts.ptr {k : Nat} {x : Option Addr} {r : List (Nat × Value)} {l : List Value} (h : Parts 1 (k + 1) r l) : Parts 1 k ((k, .pointer x) :: r) ((.pointer x : Value) :: l) := .cons (cs := [.pointer x]) rfl rfl h
theorem Parts.map {k : Nat} {x : Option Nat} {r : List (Nat × Value)} {l : List Value} (h : Parts 1 (k + 1) r l) : Parts 1 k ((k, .map x) :: r) ((.map x : Value) :: l) := .cons (cs := [.map x]) rfl rfl h
theorem Parts.func {k : Nat} {f : Fn} {a b : Array Value} {r : List (Nat × Value)} {l : List Value} (h : Parts 1 (k + 1) r l) : Parts 1 k ((k, .func f a b) :: r) ((.func f a b : Value) :: l) := .cons (cs := [.func f a b]) rfl rfl h
theorem Parts.agg {k size : Nat} {cs : List Value} {r : List (Nat × Value)} {l : List Value} (h : Parts size (k + 1) r l) (hs : cs.length = size) : Parts size k ((k, .agg cs.toArray) :: r) (cs ++ l) := .cons rfl hs h

theorem foldl_set : ∀ (cs : List Value) (i off : Nat) (cur : Array Value), off + i + cs.length ≤ cur.size →
    (cs.zipIdx i).foldl (fun (c : Array Value) (x : Value × Nat) => c.setIfInBounds (off + x.2) x.1) cur = (cur.toList.take (off + i) ++ cs ++ cur.toList.drop (off + i + cs.length)).toArray
  | [], i, off, cur, _ => by simp
  | v :: r, i, off, cur, h => by
    simp only [List.zipIdx_cons, List.foldl_cons]
    rw [foldl_set r (i + 1) off _ (by simp at h ⊢; omega)]
    congr 1
    have e := list_seg_step cur.toList (off + i) v r (by simp at h ⊢; omega)
    simpa [Array.toList_setIfInBounds, Nat.add_assoc] using e

theorem fill_parts {size : Nat} : ∀ {ps : List (Nat × Value)} {k : Nat} {l : List Value} {pre post : List Value}, Parts size k ps l → pre.length = k * size → post.length = l.length →
    Instr.fill (fun i => some (i * size, size)) (pre ++ post).toArray ps = some (pre ++ l).toArray
  | [], k, l, pre, post, hp, _, hpo => by
    cases hp
    have : post = [] := List.eq_nil_of_length_eq_zero hpo
    simp [Instr.fill, this]
  | (_, v) :: r, _, _, pre, post, .cons (k := k) (cs := cs) (l := l) hv hs h, hpre, hpo => by
    have hsz : v.cells.size = size := by rw [hv]; simpa using hs
    simp only [List.length_append] at hpo
    have hfit : ¬ (k * size + v.cells.size > (pre ++ post).toArray.size) := by
      simp only [hsz, List.size_toArray, List.length_append, hpre, hpo]; omega
    rw [Instr.fill]
    simp only
    rw [if_neg (by simp only [hsz, ne_eq, not_true_eq_false, false_or, Bool.or_eq_true, decide_eq_true_eq]; simpa [hsz] using hfit)]
    have hfold := foldl_set cs 0 (k * size) (pre ++ post).toArray (by simp only [Nat.add_zero, List.size_toArray, List.length_append, hpre]; omega)
    have e1 : v.cells.zipIdx.foldl (fun cs (x : Value × Nat) => match x with | (c, j) => cs.setIfInBounds (k * size + j) c) (pre ++ post).toArray = ((pre ++ cs) ++ post.drop size).toArray := by
      rw [hv]
      have : (cs.toArray.zipIdx.foldl (fun cs (x : Value × Nat) => match x with | (c, j) => cs.setIfInBounds (k * size + j) c) (pre ++ post).toArray) =
          (cs.zipIdx 0).foldl (fun (c : Array Value) (x : Value × Nat) => c.setIfInBounds (k * size + x.2) x.1) (pre ++ post).toArray := by
        simp
      rw [this, hfold]
      congr 1
      simp only [Nat.add_zero]
      rw [← hpre, List.take_left, List.drop_length_add_append, hs]
    rw [e1]
    have ih := fill_parts (size := size) (ps := r) (k := k + 1) (l := l) (pre := pre ++ cs) (post := post.drop size) h (by simp only [List.length_append, hpre, hs, Nat.add_mul, Nat.one_mul]) (by simp only [List.length_drop]; omega)
    rw [ih]
    simp [List.append_assoc]

/-- '[]T{..}', all elements given. -/
theorem m_buildSlice {t e size bytes len : Nat} {z : Value} {zl : List Value} {ps : List (Nat × Operand)} {vs : List (Nat × Value)} {l : List Value} [ht : TU P t (.slice e)] [hz : TZ P e z size bytes] (hzl : z.cells = zl.toArray)
    (hps : evp E ps = some vs) (hl : Parts size 0 vs l) (hlen : l.length = len * size) (hsm : len * size ≤ 16777216) :
    StepAt P n F E L (.buildSlice t len ps.toArray) ty (fun _ : Nat => True) (fun b => .slice (some ⟨b, 0, none⟩) len len) (fun b => (b, .cells l.toArray e (0, 0)) :: L) := .of fun a w oo ho _ he hs => by
  refine ⟨w.heap.size, w.alloc (.cells l.toArray e (0, 0)), trivial, ?_, hs.alloc _⟩
  have hmap : (ps.toArray.map fun (i, x) => (i, a.eval x)).toList = vs := by
    rw [List.map_toArray, List.toList_toArray]; exact he.evp hps
  have key : (Instr.buildSlice t len (ps.toArray.map fun (i, x) => (i, a.eval x))).run P w = .ok (.slice (some ⟨w.heap.size, 0, none⟩) len len) (w.alloc (.cells l.toArray e (0, 0))) := by
    unfold Instr.buildSlice
    simp only [hmap]
    have hfill : ∀ (post : List Value), post.length = l.length → Instr.fill (fun i => some (i * size, size)) post.toArray vs = some l.toArray := fun post hpo => by
      have := fill_parts (pre := []) (post := post) hl (by simp) hpo
      simpa using this
    have hbig : ¬ (len * size > 2 ^ 24) := by omega
    simp only [Sem.run_bind, run_underlying ht.u, Result.andThen, hz.sizeOf, hbig, if_false]
    by_cases h0 : len * size = 0
    · have hl0 : l = [] := List.eq_nil_of_length_eq_zero (by omega)
      have := hfill [] (by rw [hl0])
      have e0 : ∀ f : Nat → Value, (Array.range 0).map f = #[] := fun f => by simp
      simp only [h0, if_true, Sem.run_pure, e0, this, Sem.run_bind, Result.andThen, newRow, run_newObj_alloc]
    · have := hfill ((List.range (len * size)).map fun j => zl[j % zl.length]!) (by simp [hlen])
      have e1 : (Array.range (len * size)).map (fun j => z.cells[j % z.cells.size]!) = ((List.range (len * size)).map fun j => zl[j % zl.length]!).toArray := by
        rw [hzl]
        apply Array.ext
        · simp
        · intro j h1 h2; simp
      simp only [h0, if_false, Sem.run_bind, hz.zero, Sem.run_pure, Result.andThen, e1, this, newRow, run_newObj_alloc]
  simp only [execOp, ho, Sem.run_bind, key]; rfl

/-- 'T{..}' of a struct or array type. -/
theorem p_build {t : Nat} {ps : List (Nat × Operand)} {vs : List (Nat × Value)} {l : List Value} (hps : evp E ps = some vs) (hb : P.built t vs = some l.toArray) : PureAt P n F E L (.build t ps.toArray) ty (.agg l.toArray) := .of fun a w oo ho _ he _ => by
  have hmap : (ps.toArray.map fun (i, x) => (i, a.eval x)).toList = vs := by
    rw [List.map_toArray, List.toList_toArray]; exact he.evp hps
  have hr := run_build (P := P) w t (ps.toArray.map fun (i, x) => (i, a.eval x)) l.toArray (by rw [hmap]; exact hb)
  simp only [execOp, ho, Sem.run_bind, hr]; rfl
/-- A struct type: the zero cells of its fields, one behind the other. -/
def offs : Nat → List (List Value) → List (Nat × Nat)
  | _, [] => []
  | o, z :: r => (o, z.length) :: offs (o + z.length) r
def flat : List (List Value) → List Value
  | [] => []
  | z :: r => z ++ flat r
def placesOf (P : Program) (t : TypeId) : Option (List (Nat × Nat) × List Value) :=
  match P.info? t, P.underlying t with
  | some it, some (.struct fields) =>
    match it.zero, List.mapM (fun f : Field => Option.map (fun i => (f.offset, i.size)) (P.info? f.type)) fields.toList with
    | some z, some pl => some (pl, z.cells.toList)
    | _, _ => none
  | _, _ => none
class TB (P : Program) (t : TypeId) (zs : outParam (List (List Value))) : Prop where
  h : placesOf P t = some (offs 0 zs, flat zs)
/-- A type whose bare literal is its zero. -/
class TB0 (P : Program) (t : TypeId) (l : outParam (List Value)) : Prop where
  h : P.built t [] = some l.toArray

/-- A literal's parts in the fields' order; what is not given is zero. -/
inductive PartsS : List (List Value) → Nat → List (Nat × Value) → List Value → Prop where
  | nil {k} : PartsS [] k [] []
  | cons {z zs k v cs r l} (hv : v.cells = cs.toArray) (hs : cs.length = z.length) (h : PartsS zs (k + 1) r l) : PartsS (z :: zs) k ((k, v) :: r) (cs ++ l)
  | skip {z zs k ps l} (h : PartsS zs (k + 1) ps l) : PartsS (z :: zs) k ps (z ++ l)

theorem PartsS.int {z : Value} {zs : List (List Value)} {k : Nat} {kd : IntKind} {x : Int} {r : List (Nat × Value)} {l : List Value} (h : PartsS zs (k + 1) r l) : PartsS ([z] :: zs) k ((k, .int kd x) :: r) ((.int kd x : Value) :: l) := .cons (cs := [.int kd x]) rfl rfl h
theorem PartsS.str {z : Value} {zs : List (List Value)} {k : Nat} {x : ByteArray} {r : List (Nat × Value)} {l : List Value} (h : PartsS zs (k + 1) r l) : PartsS ([z] :: zs) k ((k, .string x) :: r) ((.string x : Value) :: l) := .cons (cs := [.string x]) rfl rfl h
theorem PartsS.bool {z : Value} {zs : List (List Value)} {k : Nat} {x : Bool} {r : List (Nat × Value)} {l : List Value} (h : PartsS zs (k + 1) r l) : PartsS ([z] :: zs) k ((k, .bool x) :: r) ((.bool x : Value) :: l) := .cons (cs := [.bool x]) rfl rfl h
theorem PartsS.slice {z : Value} {zs : List (List Value)} {k : Nat} {x : Option Addr} {a b : Nat} {r : List (Nat × Value)} {l : List Value} (h : PartsS zs (k + 1) r l) : PartsS ([z] :: zs) k ((k, .slice x a b) :: r) ((.slice x a b : Value) :: l) := .cons (cs := [.slice x a b]) rfl rfl h
theorem PartsS.ptr {z : Value} {zs : List (List Value)} {k : Nat} {x : Option Addr} {r : List (Nat × Value)} {l : List Value} (h : PartsS zs (k + 1) r l) : PartsS ([z] :: zs) k ((k, .pointer x) :: r) ((.pointer x : Value) :: l) := .cons (cs := [.pointer x]) rfl rfl h
theorem PartsS.map {z : Value} {zs : List (List Value)} {k : Nat} {x : Option Nat} {r : List (Nat × Value)} {l : List Value} (h : PartsS zs (k + 1) r l) : PartsS ([z] :: zs) k ((k, .map x) :: r) ((.map x : Value) :: l) := .cons (cs := [.map x]) rfl rfl h
theorem PartsS.func {z : Value} {zs : List (List Value)} {k : Nat} {f : Fn} {a b : Array Value} {r : List (Nat × Value)} {l : List Value} (h : PartsS zs (k + 1) r l) : PartsS ([z] :: zs) k ((k, .func f a b) :: r) ((.func f a b : Value) :: l) := .cons (cs := [.func f a b]) rfl rfl h
theorem PartsS.agg {z : List Value} {zs : List (List Value)} {k : Nat} {cs : List Value} {r : List (Nat × Value)} {l : List Value} (h : PartsS zs (k + 1) r l) (hs : cs.length = z.length) : PartsS (z :: zs) k ((k, .agg cs.toArray) :: r) (cs ++ l) := .cons rfl hs h

theorem offs_length : ∀ (zs : List (List Value)) (o : Nat), (offs o zs).length = zs.length
  | [], _ => rfl
  | z :: r, o => by simp [offs, offs_length r]

theorem fill_struct {pl : List (Nat × Nat)} : ∀ {zs : List (List Value)} {k : Nat} {ps : List (Nat × Value)} {l pre : List Value}, PartsS zs k ps l → pl.drop k = offs pre.length zs →
    Instr.fill (fun i => pl.toArray[i]?) (pre ++ flat zs).toArray ps = some (pre ++ l).toArray
  | [], _, _, _, pre, .nil, _ => by simp [Instr.fill, flat]
  | _, _, _, _, pre, .skip (z := z) (zs := zs) (k := k) (ps := ps) (l := l) h, hd => by
    have hd' : pl.drop (k + 1) = offs (pre ++ z).length zs := by
      rw [show pl.drop (k + 1) = (pl.drop k).drop 1 by rw [List.drop_drop], hd]
      simp [offs]
    have := fill_struct (pre := pre ++ z) h hd'
    simpa [flat, List.append_assoc] using this
  | _, _, _, _, pre, .cons (z := z) (zs := zs) (k := k) (v := v) (cs := cs) (r := r) (l := l) hv hs h, hd => by
    have hd' : pl.drop (k + 1) = offs (pre ++ cs).length zs := by
      rw [show pl.drop (k + 1) = (pl.drop k).drop 1 by rw [List.drop_drop], hd]
      simp [offs, hs]
    have hk : pl[k]? = some (pre.length, z.length) := by
      have : (pl.drop k)[0]? = some (pre.length, z.length) := by rw [hd]; simp [offs]
      simpa using this
    have hsz : v.cells.size = z.length := by rw [hv]; simpa using hs
    have hfit : ¬ (pre.length + z.length > (pre ++ flat (z :: zs)).toArray.size) := by
      simp only [flat, List.size_toArray, List.length_append]; omega
    rw [Instr.fill]
    simp only [List.getElem?_toArray, hk]
    rw [if_neg (by simp only [hsz, ne_eq, not_true_eq_false, false_or, Bool.or_eq_true, decide_eq_true_eq]; simpa using hfit)]
    have hfold := foldl_set cs 0 pre.length (pre ++ flat (z :: zs)).toArray (by simp only [Nat.add_zero, flat, List.size_toArray, List.length_append]; omega)
    have e1 : v.cells.zipIdx.foldl (fun cs (x : Value × Nat) => match x with | (c, j) => cs.setIfInBounds (pre.length + j) c) (pre ++ flat (z :: zs)).toArray = ((pre ++ cs) ++ flat zs).toArray := by
      rw [hv]
      have : (cs.toArray.zipIdx.foldl (fun cs (x : Value × Nat) => match x with | (c, j) => cs.setIfInBounds (pre.length + j) c) (pre ++ flat (z :: zs)).toArray) =
          (cs.zipIdx 0).foldl (fun (c : Array Value) (x : Value × Nat) => c.setIfInBounds (pre.length + x.2) x.1) (pre ++ flat (z :: zs)).toArray := by
        simp
      rw [this, hfold]
      congr 1
      simp only [Nat.add_zero]
      rw [List.take_left, List.drop_length_add_append, flat, hs, List.drop_left]
    rw [e1]
    have ih := fill_struct (pre := pre ++ cs) h hd'
    simp only [List.getElem?_toArray] at ih
    rw [ih]
    simp [List.append_assoc]

theorem built_of {t : Nat} {zs : List (List Value)} {vs : List (Nat × Value)} {l : List Value} [hb : TB P t zs] (h : PartsS zs 0 vs l) : P.built t vs = some l.toArray := by
  have hp := hb.h
  unfold placesOf at hp
  unfold Program.built
  cases hi : P.info? t with
  | none => rw [hi] at hp; simp at hp
  | some it =>
    cases hu : P.underlying t with
    | none => rw [hi, hu] at hp; simp at hp
    | some d =>
      rw [hi, hu] at hp
      cases d with
      | struct fields =>
        simp only at hp ⊢
        cases hz : it.zero with
        | none => rw [hz] at hp; simp at hp
        | some z =>
          cases hm : List.mapM (fun f : Field => Option.map (fun i => (f.offset, i.size)) (P.info? f.type)) fields.toList with
          | none => rw [hz, hm] at hp; simp at hp
          | some pl =>
            rw [hz, hm] at hp
            simp only [Option.some.injEq, Prod.mk.injEq] at hp
            obtain ⟨rfl, hzc⟩ := hp
            have := fill_struct (pl := offs 0 zs) (pre := []) h (by simp)
            simp only [List.nil_append] at this
            rw [← hzc] at this
            simpa using this
      | _ => simp at hp
theorem p_buildS {t : Nat} {zs : List (List Value)} {ps : List (Nat × Operand)} {vs : List (Nat × Value)} {l0 l : List Value} [hb : TB P t zs] (hps : evp E ps = some vs) (h : PartsS zs 0 vs l0) (hl : l0 = l) : PureAt P n F E L (.build t ps.toArray) ty (.agg l.toArray) :=
  p_build hps (built_of (hl ▸ h))
theorem p_build0 {t : Nat} {l : List Value} [hb : TB0 P t l] : PureAt P n F E L (.build t #[]) ty (.agg l.toArray) :=
  p_build (ps := []) rfl hb.h

/-! ### maps whose keys are numbers, strings or bools -/
def plainKey : TypeDesc → Bool
  | .int _ | .string | .bool => true
  | _ => false
theorem run_checkKey {kt : TypeId} {d : TypeDesc} [hk : TU P kt d] (hd : plainKey d = true) (em : Bool) (v : Value) (w : World) : (Instr.checkKey em 10000 kt v).run P w = .ok () w := by
  unfold Instr.checkKey
  rw [Sem.run_bind, run_underlying hk.u w]
  cases d <;> simp_all [plainKey, Result.andThen]

theorem run_findKey {kt : TypeId} {d : TypeDesc} [hk : TU P kt d] {k : Value} {es : List MapEntry} {r : Option (Nat × Value)} (hf : Instr.findNow d k es 0 = some r) (w : World) : (Instr.findKey kt k es).run P w = .ok r w := by
  unfold Instr.findKey
  rw [Sem.run_bind, run_underlying hk.u w]
  simp [Result.andThen, hf]

def found (z : Value) : Option (Nat × Value) → Value
  | some (_, v) => .tuple #[v, .bool true]
  | none => .tuple #[z, .bool false]
def foundV (z : Value) : Option (Nat × Value) → Value
  | some (_, v) => v
  | none => z

theorem run_lookup {t kt et size bytes b clock : Nat} {z : Value} {d : TypeDesc} {k : Value} {es : Array MapEntry} {r : Option (Nat × Value)} {w : World} [ht : TU P t (.map kt et)] [hk : TU P kt d] [hz : TZ P et z size bytes] (hd : plainKey d = true)
    (hb : w.heap[b]? = some (.map es clock)) (hf : Instr.findNow d k es.toList 0 = some r) (ok : Bool) :
    (Instr.lookup t (.map (some b)) k ok).run P w = .ok (if ok then found z r else foundV z r) w := by
  have hg : (getObj b).run P w = .ok (.map es clock) w := by simp only [getObj, Sem.run, hb]
  unfold Instr.lookup
  simp only [Sem.run_bind, run_underlying ht.u, Result.andThen, hg, Sem.run_pure, run_checkKey hd, run_findKey hf]
  cases r with
  | none => simp only [Sem.run_bind, hz.zero, Result.andThen, Sem.run_pure]; cases ok <;> rfl
  | some p => cases ok <;> rfl

theorem p_lookup_ok {x y : Operand} {t kt et size bytes b clock : Nat} {z : Value} {d : TypeDesc} {k : Value} {es : List MapEntry} {r : Option (Nat × Value)} [ht : TU P t (.map kt et)] [hk : TU P kt d] [hz : TZ P et z size bytes] (hd : plainKey d = true)
    (hx : ev E x = some (.map (some b))) (hy : ev E y = some k) (hb : Held F L b (.map es.toArray clock)) (hf : Instr.findNow d k es 0 = some r) : PureAt P n F E L (.lookup t x y true) ty (found z r) := .of fun a w oo ho _ he hs => by
  have hr := run_lookup (P := P) (t := t) (kt := kt) (z := z) hd (hb.heap hs) (by simpa using hf) true
  simp only [execOp, ho, he.ev hx, he.ev hy, Sem.run_bind, hr]; rfl
theorem p_lookup {x y : Operand} {t kt et size bytes b clock : Nat} {z : Value} {d : TypeDesc} {k : Value} {es : List MapEntry} {r : Option (Nat × Value)} [ht : TU P t (.map kt et)] [hk : TU P kt d] [hz : TZ P et z size bytes] (hd : plainKey d = true)
    (hx : ev E x = some (.map (some b))) (hy : ev E y = some k) (hb : Held F L b (.map es.toArray clock)) (hf : Instr.findNow d k es 0 = some r) : PureAt P n F E L (.lookup t x y false) ty (foundV z r) := .of fun a w oo ho _ he hs => by
  have hr := run_lookup (P := P) (t := t) (kt := kt) (z := z) hd (hb.heap hs) (by simpa using hf) false
  simp only [execOp, ho, he.ev hx, he.ev hy, Sem.run_bind, hr]; rfl

theorem m_makeMap {t : TypeId} : StepAt P n F E L (.makeMap t none) ty (fun _ : Nat => True) (fun b => .map (some b)) (fun b => (b, .map #[] 0) :: L) := .of fun a w oo ho _ _ hs =>
  ⟨w.heap.size, w.alloc (.map #[] 0), trivial, by simp [execOp, ho, Instr.makeMap], hs.alloc _⟩

/-- A new entry. -/
theorem run_insert {t kt et b clock : Nat} {d : TypeDesc} {k v : Value} {es : List MapEntry} {w : World} [ht : TU P t (.map kt et)] [hk : TU P kt d] (hd : plainKey d = true)
    (hb : w.heap[b]? = some (.map es.toArray clock)) (hf : Instr.findNow d k es 0 = some none) :
    (Instr.mapUpdate t (.map (some b)) k v).run P w = .ok () { w with heap := w.heap.setIfInBounds b (.map (es ++ [(⟨k, v, clock⟩ : MapEntry)]).toArray (clock + 1)) } := by
  have hg : (getObj b).run P w = .ok (.map es.toArray clock) w := by simp only [getObj, Sem.run, hb]
  unfold Instr.mapUpdate
  simp only [Sem.run_bind, run_underlying ht.u, Result.andThen, hg, run_checkKey hd]
  rw [run_findKey (es := es.toArray.toList) (by simpa using hf)]
  simp only [setObj, Sem.run, List.push_toArray, hb]

theorem s_insert {m x y : Operand} {t kt et b clock : Nat} {d : TypeDesc} {k v : Value} {es : List MapEntry} {L' : Bl} [ht : TU P t (.map kt et)] [hk : TU P kt d] (hd : plainKey d = true)
    (hm : ev E m = some (.map (some b))) (hx : ev E x = some k) (hy : ev E y = some v) (hb : BSet L b (.map es.toArray clock) (.map (es ++ [(⟨k, v, clock⟩ : MapEntry)]).toArray (clock + 1)) L') (hf : Instr.findNow d k es 0 = some none) : SkipAt P n F E L (.insert t m x y) ty L' := .of fun a w oo ho _ he hs => by
  have hblk := hs.own _ hb.mem
  have hr := run_insert (P := P) (t := t) (kt := kt) (v := v) hd hblk hf
  refine ⟨_, ?_, hs.bset (w' := { w with heap := w.heap.setIfInBounds b (.map (es ++ [(⟨k, v, clock⟩ : MapEntry)]).toArray (clock + 1)) }) hb ?_ ?_ rfl rfl rfl⟩
  · simp only [execOp, ho, he.ev hm, he.ev hx, he.ev hy, Sem.run_bind, hr]; rfl
  · have := lt_of_get hblk
    simp [this]
  · intro j hj
    simp [Array.getElem?_setIfInBounds_ne (Ne.symm hj)]

/-! ### bits, shifts, division, sign -/
section bits
variable {x y : Operand} {t u : TypeId} {k k' : IntKind} {p q : Int}
def bitsOf (op : BinOp) (k : IntKind) (x y : Int) : Int :=
  let a := BitVec.ofInt k.bits x
  let b := BitVec.ofInt k.bits y
  k.wrap (match op with
    | .and => (a &&& b).toNat
    | .or => (a ||| b).toNat
    | .xor => (a ^^^ b).toNat
    | _ => (a &&& ~~~b).toNat)
theorem p_and (hx : ev E x = some (.int k p)) (hy : ev E y = some (.int k q)) : PureAt P n F E L (.binOp .and t x y u) ty (.int k (bitsOf .and k p q)) := p_bin hx hy fun w => by simp [binOp, Op.intBits, bitsOf]
theorem p_or (hx : ev E x = some (.int k p)) (hy : ev E y = some (.int k q)) : PureAt P n F E L (.binOp .or t x y u) ty (.int k (bitsOf .or k p q)) := p_bin hx hy fun w => by simp [binOp, Op.intBits, bitsOf]
theorem p_xor (hx : ev E x = some (.int k p)) (hy : ev E y = some (.int k q)) : PureAt P n F E L (.binOp .xor t x y u) ty (.int k (bitsOf .xor k p q)) := p_bin hx hy fun w => by simp [binOp, Op.intBits, bitsOf]
theorem p_andNot (hx : ev E x = some (.int k p)) (hy : ev E y = some (.int k q)) : PureAt P n F E L (.binOp .andNot t x y u) ty (.int k (bitsOf .andNot k p q)) := p_bin hx hy fun w => by simp [binOp, Op.intBits, bitsOf]
theorem p_bin2 {op : BinOp} {v : Value} (hx : ev E x = some (.int k p)) (hy : ev E y = some (.int k' q)) (hr : ∀ w, (binOp op t (.int k p) (.int k' q)).run P w = .ok v w) : PureAt P n F E L (.binOp op t x y u) ty v := .of fun a w oo ho _ he _ => by
  have hg : ∀ w, (eqGuard op t x y (.int k p) (.int k' q)).run P w = .ok () w := fun w => by
    unfold eqGuard; split <;> rfl
  simp only [execOp, ho, he.ev hx, he.ev hy, Sem.run_bind, hg, hr, Result.andThen]
  rfl
theorem p_shr (hx : ev E x = some (.int k p)) (hy : ev E y = some (.int k' q)) (h0 : 0 ≤ q) : PureAt P n F E L (.binOp .shr t x y u) ty (.int k (p.fdiv (2 ^ (min q.toNat k.bits)))) := p_bin2 hx hy fun w => by
  simp only [binOp, Op.shift]; rw [if_neg (by omega)]; rfl
theorem p_shl (hx : ev E x = some (.int k p)) (hy : ev E y = some (.int k' q)) (h0 : 0 ≤ q) : PureAt P n F E L (.binOp .shl t x y u) ty (.int k (k.wrap (p * 2 ^ (min q.toNat k.bits)))) := p_bin2 hx hy fun w => by
  simp only [binOp, Op.shift]; rw [if_neg (by omega)]; rfl
theorem p_quo (hx : ev E x = some (.int k p)) (hy : ev E y = some (.int k q)) (h0 : q ≠ 0) : PureAt P n F E L (.binOp .quo t x y u) ty (.int k (k.wrap (p.tdiv q))) := p_bin hx hy fun w => by
  simp only [binOp, Op.intDiv]; simp [h0]
theorem p_rem (hx : ev E x = some (.int k p)) (hy : ev E y = some (.int k q)) (h0 : q ≠ 0) : PureAt P n F E L (.binOp .rem t x y u) ty (.int k (p.tmod q)) := p_bin hx hy fun w => by
  simp only [binOp, Op.intDiv]; simp [h0]
/-- Division of numbers from 0 up. -/
theorem p_quo' (hx : ev E x = some (.int k p)) (hy : ev E y = some (.int k q)) (h0 : 0 ≤ p) (h1 : 0 < q) (hf : Fits k p) : PureAt P n F E L (.binOp .quo t x y u) ty (.int k (p / q)) := by
  have := p_quo (P := P) (n := n) (F := F) (L := L) (ty := ty) (t := t) (u := u) hx hy (by omega)
  have hd : Fits k (p / q) := by
    have h2 : p / q ≤ p := Int.ediv_le_self q h0
    have h3 : 0 ≤ p / q := Int.ediv_nonneg h0 (by omega)
    cases k <;> simp only [Fits] at hf ⊢ <;> omega
  rwa [Int.tdiv_eq_ediv_of_nonneg h0, hd.wrap] at this
theorem p_rem' (hx : ev E x = some (.int k p)) (hy : ev E y = some (.int k q)) (h0 : 0 ≤ p) (h1 : 0 < q) : PureAt P n F E L (.binOp .rem t x y u) ty (.int k (p % q)) := by
  have := p_rem (P := P) (n := n) (F := F) (L := L) (ty := ty) (t := t) (u := u) hx hy (by omega)
  rwa [Int.tmod_eq_emod_of_nonneg h0] at this
theorem p_neg {t' : TypeId} (hx : ev E x = some (.int k p)) : PureAt P n F E L (.unOp .neg t' x) ty (.int k (k.wrap (0 - p))) := .of fun a w oo ho _ he _ => by
  simp [execOp, ho, he.ev hx, Op.unary, Op.intArith]
end bits
/-- A number's low bits. -/
theorem and_mask {k : IntKind} {p : Int} (j : Nat) (h0 : 0 ≤ p) (hp : Fits k p) (hj : j < k.bits) (hm : Fits k (2 ^ j - 1)) : bitsOf .and k p (2 ^ j - 1) = p % 2 ^ j := by
  have hb : ∀ z : Int, 0 ≤ z → Fits k z → (BitVec.ofInt k.bits z).toNat = z.toNat := fun z h0 hz => by
    have : z < 2 ^ k.bits := by cases k <;> simp only [Fits] at hz <;> simp only [IntKind.bits] <;> omega
    rw [BitVec.toNat_ofInt, Int.emod_eq_of_lt h0 (by exact_mod_cast this)]
  have h2 : (0 : Int) < 2 ^ j := Int.pow_pos (by omega)
  have e : (BitVec.ofInt k.bits p &&& BitVec.ofInt k.bits (2 ^ j - 1)).toNat = p.toNat % 2 ^ j := by
    rw [BitVec.toNat_and, hb p h0 hp, hb _ (by omega) hm]
    have : ((2 : Int) ^ j - 1).toNat = 2 ^ j - 1 := by
      have : ((2 ^ j : Nat) : Int) = 2 ^ j := by simp
      omega
    rw [this, Nat.and_two_pow_sub_one_eq_mod]
  have hr : ((p.toNat % 2 ^ j : Nat) : Int) = p % 2 ^ j := by
    rw [Int.natCast_emod, Int.toNat_of_nonneg h0]; simp
  unfold bitsOf
  simp only [e, hr]
  refine Fits.wrap ?_
  have h3 : 0 ≤ p % 2 ^ j := Int.emod_nonneg _ (by omega)
  have h4 : p % 2 ^ j ≤ p := by
    rcases Int.lt_or_le p (2 ^ j) with h | h
    · rw [Int.emod_eq_of_lt h0 h]; omega
    · have := Int.emod_lt_of_pos p h2; omega
  cases k <;> simp only [Fits] at hp ⊢ <;> omega
end
end Go.KE
