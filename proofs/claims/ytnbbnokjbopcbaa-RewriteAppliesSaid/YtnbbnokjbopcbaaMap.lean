/- Go's maps as lists of pairs: what a look-up, a store, a length come to. -/
import Derived.Laws.Sem
import Derived.Laws.World
import Derived.Laws.StructEq
set_option linter.all false
namespace Go.Sx
open Go

section
variable {K V : Type} [DecidableEq K]

/-- The value of a key. -/
def mget : List (K × V) → K → Option V
  | [], _ => none
  | (a, v) :: r, k => if k = a then some v else mget r k

/-- With a value for a key: in the place of the elder one, or behind all. -/
def mput : List (K × V) → K → V → List (K × V)
  | [], k, v => [(k, v)]
  | (a, u) :: r, k, v => if k = a then (a, v) :: r else (a, u) :: mput r k v

theorem mget_put (l : List (K × V)) (k : K) (v : V) (j : K) : mget (mput l k v) j = if j = k then some v else mget l j := by
  induction l with
  | nil => simp [mput, mget]
  | cons x r ih =>
    obtain ⟨a, u⟩ := x
    simp only [mput]
    by_cases h : k = a
    · subst h
      simp only [if_true, mget]
      by_cases hj : j = k <;> simp [hj]
    · simp only [h, if_false, mget, ih]
      by_cases hj : j = a
      · subst hj
        simp only [if_true]
        rw [if_neg (fun e => h e.symm)]
      · simp [hj]

theorem mput_length (l : List (K × V)) (k : K) (v : V) : (mput l k v).length = if (mget l k).isSome then l.length else l.length + 1 := by
  induction l with
  | nil => simp [mput, mget]
  | cons x r ih =>
    obtain ⟨a, u⟩ := x
    simp only [mput, mget]
    by_cases h : k = a
    · simp [h]
    · simp only [h, if_false, List.length_cons, ih]
      split <;> simp

/-- The entries of the model's map. -/
def ents (ke : K → Value) (ve : V → Value) : Nat → List (K × V) → List MapEntry
  | _, [] => []
  | i, (k, v) :: r => { key := ke k, val := ve v, born := i } :: ents ke ve (i + 1) r

theorem ents_length (ke : K → Value) (ve : V → Value) : ∀ (i : Nat) (l : List (K × V)), (ents ke ve i l).length = l.length
  | _, [] => rfl
  | i, _ :: r => by simp [ents, ents_length ke ve (i + 1) r]

/-- Block m of w is the map of these pairs. -/
def MapAt (ke : K → Value) (ve : V → Value) (w : World) (m : Nat) (l : List (K × V)) : Prop :=
  w.heap[m]? = some (.map (ents ke ve 0 l).toArray l.length)

/-- Keys of a type are told apart as the model tells them apart. -/
structure KeyOk (P : Program) (kt : TypeId) (ke : K → Value) : Prop where
  chk : ∀ e a w, (Instr.checkKey e 10000 kt (ke a)).run P w = .ok () w
  cmp : ∃ d, (∀ w, (underlying kt).run P w = .ok d w) ∧ ((∀ a b, Instr.sameNow d (ke a) (ke b) = some (decide (a = b))) ∨
    ((∀ a b, Instr.sameNow d (ke a) (ke b) = none) ∧ ∀ a b w, (Op.equal kt (ke a) (ke b)).run P w = .ok (decide (a = b)) w))
  bits : ∀ a, Instr.sameBits 10000 (ke a) (ke a) = true

/-- Where a key stands. -/
def mfind (ve : V → Value) : Nat → List (K × V) → K → Option (Nat × Value)
  | _, [], _ => none
  | i, (a, v) :: r, k => if k = a then some (i, ve v) else mfind ve (i + 1) r k

theorem findNow_eq {ke : K → Value} {ve : V → Value} {d : TypeDesc} (h : ∀ a b, Instr.sameNow d (ke a) (ke b) = some (decide (a = b))) (k : K) :
    ∀ (i b : Nat) (l : List (K × V)), Instr.findNow d (ke k) (ents ke ve b l) i = some (mfind ve i l k)
  | _, _, [] => rfl
  | i, b, (a, v) :: r => by
    simp only [ents, Instr.findNow, mfind, h]
    by_cases e : k = a
    · simp [e]
    · simp only [e, decide_false, if_false]; exact findNow_eq h k (i + 1) (b + 1) r

theorem findAsking_run {P : Program} {kt : TypeId} {ke : K → Value} {ve : V → Value} (h : ∀ a b w, (Op.equal kt (ke a) (ke b)).run P w = .ok (decide (a = b)) w) (k : K) (w : World) :
    ∀ (i b : Nat) (l : List (K × V)), (Instr.findAsking kt (ke k) (ents ke ve b l) i).run P w = .ok (mfind ve i l k) w
  | _, _, [] => rfl
  | i, b, (a, v) :: r => by
    simp only [ents, Instr.findAsking, Sem.run_bind, h, Result.andThen_ok, mfind]
    by_cases e : k = a
    · simp [e]
    · simp only [e, decide_false, Bool.false_eq_true, if_false]; exact findAsking_run h k w (i + 1) (b + 1) r

theorem findKey_run {P : Program} {kt : TypeId} {ke : K → Value} {ve : V → Value} (hK : KeyOk P kt ke) (k : K) (w : World) (b : Nat) (l : List (K × V)) :
    (Instr.findKey kt (ke k) (ents ke ve b l)).run P w = .ok (mfind ve 0 l k) w := by
  obtain ⟨d, hd, h | ⟨h1, h2⟩⟩ := hK.cmp
  · simp [Instr.findKey, hd, findNow_eq h k 0 b l]
  · simp only [Instr.findKey, Sem.run_bind, hd, Result.andThen_ok]
    cases l with
    | nil => rfl
    | cons x r =>
      obtain ⟨a, v⟩ := x
      have : Instr.findNow d (ke k) (ents ke ve b ((a, v) :: r)) 0 = none := by simp [ents, Instr.findNow, h1]
      rw [this]
      exact findAsking_run h2 k w 0 b _

theorem mfind_get (ve : V → Value) (k : K) : ∀ (i : Nat) (l : List (K × V)), (mfind ve i l k).map (·.2) = (mget l k).map ve
  | _, [] => rfl
  | i, (a, v) :: r => by
    simp only [mfind, mget]
    by_cases e : k = a
    · simp [e]
    · simp only [e, if_false]; exact mfind_get ve k (i + 1) r

theorem getObj_run {P : Program} {w : World} {m : Nat} {es : Array MapEntry} {c : Nat} (h : w.heap[m]? = some (.map es c)) : (getObj m).run P w = .ok (.map es c) w := by
  simp only [getObj, Sem.run]; rw [h]
theorem setObj_run {P : Program} {w : World} {m : Nat} {es : Array MapEntry} {c : Nat} (h : w.heap[m]? = some (.map es c)) (o : Obj) : (setObj m o).run P w = .ok () { w with heap := w.heap.setIfInBounds m o } := by
  simp only [setObj, Sem.run]; rw [h]

theorem lookup_run {P : Program} {t kt et : TypeId} {ke : K → Value} {ve : V → Value} {z : Value} {w : World} {m : Nat} {l : List (K × V)} (hK : KeyOk P kt ke) (ht : ∀ w, (underlying t).run P w = .ok (.map kt et) w)
    (hz : ∀ w, (zeroValue et).run P w = .ok z w) (hm : MapAt ke ve w m l) (k : K) (ok : Bool) :
    (Instr.lookup t (.map (some m)) (ke k) ok).run P w = .ok (if ok then .tuple #[((mget l k).map ve).getD z, .bool (mget l k).isSome] else ((mget l k).map ve).getD z) w := by
  have hf := findKey_run (ve := ve) hK k w 0 l
  have hg := mfind_get ve k 0 l
  simp only [Instr.lookup, Sem.run_bind, ht, Result.andThen_ok, getObj_run hm, hK.chk, Sem.run_pure, hf]
  cases hfm : mfind ve 0 l k with
  | none =>
    rw [hfm] at hg
    have hgn : mget l k = none := by cases h : mget l k with | none => rfl | some v => rw [h] at hg; cases hg
    simp only [Sem.run_bind, hz, Result.andThen_ok, Sem.run_pure, hgn]
    cases ok <;> rfl
  | some x =>
    obtain ⟨i, v⟩ := x
    rw [hfm] at hg
    cases h : mget l k with
    | none => rw [h] at hg; cases hg
    | some u =>
      rw [h] at hg
      simp only [Option.map_some, Option.some.injEq] at hg
      subst hg
      simp only [Sem.run_pure, Result.andThen_ok]
      cases ok <;> rfl

/-- With a map stored at block m. -/
def setMap (w : World) (m : Nat) (es : Array MapEntry) (c : Nat) : World := { w with heap := w.heap.setIfInBounds m (.map es c) }

theorem setMap_same {w : World} {m : Nat} {es : Array MapEntry} {c : Nat} (h : m < w.heap.size) : (setMap w m es c).heap[m]? = some (.map es c) := by
  simp [setMap, h]
theorem setMap_other {w : World} {m : Nat} {es : Array MapEntry} {c b : Nat} (h : b ≠ m) : (setMap w m es c).heap[b]? = w.heap[b]? := by
  simp only [setMap]
  rw [Array.getElem?_setIfInBounds_ne (fun e => h e.symm)]
theorem setMap_size (w : World) (m : Nat) (es : Array MapEntry) (c : Nat) : (setMap w m es c).heap.size = w.heap.size := by simp [setMap]

theorem mfind_none {ve : V → Value} {k : K} : ∀ {i : Nat} {l : List (K × V)}, mfind ve i l k = none → ∀ (ke : K → Value) (b : Nat) (v : V),
    (ents ke ve b (mput l k v)) = ents ke ve b l ++ [{ key := ke k, val := ve v, born := b + l.length }] ∧ (mput l k v).length = l.length + 1
  | i, [], _, ke, b, v => by simp [mput, ents]
  | i, (a, u) :: r, h, ke, b, v => by
    simp only [mfind] at h
    by_cases e : k = a
    · simp [e] at h
    · simp only [e, if_false] at h
      obtain ⟨h1, h2⟩ := mfind_none h ke (b + 1) v
      simp only [mput, e, if_false, ents, h1, List.length_cons, h2, List.cons_append]
      exact ⟨by rw [show b + 1 + r.length = b + (r.length + 1) from by omega], trivial⟩

theorem mfind_some {ve : V → Value} {k : K} : ∀ {i j : Nat} {l : List (K × V)} {x : Value}, mfind ve i l k = some (j, x) → ∀ (ke : K → Value) (b : Nat) (v : V),
    i ≤ j ∧ j - i < l.length ∧ (ents ke ve b (mput l k v)) = (ents ke ve b l).modify (j - i) (fun e => { e with key := ke k, val := ve v }) ∧ (mput l k v).length = l.length ∧ (ents ke ve b l)[j - i]?.map (·.key) = some (ke k)
  | i, j, [], x, h, ke, b, v => by simp [mfind] at h
  | i, j, (a, u) :: r, x, h, ke, b, v => by
    simp only [mfind] at h
    by_cases e : k = a
    · subst e
      simp only [if_true, Option.some.injEq, Prod.mk.injEq] at h
      obtain ⟨rfl, rfl⟩ := h
      simp [mput, ents]
    · simp only [e, if_false] at h
      obtain ⟨h0, h1, h2, h3, h4⟩ := mfind_some h ke (b + 1) v
      refine ⟨by omega, by simp; omega, ?_, by simp [mput, e, h3], ?_⟩
      · simp only [mput, e, if_false, ents, h2]
        rw [show j - i = (j - (i + 1)) + 1 from by omega]
        rfl
      · rw [show j - i = (j - (i + 1)) + 1 from by omega]
        simpa [ents] using h4

theorem update_run {P : Program} {t kt et : TypeId} {ke : K → Value} {ve : V → Value} {w : World} {m : Nat} {l : List (K × V)} (hK : KeyOk P kt ke) (ht : ∀ w, (underlying t).run P w = .ok (.map kt et) w)
    (hm : MapAt ke ve w m l) (k : K) (v : V) :
    (Instr.mapUpdate t (.map (some m)) (ke k) (ve v)).run P w = .ok () (setMap w m (ents ke ve 0 (mput l k v)).toArray (mput l k v).length) := by
  have hf := findKey_run (ve := ve) hK k w 0 l
  have hset := fun o => setObj_run (P := P) hm o
  simp only [Instr.mapUpdate, Sem.run_bind, ht, Result.andThen_ok, getObj_run hm, hK.chk, hf]
  cases hfm : mfind ve 0 l k with
  | none =>
    obtain ⟨h1, h2⟩ := mfind_none hfm ke 0 v
    simp only [hset, setMap, h1, h2, Nat.zero_add]
    simp
  | some x =>
    obtain ⟨j, x⟩ := x
    obtain ⟨_, h1, h2, h3, h4⟩ := mfind_some hfm ke 0 v
    rw [Nat.sub_zero] at h1 h2 h4
    have hkey : ((((ents ke ve 0 l).toArray[j]?).map (·.key)).getD (ke k)) = ke k := by
      simp only [List.getElem?_toArray, h4, Option.getD_some]
    simp only [Sem.run_bind, hkey, Instr.keyThatStays, hK.bits, if_true, Sem.run_pure, Result.andThen_ok, hset, setMap, h2, h3]
    simp [List.modify_toArray]

theorem setMap_at {ke : K → Value} {ve : V → Value} {w : World} {m : Nat} {l : List (K × V)} (h : m < w.heap.size) : MapAt ke ve (setMap w m (ents ke ve 0 l).toArray l.length) m l := setMap_same h

theorem MapAt.lt {ke : K → Value} {ve : V → Value} {w : World} {m : Nat} {l : List (K × V)} (h : MapAt ke ve w m l) : m < w.heap.size := (Array.getElem?_eq_some_iff.1 h).1
theorem MapAt.of_same {ke : K → Value} {ve : V → Value} {w w' : World} {m : Nat} {l : List (K × V)} (h : MapAt ke ve w m l) (e : w'.heap[m]? = w.heap[m]?) : MapAt ke ve w' m l := e.trans h

theorem makeMap_run {P : Program} {t : TypeId} {w : World} : (Instr.makeMap t none).run P w = .ok (.map (some w.heap.size)) (w.alloc (.map #[] 0)) := rfl
theorem makeMap_at (ke : K → Value) (ve : V → Value) (w : World) : MapAt ke ve (w.alloc (.map #[] 0)) w.heap.size [] := by
  show (w.heap.push _)[w.heap.size]? = _
  rw [Array.getElem?_push, if_pos rfl]; rfl

theorem mlen_run {P : Program} {t kt et : TypeId} {ke : K → Value} {ve : V → Value} {w : World} {m : Nat} {l : List (K × V)} (ht : ∀ w, (underlying t).run P w = .ok (.map kt et) w) (hm : MapAt ke ve w m l) (ty : TypeId) :
    (Builtin.len_ #[t] ty #[.map (some m)]).run P w = .ok (.int .i64 (l.length : Int)) w := by
  simp [Builtin.len_, ht, getObj_run hm, goInt, ents_length]

end

/-! ### keys -/
theorem checkKey_int {P : Program} {t : TypeId} {k j : IntKind} {a : Int} (h : ∀ w, (underlying t).run P w = .ok (.int k) w) (e : Bool) (n : Nat) (w : World) : (Instr.checkKey e (n + 1) t (.int j a)).run P w = .ok () w := by
  simp only [Instr.checkKey, Sem.run_bind, h, Result.andThen_ok, Sem.run_pure]
theorem keyOk_int {P : Program} {t : TypeId} {k : IntKind} (h : ∀ w, (underlying t).run P w = .ok (.int k) w) (j : IntKind) : KeyOk P t (fun n : Int => Value.int j n) :=
  ⟨fun e a w => checkKey_int h e 9999 w, ⟨_, h, .inl fun a b => by simp [Instr.sameNow, Bool.beq_eq_decide_eq]⟩, fun a => by simp [Instr.sameBits]⟩

end Go.Sx
