/- A doer for closed pieces of the model's code: it carries them out on values and blocks of its own. Here: its words, and what they stand for. -/
import Derived.OrdersHeld
import Derived.Laws.World
import Derived.Laws.Sem
import Derived.KernelRfl
set_option linter.all false
namespace Go.Cx
open Go
noncomputable section

/-! ### numbers as ways down a tree -/
inductive Tk where
  | e
  | o (r : Tk)
  | i (r : Tk)
deriving DecidableEq

def num : Tk → Nat
  | .e => 0
  | .o r => 1 + 2 * num r
  | .i r => 2 + 2 * num r

def inc : Tk → Tk
  | .e => .o .e
  | .o r => .i r
  | .i r => .o (inc r)

theorem num_inc : ∀ p, num (inc p) = num p + 1
  | .e => rfl
  | .o r => by simp only [inc, num]; omega
  | .i r => by simp only [inc, num, num_inc r]; omega

theorem num_inj : ∀ {p q : Tk}, num p = num q → p = q
  | .e, .e, _ => rfl
  | .e, .o r, h => by simp only [num] at h; omega
  | .e, .i r, h => by simp only [num] at h; omega
  | .o r, .e, h => by simp only [num] at h; omega
  | .i r, .e, h => by simp only [num] at h; omega
  | .o r, .i s, h => by simp only [num] at h; omega
  | .i r, .o s, h => by simp only [num] at h; omega
  | .o r, .o s, h => by rw [num_inj (p := r) (q := s) (by simp only [num] at h; omega)]
  | .i r, .i s, h => by rw [num_inj (p := r) (q := s) (by simp only [num] at h; omega)]

/-- The way of a number. -/
def way (f : Nat) : Nat → Tk :=
  Nat.rec (motive := fun _ => Nat → Tk) (fun _ => .e) (fun _ ih n => Bool.rec (motive := fun _ => Tk) (Bool.rec (motive := fun _ => Tk) (.o (ih (Nat.div (Nat.sub n 1) 2))) (.i (ih (Nat.div (Nat.sub n 1) 2))) (Nat.beq (Nat.mod n 2) 0)) .e (Nat.beq n 0)) f
theorem way_zero (n : Nat) : way 0 n = .e := rfl
theorem way_succ (f n : Nat) : way (f + 1) n = bif Nat.beq n 0 then .e else bif Nat.beq (Nat.mod n 2) 0 then .i (way f (Nat.div (Nat.sub n 1) 2)) else .o (way f (Nat.div (Nat.sub n 1) 2)) := by
  show Bool.rec (motive := fun _ => Tk) (Bool.rec (motive := fun _ => Tk) _ _ (Nat.beq (Nat.mod n 2) 0)) _ (Nat.beq n 0) = _
  cases Nat.beq n 0 <;> cases Nat.beq (Nat.mod n 2) 0 <;> rfl

theorem num_way : ∀ (f n : Nat), n < 2 ^ f → num (way f n) = n
  | 0, n, h => by simp at h; subst h; rfl
  | f + 1, n, h => by
    rw [way_succ]
    cases hb : Nat.beq n 0
    · have hn := Nat.ne_of_beq_eq_false hb
      have e1 : Nat.div (Nat.sub n 1) 2 = (n - 1) / 2 := rfl
      have e2 : Nat.mod n 2 = n % 2 := rfl
      have ih := num_way f ((n - 1) / 2) (by rw [Nat.pow_succ] at h; omega)
      rw [e1, e2]
      cases hc : Nat.beq (n % 2) 0
      · have := Nat.ne_of_beq_eq_false hc
        simp only [cond_false, num, ih]; omega
      · have := Nat.eq_of_beq_eq_true hc
        simp only [cond_true, cond_false, num, ih]; omega
    · have := Nat.eq_of_beq_eq_true hb
      subst this; rfl

abbrev depth : Nat := 64
abbrev at_ (n : Nat) : Tk := way depth n

def sameT : Tk → Tk → Bool
  | .e, .e => true
  | .i r, .i s => sameT r s
  | .o r, .o s => sameT r s
  | _, _ => false
theorem sameT_eq : ∀ {p q : Tk}, sameT p q = true → p = q
  | .e, .e, _ => rfl
  | .e, .o _, h => by simp [sameT] at h
  | .e, .i _, h => by simp [sameT] at h
  | .o _, .e, h => by simp [sameT] at h
  | .i _, .e, h => by simp [sameT] at h
  | .o _, .i _, h => by simp [sameT] at h
  | .i _, .o _, h => by simp [sameT] at h
  | .o r, .o s, h => by simp [sameT] at h; rw [sameT_eq h]
  | .i r, .i s, h => by simp [sameT] at h; rw [sameT_eq h]
theorem sameT_refl : ∀ p : Tk, sameT p p = true
  | .e => rfl
  | .i r => sameT_refl r
  | .o r => sameT_refl r
def hasT : List Tk → Tk → Bool
  | [], _ => false
  | a :: r, k => bif sameT a k then true else hasT r k
theorem hasT_mem : ∀ {l : List Tk} {p : Tk}, hasT l p = true ↔ p ∈ l
  | [], p => by simp [hasT]
  | a :: r, p => by
    simp only [hasT, List.mem_cons]
    cases hs : sameT a p
    · simp only [cond_false, hasT_mem (l := r)]
      constructor
      · exact .inr
      · rintro (h | h)
        · subst h; rw [sameT_refl] at hs; cases hs
        · exact h
    · have := sameT_eq hs; simp [this]

/-! ### trees -/
inductive T (α : Type) where
  | nil
  | node (l : T α) (v : Option α) (r : T α)

namespace T
variable {α : Type}
/-- By the way down alone: the kernel takes few steps. -/
def getR (p : Tk) : T α → Option α :=
  Tk.rec (motive := fun _ => T α → Option α) (fun t => T.rec (motive := fun _ => Option α) none (fun _ v _ _ _ => v) t) (fun _ ih t => T.rec (motive := fun _ => Option α) none (fun l _ _ _ _ => ih l) t) (fun _ ih t => T.rec (motive := fun _ => Option α) none (fun _ _ r _ _ => ih r) t) p
def get (t : T α) (p : Tk) : Option α := getR p t
def putR (x : Option α) (p : Tk) : T α → T α :=
  Tk.rec (motive := fun _ => T α → T α) (fun t => T.rec (motive := fun _ => T α) (.node .nil x .nil) (fun l _ r _ _ => .node l x r) t)
    (fun _ ih t => T.rec (motive := fun _ => T α) (.node (ih .nil) none .nil) (fun l v r _ _ => .node (ih l) v r) t)
    (fun _ ih t => T.rec (motive := fun _ => T α) (.node .nil none (ih .nil)) (fun l v r _ _ => .node l v (ih r)) t) p
def put (x : Option α) (p : Tk) (t : T α) : T α := putR x p t

theorem get_nil (p : Tk) : (T.nil : T α).get p = none := by cases p <;> rfl
theorem get_put (x : Option α) : ∀ (p : Tk) (t : T α) (q : Tk), (put x p t).get q = if q = p then x else t.get q
  | .e, t, q => by cases t <;> cases q <;> first | rfl | (simp; done) | (simp; exact get_nil _)
  | .o p, t, q => by
    cases t with
    | nil =>
      cases q with
      | e => rfl
      | o r => exact (get_put x p .nil r).trans (by simp [get_nil])
      | i r => exact (get_nil r).trans (by simp [get_nil])
    | node l v s =>
      cases q with
      | e => rfl
      | o r => exact (get_put x p l r).trans (by simp only [Tk.o.injEq]; rfl)
      | i r => simp; rfl
  | .i p, t, q => by
    cases t with
    | nil =>
      cases q with
      | e => rfl
      | i r => exact (get_put x p .nil r).trans (by simp [get_nil])
      | o r => exact (get_nil r).trans (by simp [get_nil])
    | node l v s =>
      cases q with
      | e => rfl
      | i r => exact (get_put x p s r).trans (by simp only [Tk.i.injEq]; rfl)
      | o r => simp; rfl
end T

/-! ### values -/
inductive CV where
  | int (k : IntKind) (n : Int)
  | bool (b : Bool)
  | str (s : ByteArray)
  | nilp
  | ptr (t : Tk) (o : Nat)
  | nils
  | slc (t : Tk) (o l q : Nat)
  | nilm
  | mp (t : Tk)
  | fn (f : FuncId) (first caps : List CV)
  | nilf
  | agg (l : List CV)
  | tup (l : List CV)

/-- Where a block of the doer's stands, and how many elements it bears. -/
abbrev Tau := Tk → Option (Nat × Nat)

mutual
/-- A value of the doer's stands for one of the model's. -/
def CV.rel (τ : Tau) : CV → Value → Prop
  | .int k n, x => x = .int k n
  | .bool b, x => x = .bool b
  | .str s, x => x = .string s
  | .nilp, x => x = .pointer none
  | .ptr t o, x => ∃ b c, τ t = some (b, c) ∧ x = .pointer (some ⟨b, o, none⟩)
  | .nils, x => x = .slice none 0 0
  | .slc t o l q, x => ∃ b c, τ t = some (b, c) ∧ x = .slice (some ⟨b, o, none⟩) l (c - q)
  | .nilm, x => x = .map none
  | .mp t, x => ∃ b c, τ t = some (b, c) ∧ x = .map (some b)
  | .fn f first caps, x => ∃ xs ys, CV.rels τ first xs ∧ CV.rels τ caps ys ∧ x = .func (.func f) xs.toArray ys.toArray
  | .nilf, x => x = .nilFunc
  | .agg l, x => ∃ xs, CV.rels τ l xs ∧ x = .agg xs.toArray
  | .tup l, x => ∃ xs, CV.rels τ l xs ∧ x = .tuple xs.toArray
def CV.rels (τ : Tau) : List CV → List Value → Prop
  | [], xs => xs = []
  | v :: r, xs => ∃ y ys, xs = y :: ys ∧ v.rel τ y ∧ CV.rels τ r ys
end

/-- More blocks. -/
def Tau.le (τ σ : Tau) : Prop := ∀ t p, τ t = some p → σ t = some p
theorem Tau.le.refl (τ : Tau) : τ.le τ := fun _ _ h => h
theorem Tau.le.trans {a b c : Tau} (h : a.le b) (k : b.le c) : a.le c := fun t p e => k t p (h t p e)

mutual
theorem CV.rel.mono {τ σ : Tau} (h : τ.le σ) : ∀ {v : CV} {x : Value}, v.rel τ x → v.rel σ x
  | .int _ _, _, e => e
  | .bool _, _, e => e
  | .str _, _, e => e
  | .nilp, _, e => e
  | .ptr _ _, _, e => by obtain ⟨b, c, e1, e2⟩ := e; exact ⟨b, c, h _ _ e1, e2⟩
  | .nils, _, e => e
  | .slc _ _ _ _, _, e => by obtain ⟨b, c, e1, e2⟩ := e; exact ⟨b, c, h _ _ e1, e2⟩
  | .nilm, _, e => e
  | .mp _, _, e => by obtain ⟨b, c, e1, e2⟩ := e; exact ⟨b, c, h _ _ e1, e2⟩
  | .fn _ _ _, _, e => by obtain ⟨xs, ys, e1, e2, e3⟩ := e; exact ⟨xs, ys, CV.rels.mono h e1, CV.rels.mono h e2, e3⟩
  | .nilf, _, e => e
  | .agg _, _, e => by obtain ⟨xs, e1, e2⟩ := e; exact ⟨xs, CV.rels.mono h e1, e2⟩
  | .tup _, _, e => by obtain ⟨xs, e1, e2⟩ := e; exact ⟨xs, CV.rels.mono h e1, e2⟩
theorem CV.rels.mono {τ σ : Tau} (h : τ.le σ) : ∀ {l : List CV} {xs : List Value}, CV.rels τ l xs → CV.rels σ l xs
  | [], _, e => e
  | _ :: _, _, e => by obtain ⟨y, ys, e1, e2, e3⟩ := e; exact ⟨y, ys, e1, CV.rel.mono h e2, CV.rels.mono h e3⟩
end

section
variable {τ : Tau}
theorem rels_length : ∀ {l : List CV} {xs : List Value}, CV.rels τ l xs → xs.length = l.length
  | [], _, e => by cases e; rfl
  | _ :: _, _, e => by obtain ⟨y, ys, rfl, _, e3⟩ := e; simp [rels_length e3]
theorem rels_get : ∀ {l : List CV} {xs : List Value}, CV.rels τ l xs → ∀ {i : Nat} {v : CV}, l[i]? = some v → ∃ x, xs[i]? = some x ∧ v.rel τ x
  | [], _, e, i, v, h => by simp at h
  | a :: l, _, e, i, v, h => by
    obtain ⟨y, ys, rfl, e2, e3⟩ := e
    cases i with
    | zero => simp at h; subst h; exact ⟨y, rfl, e2⟩
    | succ i => exact rels_get e3 (by simpa using h)
theorem rels_append : ∀ {l m : List CV} {xs ys : List Value}, CV.rels τ l xs → CV.rels τ m ys → CV.rels τ (l ++ m) (xs ++ ys)
  | [], _, _, _, e, k => by cases e; exact k
  | _ :: _, _, _, _, e, k => by obtain ⟨y, ys, rfl, e2, e3⟩ := e; exact ⟨y, _, rfl, e2, rels_append e3 k⟩
theorem rels_drop : ∀ {l : List CV} {xs : List Value} (n : Nat), CV.rels τ l xs → CV.rels τ (l.drop n) (xs.drop n)
  | _, _, 0, e => e
  | [], _, n + 1, e => by cases e; exact rfl
  | _ :: _, _, n + 1, e => by obtain ⟨y, ys, rfl, _, e3⟩ := e; exact rels_drop n e3
theorem rels_take : ∀ {l : List CV} {xs : List Value} (n : Nat), CV.rels τ l xs → CV.rels τ (l.take n) (xs.take n)
  | _, _, 0, _ => rfl
  | [], _, n + 1, e => by cases e; exact rfl
  | _ :: _, _, n + 1, e => by obtain ⟨y, ys, rfl, e2, e3⟩ := e; exact ⟨y, _, rfl, e2, rels_take n e3⟩
theorem rels_set : ∀ {l : List CV} {xs : List Value} (i : Nat) {v : CV} {x : Value}, CV.rels τ l xs → v.rel τ x → CV.rels τ (l.set i v) (xs.set i x)
  | [], _, _, _, _, e, _ => by cases e; exact rfl
  | _ :: _, _, 0, _, _, e, k => by obtain ⟨y, ys, rfl, _, e3⟩ := e; exact ⟨_, _, rfl, k, e3⟩
  | _ :: _, _, i + 1, _, _, e, k => by obtain ⟨y, ys, rfl, e2, e3⟩ := e; exact ⟨_, _, rfl, e2, rels_set i e3 k⟩
theorem rels_of_get : ∀ {l : List CV} {xs : List Value}, xs.length = l.length → (∀ (i : Nat) (v : CV), l[i]? = some v → ∃ x, xs[i]? = some x ∧ v.rel τ x) → CV.rels τ l xs
  | [], [], _, _ => rfl
  | [], _ :: _, h, _ => by simp at h
  | _ :: _, [], h, _ => by simp at h
  | v :: l, x :: xs, h, k => by
    obtain ⟨y, hy, hr⟩ := k 0 v rfl
    simp at hy; subst hy
    exact ⟨x, xs, rfl, hr, rels_of_get (by simpa using h) fun i u hu => by simpa using k (i + 1) u (by simpa using hu)⟩
end

/-! ### blocks -/
structure Blk where
  cells : T CV
  len : Nat
  elem : TypeId
  esz : Nat
  cap : Option Nat

structure Ent where
  key : CV
  val : CV
  born : Nat

inductive Ob where
  | cells (b : Blk)
  | map (es : List Ent) (clock : Nat)

structure Hp where
  at_ : T Ob
  next : Tk

structure Blk.ok (τ : Tau) (w : World) (b c : Nat) (k : Blk) : Prop where
  has : ∃ arr : Array Value, w.heap[b]? = some (.cells arr k.elem (0, 0)) ∧ (∀ (i : Nat) (v : CV), i < k.len → k.cells.get (at_ i) = some v → ∃ x, arr[i]? = some x ∧ v.rel τ x) ∧ k.len ≤ arr.size ∧ arr.size = c * k.esz ∧ (∀ n, k.cap = some n → c = n ∧ arr.size = k.len)
  small : k.len < 2 ^ depth

def entsRel (τ : Tau) : List Ent → List MapEntry → Prop
  | [], xs => xs = []
  | e :: r, xs => ∃ y ys, xs = y :: ys ∧ e.key.rel τ y.key ∧ e.val.rel τ y.val ∧ y.born = e.born ∧ entsRel τ r ys

def Ob.ok (τ : Tau) (w : World) (b c : Nat) : Ob → Prop
  | .cells k => k.ok τ w b c
  | .map es n => ∃ arr : Array MapEntry, w.heap[b]? = some (.map arr n) ∧ entsRel τ es arr.toList

theorem entsRel.mono {τ σ : Tau} (h : τ.le σ) : ∀ {es : List Ent} {xs : List MapEntry}, entsRel τ es xs → entsRel σ es xs
  | [], _, e => e
  | _ :: _, _, e => by obtain ⟨y, ys, e1, e2, e3, e4, e5⟩ := e; exact ⟨y, ys, e1, e2.mono h, e3.mono h, e4, entsRel.mono h e5⟩

theorem Ob.ok.mono {τ σ : Tau} {w : World} {b c : Nat} (h : τ.le σ) : ∀ {o : Ob}, o.ok τ w b c → o.ok σ w b c
  | .cells k, e => by
    obtain ⟨⟨arr, e1, e2, e3⟩, e4⟩ := e
    exact ⟨⟨arr, e1, fun i v hi hv => by obtain ⟨x, hx, hr⟩ := e2 i v hi hv; exact ⟨x, hx, hr.mono h⟩, e3⟩, e4⟩
  | .map es n, e => by obtain ⟨arr, e1, e2⟩ := e; exact ⟨arr, e1, e2.mono h⟩

theorem Ob.ok.of_same {τ : Tau} {w w' : World} {b c : Nat} (h : w'.heap[b]? = w.heap[b]?) : ∀ {o : Ob}, o.ok τ w b c → o.ok τ w' b c
  | .cells k, e => by
    obtain ⟨⟨arr, e1, e2⟩, e4⟩ := e
    exact ⟨⟨arr, h.trans e1, e2⟩, e4⟩
  | .map es n, e => by obtain ⟨arr, e1, e2⟩ := e; exact ⟨arr, h.trans e1, e2⟩

theorem Ob.ok.lt {τ : Tau} {w : World} {b c : Nat} : ∀ {o : Ob}, o.ok τ w b c → b < w.heap.size
  | .cells k, e => by obtain ⟨⟨arr, e1, _⟩, _⟩ := e; exact (Array.getElem?_eq_some_iff.1 e1).1
  | .map es n, e => by obtain ⟨arr, e1, _⟩ := e; exact (Array.getElem?_eq_some_iff.1 e1).1

/-- The blocks that K names are as they were. -/
structure Old (K : Nat → Prop) (w0 w : World) : Prop where
  size : w0.heap.size ≤ w.heap.size
  kin : ∀ b, K b → b < w0.heap.size
  same : ∀ b, K b → w.heap[b]? = w0.heap[b]?
  os : w.os = w0.os
  tape : w.tape = w0.tape
  output : w.output = w0.output

theorem Old.refl {K : Nat → Prop} {w : World} (h : ∀ b, K b → b < w.heap.size) : Old K w w := ⟨Nat.le_refl _, h, fun _ _ => rfl, rfl, rfl, rfl⟩
theorem Old.trans {K K' : Nat → Prop} {a b c : World} (h : Old K a b) (k : Old K' b c) (hK : ∀ x, K x → K' x) : Old K a c :=
  ⟨Nat.le_trans h.size k.size, h.kin, fun x hx => (k.same x (hK x hx)).trans (h.same x hx), k.os.trans h.os, k.tape.trans h.tape, k.output.trans h.output⟩
theorem Old.lt {K : Nat → Prop} {a b : World} (h : Old K a b) {x : Nat} (hx : K x) : x < b.heap.size := Nat.lt_of_lt_of_le (h.kin x hx) h.size

/-- The doer's blocks stand in the world. -/
structure Hp.ok (K : Nat → Prop) (w0 : World) (τ : Tau) (h : Hp) (w : World) : Prop extends Old K w0 w where
  dom : ∀ t p, τ t = some p → num t < num h.next
  live : ∀ t o, h.at_.get t = some o → ∃ b c, τ t = some (b, c) ∧ ¬ K b ∧ o.ok τ w b c
  inj : ∀ t u o o' b c c', t ≠ u → h.at_.get t = some o → h.at_.get u = some o' → τ t = some (b, c) → τ u = some (b, c') → False

end
end Go.Cx
