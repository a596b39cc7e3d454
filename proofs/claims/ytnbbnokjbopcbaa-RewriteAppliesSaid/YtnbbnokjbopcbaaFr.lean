/- Which blocks a step may have written, and what stays. -/
import Derived.Test.YtnbbnokjbopcbaaSxI
import Derived.Test.YtnbbnokjbopcbaaMap
import Derived.Laws.AppendOwn
import Derived.Laws.OwnMore
set_option linter.all false
namespace Go.Sx
open Go

/-- Of the blocks that were there none but those of S has turned. -/
structure Fr (S : List Nat) (w w' : World) : Prop where
  size : w.heap.size ≤ w'.heap.size
  same : ∀ c, c < w.heap.size → c ∉ S → w'.heap[c]? = w.heap[c]?
  os : w'.os = w.os
  tape : w'.tape = w.tape
  output : w'.output = w.output

theorem Fr.refl (S : List Nat) (w : World) : Fr S w w := ⟨Nat.le_refl _, fun _ _ _ => rfl, rfl, rfl, rfl⟩
theorem Fr.trans {S T : List Nat} {a b c : World} (h : Fr S a b) (k : Fr T b c) (hT : ∀ x ∈ T, x < a.heap.size → x ∈ S) : Fr S a c :=
  ⟨Nat.le_trans h.size k.size, fun x hx hn => (k.same x (Nat.lt_of_lt_of_le hx h.size) (fun hm => hn (hT x hm hx))).trans (h.same x hx hn), k.os.trans h.os, k.tape.trans h.tape, k.output.trans h.output⟩
theorem Fr.weaken {S T : List Nat} {a b : World} (h : Fr S a b) (hT : ∀ x ∈ S, x < a.heap.size → x ∈ T) : Fr T a b :=
  ⟨h.size, fun x hx hn => h.same x hx (fun hm => hn (hT x hm hx)), h.os, h.tape, h.output⟩
theorem Fr.of_ext {ρ : List Nat} {w0 w : World} (h : Ext ρ w0 w) : Fr ρ w0 w := ⟨h.size, h.same, h.os, h.tape, h.output⟩
theorem Fr.of_fin {hp : Heap} {ρ : List Nat} {w0 w : World} (h : Fin hp ρ w0 w) : Fr ρ w0 w := Fr.of_ext h.toExt
theorem Fr.of_grown {w w' : World} {row : Option Nat} (h : w.grownBy w' row) : Fr row.toList w w' :=
  ⟨h.size, fun c hc hn => h.block c hc (fun e => hn (by rw [← e]; simp)), h.os, h.tape, h.output⟩
theorem Fr.of_setMap {w : World} {m : Nat} {es : Array MapEntry} {c : Nat} : Fr [m] w (setMap w m es c) :=
  ⟨by rw [setMap_size]; exact Nat.le_refl _, fun x hx hn => setMap_other (by simpa using hn), rfl, rfl, rfl⟩
theorem Fr.of_alloc (w : World) (o : Obj) : Fr [] w (w.alloc o) :=
  ⟨by simp, fun x hx _ => by show (w.heap.push o)[x]? = _; rw [Array.getElem?_push, if_neg (by omega)], rfl, rfl, rfl⟩

theorem Fr.block {S : List Nat} {w w' : World} (h : Fr S w w') {c : Nat} {o : Obj} (hc : w.heap[c]? = some o) (hn : c ∉ S) : w'.heap[c]? = some o := by
  rw [h.same c (Array.getElem?_eq_some_iff.1 hc).1 hn]; exact hc
theorem Fr.map {K V : Type} {ke : K → Value} {ve : V → Value} {S : List Nat} {w w' : World} (h : Fr S w w') {m : Nat} {l : List (K × V)} (hm : MapAt ke ve w m l) (hn : m ∉ S) : MapAt ke ve w' m l := h.block hm hn
theorem Fr.row {S : List Nat} {w w' : World} (h : Fr S w w') {base : Nat} {e : TypeId} {size : Nat} {v : Value} {n : Nat} {xs : List Value} (hr : w.ownsRow base e size v n xs) (hn : ∀ k, v.ownBlock = some k → k ∉ S) : w'.ownsRow base e size v n xs := by
  refine ⟨hr.1, ?_⟩
  rcases hr.2 with h1 | ⟨g, cap, cur, h1, h2, h3, h4⟩
  · exact .inl h1
  · exact .inr ⟨g, cap, cur, h1, h2, h.block h3 (hn g (by rw [h1]; rfl)), h4⟩
theorem Fr.keep {S : List Nat} {w w' : World} (h : Fr S w w') {l : List Nat} (hl : ∀ b ∈ l, b < w.heap.size ∧ b ∉ S) : wKeep l w w' :=
  ⟨h.size, fun b hb => h.same b (hl b hb).1 (hl b hb).2⟩

theorem Fr.drop {b : Nat} {S : List Nat} {w w' : World} (h : Fr (b :: S) w w') (hs : w'.heap[b]? = w.heap[b]?) : Fr S w w' :=
  ⟨h.size, fun c hc hn => by
    by_cases e : c = b
    · subst e; exact hs
    · exact h.same c hc (by simp only [List.mem_cons, not_or]; exact ⟨e, hn⟩), h.os, h.tape, h.output⟩

theorem block_lt {w : World} {c : Nat} {o : Obj} (h : w.heap[c]? = some o) : c < w.heap.size := (Array.getElem?_eq_some_iff.1 h).1

def heldR (σ : List Nat) (w : World) : Heap → List Nat → Prop
  | [], [] => True
  | some k :: hp, b :: r => w.heap[b]? = some (.cells (SV.vals σ k.cells).toArray k.elem (0, 0)) ∧ heldR σ w hp r
  | none :: hp, b :: r => b < w.heap.size ∧ heldR σ w hp r
  | _, _ => False

theorem heldR_spec {σ : List Nat} {w : World} : ∀ {hp : Heap} {r : List Nat}, heldR σ w hp r → hp.length = r.length ∧ (∀ b ∈ r, b < w.heap.size) ∧ ∀ (t : Nat) (k : Blk), hp[t]? = some (some k) → w.heap[r.getD t 0]? = some (.cells (SV.vals σ k.cells).toArray k.elem (0, 0))
  | [], [], _ => ⟨rfl, by simp, fun t k h => by simp at h⟩
  | [], _ :: _, h => h.elim
  | some _ :: _, [], h => h.elim
  | none :: _, [], h => h.elim
  | some k :: hp, b :: r, h => by
    obtain ⟨h1, h2, h3⟩ := heldR_spec h.2
    refine ⟨by simp [h1], fun c hc => ?_, fun t k' ht => ?_⟩
    · cases hc with
      | head => exact block_lt h.1
      | tail _ hc => exact h2 c hc
    · cases t with
      | zero => simp at ht; subst ht; exact h.1
      | succ t => exact h3 t k' (by simpa using ht)
  | none :: hp, b :: r, h => by
    obtain ⟨h1, h2, h3⟩ := heldR_spec h.2
    refine ⟨by simp [h1], fun c hc => ?_, fun t k' ht => ?_⟩
    · cases hc with
      | head => exact h.1
      | tail _ hc => exact h2 c hc
    · cases t with
      | zero => simp at ht
      | succ t => exact h3 t k' (by simpa using ht)

theorem Held.of {hp : Heap} {ρ : List Nat} {w : World} (hn : ρ.Nodup) (h : heldR ρ w hp ρ) : Held hp ρ w :=
  let ⟨h1, h2, h3⟩ := heldR_spec h
  ⟨h1, hn, h2, h3⟩

/-- An element of a row of structs, by its place. -/
theorem row_cell {w : World} {base : Nat} {e : TypeId} {size g n cap : Nat} {xs : List Value} (h : w.ownsRow base e size (.slice (some ⟨g, 0, none⟩) n cap) n xs) {i : Nat} {v : Value} (hi : xs[i]? = some v) : w.cell? ⟨g, i, none⟩ = some v := by
  rcases h.2 with ⟨h1, _⟩ | ⟨g', cap', cur, h1, _, h3, _, _, _, h7⟩
  · cases h1
  · simp only [Value.slice.injEq, Option.some.injEq, Addr.mk.injEq] at h1
    obtain ⟨⟨rfl, _⟩, _, rfl⟩ := h1
    have hlt : i < n * size := by rw [← h.1]; exact (List.getElem?_eq_some_iff.1 hi).1
    rw [← h7, List.getElem?_take, if_pos hlt] at hi
    simp only [World.cell?, h3]
    simpa using hi

theorem wrap_of {k : IntKind} {n : Int} (h : k.min ≤ n ∧ n ≤ k.max) : k.wrap n = n := by
  cases k <;> simp [IntKind.wrap, IntKind.min, IntKind.max, IntKind.bits, IntKind.signed] at * <;> omega

end Go.Sx
