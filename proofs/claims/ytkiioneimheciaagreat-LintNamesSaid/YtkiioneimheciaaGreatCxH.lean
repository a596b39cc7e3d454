/- The doer is right, part 5: blocks that are made and written. -/
import Derived.Test.YtkiioneimheciaaGreatCxG
import Derived.Laws.Append
import Derived.Laws.MakeOwn
set_option linter.all false
namespace Go.Cx
open Go Go.Sx

section
variable {P : Program} {Y : Tys} {τ : Tau} {K : Nat → Prop} {w0 w : World}

theorem at_inj {i j : Nat} (hi : i < 2 ^ depth) (hj : j < 2 ^ depth) (h : at_ i = at_ j) : i = j := by
  have h1 := num_way depth i hi
  have h2 := num_way depth j hj
  rw [← h1, ← h2]; exact congrArg num h

theorem layT_get : ∀ (vs : List CV) (o : Nat) (t : T CV) (j : Nat), o + vs.length ≤ 2 ^ depth → j < 2 ^ depth → (layT o vs t).get (at_ j) = if o ≤ j ∧ j < o + vs.length then vs[j - o]? else t.get (at_ j)
  | [], o, t, j, _, _ => by rw [layT, if_neg (by simp)]
  | v :: r, o, t, j, ho, hj => by
    simp only [List.length_cons] at ho ⊢
    rw [layT, layT_get r (Nat.succ o) _ j (by omega) hj, T.get_put]
    by_cases h1 : j = o
    · subst h1
      rw [if_neg (by omega), if_pos rfl, if_pos (by omega)]; simp
    · have h2 : at_ j ≠ at_ o := fun e => h1 (at_inj hj (by omega) e)
      rw [if_neg h2]
      by_cases h3 : o ≤ j ∧ j < o + (r.length + 1)
      · rw [if_pos (by omega), if_pos h3]
        rw [show j - o = (j - (Nat.succ o)) + 1 from by omega]; simp
      · rw [if_neg (by omega), if_neg h3]

theorem setRange_get {α : Type} : ∀ (xs l : List α) (o j : Nat), o + xs.length ≤ l.length → (setRange l o xs)[j]? = if o ≤ j ∧ j < o + xs.length then xs[j - o]? else l[j]?
  | [], l, o, j, _ => by rw [setRange, if_neg (by simp)]
  | x :: r, l, o, j, h => by
    simp only [List.length_cons] at h ⊢
    rw [setRange, setRange_get r _ (o + 1) j (by simp; omega), List.getElem?_set]
    by_cases h1 : j = o
    · subst h1
      rw [if_neg (by omega), if_pos rfl, if_pos (by omega), if_pos (by omega)]; simp
    · have hoj : ¬ o = j := fun e => h1 e.symm
      by_cases h3 : o ≤ j ∧ j < o + (r.length + 1)
      · rw [if_pos (show o + 1 ≤ j ∧ j < o + 1 + r.length from by omega), if_pos h3]
        rw [show j - o = (j - (o + 1)) + 1 from by omega]; simp
      · rw [if_neg (show ¬ (o + 1 ≤ j ∧ j < o + 1 + r.length) from by omega), if_neg h3, if_neg hoj]

theorem stores_run {b : Nat} {t : TypeId} (o : Nat) (xs : List Value) (hx : ∀ x ∈ xs, x.oneCell' = true) (arr : Array Value) (hb : w.heap[b]? = some (.cells arr t (0, 0))) (hl : o + xs.length ≤ arr.size) :
    ∃ w', (storeCells ⟨b, o, none⟩ xs).run P w = .ok () w' ∧ w'.heap[b]? = some (.cells (setRange arr.toList o xs).toArray t (0, 0)) ∧ (∀ c, c ≠ b → w'.heap[c]? = w.heap[c]?) ∧ w'.heap.size = w.heap.size ∧ w'.os = w.os ∧ w'.tape = w.tape ∧ w'.output = w.output := by
  have e : SV.vals [] (xs.map SV.raw) = xs := by
    rw [vals_map, List.map_map]
    have : (SV.val [] ∘ SV.raw) = id := by funext x; rfl
    rw [this, List.map_id]
  have hp : (xs.map SV.raw).all SV.plain = true := by
    rw [List.all_map]
    refine List.all_eq_true.2 fun x hx' => ?_
    have := hx x hx'
    cases x <;> first | rfl | (simp [Value.oneCell'] at this)
  obtain ⟨w', h1, h2, h3⟩ := storeCells_run (P := P) (ρ := []) (t := t) o (xs.map SV.raw) 0 arr.toList w hp (by simpa using hb) (by simp; omega)
  rw [e] at h1 h2
  exact ⟨w', h1, by simpa using h2, h3⟩

theorem plain_one {v : CV} {x : Value} (h : v.plain = true) (hr : v.rel τ x) : x.oneCell' = true := by
  cases v <;> simp [CV.plain] at h
  case ptr => obtain ⟨b, c, _, rfl⟩ := hr; rfl
  case slc => obtain ⟨b, c, _, rfl⟩ := hr; rfl
  case mp => obtain ⟨b, c, _, rfl⟩ := hr; rfl
  case fn => obtain ⟨b, c, _, _, rfl⟩ := hr; rfl
  all_goals (cases hr; rfl)
theorem plains_one : ∀ {l : List CV} {xs : List Value}, l.all CV.plain = true → CV.rels τ l xs → ∀ x ∈ xs, x.oneCell' = true
  | [], _, _, k, x, hx => by cases k; cases hx
  | v :: l, _, h, k, x, hx => by
    obtain ⟨y, ys, rfl, k1, k2⟩ := k
    simp only [List.all_cons, Bool.and_eq_true] at h
    cases hx with
    | head => exact plain_one h.1 k1
    | tail _ hx => exact plains_one h.2 k2 x hx

/-- How a state moves on: what is not marked stays. -/
structure Mv (st st' : St) (nd : List Tk) : Prop where
  dirty : st'.dirty = nd ++ st.dirty
  keep : ∀ p o, p ∉ nd → st.h.at_.get p = some o → st'.h.at_.get p = some o

theorem Mv.refl (st : St) : Mv st st [] := ⟨rfl, fun _ _ _ h => h⟩
theorem Mv.trans {a b c : St} {m n : List Tk} (h : Mv a b m) (k : Mv b c n) : Mv a c (n ++ m) :=
  ⟨by rw [k.dirty, h.dirty, List.append_assoc], fun p o hp ho => k.keep p o (fun hm => hp (List.mem_append_left _ hm)) (h.keep p o (fun hm => hp (List.mem_append_right _ hm)) ho)⟩

/-- With one more block. -/
def Tau.more (τ : Tau) (p : Tk) (b c : Nat) : Tau := fun t => if t = p then some (b, c) else τ t

theorem new_ok {st : St} (H : Hp.ok K w0 τ st.h w) {o : Ob} {c : Nat} {O : Obj} {w1 : World} (h1 : w1.heap = w.heap) (h2 : w1.os = w.os) (h3 : w1.tape = w.tape) (h4 : w1.output = w.output)
    (ho : o.ok (τ.more st.h.next w.heap.size c) (w1.alloc O) w.heap.size c) :
    τ.le (τ.more st.h.next w.heap.size c) ∧ Hp.ok K w0 (τ.more st.h.next w.heap.size c) ⟨T.put (some o) st.h.next st.h.at_, inc st.h.next⟩ (w1.alloc O) := by
  have hne : ∀ t p, τ t = some p → t ≠ st.h.next := fun t p e h => by have := H.dom t p e; rw [h] at this; omega
  have hle : τ.le (τ.more st.h.next w.heap.size c) := fun t p e => by
    simp only [Tau.more]; rw [if_neg (hne t p e)]; exact e
  have hsz : (w1.alloc O).heap.size = w.heap.size + 1 := by simp [h1]
  have hpush : ∀ b, b < w.heap.size → (w1.alloc O).heap[b]? = w.heap[b]? := fun b hb => by
    simp only [World.alloc, Array.getElem?_push, h1]; rw [if_neg (by omega)]
  refine ⟨hle, ⟨⟨by have := H.size; omega, H.kin, fun b hb => by rw [hpush b (H.toOld.lt hb)]; exact H.same b hb, h2.trans H.os, h3.trans H.tape, h4.trans H.output⟩, fun t p e => ?_, fun t q e => ?_, fun t u q q' b c1 c2 hne' e1 e2 k1 k2 => ?_⟩⟩
  · simp only [Tau.more] at e
    simp only [num_inc]
    split at e
    · rename_i h; subst h; omega
    · have := H.dom t p e; omega
  · simp only [T.get_put] at e
    split at e
    · rename_i h; subst h
      cases e
      exact ⟨w.heap.size, c, by simp [Tau.more], (fun hk => by have := H.toOld.lt hk; omega), ho⟩
    · obtain ⟨b, c', h5, h6, h7⟩ := H.live t q e
      exact ⟨b, c', hle _ _ h5, h6, (h7.mono hle).of_same (hpush b h7.lt)⟩
  · simp only [T.get_put] at e1 e2
    split at e1
    · rename_i h; subst h
      split at e2
      · rename_i h; exact hne' h.symm
      · obtain ⟨b', c', h5, h6, h7⟩ := H.live u _ e2
        have := h7.lt
        rw [hle _ _ h5] at k2; cases k2
        simp only [Tau.more, if_true] at k1; cases k1
        omega
    · rename_i hn1
      split at e2
      · rename_i h; subst h
        obtain ⟨b', c', h5, h6, h7⟩ := H.live t _ e1
        have := h7.lt
        rw [hle _ _ h5] at k1; cases k1
        simp only [Tau.more, if_true] at k2; cases k2
        omega
      · obtain ⟨b', c', h5, _, _⟩ := H.live t _ e1
        obtain ⟨b2, c2', h6, _, _⟩ := H.live u _ e2
        have i1 := hle _ _ h5; rw [i1] at k1; cases k1
        have i2 := hle _ _ h6; rw [i2] at k2; cases k2
        exact H.inj t u q q' b c1 c2 hne' e1 e2 h5 h6

theorem newC_ok {st st' : St} (H : Hp.ok K w0 τ st.h w) {o : Ob} {c : Nat} {O : Obj} {w1 : World} (h1 : w1.heap = w.heap) (h2 : w1.os = w.os) (h3 : w1.tape = w.tape) (h4 : w1.output = w.output) {k : Tk → CV} {v : CV} (h : newC st o k = some (v, st'))
    (ho : o.ok (τ.more st.h.next w.heap.size c) (w1.alloc O) w.heap.size c) :
    τ.le (τ.more st.h.next w.heap.size c) ∧ Hp.ok K w0 (τ.more st.h.next w.heap.size c) st'.h (w1.alloc O) ∧ st'.sl = st.sl ∧ Mv st st' [] ∧ v = k st.h.next ∧ (τ.more st.h.next w.heap.size c) st.h.next = some (w.heap.size, c) := by
  rw [newC_eq] at h
  cases h
  obtain ⟨g1, g2⟩ := new_ok H h1 h2 h3 h4 ho
  refine ⟨g1, g2, rfl, ⟨rfl, fun p q _ hq => ?_⟩, rfl, by simp [Tau.more]⟩
  simp only [T.get_put]
  obtain ⟨b, c', h5, _, _⟩ := H.live p q hq
  rw [if_neg]
  · exact hq
  · intro e; have := H.dom p _ h5; rw [e] at this; omega

theorem set_ok {st : St} (H : Hp.ok K w0 τ st.h w) {t : Tk} {b c : Nat} {o o' : Ob} (ht : st.h.at_.get t = some o) (hb : τ t = some (b, c)) {w' : World} (hs : ∀ x, x ≠ b → w'.heap[x]? = w.heap[x]?) (hz : w'.heap.size = w.heap.size)
    (h2 : w'.os = w.os) (h3 : w'.tape = w.tape) (h4 : w'.output = w.output) (ho : o'.ok τ w' b c) : Hp.ok K w0 τ (setC st t o').h w' ∧ Mv st (setC st t o') [t] := by
  obtain ⟨b', c', h5, h6, h7⟩ := H.live t o ht
  rw [hb] at h5; cases h5
  refine ⟨⟨⟨by rw [hz]; exact H.size, H.kin, fun x hx => by rw [hs x (fun e => h6 (e ▸ hx))]; exact H.same x hx, h2.trans H.os, h3.trans H.tape, h4.trans H.output⟩, H.dom, fun u q e => ?_, fun u v q q' x c1 c2 hne e1 e2 k1 k2 => ?_⟩, ⟨rfl, fun p q hp hq => ?_⟩⟩
  · simp only [setC_eq, T.get_put] at e
    split at e
    · rename_i h; subst h; cases e; exact ⟨b, c, hb, h6, ho⟩
    · rename_i hne
      obtain ⟨x, c1, k1, k2, k3⟩ := H.live u q e
      refine ⟨x, c1, k1, k2, k3.of_same (hs x fun e' => ?_)⟩
      subst e'
      exact H.inj u t q o x c1 c hne e ht k1 hb
  · have key : ∀ {u : Tk} {q : Ob}, (setC st t o').h.at_.get u = some q → ∃ q', st.h.at_.get u = some q' := fun {u q} e => by
      simp only [setC_eq, T.get_put] at e
      split at e
      · rename_i h; subst h; exact ⟨o, ht⟩
      · exact ⟨q, e⟩
    obtain ⟨r1, e1'⟩ := key e1
    obtain ⟨r2, e2'⟩ := key e2
    exact H.inj u v r1 r2 x c1 c2 hne e1' e2' k1 k2
  · simp only [setC_eq, T.get_put]
    rw [if_neg (by simpa using hp)]; exact hq

/-- What is known of a block that is new. -/
theorem newBlk_ok {cs : List CV} {xs extra : List Value} (hr : CV.rels τ cs xs) {elem esz b c : Nat} {cap : Option Nat} (hb : w.heap[b]? = some (.cells (xs ++ extra).toArray elem (0, 0))) (hc : (xs ++ extra).length = c * esz) (hcap : ∀ n, cap = some n → c = n ∧ extra = [])
    {len : Nat} (hlen : len = cs.length) (hs : cs.length < 2 ^ depth) : Blk.ok τ w b c ⟨layT 0 cs .nil, len, elem, esz, cap⟩ := by
  subst hlen
  refine ⟨⟨_, hb, fun i v hi hv => ?_, ?_, by simpa using hc, fun n hn => ?_⟩, hs⟩
  · have hi : i < cs.length := hi
    simp only at hv
    rw [layT_get cs 0 .nil i (by omega) (by omega), if_pos (by omega)] at hv
    obtain ⟨x, hx, hrel⟩ := rels_get hr (by simpa using hv)
    exact ⟨x, by simp [List.getElem?_append_left (show i < xs.length from by rw [rels_length hr]; exact hi), hx], hrel⟩
  · simp [rels_length hr]
  · obtain ⟨h1, rfl⟩ := hcap n hn
    exact ⟨h1, by simp [rels_length hr]⟩

/-- .. told by its cells. -/
theorem newBlk_okG {cells : T CV} {len : Nat} {xs extra : List Value} {elem esz b c : Nat} {cap : Option Nat} (hget : ∀ (i : Nat) (v : CV), i < len → cells.get (at_ i) = some v → ∃ x, xs[i]? = some x ∧ v.rel τ x) (hxl : xs.length = len)
    (hb : w.heap[b]? = some (.cells (xs ++ extra).toArray elem (0, 0))) (hc : (xs ++ extra).length = c * esz) (hcap : ∀ n, cap = some n → c = n ∧ extra = []) (hs : len < 2 ^ depth) : Blk.ok τ w b c ⟨cells, len, elem, esz, cap⟩ := by
  refine ⟨⟨_, hb, fun i v hi hv => ?_, ?_, by simpa using hc, fun n hn => ?_⟩, hs⟩
  · obtain ⟨x, hx, hrel⟩ := hget i v hi hv
    have hi : i < len := hi
    exact ⟨x, by simp [List.getElem?_append_left (show i < xs.length from by rw [hxl]; exact hi), hx], hrel⟩
  · simp [hxl]
  · obtain ⟨h1, rfl⟩ := hcap n hn
    exact ⟨h1, by simp [hxl]⟩

theorem store_ok {st st' : St} (H : Hp.ok K w0 τ st.h w) {t : Tk} {k : Blk} {o : Nat} {vs : List CV} {xs : List Value} (ht : st.h.at_.get t = some (.cells k)) (h : storeC st t k o vs = some st') (hr : CV.rels τ vs xs) {b c : Nat} (hb : τ t = some (b, c)) :
    ∃ w', (storeCells ⟨b, o, none⟩ xs).run P w = .ok () w' ∧ Hp.ok K w0 τ st'.h w' ∧ st'.sl = st.sl ∧ Mv st st' [t] := by
  unfold storeC at h
  cases hc : (Nat.ble (o + vs.length) k.len && vs.all CV.plain)
  · rw [hc] at h; cases h
  · rw [hc] at h
    simp only [cond_true, Option.some.injEq] at h; subst h
    simp only [Bool.and_eq_true] at hc
    have hle := Nat.le_of_ble_eq_true hc.1
    obtain ⟨b', c', h5, h6, h7⟩ := H.live t _ ht
    rw [hb] at h5; cases h5
    obtain ⟨⟨arr, a1, a2, a3, a4, a5⟩, hsm⟩ := h7
    have hlen := rels_length hr
    obtain ⟨w', s1, s2, s3, s4, s5, s6, s7⟩ := stores_run (P := P) o xs (plains_one hc.2 hr) arr a1 (by omega)
    have hget : ∀ i, (setRange arr.toList o xs)[i]? = if o ≤ i ∧ i < o + xs.length then xs[i - o]? else arr[i]? := fun i => by
      rw [setRange_get xs arr.toList o i (by simp; omega)]; simp
    have hok : Ob.ok τ w' b c (.cells { k with cells := layT o vs k.cells }) := by
      refine ⟨⟨_, s2, fun i v hi hv => ?_, ?_, ?_, fun n hn => ?_⟩, hsm⟩
      · have hi : i < k.len := hi
        simp only at hv
        rw [layT_get vs o k.cells i (by omega) (by omega)] at hv
        simp only [List.getElem?_toArray, hget]
        split at hv
        · rename_i hin
          rw [if_pos (by omega)]
          exact rels_get hr hv
        · rename_i hin
          rw [if_neg (by omega)]
          exact a2 i v hi hv
      · simp [setRange_length]; exact a3
      · simp [setRange_length]; exact a4
      · obtain ⟨e1, e2⟩ := a5 n hn
        exact ⟨e1, by simp [setRange_length]; exact e2⟩
    obtain ⟨g1, g2⟩ := set_ok H ht hb s3 s4 s5 s6 s7 hok
    exact ⟨w', s1, g1, rfl, g2⟩

theorem elems_of {st : St} (H : Hp.ok K w0 τ st.h w) {esz n : Nat} {v : CV} {x : Value} {l : List CV} (h : elemsC st esz n v = some l) (hr : v.rel τ x) :
    l.length = n * esz ∧ ∃ xs, CV.rels τ l xs ∧ ((n = 0 ∧ xs = [] ∧ x = .slice none 0 0) ∨ ∃ b o m cap, x = .slice (some ⟨b, o, none⟩) m cap ∧ n ≤ m ∧ ∀ (j : Nat) (y : Value), xs[j]? = some y → w.cell? (Addr.add ⟨b, o, none⟩ j) = some y) := by
  cases v with
  | nils =>
    simp only [elemsC] at h
    cases hn : Nat.beq n 0
    · rw [hn] at h; cases h
    · rw [hn] at h; cases h
      have := Nat.eq_of_beq_eq_true hn; subst this
      cases hr
      exact ⟨by simp, [], rfl, .inl ⟨rfl, rfl, rfl⟩⟩
  | slc t o l' q =>
    simp only [elemsC] at h
    cases hn : Nat.ble n l'
    · rw [hn] at h; cases h
    · rw [hn] at h
      simp only [cond_true, blkAt] at h
      split at h
      · rename_i k hk
        split at hk
        · rename_i k' hg
          cases hk
          obtain ⟨b, c, h1, rfl⟩ := hr
          obtain ⟨b', c', h5, h6, h7⟩ := H.live t _ hg
          rw [h1] at h5; cases h5
          obtain ⟨e1, xs, e2, e3⟩ := range_of h7 h
          refine ⟨e1, xs, e2, .inr ⟨b, o, l', _, rfl, Nat.le_of_ble_eq_true hn, fun j y hj => ?_⟩⟩
          rw [add_plain]; exact e3 j y hj
        · cases hk
      · cases h
  | _ => cases h

end
end Go.Cx
