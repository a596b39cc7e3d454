/- The reckoner is right, part 7: whole bodies. What 'fnX' tells of a function is enough for the call. -/
import Derived.Test.YtkiioneimheciaaGreatSxG
namespace Go.Sx
open Go

/-- What a body comes to, as a post of the model's. -/
def QK (fr : List (Nat × SV)) (K : KE) : Exit → Act → World → Prop
  | .panic _, _, _ => False
  | .outgrown, _, _ => False
  | e, a, w => ∃ st ρ w0, K e st ρ w0 ∧ Rep fr st ρ w0 a w

section
variable {E : Env} {st : St} {ρ : List Nat} {w0 w : World} {a : Act}

theorem QK_no {fr : List (Nat × SV)} {K : KE} (c : List PanicEntry) (a : Act) (w : World) : ¬ QK fr K (.panic c) a w := fun h => h

/-- A loop, by a relation that bears its own number of rounds. -/
theorem wp_loop_n {P : Program} {Q : Exit → Act → World → Prop} {c : Code} (I : Nat → Act → World → Prop) (m : Nat) (h₀ : I m a w)
    (round : ∀ m a w, I m a w → c.wp P (Exit.then (fun a' w' => ∃ m', m' < m ∧ I m' a' w') Q) a w) : (Code.loop c).wp P Q a w := by
  intro b k cs
  have key : ∀ m a w, I m a w → ∃ e a' w', Q e a' w' ∧ Arrives P (lone (b.at a (.code c :: .inLoop c :: k)) cs w) b k cs e a' w' := by
    intro m
    induction m using Nat.strongRecOn with
    | _ m ih =>
      intro a w hI
      obtain ⟨e, a₁, w₁, hq, harr⟩ := round m a w hI b (.inLoop c :: k) cs
      cases e with
      | normal =>
        obtain ⟨m', hlt, hI₁⟩ := hq
        obtain ⟨e₂, a₂, w₂, hq₂, harr₂⟩ := ih m' hlt a₁ w₁ hI₁
        exact ⟨e₂, a₂, w₂, hq₂, .of_steps (Steps.trans harr (.one step_inLoop)) harr₂⟩
      | exit id => exact ⟨_, a₁, w₁, hq, .pass (x := .inLoop c) rfl (fun _ _ => .inl (by simp)) harr⟩
      | goto l => exact ⟨_, a₁, w₁, hq, .pass (x := .inLoop c) rfl (fun _ _ => .inl (by simp)) harr⟩
      | ret => exact ⟨_, a₁, w₁, hq, .pass (x := .inLoop c) rfl (fun _ _ => .inl (by simp)) harr⟩
      | panic ch => exact ⟨_, a₁, w₁, hq, .pass (x := .inLoop c) rfl (fun _ _ => .inl (by simp)) harr⟩
      | outgrown => exact ⟨_, a₁, w₁, hq, .pass (x := .inLoop c) rfl (fun _ _ => .inl (by simp)) harr⟩
  obtain ⟨e, a', w', hq, harr⟩ := key m a w h₀
  exact ⟨e, a', w', hq, .of_steps (.one step_loop) harr⟩

theorem getTs_lk {fr : List (Nat × SV)} {st : St} : ∀ {ts : List Nat} {vs : List SV}, getTs fr st ts = some vs → ∀ (a : Act), (∀ (t : Nat) (v : SV), st.slot fr t = some v → a.tmps.getD t undef = v.val ρ) →
    ∀ (i t : Nat), ts[i]? = some t → ∃ v : SV, vs[i]? = some v ∧ a.tmps.getD t undef = v.val ρ
  | [], vs, h, a, _ => fun i t hi => by simp at hi
  | t :: r, vs, h, a, ha => by
    simp only [getTs] at h
    split at h
    · rename_i v us hv hu
      simp only [Option.some.injEq] at h; subst h
      have h2 := getTs_lk hu a ha
      intro i s hi
      cases i with
      | zero => simp at hi; subst hi; exact ⟨v, rfl, ha _ _ hv⟩
      | succ i => exact h2 i s (by simpa using hi)
    · cases h

theorem lk_zip {α : Type} : ∀ {ts : List Nat} {us : List α} {r : List (Nat × α)} {t : Nat} {v : α}, lk (ts.zip us ++ r) t = some v → (∃ i : Nat, ts[i]? = some t ∧ us[i]? = some v) ∨ lk r t = some v
  | [], us, r, t, v, h => .inr (by simpa using h)
  | s :: ts, [], r, t, v, h => .inr (by simpa using h)
  | s :: ts, u :: us, r, t, v, h => by
    simp only [List.zip_cons_cons, List.cons_append, lk] at h
    cases hb : Nat.beq s t
    · rw [hb] at h
      rcases lk_zip h with ⟨i, h1, h2⟩ | h
      · exact .inl ⟨i + 1, by simpa using h1, by simpa using h2⟩
      · exact .inr h
    · rw [hb] at h
      simp only [cond_true, Option.some.injEq] at h
      subst h
      exact .inl ⟨0, by rw [Nat.eq_of_beq_eq_true hb]; rfl, rfl⟩

theorem lk_filter {α : Type} {p : Nat → Bool} : ∀ {l : List (Nat × α)} {t : Nat} {v : α}, lk (l.filter fun x => p x.1) t = some v → lk l t = some v ∧ p t = true
  | [], t, v, h => by simp [lk] at h
  | (s, x) :: r, t, v, h => by
    simp only [List.filter_cons] at h
    split at h
    · rename_i hp
      simp only [lk] at h ⊢
      cases hb : Nat.beq s t
      · rw [hb] at h; exact lk_filter h
      · rw [hb] at h; rw [Nat.eq_of_beq_eq_true hb] at hp; exact ⟨h, hp⟩
    · rename_i hp
      obtain ⟨h1, h2⟩ := lk_filter h
      refine ⟨?_, h2⟩
      simp only [lk]
      cases hb : Nat.beq s t
      · exact h1
      · rw [Nat.eq_of_beq_eq_true hb] at hp; exact absurd h2 hp

theorem allCs_inst {p : List (List SV) → Prop} : ∀ {cs : List (List Shape)} {bs : List (List SV)}, allCs cs p → fitCs cs bs = true → ∃ xs, p xs ∧ xs.map (SV.vals ρ) = bs.map (SV.vals ρ)
  | [], [], h, _ => ⟨[], h, rfl⟩
  | [], _ :: _, _, h => by simp [fitCs] at h
  | _ :: _, [], _, h => by simp [fitCs] at h
  | s :: r, c :: bs, h, hf => by
    simp only [fitCs, Bool.and_eq_true] at hf
    obtain ⟨x, hx, e1⟩ := Shape.alls_inst ρ s _ c h hf.1
    obtain ⟨xs, hxs, e2⟩ := allCs_inst hx hf.2
    exact ⟨x :: xs, hxs, by simp [e1, e2]⟩

theorem setCs_length : ∀ (hp : Heap) (ts : List Nat) (cs : List (List SV)), (setCs hp ts cs).length = hp.length
  | hp, [], _ => rfl
  | hp, _ :: _, [] => rfl
  | hp, t :: r, c :: cs => by
    simp only [setCs]
    split
    · rw [setCs_length]; simp
    · exact setCs_length hp r cs

/-- Two heaps that differ in what they say of some tokens, whose values are the same. -/
def sameVals (ρ : List Nat) (hp hq : Heap) : Prop := hp.length = hq.length ∧ ∀ (t : Nat) (b : Blk), hp[t]? = some (some b) → ∃ c : Blk, hq[t]? = some (some c) ∧ c.elem = b.elem ∧ SV.vals ρ c.cells = SV.vals ρ b.cells

theorem setCs_same : ∀ {ts : List Nat} {hp hq : Heap} {xs ys : List (List SV)}, sameVals ρ hp hq → sameVals ρ hq hp → xs.map (SV.vals ρ) = ys.map (SV.vals ρ) → sameVals ρ (setCs hp ts xs) (setCs hq ts ys) ∧ sameVals ρ (setCs hq ts ys) (setCs hp ts xs)
  | [], hp, hq, xs, ys, h, h', _ => ⟨h, h'⟩
  | t :: r, hp, hq, [], [], h, h', _ => ⟨h, h'⟩
  | t :: r, hp, hq, [], y :: ys, h, h', e => by simp at e
  | t :: r, hp, hq, x :: xs, [], h, h', e => by simp at e
  | t :: r, hp, hq, x :: xs, y :: ys, h, h', e => by
    simp only [List.map_cons, List.cons.injEq] at e
    simp only [setCs]
    split
    · rename_i b hb
      obtain ⟨c, hc, he, _⟩ := h.2 t b hb
      rw [hc]
      have key : ∀ {hp hq : Heap} {x y : List SV} {b c : Blk}, sameVals ρ hp hq → hp[t]? = some (some b) → hq[t]? = some (some c) → c.elem = b.elem → SV.vals ρ x = SV.vals ρ y → sameVals ρ (hp.set t (some ⟨x, b.elem⟩)) (hq.set t (some ⟨y, c.elem⟩)) := by
        intro hp hq x y b c h hb hc he ex
        refine ⟨by simp [h.1], fun s d hd => ?_⟩
        simp only [List.getElem?_set] at hd ⊢
        split at hd
        · rename_i est
          subst est
          split at hd
          · simp only [Option.some.injEq] at hd; subst hd
            exact ⟨⟨y, c.elem⟩, by rw [if_pos rfl, if_pos (List.getElem?_eq_some_iff.1 hc).1], he, ex.symm⟩
          · cases hd
        · rename_i hne
          simp only [if_neg hne]
          exact h.2 s d hd
      exact setCs_same (key h hb hc he e.1) (key h' hc hb he.symm e.1.symm) e.2
    · rename_i hn
      split
      · rename_i c hc
        obtain ⟨b, hb, _⟩ := h'.2 t c hc
        exact absurd hb (hn b)
      · exact setCs_same h h' e.2

theorem sameVals.refl (ρ : List Nat) (hp : Heap) : sameVals ρ hp hp := ⟨rfl, fun _ b h => ⟨b, h, rfl, rfl⟩⟩

theorem Held.congr {hp hq : Heap} (h : Held hp ρ w) (hs : sameVals ρ hq hp) : Held hq ρ w :=
  ⟨hs.1.trans h.len, h.nodup, h.lt, fun t b hb => by
    obtain ⟨c, hc, he, ev⟩ := hs.2 t b hb
    rw [h.held t c hc, ev, he]⟩

theorem getCs_setCs : ∀ {ts : List Nat} {hp : Heap} {bs : List (List SV)}, getCs hp ts = some bs → sameVals ρ hp (setCs hp ts bs) ∧ sameVals ρ (setCs hp ts bs) hp
  | [], hp, bs, _ => ⟨sameVals.refl _ _, sameVals.refl _ _⟩
  | t :: r, hp, bs, h => by
    simp only [getCs] at h
    split at h
    · rename_i b us hb hu
      simp only [Option.some.injEq] at h; subst h
      simp only [setCs, hb]
      have hset : hp.set t (some ⟨b.cells, b.elem⟩) = hp := by
        apply List.ext_getElem?
        intro i
        rw [List.getElem?_set]
        split
        · rename_i e; subst e; rw [if_pos (List.getElem?_eq_some_iff.1 hb).1, hb]
        · rfl
      rw [hset]
      exact getCs_setCs hu
    · cases h

theorem lk_append {α : Type} {l m : List (Nat × α)} {t : Nat} : lk (l ++ m) t = match lk l t with | some v => some v | none => lk m t := by
  induction l with
  | nil => rfl
  | cons x l ih =>
    obtain ⟨s, v⟩ := x
    simp only [List.cons_append, lk]
    cases Nat.beq s t <;> simp [ih]

theorem lk_none {α : Type} {p : Nat → Bool} : ∀ {l : List (Nat × α)} {t : Nat}, l.all (fun x => p x.1) = true → p t = false → lk l t = none
  | [], _, _, _ => rfl
  | (s, x) :: r, t, h, hp => by
    simp only [List.all_cons, Bool.and_eq_true] at h
    simp only [lk]
    cases hb : Nat.beq s t
    · exact lk_none h.2 hp
    · have := Nat.eq_of_beq_eq_true hb; subst this; rw [h.1] at hp; cases hp

theorem lk_some_p {α : Type} {p : Nat → Bool} : ∀ {l : List (Nat × α)} {t : Nat} {v : α}, l.all (fun x => p x.1) = true → lk l t = some v → p t = true
  | l, t, v, h, hl => by
    cases hp : p t
    · rw [lk_none h hp] at hl; cases hl
    · rfl

theorem vals_at {l m : List SV} (h : SV.vals ρ l = SV.vals ρ m) (i : Nat) (v : SV) (hv : m[i]? = some v) : ∃ u, l[i]? = some u ∧ u.val ρ = v.val ρ := by
  have := congrArg (·[i]?) h
  simp only [vals_get, hv, Option.map_some] at this
  cases hl : l[i]? with
  | none => rw [hl] at this; cases this
  | some u => rw [hl] at this; exact ⟨u, rfl, by simpa using this⟩
theorem vals_flatten : ∀ {xs ys : List (List SV)}, xs.map (SV.vals ρ) = ys.map (SV.vals ρ) → SV.vals ρ xs.flatten = SV.vals ρ ys.flatten
  | [], [], _ => rfl
  | [], _ :: _, h => by simp at h
  | _ :: _, [], h => by simp at h
  | x :: xs, y :: ys, h => by
    simp only [List.map_cons, List.cons.injEq] at h
    simp only [List.flatten_cons, vals_append, h.1, vals_flatten h.2]

theorem fitss_length : ∀ {l : List Shape} {vs : List SV}, Shape.fitss l vs = true → vs.length = l.length
  | [], [], _ => rfl
  | [], _ :: _, h => by simp [Shape.fitss] at h
  | _ :: _, [], h => by simp [Shape.fitss] at h
  | s :: l, v :: vs, h => by
    simp only [Shape.fitss, Bool.and_eq_true] at h
    simp [fitss_length h.2]

theorem wfs_append {n : Nat} : ∀ {l m : List SV}, SV.wfs n l = true → SV.wfs n m = true → SV.wfs n (l ++ m) = true
  | [], _, _, h => h
  | v :: l, m, h, h' => by
    simp only [SV.wfs, Bool.and_eq_true] at h
    simp only [List.cons_append, SV.wfs, h.1, wfs_append h.2 h', Bool.and_self]
theorem wfs_flatten {n : Nat} : ∀ {bs : List (List SV)}, bs.all (SV.wfs n) = true → SV.wfs n bs.flatten = true
  | [], _ => rfl
  | b :: bs, h => by
    simp only [List.all_cons, Bool.and_eq_true] at h
    exact wfs_append h.1 (wfs_flatten h.2)

theorem setCs_wf {n : Nat} : ∀ {ts : List Nat} {hp : Heap} {cs : List (List SV)}, (∀ (t : Nat) (b : Blk), hp[t]? = some (some b) → SV.wfs n b.cells = true) → (∀ c ∈ cs, SV.wfs n c = true) →
    ∀ {t : Nat} {b : Blk}, (setCs hp ts cs)[t]? = some (some b) → SV.wfs n b.cells = true
  | [], hp, cs, h, _, t, b, hb => h t b hb
  | _ :: _, hp, [], h, _, t, b, hb => h t b hb
  | s :: r, hp, c :: cs, h, hc, t, b, hb => by
    simp only [setCs] at hb
    split at hb
    · rename_i b0 hb0
      refine setCs_wf (ts := r) (fun t' b' h' => ?_) (fun x hx => hc x (List.mem_cons_of_mem _ hx)) hb
      simp only [List.getElem?_set] at h'
      split at h'
      · split at h'
        · simp only [Option.some.injEq] at h'; subst h'; exact hc c List.mem_cons_self
        · cases h'
      · exact h t' b' h'
    · exact setCs_wf (ts := r) h (fun x hx => hc x (List.mem_cons_of_mem _ hx)) hb

def Body (E : Env) (body : Env → St → List Nat → World → KE → Prop) (c : Code) : Prop :=
  ∀ (fr : List (Nat × SV)) (st : St) (ρ : List Nat) (w0 : World) (K : KE) (a : Act) (w : World), body { E with fr } st ρ w0 K → Rep fr st ρ w0 a w → c.wp E.P (QK fr K) a w

theorem take_getD {ρ2 : List Nat} (h : ρ2.take ρ.length = ρ) {t : Nat} (ht : t < ρ.length) : ρ2.getD t 0 = ρ.getD t 0 := by
  rw [List.getD_eq_getElem?_getD, List.getD_eq_getElem?_getD]
  conv => rhs; rw [← h]
  rw [List.getElem?_take, if_pos ht]

/-- The slots that a piece of code does not write. -/
theorem kept_spec {ds : List Nat} (c3 : st.wf E.fr ρ.length = true) (c4 : E.fr.all (fun x => !(hasN ds x.1)) = true) {t : Nat} {v : SV} (hv : lk (st.sl.filter (fun x => !(hasN ds x.1)) ++ E.fr) t = some v) :
    v.wf ρ.length = true ∧ st.slot E.fr t = some v ∧ hasN ds t = false := by
  rw [lk_append] at hv
  cases hl : lk (st.sl.filter (fun x => !(hasN ds x.1))) t with
  | some u =>
    rw [hl] at hv
    simp only [Option.some.injEq] at hv; subst hv
    obtain ⟨h1, h2⟩ := lk_filter (p := fun t => !(hasN ds t)) hl
    have h3 : st.slot E.fr t = some u := by simp [St.slot, h1]
    exact ⟨st_wf_sl c3 h3, h3, by simpa using h2⟩
  | none =>
    rw [hl] at hv
    have hp := lk_some_p (p := fun t => !(hasN ds t)) c4 hv
    have hn : lk st.sl t = none := by
      cases hs : lk st.sl t with
      | none => rfl
      | some u =>
        have : ∀ {l : List (Nat × SV)}, lk l t = some u → lk (l.filter fun x => !(hasN ds x.1)) t = some u := by
          intro l
          induction l with
          | nil => intro h; cases h
          | cons x l ih =>
            obtain ⟨s, y⟩ := x
            intro h
            simp only [lk] at h
            simp only [List.filter_cons]
            cases hb : Nat.beq s t
            · rw [hb] at h
              split
              · simp only [lk, hb]; exact ih h
              · exact ih h
            · rw [hb] at h
              have e := Nat.eq_of_beq_eq_true hb
              rw [if_pos (by rw [e]; exact hp)]
              simp only [lk, hb]; exact h
        rw [this hs] at hl; cases hl
    have h3 : st.slot E.fr t = some v := by simp [St.slot, hn, hv]
    exact ⟨st_wf_sl c3 h3, h3, by simpa using hp⟩

theorem loopX_sound {h : LoopHint} {ds : List Nat} {body : Env → St → List Nat → World → KE → Prop} {c : Code} {K : KE} (hb : Body E body c)
    (hX : loopX E h ds body st ρ w0 K) (R : Rep E.fr st ρ w0 a w) : (Code.loop c).wp E.P (QK E.fr K) a w := by
  unfold loopX at hX
  split at hX
  case h_2 => exact hX.elim
  rename_i vs bs hvs hbs
  cases hc : (Shape.fitss (h.car.map (·.2)) vs && fitCs (h.cells.map (·.2)) bs && st.wf E.fr ρ.length && E.fr.all (fun x => !(hasN ds x.1)))
  · rw [hc] at hX; exact hX.elim
  rw [hc] at hX
  simp only [cond_true] at hX
  simp only [Bool.and_eq_true] at hc
  obtain ⟨⟨⟨c1, c2⟩, c3⟩, c4⟩ := hc
  obtain ⟨I, h0, hround⟩ := hX
  generalize hkept : st.sl.filter (fun x => !(hasN ds x.1)) = kept at hround
  have hwfk : ∀ t v, lk (kept ++ E.fr) t = some v → v.wf ρ.length = true ∧ st.slot E.fr t = some v ∧ hasN ds t = false := fun t v hv => by
    rw [← hkept] at hv; exact kept_spec c3 c4 hv
  -- what holds at the head
  let J : Nat → Act → World → Prop := fun m a w => a.defers = [] ∧ a.tmps.size = st.nt ∧ (∀ t v, lk (kept ++ E.fr) t = some v → a.tmps.getD t undef = v.val ρ) ∧
    ∃ us xs, Shape.fitss (h.car.map (·.2)) us = true ∧ fitCs (h.cells.map (·.2)) xs = true ∧ (∀ (i t : Nat), (h.car.map (·.1))[i]? = some t → ∃ v : SV, us[i]? = some v ∧ a.tmps.getD t undef = v.val ρ) ∧
      Held (setCs st.hp (h.cells.map (·.1)) xs) ρ w ∧ I (SV.vals ρ (us ++ xs.flatten)) w m
  obtain ⟨m0, hm0⟩ := h0 w R.fin
  refine wp_loop_n J m0 ⟨R.nodef, R.size, fun t v hv => R.slot t v (hwfk t v hv).2.1, vs, bs, c1, c2, getTs_lk hvs a R.slot, R.fin.toHeld.congr (getCs_setCs hbs).2, hm0⟩ ?_
  rintro m a w ⟨j1, j2, j3, us, xs, f1, f2, j4, j5, j6⟩
  obtain ⟨us', hr, e1⟩ := Shape.alls_inst ρ _ _ us (hround m w) f1
  obtain ⟨xs', hr, e2⟩ := allCs_inst (ρ := ρ) hr f2
  have hheld : Held (setCs st.hp (h.cells.map (·.1)) xs') ρ w := j5.congr (setCs_same (sameVals.refl _ _) (sameVals.refl _ _) e2).1
  have hfin : Fin (setCs st.hp (h.cells.map (·.1)) xs') ρ w w := ⟨hheld, Ext.refl _ _⟩
  have hI : I (SV.vals ρ (us' ++ xs'.flatten)) w m := by rw [vals_append, e1, vals_flatten e2, ← vals_append]; exact j6
  have hbody := hr hfin hI
  have hrep : Rep (kept ++ E.fr) { st with sl := (h.car.map (·.1)).zip us', hp := setCs st.hp (h.cells.map (·.1)) xs' } ρ w a w := by
    refine ⟨j1, j2, fun t v hv => ?_, hfin⟩
    unfold St.slot at hv
    cases hl : lk ((h.car.map (·.1)).zip us') t with
    | none => rw [hl] at hv; exact j3 t v hv
    | some u =>
      rw [hl] at hv
      simp only [Option.some.injEq] at hv; subst hv
      have hl' : lk ((h.car.map (·.1)).zip us' ++ []) t = some u := by rw [List.append_nil]; exact hl
      rcases lk_zip hl' with ⟨i, h1, h2⟩ | h1
      · obtain ⟨x, hx, hxa⟩ := j4 i t h1
        obtain ⟨y, hy, hye⟩ := vals_at (ρ := ρ) e1 i x hx
        rw [h2] at hy; cases hy
        rw [hxa, hye]
      · cases h1
  refine wp_mono (hb _ _ _ _ _ a w hbody hrep) fun e a' w' hq => ?_
  -- behind the body
  have out : ∀ e, e ≠ .normal → (∃ st2 ρ2 w2, K e { st2 with sl := st2.sl ++ kept } ρ2 w2 ∧ Rep (kept ++ E.fr) st2 ρ2 w2 a' w') → ∃ st2 ρ2 w2, K e st2 ρ2 w2 ∧ Rep E.fr st2 ρ2 w2 a' w' := by
    rintro e _ ⟨st2, ρ2, w2, hK, R2⟩
    refine ⟨_, ρ2, w2, hK, R2.nodef, R2.size, fun t v hv => R2.slot t v ?_, R2.fin⟩
    simp only [St.slot, lk_append] at hv ⊢
    cases h1 : lk st2.sl t with
    | some u => simpa [h1] using hv
    | none =>
      simp only [h1] at hv ⊢
      cases h2 : lk kept t <;> simpa [h2] using hv
  cases e with
  | panic c => exact hq.elim
  | outgrown => exact hq.elim
  | exit id => exact out (.exit id) (by simp) hq
  | goto l => exact out (.goto l) (by simp) hq
  | ret => exact out .ret (by simp) hq
  | normal =>
    obtain ⟨st2, ρ2, w2, hK, R2⟩ := hq
    simp only at hK
    split at hK
    case h_2 => exact hK.elim
    rename_i vs2 bs2 hvs2 hbs2
    cases hc2 : (Shape.fitss (h.car.map (·.2)) vs2 && fitCs (h.cells.map (·.2)) bs2 && st2.sl.all (fun x => hasN ds x.1) && Nat.beq st2.nt st.nt && SV.wfs ρ.length vs2 && bs2.all (SV.wfs ρ.length))
    · rw [hc2] at hK; exact hK.elim
    rw [hc2] at hK
    simp only [cond_true] at hK
    simp only [Bool.and_eq_true] at hc2
    obtain ⟨⟨⟨⟨⟨d1, d2⟩, d3⟩, d4⟩, d5⟩, d6⟩ := hc2
    obtain ⟨⟨hρ2, hhp⟩, hI2⟩ := hK
    obtain ⟨m', hlt, hI'⟩ := hI2 w' R2.fin
    have hsame : ∀ t, t < ρ.length → ρ2.getD t 0 = ρ.getD t 0 := fun t ht => take_getD hρ2 ht
    have hv5 : SV.vals ρ2 vs2 = SV.vals ρ vs2 := vals_of_wf hsame _ d5
    have hv6 : SV.vals ρ2 bs2.flatten = SV.vals ρ bs2.flatten := vals_of_wf hsame _ (wfs_flatten d6)
    refine ⟨m', hlt, R2.nodef, by rw [R2.size]; exact Nat.eq_of_beq_eq_true d4, fun t v hv => ?_, vs2, bs2, d1, d2, fun i t hi => ?_, ⟨by rw [setCs_length]; exact R.fin.len, R.fin.nodup, fun b hb => ?_, fun t b hb' => ?_⟩, ?_⟩
    · obtain ⟨k1, _, k3⟩ := hwfk t v hv
      rw [← val_of_wf hsame v k1]
      refine R2.slot t v ?_
      simp only [St.slot, lk_none (p := hasN ds) d3 k3]
      exact hv
    · obtain ⟨v, h1, h2⟩ := getTs_lk (ρ := ρ2) hvs2 a' (fun t v hv => R2.slot t v (by
        simp only [St.slot] at hv ⊢
        cases hl : lk st2.sl t with
        | some u => simpa [hl] using hv
        | none => simp [hl, lk] at hv)) i t hi
      exact ⟨v, h1, by rw [h2]; exact val_of_wf hsame v (wfs_get d5 h1)⟩
    · refine R2.fin.lt b ?_
      rw [← hρ2] at hb
      exact List.mem_of_mem_take hb
    · have hwb := setCs_wf (fun t b h => st_wf_hp c3 h) (fun c hc => List.all_eq_true.1 d6 c hc) hb'
      have htl : t < st.hp.length := by have := (List.getElem?_eq_some_iff.1 hb').1; rwa [setCs_length] at this
      rw [← hhp, List.getElem?_take, if_pos htl] at hb'
      have := R2.fin.held t b hb'
      rw [hsame t (by rw [← R.fin.len]; exact htl), vals_of_wf hsame _ hwb] at this
      exact this
    · rw [vals_append, hv5, hv6, ← vals_append] at hI'; exact hI'


theorem cutX_sound {h : LoopHint} {ds : List Nat} {body : Env → St → List Nat → World → KE → Prop} {rest : St → List Nat → World → Prop} {c d : Code} {K : KE} (hb : Body E body c)
    (hd : ∀ st ρ w0 a w, rest st ρ w0 → Rep E.fr st ρ w0 a w → d.wp E.P (QK E.fr K) a w) (hX : cutX E h ds body rest st ρ w0 K) (R : Rep E.fr st ρ w0 a w) : (Code.seq c d).wp E.P (QK E.fr K) a w := by
  unfold cutX at hX
  split at hX
  case h_2 => exact hX.elim
  cases hc : (st.wf E.fr ρ.length && E.fr.all (fun x => !(hasN ds x.1)))
  · rw [hc] at hX; exact hX.elim
  rw [hc] at hX
  simp only [cond_true] at hX
  simp only [Bool.and_eq_true] at hc
  obtain ⟨c3, c4⟩ := hc
  obtain ⟨I, hbody, hrest⟩ := hX
  generalize hkept : st.sl.filter (fun x => !(hasN ds x.1)) = kept at hbody hrest
  have hwfk : ∀ t v, lk (kept ++ E.fr) t = some v → v.wf ρ.length = true ∧ st.slot E.fr t = some v ∧ hasN ds t = false := fun t v hv => by
    rw [← hkept] at hv; exact kept_spec c3 c4 hv
  have hrep : Rep (kept ++ E.fr) { st with sl := st.sl.filter (fun x => hasN ds x.1) } ρ w0 a w := by
    refine ⟨R.nodef, R.size, fun t v hv => ?_, R.fin⟩
    unfold St.slot at hv
    simp only at hv
    cases hl : lk (st.sl.filter (fun x => hasN ds x.1)) t with
    | none => rw [hl] at hv; exact R.slot t v (hwfk t v hv).2.1
    | some u =>
      rw [hl] at hv
      simp only [Option.some.injEq] at hv; subst hv
      have := (lk_filter (p := hasN ds) hl).1
      exact R.slot t u (by simp [St.slot, this])
  refine wp_seq (wp_mono (hb _ _ _ _ _ a w hbody hrep) fun e a' w' hq => ?_)
  have out : ∀ e, e ≠ .normal → (∃ st2 ρ2 w2, K e { st2 with sl := st2.sl ++ kept } ρ2 w2 ∧ Rep (kept ++ E.fr) st2 ρ2 w2 a' w') → ∃ st2 ρ2 w2, K e st2 ρ2 w2 ∧ Rep E.fr st2 ρ2 w2 a' w' := by
    rintro e _ ⟨st2, ρ2, w2, hK, R2⟩
    refine ⟨_, ρ2, w2, hK, R2.nodef, R2.size, fun t v hv => R2.slot t v ?_, R2.fin⟩
    simp only [St.slot, lk_append] at hv ⊢
    cases h1 : lk st2.sl t with
    | some u => simpa [h1] using hv
    | none =>
      simp only [h1] at hv ⊢
      cases h2 : lk kept t <;> simpa [h2] using hv
  cases e with
  | panic c => exact hq.elim
  | outgrown => exact hq.elim
  | exit id => exact out (.exit id) (by simp) hq
  | goto l => exact out (.goto l) (by simp) hq
  | ret => exact out .ret (by simp) hq
  | normal =>
    obtain ⟨st2, ρ2, w2, hK, R2⟩ := hq
    simp only at hK
    split at hK
    case h_2 => exact hK.elim
    rename_i vs2 bs2 hvs2 hbs2
    cases hc2 : (Shape.fitss (h.car.map (·.2)) vs2 && fitCs (h.cells.map (·.2)) bs2 && st2.sl.all (fun x => hasN ds x.1) && Nat.beq st2.nt st.nt && SV.wfs ρ.length vs2 && bs2.all (SV.wfs ρ.length))
    · rw [hc2] at hK; exact hK.elim
    rw [hc2] at hK
    simp only [cond_true] at hK
    simp only [Bool.and_eq_true] at hc2
    obtain ⟨⟨⟨⟨⟨d1, d2⟩, d3⟩, d4⟩, d5⟩, d6⟩ := hc2
    obtain ⟨⟨hρ2, hhp⟩, hI2⟩ := hK
    have hI' := hI2 w' R2.fin
    have hsame : ∀ t, t < ρ.length → ρ2.getD t 0 = ρ.getD t 0 := fun t ht => take_getD hρ2 ht
    have hv5 : SV.vals ρ2 vs2 = SV.vals ρ vs2 := vals_of_wf hsame _ d5
    have hv6 : SV.vals ρ2 bs2.flatten = SV.vals ρ bs2.flatten := vals_of_wf hsame _ (wfs_flatten d6)
    rw [vals_append, hv5, hv6, ← vals_append] at hI'
    have hheld : Held (setCs st.hp (h.cells.map (·.1)) bs2) ρ w' := by
      refine ⟨by rw [setCs_length]; exact R.fin.len, R.fin.nodup, fun b hb => ?_, fun t b hb' => ?_⟩
      · refine R2.fin.lt b ?_
        rw [← hρ2] at hb
        exact List.mem_of_mem_take hb
      · have hwb := setCs_wf (fun t b h => st_wf_hp c3 h) (fun c hc => List.all_eq_true.1 d6 c hc) hb'
        have htl : t < st.hp.length := by have := (List.getElem?_eq_some_iff.1 hb').1; rwa [setCs_length] at this
        rw [← hhp, List.getElem?_take, if_pos htl] at hb'
        have := R2.fin.held t b hb'
        rw [hsame t (by rw [← R.fin.len]; exact htl), vals_of_wf hsame _ hwb] at this
        exact this
    obtain ⟨us', hr, e1⟩ := Shape.alls_inst ρ _ _ vs2 (hrest w') d1
    obtain ⟨xs', hr, e2⟩ := allCs_inst (ρ := ρ) hr d2
    have hheld' : Held (setCs st.hp (h.cells.map (·.1)) xs') ρ w' := hheld.congr (setCs_same (sameVals.refl _ _) (sameVals.refl _ _) e2).1
    have hfin : Fin (setCs st.hp (h.cells.map (·.1)) xs') ρ w' w' := ⟨hheld', Ext.refl _ _⟩
    refine hd _ _ _ a' w' (hr hfin (by rw [vals_append, e1, vals_flatten e2, ← vals_append]; exact hI')) ⟨R2.nodef, by rw [R2.size]; exact Nat.eq_of_beq_eq_true d4, fun t v hv => ?_, hfin⟩
    unfold St.slot at hv
    simp only [lk_append] at hv
    cases hl : lk ((h.car.map (·.1)).zip us') t with
    | some u =>
      rw [hl] at hv
      simp only [Option.some.injEq] at hv; subst hv
      have hl' : lk ((h.car.map (·.1)).zip us' ++ []) t = some u := by rw [List.append_nil]; exact hl
      rcases lk_zip hl' with ⟨i, h1, h2⟩ | h1
      · obtain ⟨x, hx, hxa⟩ := getTs_lk (ρ := ρ2) hvs2 a' (fun t v hv => R2.slot t v (by
          simp only [St.slot] at hv ⊢
          cases hl : lk st2.sl t with
          | some u => simpa [hl] using hv
          | none => simp [hl, lk] at hv)) i t h1
        obtain ⟨y, hy, hye⟩ := vals_at (ρ := ρ) e1 i x hx
        rw [h2] at hy; cases hy
        rw [hxa, hye]
        exact val_of_wf hsame x (wfs_get d5 hx)
      · cases h1
    | none =>
      rw [hl] at hv
      have hv' : lk (kept ++ E.fr) t = some v := by
        rw [lk_append]
        cases h1 : lk kept t with
        | some u => simpa [h1] using hv
        | none => simpa [h1] using hv
      obtain ⟨k1, _, k3⟩ := hwfk t v hv'
      rw [← val_of_wf hsame v k1]
      refine R2.slot t v ?_
      simp only [St.slot, lk_none (p := hasN ds) d3 k3]
      exact hv'

theorem X_sound : ∀ (c : Code) (E : Env) (_ : E.ok) (n : Nat) (fr : List (Nat × SV)) (st : St) (ρ : List Nat) (w0 : World) (K : KE) (a : Act) (w : World), X { E with fr } c n st ρ w0 K → Rep fr st ρ w0 a w →
    c.wp E.P (QK fr K) a w
  | .skip, E, _, n, fr, st, ρ, w0, K, a, w, h, R => wp_skip ⟨st, ρ, w0, h, R⟩
  | .label l, E, _, n, fr, st, ρ, w0, K, a, w, h, R => wp_label ⟨st, ρ, w0, h, R⟩
  | .region id ops draw, E, hE, n, fr, st, ρ, w0, K, a, w, h, R =>
    regX_sound (E := { E with fr }) (Q := QK fr K) ⟨hE.tab, hE.fns, hE.mixed⟩ (fun st ρ w0 a w h R => ⟨st, ρ, w0, h, R⟩) (fun _ _ _ h => h) h R
  | .seq x y, E, hE, n, fr, st, ρ, w0, K, a, w, h, R => by
    simp only [X] at h
    split at h
    case h_2 => exact cutX_sound (E := { E with fr }) (fun fr' st ρ w0 K a w hb R => X_sound x E hE n fr' st ρ w0 K a w hb R) (fun st ρ w0 a w h R => X_sound y E hE n fr st ρ w0 K a w h R) h R
    refine wp_seq (wp_mono (X_sound x E hE n fr st ρ w0 _ a w h R) fun e a' w' hq => ?_)
    cases e with
    | normal =>
      obtain ⟨st', ρ', w0', hK, R'⟩ := hq
      exact X_sound y E hE n fr st' ρ' w0' K a' w' hK R'
    | panic c => exact hq.elim
    | outgrown => exact hq.elim
    | exit id => exact hq
    | goto l => exact hq
    | ret => exact hq
  | .cond c x y, E, hE, n, fr, st, ρ, w0, K, a, w, h, R => by
    simp only [X] at h
    split at h
    · rename_i hc
      exact wp_cond_true (R.get (x := c) hc) (X_sound x E hE n fr st ρ w0 K a w h R)
    · rename_i hc
      exact wp_cond_false (R.get (x := c) hc) (X_sound y E hE n fr st ρ w0 K a w h R)
    · rename_i t hc
      exact wp_cond_split (t := t) (R.get (x := c) hc) (fun ht => X_sound x E hE n fr st ρ w0 K a w (h.1 ht) R) (fun ht => X_sound y E hE n fr st ρ w0 K a w (h.2 ht) R)
    · exact h.elim
  | .block id x, E, hE, n, fr, st, ρ, w0, K, a, w, h, R => by
    refine wp_block (wp_mono (X_sound x E hE id fr st ρ w0 _ a w h R) fun e a' w' hq => ?_)
    cases e with
    | normal => exact hq
    | panic c => exact hq.elim
    | outgrown => exact hq.elim
    | exit i =>
      obtain ⟨st', ρ', w0', hK, R'⟩ := hq
      simp only [Exit.inBlock]
      simp only at hK
      cases hb : Nat.beq i id
      · rw [hb] at hK
        rw [if_neg (Nat.ne_of_beq_eq_false hb)]
        exact ⟨st', ρ', w0', hK, R'⟩
      · rw [hb] at hK
        rw [if_pos (Nat.eq_of_beq_eq_true hb)]
        exact ⟨st', ρ', w0', hK, R'⟩
    | goto l => exact hq
    | ret => exact hq
  | .loop x, E, hE, n, fr, st, ρ, w0, K, a, w, h, R => by
    simp only [X] at h
    split at h
    · exact loopX_sound (E := { E with fr }) (fun fr' st ρ w0 K a w hb R => X_sound x E hE n fr' st ρ w0 K a w hb R) h R
    · exact h.elim
  | .exit id, E, _, n, fr, st, ρ, w0, K, a, w, h, R => wp_exit ⟨st, ρ, w0, h, R⟩
  | .ret, E, _, n, fr, st, ρ, w0, K, a, w, h, R => wp_ret ⟨st, ρ, w0, h, R⟩
  | .rangeFunc _ _ _ _, E, _, n, fr, st, ρ, w0, K, a, w, h, R => h.elim
  | .scope _, E, _, n, fr, st, ρ, w0, K, a, w, h, R => h.elim
  | .goto _, E, _, n, fr, st, ρ, w0, K, a, w, h, R => h.elim
  | .refuse _, E, _, n, fr, st, ρ, w0, K, a, w, h, R => h.elim

end
end Go.Sx
