/- Filters: lists of rules in memory; the first rule that fits; may the filter be. -/
import Derived.Test.YtnbbnokjbopcbaaRaB
set_option linter.all false
namespace Go.Proofs.Ytnbbnokjbopcbaa
open Go Go.Sx

theorem cell_fr {w w' : World} (h : Fr [] w w') {b o : Nat} {v : Value} (hc : wCell w b o v) : wCell w' b o v := by
  have hlt : b < w.heap.size := World.block_lt_of_cell? w ⟨b, o, none⟩ hc
  exact (World.cell?_of_block (h.same b hlt (by simp))).trans hc
theorem cell_lt {w : World} {b o : Nat} {v : Value} (hc : wCell w b o v) : b < w.heap.size := World.block_lt_of_cell? w ⟨b, o, none⟩ hc

/-- Rows of so many cells, one behind the other. -/
def RowsAt (w : World) (a : Option Addr) (l sz : Nat) (rows : List (List Value)) : Prop :=
  l = rows.length ∧ ∀ i r, rows[i]? = some r → ∃ b o, a = some (ad b o) ∧ b < w.heap.size ∧ ∀ k v, r[k]? = some v → wCell w b (o + i * sz + k) v
theorem RowsAt.fr {w w' : World} {a : Option Addr} {l sz : Nat} {rows : List (List Value)} (h : RowsAt w a l sz rows) (k : Fr [] w w') : RowsAt w' a l sz rows :=
  ⟨h.1, fun i r hr => let ⟨b, o, h1, h2, h3⟩ := h.2 i r hr; ⟨b, o, h1, Nat.lt_of_lt_of_le h2 k.size, fun j v hv => cell_fr k (h3 j v hv)⟩⟩

theorem RowsAt.frS {S : List Nat} {w w' : World} {a : Option Addr} {l sz : Nat} {rows : List (List Value)} (h : RowsAt w a l sz rows) (k : Fr S w w') (hn : ∀ x, a = some x → x.block < w.heap.size → x.block ∉ S) : RowsAt w' a l sz rows :=
  ⟨h.1, fun i r hr => let ⟨b, o, h1, h2, h3⟩ := h.2 i r hr; ⟨b, o, h1, Nat.lt_of_lt_of_le h2 k.size, fun j v hv => (World.cell?_of_block (k.same b h2 (hn _ h1 h2))).trans (h3 j v hv)⟩⟩

structure RulesAt (w : World) (a : Option Addr) (l : Nat) (rs : List Ru) : Prop where
  rows : RowsAt w a l 10 (rs.map Ru.cells)
  ok : ∀ r ∈ rs, r.In
  few : l * 64 ≤ 140737488355328
theorem RulesAt.fr {w w' : World} {a : Option Addr} {l : Nat} {rs : List Ru} (h : RulesAt w a l rs) (k : Fr [] w w') : RulesAt w' a l rs := ⟨h.rows.fr k, h.ok, h.few⟩
theorem RulesAt.frS {S : List Nat} {w w' : World} {a : Option Addr} {l : Nat} {rs : List Ru} (h : RulesAt w a l rs) (k : Fr S w w') (hn : ∀ x, a = some x → x.block < w.heap.size → x.block ∉ S) : RulesAt w' a l rs := ⟨h.rows.frS k hn, h.ok, h.few⟩
theorem RulesAt.len {w : World} {a : Option Addr} {l : Nat} {rs : List Ru} (h : RulesAt w a l rs) : l = rs.length := by simpa using h.rows.1
theorem RulesAt.get {w : World} {a : Option Addr} {l : Nat} {rs : List Ru} (h : RulesAt w a l rs) {i : Nat} {r : Ru} (hr : rs[i]? = some r) :
    r.In ∧ ∃ b o, a = some (ad b o) ∧ b < w.heap.size ∧ ∀ k v, r.cells[k]? = some v → wCell w b (o + i * 10 + k) v := by
  refine ⟨h.ok r (List.mem_of_getElem? hr), ?_⟩
  exact h.rows.2 i r.cells (by rw [List.getElem?_map, hr]; rfl)
theorem RulesAt.none (w : World) : RulesAt w Option.none 0 [] := ⟨⟨rfl, fun i r h => by simp at h⟩, by simp, by decide⟩

/-- The place of the first that is so; -1: there is none. -/
def fst1 {α : Type} (p : α → Bool) (l : List α) : Int := if l.findIdx p < l.length then (l.findIdx p : Int) else -1

theorem fst1_hit {α : Type} {p : α → Bool} {l : List α} {i : Nat} {x : α} (hi : l[i]? = some x) (hp : p x = true) (hb : ∀ j, j < i → ∀ y, l[j]? = some y → p y = false) : fst1 p l = i := by
  obtain ⟨h1, h2⟩ := List.getElem?_eq_some_iff.1 hi
  have : l.findIdx p = i := (List.findIdx_eq h1).2 ⟨by rw [h2]; exact hp, fun j hj => hb j hj _ (List.getElem?_eq_getElem (by omega))⟩
  unfold fst1
  rw [this, if_pos h1]
theorem fst1_none {α : Type} {p : α → Bool} {l : List α} (hb : ∀ j, j < l.length → ∀ y, l[j]? = some y → p y = false) : fst1 p l = -1 := by
  unfold fst1
  rw [if_neg]
  intro h
  have h1 := List.findIdx_getElem (w := h)
  rw [hb _ h _ (List.getElem?_eq_getElem h)] at h1
  cases h1
theorem fst1_cases {α : Type} (p : α → Bool) (l : List α) : (fst1 p l = -1 ∧ ∀ x ∈ l, p x = false) ∨ ∃ (i : Nat) (x : α), fst1 p l = i ∧ l[i]? = some x ∧ p x = true := by
  unfold fst1
  split
  · rename_i h
    exact .inr ⟨_, _, rfl, List.getElem?_eq_getElem h, List.findIdx_getElem (w := h)⟩
  · rename_i h
    refine .inl ⟨rfl, fun x hx => ?_⟩
    cases hp : p x
    · rfl
    · exact absurd (List.findIdx_lt_length_of_exists ⟨x, hx, hp⟩) h

theorem keep0 {w w' : World} (h : Fr [] w w') : wKeep [] w w' := h.keep (by simp)
theorem not_mem_new {ρ : List Nat} {w : World} {b : Nat} (hn : ∀ x ∈ ρ, w.heap.size ≤ x) (hb : b < w.heap.size) : wOut b ρ := fun h => absurd (hn b h) (by omega)


theorem decides1_ok {r : Ru} {h : Hd} {b0 : Nat} {w : World} (hr : r.In) (hh : h.In) (hb0 : wBlock w b0 h.cells 28) : Ans 27 [r.val, .pointer (some (ad b0 0))] w (.bool (rfits r h)) := by
  have hlt := block_lt hb0
  refine of_decides1 r.pm r.pr r.sa r.sn r.da r.dn r.s1 r.s2 r.d1 r.d2 h.s h.d h.p h.x h.y b0 (Held.of (by simp) ⟨hb0, trivial⟩) ?_
  intro b hb _ wc hf
  have hfr : Fr [] w wc := ⟨hf.size, fun c hc hn => by
    by_cases h0 : c = b0
    · subst h0
      have := hf.held 0 _ rfl
      exact this.trans hb0.symm
    · exact hf.same c hc (by simp only [List.mem_cons, not_or, List.not_mem_nil, not_false_iff, and_true]; exact ⟨h0, fun h => by subst h; exact absurd hb (by unfold wNew; omega)⟩), hf.os, hf.tape, hf.output⟩
  refine (fits_ok hr hh).mono ?_
  rintro e w' ⟨he, hk⟩
  refine ⟨_, he, keep_of hf hk, fun w1 hf1 => ⟨rfl, ?_⟩⟩
  have hfr2 := hfr.trans hk (by simp)
  exact ⟨Nat.le_trans hfr2.size hf1.size, fun c hc hn => by
    by_cases h0 : c = b0
    · subst h0
      have := hf1.held 0 _ rfl
      exact this.trans hb0.symm
    · exact (hf1.same c (Nat.lt_of_lt_of_le hc hfr2.size) (by simp only [List.mem_cons, not_or, List.not_mem_nil, not_false_iff, and_true]; exact ⟨h0, fun h => by subst h; exact absurd hb (by unfold wNew; omega)⟩)).trans (hfr2.same c hc hn), hf1.os.trans hfr2.os, hf1.tape.trans hfr2.tape, hf1.output.trans hfr2.output⟩

theorem idxC_ok {a : Option Addr} {l c : Nat} {rs : List Ru} {w : World} (hrs : RulesAt w a l rs) :
    Ans 26 [.slice a l c, .func (.func 23) #[] #[]] w (vi64 (fst1 (fun r => !rmay r) rs)) := by
  refine of_idxC a l c held0 ?_
  refine ⟨fun vs wb m => Fr [] w wb ∧ ∃ i : Nat, vs = [vi64 i] ∧ i ≤ rs.length ∧ (∀ j, j < i → ∀ r, rs[j]? = some r → (!rmay r) = false) ∧ m = rs.length - i, fun wc hf => ⟨rs.length, fr_fin0 hf (Fr.refl _ _), 0, rfl, by omega, fun j hj => by omega, rfl⟩, ?_⟩
  rintro m wb n hb ⟨hfr, i, hv, hi, hbef, hm⟩
  simp only [List.cons.injEq, Value.int.injEq, true_and, and_true] at hv
  subst hv
  have hl := hrs.len
  have hbig : rs.length ≤ 140737488355328 := by have := hrs.few; omega
  refine ⟨fun hlt => ?_, fun hlt w1 hf => ⟨?_, fr_fin0 hf hfr⟩⟩
  · simp only [wLt, wInt, decide_eq_true_eq] at hlt
    have hil : i < rs.length := by omega
    have hr := List.getElem?_eq_getElem hil
    generalize rs[i] = r at hr
    obtain ⟨hin, b, o, ha, hbl, hc⟩ := (hrs.fr hfr).get hr
    refine ⟨b, o, ha, ⟨by omega, by omega⟩, List.not_mem_nil, r.pm, r.pr, r.sa, r.sn, r.da, r.dn, r.s1, r.s2, r.d1, r.d2, ⟨hc 0 _ rfl, hc 1 _ rfl, hc 2 _ rfl, hc 3 _ rfl, hc 4 _ rfl, hc 5 _ rfl, hc 6 _ rfl, hc 7 _ rfl, hc 8 _ rfl, hc 9 _ rfl, trivial⟩, fun wc hf => ?_⟩
    have hfr1 := fr_fin0 hf hfr
    refine (check1_ok hin).mono ?_
    rintro e w' ⟨he, hk⟩
    have hfr2 := hfr1.trans hk (by simp)
    refine ⟨_, he, keep0 hk, fun hp w1 hf1 => ⟨?_, fr_fin0 hf1 hfr2⟩, fun hp => ⟨(i : Int) + 1, wi64 (n := (i : Int) + 1) (by omega), ⟨rfl, rfl⟩, fun wd hf1 => ⟨rs.length - (i + 1), ?_, fr_fin0 hf1 hfr2, i + 1, by simp, by omega, ?_, rfl⟩⟩⟩
    · rw [fst1_hit hr hp hbef]
    · show Nat.succ _ ≤ m
      omega
    · intro j hj y hy
      by_cases hji : j = i
      · subst hji; rw [hr] at hy; cases hy; exact hp
      · exact hbef j (by omega) y hy
  · simp only [wLt, wInt, decide_eq_false_iff_not] at hlt
    rw [fst1_none fun j hj => hbef j (by omega)]

theorem idxD_ok {a : Option Addr} {l c : Nat} {b0 : Nat} {h : Hd} {rs : List Ru} {w : World} (hrs : RulesAt w a l rs) (hh : h.In) (hb0 : wBlock w b0 h.cells 28) :
    Ans 26 [.slice a l c, .func (.func 27) #[] #[.pointer (some (ad b0 0))]] w (vi64 (fst1 (fun r => rfits r h) rs)) := by
  refine of_idxD a l c b0 held0 ?_
  refine ⟨fun vs wb m => Fr [] w wb ∧ ∃ i : Nat, vs = [vi64 i] ∧ i ≤ rs.length ∧ (∀ j, j < i → ∀ r, rs[j]? = some r → (rfits r h) = false) ∧ m = rs.length - i, fun wc hf => ⟨rs.length, fr_fin0 hf (Fr.refl _ _), 0, rfl, by omega, fun j hj => by omega, rfl⟩, ?_⟩
  rintro m wb n hb ⟨hfr, i, hv, hi, hbef, hm⟩
  simp only [List.cons.injEq, Value.int.injEq, true_and, and_true] at hv
  subst hv
  have hl := hrs.len
  have hbig : rs.length ≤ 140737488355328 := by have := hrs.few; omega
  refine ⟨fun hlt => ?_, fun hlt w1 hf => ⟨?_, fr_fin0 hf hfr⟩⟩
  · simp only [wLt, wInt, decide_eq_true_eq] at hlt
    have hil : i < rs.length := by omega
    have hr := List.getElem?_eq_getElem hil
    generalize rs[i] = r at hr
    obtain ⟨hin, b, o, ha, hbl, hc⟩ := (hrs.fr hfr).get hr
    refine ⟨b, o, ha, ⟨by omega, by omega⟩, List.not_mem_nil, r.pm, r.pr, r.sa, r.sn, r.da, r.dn, r.s1, r.s2, r.d1, r.d2, ⟨hc 0 _ rfl, hc 1 _ rfl, hc 2 _ rfl, hc 3 _ rfl, hc 4 _ rfl, hc 5 _ rfl, hc 6 _ rfl, hc 7 _ rfl, hc 8 _ rfl, hc 9 _ rfl, trivial⟩, fun wc hf => ?_⟩
    have hfr1 := fr_fin0 hf hfr
    refine (decides1_ok hin hh (hfr1.block hb0 (by simp))).mono ?_
    rintro e w' ⟨he, hk⟩
    have hfr2 := hfr1.trans hk (by simp)
    refine ⟨_, he, keep0 hk, fun hp w1 hf1 => ⟨?_, fr_fin0 hf1 hfr2⟩, fun hp => ⟨(i : Int) + 1, wi64 (n := (i : Int) + 1) (by omega), ⟨rfl, rfl⟩, fun wd hf1 => ⟨rs.length - (i + 1), ?_, fr_fin0 hf1 hfr2, i + 1, by simp, by omega, ?_, rfl⟩⟩⟩
    · rw [fst1_hit hr hp hbef]
    · show Nat.succ _ ≤ m
      omega
    · intro j hj y hy
      by_cases hji : j = i
      · subst hji; rw [hr] at hy; cases hy; exact hp
      · exact hbef j (by omega) y hy
  · simp only [wLt, wInt, decide_eq_false_iff_not] at hlt
    rw [fst1_none fun j hj => hbef j (by omega)]

theorem idxC_sign (rs : List Ru) : wGe (fst1 (fun r => !rmay r) rs) 0 = !rs.all rmay := by
  rcases fst1_cases (fun r => !rmay r) rs with ⟨h1, h2⟩ | ⟨i, x, h1, h2, h3⟩
  · rw [h1]
    have : rs.all rmay = true := List.all_eq_true.2 fun x hx => by have := h2 x hx; simpa using this
    rw [this]; rfl
  · rw [h1]
    have : rs.all rmay = false := by
      rw [← Bool.not_eq_true, List.all_eq_true]
      intro h
      have := h x (List.mem_of_getElem? h2)
      rw [this] at h3; cases h3
    rw [this]
    simp [wGe]

theorem cont_ok {a : Option Addr} {l c : Nat} {rs : List Ru} {w : World} (hrs : RulesAt w a l rs) :
    Ans 22 [.slice a l c, .func (.func 23) #[] #[]] w (.bool (!rs.all rmay)) := by
  refine of_cont a l c held0 ?_
  intro wc hf
  have hfr := fr_fin0 hf (Fr.refl _ _)
  refine (idxC_ok (hrs.fr hfr)).mono ?_
  rintro e w' ⟨he, hk⟩
  exact ⟨_, he, keep0 hk, fun w1 hf1 => ⟨by rw [idxC_sign], fr_fin0 hf1 (hfr.trans hk (by simp))⟩⟩

/-- May a filter be? -/
def fcheckF (rs : List Ru) : Int := if rs.length ≤ 256 ∧ rs.all rmay = true then 0 else 121

theorem fcheck_ok {nm : ByteArray} {a : Option Addr} {l c : Nat} {rs : List Ru} {w : World} (hrs : RulesAt w a l rs) :
    Ans 16 [.agg #[.string nm, .slice a l c]] w (vi64 (fcheckF rs)) := by
  refine of_fcheck nm a l c held0 ?_
  intro b hb _
  have hnew : ∀ x ∈ [b], w.heap.size ≤ x := by simpa using hb
  have hl := hrs.len
  refine ⟨fun hg w1 hf => ⟨?_, fr_fin hf (Fr.refl _ _) hnew⟩, fun hg wc hf => ?_⟩
  · simp only [wGt, wInt, decide_eq_true_eq] at hg
    rw [fcheckF, if_neg (by omega)]
  · simp only [wGt, wInt, decide_eq_false_iff_not] at hg
    have hfr := fr_fin hf (Fr.refl _ _) hnew
    refine (cont_ok (hrs.fr hfr)).mono ?_
    rintro e w' ⟨he, hk⟩
    have hfr2 := hfr.trans hk (by simp)
    refine ⟨_, he, keep_of hf hk, fun hc w1 hf1 => ⟨?_, fr_fin hf1 hfr2 hnew⟩, fun hc w1 hf1 => ⟨?_, fr_fin hf1 hfr2 hnew⟩⟩
    · rw [fcheckF, if_neg]
      rintro ⟨_, h⟩; rw [h] at hc; cases hc
    · rw [fcheckF, if_pos ⟨by omega, by simpa using hc⟩]

/-- Does a filter permit a header? -/
def permF (rs : List Ru) (h : Hd) : Bool := ((rs.find? fun r => rfits r h).map Ru.pm).getD false

theorem permF_none {rs : List Ru} {h : Hd} (hn : ∀ x ∈ rs, rfits x h = false) : permF rs h = false := by
  have : rs.find? (fun r => rfits r h) = none := List.find?_eq_none.2 fun x hx => by rw [hn x hx]; simp
  simp [permF, this]
theorem fst1_find {α : Type} {p : α → Bool} {l : List α} {i : Nat} {x : α} (h : fst1 p l = i) (hx : l[i]? = some x) : l.find? p = some x := by
  unfold fst1 at h
  split at h
  · rename_i hlt
    have e : l.findIdx p = i := by omega
    have h2 := List.findIdx_getElem (w := hlt)
    have h3 : l[l.findIdx p]? = some x := by rw [e]; exact hx
    rw [List.getElem?_eq_getElem hlt] at h3
    rw [List.find?_eq_some_iff_getElem]
    refine ⟨by cases h3; exact h2, l.findIdx p, hlt, by cases h3; rfl, fun j hj => ?_⟩
    have := List.not_of_lt_findIdx hj
    simpa using this
  · omega

theorem decides_ok {nm : ByteArray} {a : Option Addr} {l c : Nat} {rs : List Ru} {h : Hd} {w : World} (hrs : RulesAt w a l rs) (hh : h.In) :
    Ans 19 [.agg #[.string nm, .slice a l c], h.val] w (.tuple #[vi64 (if fcheckF rs = 0 then fst1 (fun r => rfits r h) rs else 0), vi64 (fcheckF rs)]) := by
  refine of_decides nm a l c h.s h.d h.p h.x h.y held0 ?_
  intro b hb _ b2 hb2 _ wc hf
  have hnew : ∀ x ∈ [b, b2], w.heap.size ≤ x := by simpa using ⟨hb, hb2⟩
  have hfr := fr_fin hf (Fr.refl _ _) hnew
  refine (fcheck_ok (hrs.fr hfr)).mono ?_
  rintro e w' ⟨he, hk⟩
  have hfr2 := hfr.trans hk (by simp)
  refine ⟨_, he, keep_of hf hk, fun hc w1 hf1 => ⟨?_, fr_fin hf1 hfr2 hnew⟩, fun hc wd hf1 => ?_⟩
  · simp only [wNe, bne_iff_ne] at hc
    rw [if_neg hc]
  · simp only [wNe, bne_eq_false_iff_eq] at hc
    have hfr3 := fr_fin hf1 hfr2 hnew
    refine (idxD_ok (h := h) (b0 := b2) (hrs.fr hfr3) hh (hf1.held 1 _ rfl)).mono ?_
    rintro e w'' ⟨he, hk2⟩
    refine ⟨_, he, keep_of hf1 hk2, fun w1 hf2 => ⟨?_, fr_fin hf2 (hfr3.trans hk2 (by simp)) hnew⟩⟩
    rw [if_pos hc, hc]

theorem permits_ok {nm : ByteArray} {a : Option Addr} {l c : Nat} {rs : List Ru} {h : Hd} {w : World} (hrs : RulesAt w a l rs) (hh : h.In) :
    Ans 13 [.agg #[.string nm, .slice a l c], h.val] w (.tuple #[.bool (decide (fcheckF rs = 0) && permF rs h), vi64 (fcheckF rs)]) := by
  refine of_permits nm a l c h.s h.d h.p h.x h.y held0 ?_
  intro b hb _ b2 hb2 _ wc hf
  have hnew : ∀ x ∈ [b, b2], w.heap.size ≤ x := by simpa using ⟨hb, hb2⟩
  have hfr := fr_fin hf (Fr.refl _ _) hnew
  refine (decides_ok (hrs.fr hfr) hh).mono ?_
  rintro e w' ⟨he, hk⟩
  have hfr2 := hfr.trans hk (by simp)
  have hl := hrs.len
  refine ⟨_, _, he, keep_of hf hk, fun hc => ?_, fun hc w1 hf1 => ⟨?_, fr_fin hf1 hfr2 hnew⟩⟩
  · simp only [wEq, beq_iff_eq] at hc
    rw [if_pos hc]
    rcases fst1_cases (fun r => rfits r h) rs with ⟨h1, h2⟩ | ⟨i, x, h1, h2, h3⟩
    · rw [h1]
      refine ⟨fun hg => by simp [wGe] at hg, fun _ w1 hf1 => ⟨?_, fr_fin hf1 hfr2 hnew⟩⟩
      rw [permF_none h2]; simp
    · rw [h1]
      have hil : i < rs.length := (List.getElem?_eq_some_iff.1 h2).1
      refine ⟨fun _ => ?_, fun hg => by simp [wGe] at hg⟩
      obtain ⟨_, b3, o, ha, hbl, hcs⟩ := (hrs.fr hfr2).get h2
      obtain ⟨_, b4, o4, ha4, hbl4, _⟩ := hrs.get h2
      have hbb : b3 < w.heap.size := by rw [ha] at ha4; cases ha4; exact hbl4
      refine ⟨b3, o, ha, ⟨by omega, by omega⟩, not_mem_new hnew hbb, x.pm, hcs 0 _ rfl, fun w1 hf1 => ⟨?_, fr_fin hf1 hfr2 hnew⟩⟩
      have : permF rs h = x.pm := by simp [permF, fst1_find h1 h2]
      rw [this, hc]; simp
  · simp only [wEq, beq_eq_false_iff_ne] at hc
    simp [hc]

end Go.Proofs.Ytnbbnokjbopcbaa
