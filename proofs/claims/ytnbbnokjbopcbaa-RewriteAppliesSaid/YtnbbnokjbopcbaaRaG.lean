/- The rules that a name stands for, and whether rewrites may be. -/
import Derived.Test.YtnbbnokjbopcbaaRaF
set_option linter.all false
namespace Go.Proofs.Ytnbbnokjbopcbaa
open Go Go.Sx

theorem fnamed_ok {a : Option Addr} {l c : Nat} {nm : ByteArray} {fs : List Fl} {w : World} (hrs : FiltersAt w a l fs) :
    Calls Try.prog 21 [.slice a l c, .string nm].toArray w fun e w' => (∃ s a' l' c', e = .returned (.tuple #[.agg #[.string s, .slice a' l' c'], .bool (namedF fs nm).isSome]) ∧ RulesAt w' a' l' ((namedF fs nm).getD []) ∧ ∀ x, a' = some x → w.heap.size ≤ x.block) ∧ Fr [] w w' := by
  refine of_fnamed a l c nm held0 ?_
  intro b hb _
  have hnew : ∀ x ∈ [b], w.heap.size ≤ x := by simpa using hb
  refine ⟨fun vs wb m => Fr [] w wb ∧ ∃ i : Nat, vs = [vi64 i] ∧ i ≤ fs.length ∧ (∀ j, j < i → ∀ r, fs[j]? = some r → sEq r.nm nm = false) ∧ m = fs.length - i, fun wc hf => ⟨fs.length, fr_fin hf (Fr.refl _ _) hnew, 0, rfl, by omega, fun j hj => by omega, rfl⟩, ?_⟩
  rintro m wb n hwb ⟨hfr, i, hv, hi, hbef, hm⟩
  simp only [List.cons.injEq, Value.int.injEq, true_and, and_true] at hv
  subst hv
  have hl := hrs.len
  have hbig : fs.length ≤ 140737488355328 := by have := hrs.few; omega
  refine ⟨fun hlt => ?_, fun hlt w1 hf => ?_⟩
  · simp only [wLt, wInt, decide_eq_true_eq] at hlt
    have hil : i < fs.length := by omega
    have hr := List.getElem?_eq_getElem hil
    generalize fs[i] = r at hr
    obtain ⟨hin, b1, o, ha, hbl, hc⟩ := (hrs.fr hfr).get hr
    obtain ⟨_, b4, o4, ha4, hbl4, _⟩ := hrs.get hr
    have hbb : b1 < w.heap.size := by rw [ha] at ha4; cases ha4; exact hbl4
    refine ⟨b1, o, ha, ⟨by omega, by omega⟩, not_mem_new hnew hbb, r.nm, r.a, r.l, r.c, ⟨hc 0 _ rfl, hc 1 _ rfl, trivial⟩, fun b2 hb2 _ => ?_⟩
    have hnew2 : ∀ x ∈ [b, b2], w.heap.size ≤ x := by
      simp only [List.mem_cons, List.not_mem_nil, or_false]
      rintro x (rfl | rfl)
      · exact hnew _ (by simp)
      · have := hfr.size; unfold wNew at hb2; omega
    refine ⟨sEq r.nm nm, fun wc _ => sEq_run, fun hp wc hf => ?_, fun hp => ⟨(i : Int) + 1, wi64 (n := (i : Int) + 1) (by omega), ⟨rfl, rfl⟩, fun wd hf1 => ⟨fs.length - (i + 1), ?_, fr_fin hf1 hfr hnew2, i + 1, by simp, by omega, ?_, rfl⟩⟩⟩
    · have hfr1 := fr_fin hf hfr hnew2
      have hrs1 := (hrs.fr hfr1).rules r (List.mem_of_getElem? hr)
      refine (clone_ok hrs1).mono ?_
      rintro e w' ⟨⟨a', c', he, hr', hfresh⟩, hk⟩
      have hfr2 := hfr1.trans hk (by simp)
      refine ⟨_, _, _, he, keep_of hf hk, fun w1 hf1 => ⟨⟨r.nm, a', r.l, c', ?_, ?_, fun x hx => Nat.le_trans hfr1.size (hfresh x hx)⟩, fr_fin hf1 hfr2 hnew2⟩⟩
      · have h1 : placeF fs nm = i := fst1_hit hr hp hbef
        rw [namedF_some h1 hr]; rfl
      · have h1 : placeF fs nm = i := fst1_hit hr hp hbef
        rw [namedF_some h1 hr]
        exact hr'.frS (Fr.of_fin hf1) fun x hx _ hm => absurd (hf.lt _ hm) (by have := hfresh x hx; omega)
    · show Nat.succ _ ≤ m
      omega
    · intro j hj y hy
      by_cases hji : j = i
      · subst hji; rw [hr] at hy; cases hy; exact hp
      · exact hbef j (by omega) y hy
  · simp only [wLt, wInt, decide_eq_false_iff_not] at hlt
    have h1 : placeF fs nm = -1 := fst1_none fun j hj => hbef j (by omega)
    rw [namedF_none h1]
    exact ⟨⟨_, none, 0, 0, rfl, RulesAt.none _, fun x h => by cases h⟩, fr_fin hf hfr hnew⟩

/-- The rules of a name, with the name that means all. -/
theorem named_ok {a : Option Addr} {l c : Nat} {nm : ByteArray} {fs : List Fl} {w : World} (hrs : FiltersAt w a l fs) :
    Calls Try.prog 15 [.slice a l c, .string nm].toArray w fun e w' => (∃ s a' l' c', e = .returned (.tuple #[.agg #[.string s, .slice a' l' c'], .bool (getF fs nm).isSome]) ∧ RulesAt w' a' l' ((getF fs nm).getD []) ∧ ∀ x, a' = some x → w.heap.size ≤ x.block) ∧ Fr [] w w' := by
  refine of_named a l c nm held0 ?_
  intro b hb _
  have hnew : ∀ x ∈ [b], w.heap.size ≤ x := by simpa using hb
  refine ⟨sEq nm none_, fun wc _ => sEq_run, fun hp b2 hb2 _ b3 hb3 _ w1 hf => ?_, fun hp wc hf => ?_⟩
  · have hnew2 : ∀ x ∈ [b, b2, b3], w.heap.size ≤ x := by
      simp only [List.mem_cons, List.not_mem_nil, or_false]
      rintro x (rfl | rfl | rfl)
      · exact hb
      · exact hb2
      · exact hb3
    have hg : getF fs nm = some [allR] := by rw [getF, if_pos hp]
    have hbl := hf.held 2 _ rfl
    refine ⟨⟨_, some (ad b3 0), 1, 1, by rw [hg]; rfl, ?_, fun x hx => by cases hx; exact hb3⟩, fr_fin hf (Fr.refl _ _) hnew2⟩
    rw [hg]
    refine ⟨⟨rfl, fun i r hr => ?_⟩, fun r hr => ?_, by decide⟩
    · refine ⟨b3, 0, rfl, block_lt hbl, fun k v hk => ?_⟩
      have h0 : i = 0 := by have := (List.getElem?_eq_some_iff.1 hr).1; simpa using this
      subst h0
      simp at hr; subst hr
      have hbl' : w1.heap[b3]? = some (.cells (Ru.cells allR).toArray 57 (0, 0)) := hbl
      simp only [wCell, World.cell?, hbl']
      simpa using hk
    · simp at hr; subst hr
      exact ⟨by decide, by decide⟩
  · have hfr := fr_fin hf (Fr.refl _ _) hnew
    have hg : getF fs nm = namedF fs nm := by rw [getF, if_neg (by rw [hp]; simp)]
    refine (fnamed_ok (hrs.fr hfr)).mono ?_
    rintro e w' ⟨⟨s, a', l', c', he, hr', hfresh⟩, hk⟩
    refine ⟨_, _, _, _, _, he, keep_of hf hk, fun w1 hf1 => ⟨⟨_, a', l', c', by rw [hg], ?_, fun x hx => Nat.le_trans hfr.size (hfresh x hx)⟩, fr_fin hf1 (hfr.trans hk (by simp)) hnew⟩⟩
    rw [hg]
    exact hr'.frS (Fr.of_fin hf1) fun x hx _ hm => absurd (hf.lt _ hm) (by have := hfresh x hx; omega)

/-! ### rewrites -/
structure Rw where
  dest : Bool
  nm : ByteArray
  to : Int
abbrev Rw.cells (x : Rw) : List Value := [.bool x.dest, .string x.nm, vu32 x.to]
structure RwsAt (w : World) (a : Option Addr) (l : Nat) (xs : List Rw) : Prop where
  rows : RowsAt w a l 3 (xs.map Rw.cells)
  few : l * 32 ≤ 140737488355328
theorem RwsAt.fr {w w' : World} {a : Option Addr} {l : Nat} {xs : List Rw} (h : RwsAt w a l xs) (k : Fr [] w w') : RwsAt w' a l xs := ⟨h.rows.fr k, h.few⟩
theorem RwsAt.frS {S : List Nat} {w w' : World} {a : Option Addr} {l : Nat} {xs : List Rw} (h : RwsAt w a l xs) (k : Fr S w w') (hn : ∀ x, a = some x → x.block < w.heap.size → x.block ∉ S) : RwsAt w' a l xs := ⟨h.rows.frS k hn, h.few⟩
theorem RwsAt.len {w : World} {a : Option Addr} {l : Nat} {xs : List Rw} (h : RwsAt w a l xs) : l = xs.length := by simpa using h.rows.1
theorem RwsAt.get {w : World} {a : Option Addr} {l : Nat} {xs : List Rw} (h : RwsAt w a l xs) {i : Nat} {x : Rw} (hr : xs[i]? = some x) :
    ∃ b o, a = some (ad b o) ∧ b < w.heap.size ∧ ∀ k v, x.cells[k]? = some v → wCell w b (o + i * 3 + k) v :=
  h.rows.2 i x.cells (by rw [List.getElem?_map, hr]; rfl)

def stepF (fs : List Fl) (nm : ByteArray) : Int := match getF fs nm with
  | none => 120
  | some rs => if fcheckF rs = 0 then 0 else 121
def rcheckF (xs : List Rw) (fs : List Fl) : Int := if 256 < xs.length then 1 else ((xs.find? fun x => decide (stepF fs x.nm ≠ 0)).map fun x => stepF fs x.nm).getD 0

theorem rcheckF_hit {xs : List Rw} {fs : List Fl} (hl : ¬ 256 < xs.length) {i : Nat} {x : Rw} {e : Int} (hi : xs[i]? = some x) (he : stepF fs x.nm = e) (hne : e ≠ 0) (hb : ∀ j, j < i → ∀ y, xs[j]? = some y → stepF fs y.nm = 0) : rcheckF xs fs = e := by
  have : xs.find? (fun x => decide (stepF fs x.nm ≠ 0)) = some x := by
    have h1 : fst1 (fun x : Rw => decide (stepF fs x.nm ≠ 0)) xs = i := fst1_hit hi (by simp [he, hne]) (fun j hj y hy => by simp [hb j hj y hy])
    exact fst1_find h1 hi
  rw [rcheckF, if_neg hl, this]; simp [he]
theorem rcheckF_none {xs : List Rw} {fs : List Fl} (hl : ¬ 256 < xs.length) (hb : ∀ j, j < xs.length → ∀ y, xs[j]? = some y → stepF fs y.nm = 0) : rcheckF xs fs = 0 := by
  have : xs.find? (fun x => decide (stepF fs x.nm ≠ 0)) = none := List.find?_eq_none.2 fun x hx => by
    obtain ⟨j, hj⟩ := List.getElem?_of_mem hx
    simp [hb j (List.getElem?_eq_some_iff.1 hj).1 x hj]
  rw [rcheckF, if_neg hl, this]; rfl
theorem rcheckF_zero {xs : List Rw} {fs : List Fl} (h : rcheckF xs fs = 0) : xs.length ≤ 256 ∧ ∀ x ∈ xs, stepF fs x.nm = 0 := by
  unfold rcheckF at h
  split at h
  · omega
  · refine ⟨by omega, fun x hx => ?_⟩
    cases hf : xs.find? (fun x => decide (stepF fs x.nm ≠ 0)) with
    | none =>
      have := List.find?_eq_none.1 hf x hx
      simpa using this
    | some y =>
      rw [hf] at h
      have := List.find?_some hf
      simp at h this
      exact absurd h this

theorem rcheck_ok {a a2 : Option Addr} {l c l2 c2 : Nat} {xs : List Rw} {fs : List Fl} {w : World} (hxs : RwsAt w a l xs) (hfs : FiltersAt w a2 l2 fs) :
    Ans 8 [.slice a l c, .slice a2 l2 c2] w (vi64 (rcheckF xs fs)) := by
  refine of_rcheck a l c a2 l2 c2 held0 ?_
  have hl := hxs.len
  refine ⟨fun hg w1 hf => ⟨?_, fr_fin0 hf (Fr.refl _ _)⟩, fun hg => ?_⟩
  · simp only [wGt, wInt, decide_eq_true_eq] at hg
    rw [rcheckF, if_pos (by omega)]
  simp only [wGt, wInt, decide_eq_false_iff_not] at hg
  refine ⟨fun vs wb m => Fr [] w wb ∧ ∃ i : Nat, vs = [vi64 i] ∧ i ≤ xs.length ∧ (∀ j, j < i → ∀ y, xs[j]? = some y → stepF fs y.nm = 0) ∧ m = xs.length - i, fun wc hf => ⟨xs.length, fr_fin0 hf (Fr.refl _ _), 0, rfl, by omega, fun j hj => by omega, rfl⟩, ?_⟩
  rintro m wb n hwb ⟨hfr, i, hv, hi, hbef, hm⟩
  simp only [List.cons.injEq, Value.int.injEq, true_and, and_true] at hv
  subst hv
  refine ⟨fun hlt => ?_, fun hlt w1 hf => ⟨?_, fr_fin0 hf hfr⟩⟩
  · simp only [wLt, wInt, decide_eq_true_eq] at hlt
    have hil : i < xs.length := by omega
    have hr := List.getElem?_eq_getElem hil
    generalize xs[i] = x at hr
    obtain ⟨b, o, ha, hbl, hc⟩ := (hxs.fr hfr).get hr
    refine ⟨b, o, ha, ⟨by omega, by omega⟩, List.not_mem_nil, x.dest, x.nm, x.to, ⟨hc 0 _ rfl, hc 1 _ rfl, hc 2 _ rfl, trivial⟩, fun b1 hb1 _ wc hf => ?_⟩
    have hnew : ∀ y ∈ [b1], w.heap.size ≤ y := by
      have := hfr.size
      simp only [List.mem_singleton, forall_eq]
      unfold wNew at hb1; omega
    have hfr1 := fr_fin hf hfr hnew
    refine (named_ok (hfs.fr hfr1)).mono ?_
    rintro e w' ⟨⟨s, a', l', c', he, hr', hfresh⟩, hk⟩
    have hfr2 := hfr1.trans hk (by simp)
    refine ⟨s, a', l', c', _, he, keep_of hf hk, fun b3 hb3 _ => ?_⟩
    have hnew2 : ∀ y ∈ [b1, b3], w.heap.size ≤ y := by
      have := hfr2.size
      simp only [List.mem_cons, List.not_mem_nil, or_false]
      rintro y (rfl | rfl)
      · exact hnew _ (by simp)
      · unfold wNew at hb3; omega
    refine ⟨fun hno w1 hf1 => ⟨?_, fr_fin hf1 hfr2 hnew2⟩, fun hno wd hf1 => ?_⟩
    · have h0 : getF fs x.nm = none := by
        cases hg0 : getF fs x.nm with
        | none => rfl
        | some rs => rw [hg0] at hno; simp [wNot] at hno
      rw [rcheckF_hit (by omega) hr (e := 120) (by rw [stepF, h0]) (by decide) hbef]
    · have hfr3 := fr_fin hf1 hfr2 hnew2
      obtain ⟨rs, h0⟩ : ∃ rs, getF fs x.nm = some rs := by
        cases hg0 : getF fs x.nm with
        | none => rw [hg0] at hno; simp [wNot] at hno
        | some rs => exact ⟨rs, rfl⟩
      rw [h0] at hr'
      have hr2 := hr'.frS (Fr.of_fin hf1) fun y hy hlt hm => by
        simp only [List.mem_cons, List.not_mem_nil, or_false] at hm
        have h7 := hfresh y hy
        rcases hm with hm | hm
        · have := hf.lt b1 (by simp); omega
        · unfold wNew at hb3; omega
      refine (fcheck_ok (nm := s) (c := c') hr2).mono ?_
      rintro e2 w2 ⟨he2, hk2⟩
      have hfr4 := hfr3.trans hk2 (by simp)
      refine ⟨_, he2, keep_of hf1 hk2, fun hz w1 hf2 => ⟨?_, fr_fin hf2 hfr4 hnew2⟩, fun hz => ⟨(i : Int) + 1, wi64 (n := (i : Int) + 1) (by omega), ⟨rfl, rfl⟩, fun we hf2 => ⟨xs.length - (i + 1), ?_, fr_fin hf2 hfr4 hnew2, i + 1, by simp, by omega, ?_, rfl⟩⟩⟩
      · simp only [wNe, bne_iff_ne, Option.getD_some] at hz
        rw [rcheckF_hit (by omega) hr (e := 121) (by rw [stepF, h0]; simp [hz]) (by decide) hbef]
      · show Nat.succ _ ≤ m
        omega
      · intro j hj y hy
        by_cases hji : j = i
        · subst hji; rw [hr] at hy; cases hy
          simp only [wNe, bne_eq_false_iff_eq, Option.getD_some] at hz
          rw [stepF, h0]; simp [hz]
        · exact hbef j (by omega) y hy
  · simp only [wLt, wInt, decide_eq_false_iff_not] at hlt
    rw [rcheckF_none (by omega) fun j hj => hbef j (by omega)]

end Go.Proofs.Ytnbbnokjbopcbaa
