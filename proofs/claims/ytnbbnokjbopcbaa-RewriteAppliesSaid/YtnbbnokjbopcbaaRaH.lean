/- Which rewrite applies, what comes of a header: both sides. -/
import Derived.Test.YtnbbnokjbopcbaaRaG
import Derived.Laws.Small
set_option linter.all false
namespace Go.Proofs.Ytnbbnokjbopcbaa
open Go Go.Sx

theorem und_bool : Try.prog.underlying 4 = some .bool := by
  have h : lk tab 4 = some _ := rfl
  exact (Tab.get_ok (env_ok [] [] [] []).tab h).und
theorem boolEq_run {x y : Operand} {a b : Bool} {w : World} : wRun Try.prog (wBin .eql 4 x y (.bool a) (.bool b)) w (.bool (a == b)) w := by
  show (wBin _ _ _ _ _ _).run _ _ = _
  simp only [wBin, eqGuard, binOp]
  simp [run_equal_bool w _ a b und_bool]
theorem boolNe_run {x y : Operand} {a b : Bool} {w : World} : wRun Try.prog (wBin .neq 4 x y (.bool a) (.bool b)) w (.bool (!(a == b))) w := by
  show (wBin _ _ _ _ _ _).run _ _ = _
  simp only [wBin, eqGuard, binOp]
  simp [run_equal_bool w _ a b und_bool]

def fitF (fs : List Fl) (dest : Bool) (h : Hd) (x : Rw) : Bool := (x.dest == dest) && appF fs x.nm h
def firstF (xs : List Rw) (fs : List Fl) (dest : Bool) (h : Hd) : Int := if rcheckF xs fs = 0 then fst1 (fitF fs dest h) xs else 0

theorem xrcheck_ok {a a2 : Option Addr} {l c l2 c2 : Nat} {xs : List Rw} {fs : List Fl} {w : World} (hxs : RwsAt w a l xs) (hfs : FiltersAt w a2 l2 fs) :
    Ans 9 [.slice a l c, .slice a2 l2 c2] w (vi64 (rcheckF xs fs)) := by
  refine of_xrcheck a l c a2 l2 c2 held0 ?_
  have hl := hxs.len
  have hl2 := hfs.len
  refine ⟨fun hg w1 hf => ⟨?_, fr_fin0 hf (Fr.refl _ _)⟩, fun hg => ?_⟩
  · simp only [wGt, wInt, decide_eq_true_eq] at hg
    rw [rcheckF, if_pos (by omega)]
  simp only [wGt, wInt, decide_eq_false_iff_not] at hg
  refine ⟨fun vs wb m => Fr [] w wb ∧ ∃ i : Nat, vs = [vi64 i] ∧ i ≤ xs.length ∧ (∀ j, j < i → ∀ y, xs[j]? = some y → stepF fs y.nm = 0) ∧ m = xs.length - i, fun wc hf => ⟨xs.length, fr_fin0 hf (Fr.refl _ _), 0, rfl, by omega, fun j hj => by omega, rfl⟩, ?_⟩
  rintro m wb n hwb ⟨hfr, i, hv, hi, hbef, hm⟩
  simp only [List.cons.injEq, Value.int.injEq, true_and, and_true] at hv
  subst hv
  refine ⟨fun hlt => ?_, fun hlt w1 hf => ⟨?_, fr_fin0 hf hfr⟩⟩
  · simp only [wLt, wInt, decide_eq_true_eq] at hlt
    have hil : i < xs.length := by omega
    have hr := List.getElem?_eq_getElem hil
    generalize xs[i] = x at hr
    obtain ⟨b, o, ha, hbl, hc⟩ := (hxs.fr hfr).get hr
    have next : stepF fs x.nm = 0 → ∀ j, j < i + 1 → ∀ y, xs[j]? = some y → stepF fs y.nm = 0 := fun h0 j hj y hy => by
      by_cases hji : j = i
      · subst hji; rw [hr] at hy; cases hy; exact h0
      · exact hbef j (by omega) y hy
    refine ⟨b, o, ha, ⟨by omega, by omega⟩, List.not_mem_nil, x.nm, hc 1 _ rfl, sEq x.nm none_, fun wc _ => sEq_run, fun he => ⟨(i : Int) + 1, wi64 (n := (i : Int) + 1) (by omega), ⟨rfl, rfl⟩, fun we hf2 => ⟨xs.length - (i + 1), ?_, fr_fin0 hf2 hfr, i + 1, by simp, by omega, next ?_, rfl⟩⟩, fun he => ⟨b, o, ha, ⟨by omega, by omega⟩, List.not_mem_nil, x.nm, hc 1 _ rfl, fun wc hf => ?_⟩⟩
    · show Nat.succ _ ≤ m
      omega
    · rw [stepF, getF, if_pos he]; simp [check_all]
    · have hg2 : getF fs x.nm = namedF fs x.nm := by rw [getF, if_neg (by rw [he]; simp)]
      have hfr1 := fr_fin0 hf hfr
      refine (xnamed_ok (hfs.fr hfr1)).mono ?_
      rintro e w' ⟨he1, hk⟩
      have hfr2 := hfr1.trans hk (by simp)
      refine ⟨_, he1, keep0 hk, ?_⟩
      rcases placeF_cases fs x.nm with ⟨h1, h2⟩ | ⟨k, f, h1, h2, h3⟩
      · rw [h1]
        refine ⟨fun _ w1 hf1 => ⟨?_, fr_fin0 hf1 hfr2⟩, fun hg => by simp [wLt] at hg⟩
        rw [rcheckF_hit (by omega) hr (e := 120) (by rw [stepF, hg2, h2]) (by decide) hbef]
      · rw [h1]
        have hkl : k < fs.length := (List.getElem?_eq_some_iff.1 h2).1
        refine ⟨fun hg => by simp only [wLt, decide_eq_true_eq] at hg; omega, fun _ => ?_⟩
        obtain ⟨hru, b3, o3, ha3, hbl3, hcs⟩ := (hfs.fr hfr2).get h2
        refine ⟨b3, o3, ha3, ⟨by omega, by omega⟩, List.not_mem_nil, f.nm, f.a, f.l, f.c, ⟨hcs 0 _ rfl, hcs 1 _ rfl, trivial⟩, fun wd hf1 => ?_⟩
        have hfr3 := fr_fin0 hf1 hfr2
        refine (xfcheck_ok (hru.fr (Fr.of_fin hf1))).mono ?_
        rintro e2 w2 ⟨he2, hk2⟩
        have hfr4 := hfr3.trans hk2 (by simp)
        refine ⟨_, he2, keep0 hk2, fun hz w1 hf2 => ⟨?_, fr_fin0 hf2 hfr4⟩, fun hz => ⟨(i : Int) + 1, wi64 (n := (i : Int) + 1) (by omega), ⟨rfl, rfl⟩, fun we hf2 => ⟨xs.length - (i + 1), ?_, fr_fin0 hf2 hfr4, i + 1, by simp, by omega, next ?_, rfl⟩⟩⟩
        · simp only [wNe, bne_iff_ne] at hz
          rw [rcheckF_hit (by omega) hr (e := 121) (by rw [stepF, hg2, h3]; simp [hz]) (by decide) hbef]
        · show Nat.succ _ ≤ m
          omega
        · simp only [wNe, bne_eq_false_iff_eq] at hz
          rw [stepF, hg2, h3]; simp [hz]
  · simp only [wLt, wInt, decide_eq_false_iff_not] at hlt
    rw [rcheckF_none (by omega) fun j hj => hbef j (by omega)]

theorem xrfirst_ok {a a2 : Option Addr} {l c l2 c2 : Nat} {dest : Bool} {h : Hd} {xs : List Rw} {fs : List Fl} {w : World} (hxs : RwsAt w a l xs) (hfs : FiltersAt w a2 l2 fs) (hh : h.In) :
    Ans 5 [.slice a l c, .slice a2 l2 c2, .bool dest, h.val] w (.tuple #[vi64 (firstF xs fs dest h), vi64 (rcheckF xs fs)]) := by
  refine of_xrfirst a l c a2 l2 c2 dest h.s h.d h.p h.x h.y held0 ?_
  intro b hb _ wc hf
  have hnew : ∀ x ∈ [b], w.heap.size ≤ x := by simpa using hb
  have hfr0 := fr_fin hf (Fr.refl _ _) hnew
  have hl := hxs.len
  have hbig : xs.length ≤ 140737488355328 := by have := hxs.few; omega
  refine (xrcheck_ok (hxs.fr hfr0) (hfs.fr hfr0)).mono ?_
  rintro e w' ⟨he, hk⟩
  have hfr' := hfr0.trans hk (by simp)
  refine ⟨_, he, keep_of hf hk, fun hz w1 hf1 => ⟨?_, fr_fin hf1 hfr' hnew⟩, fun hz => ?_⟩
  · simp only [wNe, bne_iff_ne] at hz
    rw [firstF, if_neg hz]
  simp only [wNe, bne_eq_false_iff_eq] at hz
  refine ⟨fun vs wb m => Fr [] w wb ∧ ∃ i : Nat, vs = [vi64 i] ∧ i ≤ xs.length ∧ (∀ j, j < i → ∀ y, xs[j]? = some y → fitF fs dest h y = false) ∧ m = xs.length - i, fun wc hf => ⟨xs.length, fr_fin hf hfr' hnew, 0, rfl, by omega, fun j hj => by omega, rfl⟩, ?_⟩
  rintro m wb n hwb ⟨hfr, i, hv, hi, hbef, hm⟩
  simp only [List.cons.injEq, Value.int.injEq, true_and, and_true] at hv
  subst hv
  refine ⟨fun hlt => ?_, fun hlt w1 hf => ⟨?_, fr_fin hf hfr hnew⟩⟩
  · simp only [wLt, wInt, decide_eq_true_eq] at hlt
    have hil : i < xs.length := by omega
    have hr := List.getElem?_eq_getElem hil
    generalize xs[i] = x at hr
    obtain ⟨b1, o, ha, hbl, hc⟩ := (hxs.fr hfr).get hr
    obtain ⟨b4, o4, ha4, hbl4, _⟩ := hxs.get hr
    have hbb : b1 < w.heap.size := by rw [ha] at ha4; cases ha4; exact hbl4
    have next : fitF fs dest h x = false → ∀ j, j < i + 1 → ∀ y, xs[j]? = some y → fitF fs dest h y = false := fun h0 j hj y hy => by
      by_cases hji : j = i
      · subst hji; rw [hr] at hy; cases hy; exact h0
      · exact hbef j (by omega) y hy
    refine ⟨b1, o, ha, ⟨by omega, by omega⟩, not_mem_new hnew hbb, x.dest, hc 0 _ rfl, x.dest == dest, fun wc _ => boolEq_run, fun hd => ⟨b1, o, ha, ⟨by omega, by omega⟩, not_mem_new hnew hbb, x.nm, hc 1 _ rfl, fun wd hf1 => ?_⟩, fun hd => ⟨(i : Int) + 1, wi64 (n := (i : Int) + 1) (by omega), ⟨rfl, rfl⟩, fun we hf2 => ⟨xs.length - (i + 1), ?_, fr_fin hf2 hfr hnew, i + 1, by simp, by omega, next ?_, rfl⟩⟩⟩
    · have hfr1 := fr_fin hf1 hfr hnew
      refine (xpermits1_ok (hfs.fr hfr1) hh).mono ?_
      rintro e2 w2 ⟨he2, hk2⟩
      have hfr2 := hfr1.trans hk2 (by simp)
      refine ⟨_, he2, keep_of hf1 hk2, fun hp w1 hf2 => ⟨?_, fr_fin hf2 hfr2 hnew⟩, fun hp => ⟨(i : Int) + 1, wi64 (n := (i : Int) + 1) (by omega), ⟨rfl, rfl⟩, fun we hf2 => ⟨xs.length - (i + 1), ?_, fr_fin hf2 hfr2 hnew, i + 1, by simp, by omega, next ?_, rfl⟩⟩⟩
      · rw [firstF, if_pos hz, fst1_hit hr (by rw [fitF, hd, hp]; rfl) hbef, hz]
      · show Nat.succ _ ≤ m
        omega
      · rw [fitF, hp, Bool.and_false]
    · show Nat.succ _ ≤ m
      omega
    · rw [fitF, hd, Bool.false_and]
  · simp only [wLt, wInt, decide_eq_false_iff_not] at hlt
    rw [firstF, if_pos hz, fst1_none fun j hj => hbef j (by omega), hz]

end Go.Proofs.Ytnbbnokjbopcbaa
