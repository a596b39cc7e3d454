/- Filters, as the document answers; rows of filters and of rewrites; names. -/
import Derived.Test.YtnbbnokjbopcbaaRaD
import Derived.Laws.Strings
set_option linter.all false
namespace Go.Proofs.Ytnbbnokjbopcbaa
open Go Go.Sx

theorem xdecides_ok {nm : ByteArray} {a : Option Addr} {l c : Nat} {rs : List Ru} {h : Hd} {w : World} (hrs : RulesAt w a l rs) (hh : h.In) :
    Ans 29 [.agg #[.string nm, .slice a l c], h.val] w (vi64 (fst1 (fun r => rfits r h) rs)) := by
  refine of_xdecides nm a l c h.s h.d h.p h.x h.y held0 ?_
  intro b hb _ b2 hb2 _
  have hnew : ∀ x ∈ [b, b2], w.heap.size ≤ x := by simpa using ⟨hb, hb2⟩
  refine ⟨fun vs wb m => Fr [] w wb ∧ ∃ i : Nat, vs = [vi64 i] ∧ i ≤ rs.length ∧ (∀ j, j < i → ∀ r, rs[j]? = some r → rfits r h = false) ∧ m = rs.length - i, fun wc hf => ⟨rs.length, fr_fin hf (Fr.refl _ _) hnew, 0, rfl, by omega, fun j hj => by omega, rfl⟩, ?_⟩
  rintro m wb n hb ⟨hfr, i, hv, hi, hbef, hm⟩
  simp only [List.cons.injEq, Value.int.injEq, true_and, and_true] at hv
  subst hv
  have hl := hrs.len
  have hbig : rs.length ≤ 140737488355328 := by have := hrs.few; omega
  refine ⟨fun hlt => ?_, fun hlt w1 hf => ⟨?_, fr_fin hf hfr hnew⟩⟩
  · simp only [wLt, wInt, decide_eq_true_eq] at hlt
    have hil : i < rs.length := by omega
    have hr := List.getElem?_eq_getElem hil
    generalize rs[i] = r at hr
    obtain ⟨hin, b3, o, ha, hbl, hc⟩ := (hrs.fr hfr).get hr
    obtain ⟨_, b4, o4, ha4, hbl4, _⟩ := hrs.get hr
    have hbb : b3 < w.heap.size := by rw [ha] at ha4; cases ha4; exact hbl4
    refine ⟨b3, o, ha, ⟨by omega, by omega⟩, not_mem_new hnew hbb, r.pm, r.pr, r.sa, r.sn, r.da, r.dn, r.s1, r.s2, r.d1, r.d2, ⟨hc 0 _ rfl, hc 1 _ rfl, hc 2 _ rfl, hc 3 _ rfl, hc 4 _ rfl, hc 5 _ rfl, hc 6 _ rfl, hc 7 _ rfl, hc 8 _ rfl, hc 9 _ rfl, trivial⟩, fun wc hf => ?_⟩
    have hfr1 := fr_fin hf hfr hnew
    refine (xfits_ok hin hh).mono ?_
    rintro e w' ⟨he, hk⟩
    have hfr2 := hfr1.trans hk (by simp)
    refine ⟨_, he, keep_of hf hk, fun hp w1 hf1 => ⟨?_, fr_fin hf1 hfr2 hnew⟩, fun hp => ⟨(i : Int) + 1, wi64 (n := (i : Int) + 1) (by omega), ⟨rfl, rfl⟩, fun wd hf1 => ⟨rs.length - (i + 1), ?_, fr_fin hf1 hfr2 hnew, i + 1, by simp, by omega, ?_, rfl⟩⟩⟩
    · rw [fst1_hit hr hp hbef]
    · show Nat.succ _ ≤ m
      omega
    · intro j hj y hy
      by_cases hji : j = i
      · subst hji; rw [hr] at hy; cases hy; exact hp
      · exact hbef j (by omega) y hy
  · simp only [wLt, wInt, decide_eq_false_iff_not] at hlt
    rw [fst1_none fun j hj => hbef j (by omega)]

theorem xfcheck_ok {nm : ByteArray} {a : Option Addr} {l c : Nat} {rs : List Ru} {w : World} (hrs : RulesAt w a l rs) :
    Ans 18 [.agg #[.string nm, .slice a l c]] w (vi64 (fcheckF rs)) := by
  refine of_xfcheck nm a l c held0 ?_
  intro b hb _
  have hnew : ∀ x ∈ [b], w.heap.size ≤ x := by simpa using hb
  have hl := hrs.len
  refine ⟨fun hg w1 hf => ⟨?_, fr_fin hf (Fr.refl _ _) hnew⟩, fun hg => ?_⟩
  · simp only [wGt, wInt, decide_eq_true_eq] at hg
    rw [fcheckF, if_neg (by omega)]
  simp only [wGt, wInt, decide_eq_false_iff_not] at hg
  refine ⟨fun vs wb m => Fr [] w wb ∧ ∃ i : Nat, vs = [vi64 i] ∧ i ≤ rs.length ∧ (∀ j, j < i → ∀ r, rs[j]? = some r → rmay r = true) ∧ m = rs.length - i, fun wc hf => ⟨rs.length, fr_fin hf (Fr.refl _ _) hnew, 0, rfl, by omega, fun j hj => by omega, rfl⟩, ?_⟩
  rintro m wb n hb ⟨hfr, i, hv, hi, hbef, hm⟩
  simp only [List.cons.injEq, Value.int.injEq, true_and, and_true] at hv
  subst hv
  refine ⟨fun hlt => ?_, fun hlt w1 hf => ⟨?_, fr_fin hf hfr hnew⟩⟩
  · simp only [wLt, wInt, decide_eq_true_eq] at hlt
    have hil : i < rs.length := by omega
    have hr := List.getElem?_eq_getElem hil
    generalize rs[i] = r at hr
    obtain ⟨hin, b3, o, ha, hbl, hc⟩ := (hrs.fr hfr).get hr
    obtain ⟨_, b4, o4, ha4, hbl4, _⟩ := hrs.get hr
    have hbb : b3 < w.heap.size := by rw [ha] at ha4; cases ha4; exact hbl4
    refine ⟨b3, o, ha, ⟨by omega, by omega⟩, not_mem_new hnew hbb, r.pm, r.pr, r.sa, r.sn, r.da, r.dn, r.s1, r.s2, r.d1, r.d2, ⟨hc 0 _ rfl, hc 1 _ rfl, hc 2 _ rfl, hc 3 _ rfl, hc 4 _ rfl, hc 5 _ rfl, hc 6 _ rfl, hc 7 _ rfl, hc 8 _ rfl, hc 9 _ rfl, trivial⟩, fun wc hf => ?_⟩
    have hfr1 := fr_fin hf hfr hnew
    refine (xmay_ok hin).mono ?_
    rintro e w' ⟨he, hk⟩
    have hfr2 := hfr1.trans hk (by simp)
    refine ⟨_, he, keep_of hf hk, fun hp w1 hf1 => ⟨?_, fr_fin hf1 hfr2 hnew⟩, fun hp => ⟨(i : Int) + 1, wi64 (n := (i : Int) + 1) (by omega), ⟨rfl, rfl⟩, fun wd hf1 => ⟨rs.length - (i + 1), ?_, fr_fin hf1 hfr2 hnew, i + 1, by simp, by omega, ?_, rfl⟩⟩⟩
    · rw [fcheckF, if_neg]
      rintro ⟨_, h⟩
      have := List.all_eq_true.1 h r (List.mem_of_getElem? hr)
      simp [wNot, this] at hp
    · show Nat.succ _ ≤ m
      omega
    · intro j hj y hy
      by_cases hji : j = i
      · subst hji; rw [hr] at hy; cases hy; simpa [wNot] using hp
      · exact hbef j (by omega) y hy
  · simp only [wLt, wInt, decide_eq_false_iff_not] at hlt
    rw [fcheckF, if_pos]
    refine ⟨by omega, List.all_eq_true.2 fun x hx => ?_⟩
    obtain ⟨j, hj⟩ := List.getElem?_of_mem hx
    exact hbef j (by have := (List.getElem?_eq_some_iff.1 hj).1; omega) x hj

theorem xpermits_ok {nm : ByteArray} {a : Option Addr} {l c : Nat} {rs : List Ru} {h : Hd} {w : World} (hrs : RulesAt w a l rs) (hh : h.In) :
    Ans 20 [.agg #[.string nm, .slice a l c], h.val] w (.bool (permF rs h)) := by
  refine of_xpermits nm a l c h.s h.d h.p h.x h.y held0 ?_
  intro b hb _ b2 hb2 _ wc hf
  have hnew : ∀ x ∈ [b, b2], w.heap.size ≤ x := by simpa using ⟨hb, hb2⟩
  have hfr := fr_fin hf (Fr.refl _ _) hnew
  refine (xdecides_ok (hrs.fr hfr) hh).mono ?_
  rintro e w' ⟨he, hk⟩
  have hfr2 := hfr.trans hk (by simp)
  have hl := hrs.len
  refine ⟨_, he, keep_of hf hk, ?_⟩
  rcases fst1_cases (fun r => rfits r h) rs with ⟨h1, h2⟩ | ⟨i, x, h1, h2, h3⟩
  · rw [h1]
    refine ⟨fun hg => by simp [wGe] at hg, fun _ w1 hf1 => ⟨?_, fr_fin hf1 hfr2 hnew⟩⟩
    rw [permF_none h2]
  · rw [h1]
    have hil : i < rs.length := (List.getElem?_eq_some_iff.1 h2).1
    refine ⟨fun _ => ?_, fun hg => by simp [wGe] at hg⟩
    obtain ⟨_, b3, o, ha, hbl, hcs⟩ := (hrs.fr hfr2).get h2
    obtain ⟨_, b4, o4, ha4, hbl4, _⟩ := hrs.get h2
    have hbb : b3 < w.heap.size := by rw [ha] at ha4; cases ha4; exact hbl4
    refine ⟨b3, o, ha, ⟨by omega, by omega⟩, not_mem_new hnew hbb, x.pm, hcs 0 _ rfl, fun w1 hf1 => ⟨?_, fr_fin hf1 hfr2 hnew⟩⟩
    have : permF rs h = x.pm := by simp [permF, fst1_find h1 h2]
    rw [this]

/-! ### rows of filters -/
structure Fl where
  nm : ByteArray
  a : Option Addr
  l : Nat
  c : Nat
  rules : List Ru
abbrev Fl.cells (f : Fl) : List Value := [.string f.nm, .slice f.a f.l f.c]
structure FiltersAt (w : World) (a : Option Addr) (l : Nat) (fs : List Fl) : Prop where
  rows : RowsAt w a l 2 (fs.map Fl.cells)
  rules : ∀ f ∈ fs, RulesAt w f.a f.l f.rules
  few : l * 40 ≤ 140737488355328
theorem FiltersAt.fr {w w' : World} {a : Option Addr} {l : Nat} {fs : List Fl} (h : FiltersAt w a l fs) (k : Fr [] w w') : FiltersAt w' a l fs := ⟨h.rows.fr k, fun f hf => (h.rules f hf).fr k, h.few⟩
theorem FiltersAt.len {w : World} {a : Option Addr} {l : Nat} {fs : List Fl} (h : FiltersAt w a l fs) : l = fs.length := by simpa using h.rows.1
theorem FiltersAt.get {w : World} {a : Option Addr} {l : Nat} {fs : List Fl} (h : FiltersAt w a l fs) {i : Nat} {f : Fl} (hr : fs[i]? = some f) :
    RulesAt w f.a f.l f.rules ∧ ∃ b o, a = some (ad b o) ∧ b < w.heap.size ∧ ∀ k v, f.cells[k]? = some v → wCell w b (o + i * 2 + k) v :=
  ⟨h.rules f (List.mem_of_getElem? hr), h.rows.2 i f.cells (by rw [List.getElem?_map, hr]; rfl)⟩

def sEq (a b : ByteArray) : Bool := a.toList == b.toList
theorem sEq_run {t : TypeId} {x y : Operand} {a b : ByteArray} {P : Program} {w : World} : wRun P (wBin .eql t x y (.string a) (.string b)) w (.bool (sEq a b)) w := by
  show (wBin _ _ _ _ _ _).run _ _ = _
  simp only [wBin, eqGuard, binOp_string_eql]; rfl

def placeF (fs : List Fl) (nm : ByteArray) : Int := fst1 (fun f => sEq f.nm nm) fs

theorem xnamed_ok {a : Option Addr} {l c : Nat} {nm : ByteArray} {fs : List Fl} {w : World} (hrs : FiltersAt w a l fs) :
    Ans 17 [.slice a l c, .string nm] w (vi64 (placeF fs nm)) := by
  refine of_xnamed a l c nm held0 ?_
  refine ⟨fun vs wb m => Fr [] w wb ∧ ∃ i : Nat, vs = [vi64 i] ∧ i ≤ fs.length ∧ (∀ j, j < i → ∀ r, fs[j]? = some r → sEq r.nm nm = false) ∧ m = fs.length - i, fun wc hf => ⟨fs.length, fr_fin0 hf (Fr.refl _ _), 0, rfl, by omega, fun j hj => by omega, rfl⟩, ?_⟩
  rintro m wb n hb ⟨hfr, i, hv, hi, hbef, hm⟩
  simp only [List.cons.injEq, Value.int.injEq, true_and, and_true] at hv
  subst hv
  have hl := hrs.len
  have hbig : fs.length ≤ 140737488355328 := by have := hrs.few; omega
  refine ⟨fun hlt => ?_, fun hlt w1 hf => ⟨?_, fr_fin0 hf hfr⟩⟩
  · simp only [wLt, wInt, decide_eq_true_eq] at hlt
    have hil : i < fs.length := by omega
    have hr := List.getElem?_eq_getElem hil
    generalize fs[i] = r at hr
    obtain ⟨hin, b, o, ha, hbl, hc⟩ := (hrs.fr hfr).get hr
    refine ⟨b, o, ha, ⟨by omega, by omega⟩, List.not_mem_nil, r.nm, hc 0 _ rfl, sEq r.nm nm, fun wc _ => sEq_run, fun hp w1 hf1 => ⟨?_, fr_fin0 hf1 hfr⟩, fun hp => ⟨(i : Int) + 1, wi64 (n := (i : Int) + 1) (by omega), ⟨rfl, rfl⟩, fun wd hf1 => ⟨fs.length - (i + 1), ?_, fr_fin0 hf1 hfr, i + 1, by simp, by omega, ?_, rfl⟩⟩⟩
    · rw [placeF, fst1_hit hr hp hbef]
    · show Nat.succ _ ≤ m
      omega
    · intro j hj y hy
      by_cases hji : j = i
      · subst hji; rw [hr] at hy; cases hy; exact hp
      · exact hbef j (by omega) y hy
  · simp only [wLt, wInt, decide_eq_false_iff_not] at hlt
    rw [placeF, fst1_none fun j hj => hbef j (by omega)]

/-- The rules that a name stands for. -/
def allR : Ru := ⟨true, -1, 0, 0, 0, 0, 0, 65535, 0, 65535⟩
abbrev none_ : ByteArray := { data := #[] }
def namedF (fs : List Fl) (nm : ByteArray) : Option (List Ru) := (fs.find? fun f => sEq f.nm nm).map Fl.rules
def getF (fs : List Fl) (nm : ByteArray) : Option (List Ru) := if sEq nm none_ = true then some [allR] else namedF fs nm
def appF (fs : List Fl) (nm : ByteArray) (h : Hd) : Bool := ((getF fs nm).map fun rs => permF rs h).getD false

theorem namedF_none {fs : List Fl} {nm : ByteArray} (h : placeF fs nm = -1) : namedF fs nm = none := by
  rcases fst1_cases (fun f : Fl => sEq f.nm nm) fs with ⟨h1, h2⟩ | ⟨i, x, h1, h2, h3⟩
  · have : fs.find? (fun f => sEq f.nm nm) = none := List.find?_eq_none.2 fun x hx => by rw [h2 x hx]; simp
    simp [namedF, this]
  · unfold placeF at h; omega
theorem namedF_some {fs : List Fl} {nm : ByteArray} {i : Nat} {f : Fl} (h : placeF fs nm = i) (hf : fs[i]? = some f) : namedF fs nm = some f.rules := by
  unfold namedF; rw [fst1_find h hf]; rfl
theorem placeF_cases (fs : List Fl) (nm : ByteArray) : (placeF fs nm = -1 ∧ namedF fs nm = none) ∨ ∃ (i : Nat) (f : Fl), placeF fs nm = i ∧ fs[i]? = some f ∧ namedF fs nm = some f.rules := by
  rcases fst1_cases (fun f : Fl => sEq f.nm nm) fs with ⟨h1, h2⟩ | ⟨i, x, h1, h2, h3⟩
  · exact .inl ⟨h1, namedF_none h1⟩
  · exact .inr ⟨i, x, h1, h2, namedF_some h1 h2⟩

theorem perm_all {h : Hd} (hh : h.In) : permF [allR] h = true := by
  obtain ⟨⟨g1, g2⟩, ⟨g3, g4⟩, ⟨g5, g6⟩, ⟨g7, g8⟩, ⟨g9, g10⟩⟩ := hh
  have hp : ∀ x : Int, 0 ≤ x → x < 4294967296 → pin x 0 0 = true := fun x h0 h1 => by
    have e : x % 4294967296 = x := Int.emod_eq_of_lt h0 h1
    simp [pin, pcheck, e]
  have hc : pcheck 0 0 = 0 := by decide
  have e1 : finF 0 65535 h.x = true := by simp only [finF, Bool.and_eq_true, decide_eq_true_eq]; omega
  have e2 : finF 0 65535 h.y = true := by simp only [finF, Bool.and_eq_true, decide_eq_true_eq]; omega
  have hf : rfits allR h = true := by
    simp only [rfits, allR, hc, hp _ g1 g2, hp _ g3 g4, e1, e2]; rfl
  have h2 : [allR].find? (fun r => rfits r h) = some allR := by rw [List.find?_cons, hf]
  rw [permF, h2]; rfl
theorem check_all : fcheckF [allR] = 0 := by decide

theorem xpermits1_ok {a : Option Addr} {l c : Nat} {nm : ByteArray} {fs : List Fl} {h : Hd} {w : World} (hrs : FiltersAt w a l fs) (hh : h.In) :
    Ans 14 [.slice a l c, .string nm, h.val] w (.bool (appF fs nm h)) := by
  refine of_xpermits1 a l c nm h.s h.d h.p h.x h.y held0 ?_
  intro b hb _
  have hnew : ∀ x ∈ [b], w.heap.size ≤ x := by simpa using hb
  refine ⟨sEq nm none_, fun wc _ => sEq_run, fun he w1 hf => ⟨?_, fr_fin hf (Fr.refl _ _) hnew⟩, fun he wc hf => ?_⟩
  · rw [appF, getF, if_pos he]; simp [perm_all hh]
  · have hfr := fr_fin hf (Fr.refl _ _) hnew
    refine (xnamed_ok (hrs.fr hfr)).mono ?_
    rintro e w' ⟨he1, hk⟩
    have hfr2 := hfr.trans hk (by simp)
    have hl := hrs.len
    have hg : getF fs nm = namedF fs nm := by rw [getF, if_neg (by rw [he]; simp)]
    refine ⟨_, he1, keep_of hf hk, ?_⟩
    rcases placeF_cases fs nm with ⟨h1, h2⟩ | ⟨i, x, h1, h2, h3⟩
    · rw [h1]
      refine ⟨fun hg => by simp [wGe] at hg, fun _ w1 hf1 => ⟨?_, fr_fin hf1 hfr2 hnew⟩⟩
      rw [appF, hg, h2]; rfl
    · rw [h1]
      have hil : i < fs.length := (List.getElem?_eq_some_iff.1 h2).1
      refine ⟨fun _ => ?_, fun hg => by simp [wGe] at hg⟩
      obtain ⟨_, b3, o, ha, hbl, hcs⟩ := (hrs.fr hfr2).get h2
      obtain ⟨hru, b4, o4, ha4, hbl4, _⟩ := hrs.get h2
      have hbb : b3 < w.heap.size := by rw [ha] at ha4; cases ha4; exact hbl4
      refine ⟨b3, o, ha, ⟨by omega, by omega⟩, not_mem_new hnew hbb, x.nm, x.a, x.l, x.c, ⟨hcs 0 _ rfl, hcs 1 _ rfl, trivial⟩, fun wd hf1 => ?_⟩
      have hfr3 := fr_fin hf1 hfr2 hnew
      refine (xpermits_ok (hru.fr hfr3) hh).mono ?_
      rintro e2 w'' ⟨he2, hk2⟩
      refine ⟨_, he2, keep_of hf1 hk2, fun w1 hf2 => ⟨?_, fr_fin hf2 (hfr3.trans hk2 (by simp)) hnew⟩⟩
      rw [appF, hg, h3]; rfl

end Go.Proofs.Ytnbbnokjbopcbaa
