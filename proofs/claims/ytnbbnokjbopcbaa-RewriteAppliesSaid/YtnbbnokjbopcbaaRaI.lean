/- Which rewrite applies, by the program: its closure, its walk over the rewrites. -/
import Derived.Test.YtnbbnokjbopcbaaRaH
set_option linter.all false
namespace Go.Proofs.Ytnbbnokjbopcbaa
open Go Go.Sx

theorem first1_ok {i : Int} {nm : ByteArray} {a : Option Addr} {l c : Nat} {rs : List Ru} {h : Hd} {b1 b2 : Nat} {v0 : Int} {w : World} (hrs : RulesAt w a l rs) (hh : h.In) (hb1 : wBlock w b1 h.cells 28) (hb2 : wBlock w b2 [vi64 v0] 3) (hne : b1 ≠ b2) :
    Calls Try.prog 12 [vi64 i, .agg #[.string nm, .slice a l c], .pointer (some (ad b1 0)), .pointer (some (ad b2 0))].toArray w fun e w' =>
      e = .returned (.bool (!(decide (fcheckF rs = 0) && permF rs h))) ∧ wBlock w' b2 [vi64 (if (decide (fcheckF rs = 0) && permF rs h) = true then i else v0)] 3 ∧ Fr [b2] w w' := by
  refine of_first1 i nm a l c h.s h.d h.p h.x h.y b1 b2 v0 (Held.of (by simp [hne]) ⟨hb1, hb2, trivial⟩) ?_
  intro b hb _ wc hf
  have hl1 := block_lt hb1
  have hl2 := block_lt hb2
  have hb' : w.heap.size ≤ b := hb
  have hfr : Fr [] w wc := by
    have k : Fr [b1, b2] w wc := (Fr.of_fin hf).weaken fun x hx hlt => by
      simp only [List.mem_cons, List.not_mem_nil, or_false] at hx ⊢
      rcases hx with rfl | rfl | rfl
      · exact .inl rfl
      · exact .inr rfl
      · omega
    exact (k.drop ((hf.held 0 _ rfl).trans hb1.symm)).drop ((hf.held 1 _ rfl).trans hb2.symm)
  refine (permits_ok (hrs.fr hfr) hh).mono ?_
  rintro e w' ⟨he, hk⟩
  have hfr2 := hfr.trans hk (by simp)
  have fin2 : ∀ {hp : Heap} {w1 : World}, wFin hp [b1, b2, b] w' w1 → (∃ k, hp[0]? = some (some k) ∧ (SV.vals [b1, b2, b] k.cells).toArray = h.cells.toArray ∧ k.elem = 28) → Fr [b2] w w1 := by
    rintro hp w1 hf1 ⟨k, hk0, hk1, hk2⟩
    have h0 := hf1.held 0 _ hk0
    rw [hk1, hk2] at h0
    have k : Fr [b1, b2] w w1 := (hfr2.weaken (T := [b1, b2]) (by simp)).trans (Fr.of_fin hf1) fun x hx hlt => by
      simp only [List.mem_cons, List.not_mem_nil, or_false] at hx ⊢
      rcases hx with rfl | rfl | rfl
      · exact .inl rfl
      · exact .inr rfl
      · omega
    exact k.drop (h0.trans hb1.symm)
  refine ⟨_, _, he, keep_of hf hk, fun hp w1 hf1 => ⟨rfl, ?_, fin2 hf1 ⟨_, rfl, rfl, rfl⟩⟩, fun hp w1 hf1 => ⟨rfl, ?_, fin2 hf1 ⟨_, rfl, rfl, rfl⟩⟩⟩
  · rw [if_pos hp]; exact hf1.held 1 _ rfl
  · rw [if_neg (by rw [hp]; simp)]; exact hf1.held 1 _ rfl

theorem each_ok {a a2 : Option Addr} {l c l2 c2 : Nat} {dest : Bool} {h : Hd} {xs : List Rw} {fs : List Fl} {b1 b2 : Nat} {w0 w : World} (hxs : RwsAt w0 a l xs) (hfs : FiltersAt w0 a2 l2 fs) (hh : h.In)
    (h0 : Fr [] w0 w) (hb1 : wBlock w b1 h.cells 28) (hb2 : wBlock w b2 [vi64 (-1)] 3) (hne : b1 ≠ b2) (hnew2 : w0.heap.size ≤ b2) (hok : ∀ x ∈ xs, stepF fs x.nm = 0) :
    Calls Try.prog 11 [.slice a l c, .slice a2 l2 c2, .bool dest, .func (.func 12) #[] #[.pointer (some (ad b1 0)), .pointer (some (ad b2 0))]].toArray w fun e w' =>
      e = .returned (.tuple #[]) ∧ wBlock w' b2 [vi64 (fst1 (fitF fs dest h) xs)] 3 ∧ Fr [b2] w w' := by
  refine of_each a l c a2 l2 c2 dest b1 b2 held0 ?_
  have hl := hxs.len
  have hbig : xs.length ≤ 140737488355328 := by have := hxs.few; omega
  have hl2 := block_lt hb2
  have hl1 := block_lt hb1
  have bump : ∀ {u : World}, Fr [b2] w u → Fr [] w0 u := fun k => h0.trans k fun x hx hlt => by simp only [List.mem_singleton] at hx; subst hx; omega
  refine ⟨fun vs wb m => Fr [b2] w wb ∧ wBlock wb b2 [vi64 (-1)] 3 ∧ ∃ i : Nat, vs = [vi64 i] ∧ i ≤ xs.length ∧ (∀ j, j < i → ∀ y, xs[j]? = some y → fitF fs dest h y = false) ∧ m = xs.length - i, fun wc hf => ?_, ?_⟩
  · have k := Fr.of_fin hf
    exact ⟨xs.length, k.weaken (by simp), k.block hb2 (by simp), 0, rfl, by omega, fun j hj => by omega, rfl⟩
  rintro m wb n hwb ⟨hfr, hat, i, hv, hi, hbef, hm⟩
  simp only [List.cons.injEq, Value.int.injEq, true_and, and_true] at hv
  subst hv
  refine ⟨fun hlt => ?_, fun hlt w1 hf => ⟨rfl, ?_, hfr.trans (Fr.of_fin hf) (by simp)⟩⟩
  · simp only [wLt, wInt, decide_eq_true_eq] at hlt
    have hil : i < xs.length := by omega
    have hr := List.getElem?_eq_getElem hil
    generalize xs[i] = x at hr
    obtain ⟨bb, o, ha, hbl, hc⟩ := (hxs.fr (bump hfr)).get hr
    have next : fitF fs dest h x = false → ∀ j, j < i + 1 → ∀ y, xs[j]? = some y → fitF fs dest h y = false := fun h0 j hj y hy => by
      by_cases hji : j = i
      · subst hji; rw [hr] at hy; cases hy; exact h0
      · exact hbef j (by omega) y hy
    refine ⟨bb, o, ha, ⟨by omega, by omega⟩, List.not_mem_nil, x.dest, x.nm, x.to, ⟨hc 0 _ rfl, hc 1 _ rfl, hc 2 _ rfl, trivial⟩, fun b hb _ => ⟨!(x.dest == dest), fun wc _ => boolNe_run, fun hd => ⟨(i : Int) + 1, wi64 (n := (i : Int) + 1) (by omega), ⟨rfl, rfl⟩, fun wc hf => ⟨xs.length - (i + 1), ?_, ?_, ?_, i + 1, by simp, by omega, next ?_, rfl⟩⟩, fun hd wc hf => ?_⟩⟩
    · show Nat.succ _ ≤ m
      omega
    · exact hfr.trans (Fr.of_fin hf) fun y hy hlt => by
        simp only [List.mem_singleton] at hy; subst hy
        have := hfr.size; unfold wNew at hb; omega
    · exact (Fr.of_fin hf).block hat (by
        intro hm; simp only [List.mem_singleton] at hm
        have := hfr.size; unfold wNew at hb; omega)
    · have hd' : (x.dest == dest) = false := by simpa using hd
      rw [fitF, hd', Bool.false_and]
    · have hd' : (x.dest == dest) = true := by simpa using hd
      have hsz := hfr.size
      have hb' : wb.heap.size ≤ b := hb
      have k1 : Fr [b2] w wc := hfr.trans (Fr.of_fin hf) fun y hy hlt => by
        simp only [List.mem_singleton] at hy; subst hy; omega
      have hat1 : wBlock wc b2 [vi64 (-1)] 3 := (Fr.of_fin hf).block hat (by simp only [List.mem_singleton]; omega)
      refine (named_ok (hfs.fr (bump k1))).mono ?_
      rintro e w' ⟨⟨s, a', l', c', he, hr', hfresh⟩, hk⟩
      have k2 : Fr [b2] w w' := k1.trans hk (by simp)
      have hat2 : wBlock w' b2 [vi64 (-1)] 3 := hk.block hat1 (by simp)
      have hbw : b < wc.heap.size := hf.lt b (by simp)
      refine ⟨s, a', l', c', _, he, keep_of hf hk, fun b4 hb4 _ wd hf1 => ?_⟩
      have hsz2 := k2.size
      have hsz3 := hk.size
      have hb4' : w'.heap.size ≤ b4 := hb4
      have k3 : Fr [b2] w wd := k2.trans (Fr.of_fin hf1) fun y hy hlt => by
        simp only [List.mem_cons, List.not_mem_nil, or_false] at hy
        rcases hy with rfl | rfl <;> omega
      have hnm : b2 ∉ [b, b4] := by
        simp only [List.mem_cons, List.not_mem_nil, or_false]; omega
      have hat3 : wBlock wd b2 [vi64 (-1)] 3 := (Fr.of_fin hf1).block hat2 hnm
      have hhd : wBlock wd b1 h.cells 28 := k3.block hb1 (by simpa using hne)
      obtain ⟨rs, hg⟩ : ∃ rs, getF fs x.nm = some rs ∧ fcheckF rs = 0 := by
        have h9 := hok x (List.mem_of_getElem? hr)
        unfold stepF at h9
        cases hg0 : getF fs x.nm with
        | none => rw [hg0] at h9; cases h9
        | some rs =>
          rw [hg0] at h9
          refine ⟨rs, rfl, ?_⟩
          by_cases h8 : fcheckF rs = 0
          · exact h8
          · simp only [if_neg h8] at h9; cases h9
      rw [hg.1] at hr'
      have hr2 := hr'.frS (Fr.of_fin hf1) fun y hy hlt hm => by
        simp only [List.mem_cons, List.not_mem_nil, or_false] at hm
        have h7 := hfresh y hy
        rcases hm with hm | hm <;> omega
      have hp : (decide (fcheckF rs = 0) && permF rs h) = appF fs x.nm h := by rw [appF, hg.1, hg.2]; simp
      refine (first1_ok (i := i) (nm := s) (c := c') hr2 hh hhd hat3 hne).mono ?_
      rintro e2 w2 ⟨he2, hat4, hk2⟩
      simp only [Option.getD_some, hp] at he2 hat4
      have k4 : Fr [b2] w w2 := k3.trans hk2 (by simp)
      have hbl4 : b4 < wd.heap.size := hf1.lt b4 (by simp)
      have hbl0 : b < wd.heap.size := hf1.lt b (by simp)
      refine ⟨_, he2, hk2.keep fun y hy => ⟨hf1.lt y hy, by simp only [List.mem_singleton]; intro e; subst e; exact hnm hy⟩, ?_⟩
      have fin : ∀ {hp : Heap} {u : World}, wFin hp [b, b4] w2 u → Fr [b2] w u := fun hu => k4.trans (Fr.of_fin hu) fun y hy hlt => by
        simp only [List.mem_cons, List.not_mem_nil, or_false] at hy
        rcases hy with rfl | rfl <;> omega
      cases hap : appF fs x.nm h
      · rw [hap] at hat4
        refine ⟨fun hno => by simp [wNot] at hno, fun _ => ⟨(i : Int) + 1, wi64 (n := (i : Int) + 1) (by omega), ⟨rfl, rfl⟩, fun we hf2 => ⟨xs.length - (i + 1), ?_, fin hf2, (Fr.of_fin hf2).block hat4 hnm, i + 1, by simp, by omega, next ?_, rfl⟩⟩⟩
        · show Nat.succ _ ≤ m
          omega
        · rw [fitF, hap, Bool.and_false]
      · rw [hap] at hat4
        refine ⟨fun _ w1 hf2 => ⟨rfl, ?_, fin hf2⟩, fun hno => by simp [wNot] at hno⟩
        rw [fst1_hit hr (by rw [fitF, hd', hap]; rfl) hbef]
        exact (Fr.of_fin hf2).block hat4 hnm
  · simp only [wLt, wInt, decide_eq_false_iff_not] at hlt
    rw [fst1_none fun j hj => hbef j (by omega)]
    exact (Fr.of_fin hf).block hat (by simp)

theorem rfirst_ok {a a2 : Option Addr} {l c l2 c2 : Nat} {dest : Bool} {h : Hd} {xs : List Rw} {fs : List Fl} {w : World} (hxs : RwsAt w a l xs) (hfs : FiltersAt w a2 l2 fs) (hh : h.In) :
    Ans 4 [.slice a l c, .slice a2 l2 c2, .bool dest, h.val] w (.tuple #[vi64 (firstF xs fs dest h), vi64 (rcheckF xs fs)]) := by
  refine of_rfirst a l c a2 l2 c2 dest h.s h.d h.p h.x h.y held0 ?_
  intro b hb _ wc hf
  have hnew : ∀ x ∈ [b], w.heap.size ≤ x := by simpa using hb
  have hfr0 := fr_fin hf (Fr.refl _ _) hnew
  refine (rcheck_ok (hxs.fr hfr0) (hfs.fr hfr0)).mono ?_
  rintro e w' ⟨he, hk⟩
  have hfr' := hfr0.trans hk (by simp)
  refine ⟨_, he, keep_of hf hk, fun hz w1 hf1 => ⟨?_, fr_fin hf1 hfr' hnew⟩, fun hz b2 hb2 _ wd hf1 => ?_⟩
  · simp only [wNe, bne_iff_ne] at hz
    rw [firstF, if_neg hz]
  simp only [wNe, bne_eq_false_iff_eq] at hz
  have hsz := hfr'.size
  have hb2' : w'.heap.size ≤ b2 := hb2
  have hbw : b < wc.heap.size := hf.lt b (by simp)
  have hsz2 := hk.size
  have hnew2 : ∀ x ∈ [b, b2], w.heap.size ≤ x := by
    simp only [List.mem_cons, List.not_mem_nil, or_false]
    rintro x (rfl | rfl)
    · exact hb
    · omega
  have hfr1 := fr_fin hf1 hfr' hnew2
  refine (each_ok (dest := dest) (h := h) (b1 := b) (b2 := b2) hxs hfs hh hfr1 (hf1.held 0 _ rfl) (hf1.held 1 _ rfl) (by omega) (by omega) (rcheckF_zero hz).2).mono ?_
  rintro e2 w2 ⟨he2, hat, hk2⟩
  have hfr2 : Fr [] w w2 := hfr1.trans hk2 fun x hx hlt => by simp only [List.mem_singleton] at hx; subst hx; omega
  refine ⟨he2, hk2.keep fun y hy => ⟨hf1.lt y (by simp only [List.mem_singleton] at hy; subst hy; simp), by simp only [List.mem_singleton] at hy ⊢; omega⟩, _, hat, fun w1 hf2 => ⟨?_, fr_fin hf2 hfr2 hnew2⟩⟩
  rw [firstF, if_pos hz, hz]

end Go.Proofs.Ytnbbnokjbopcbaa
