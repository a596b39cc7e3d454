/- Rules: may one be, does a header fit one: the program's answers and the document's. -/
import Derived.Test.YtnbbnokjbopcbaaRaC
set_option linter.all false
namespace Go.Proofs.Ytnbbnokjbopcbaa
open Go Go.Sx

/-- A rule's numbers are of their types. -/
structure Ru where
  pm : Bool
  pr : Int
  sa : Int
  sn : Int
  da : Int
  dn : Int
  s1 : Int
  s2 : Int
  d1 : Int
  d2 : Int

structure Ru.In (r : Ru) : Prop where
  sa : 0 ≤ r.sa ∧ r.sa < 4294967296
  da : 0 ≤ r.da ∧ r.da < 4294967296

structure Hd where
  s : Int
  d : Int
  p : Int
  x : Int
  y : Int

structure Hd.In (h : Hd) : Prop where
  s : 0 ≤ h.s ∧ h.s < 4294967296
  d : 0 ≤ h.d ∧ h.d < 4294967296
  p : 0 ≤ h.p ∧ h.p < 256
  x : 0 ≤ h.x ∧ h.x < 65536
  y : 0 ≤ h.y ∧ h.y < 65536

abbrev Ru.cells (r : Ru) : List Value := [.bool r.pm, vi64 r.pr, vu32 r.sa, vi64 r.sn, vu32 r.da, vi64 r.dn, vu32 r.s1, vu32 r.s2, vu32 r.d1, vu32 r.d2]
abbrev Ru.val (r : Ru) : Value := .agg #[.bool r.pm, vi64 r.pr, vu32 r.sa, vi64 r.sn, vu32 r.da, vi64 r.dn, vu32 r.s1, vu32 r.s2, vu32 r.d1, vu32 r.d2]
abbrev Hd.cells (h : Hd) : List Value := [vu32 h.s, vu32 h.d, vu8 h.p, vu16 h.x, vu16 h.y]
abbrev Hd.val (h : Hd) : Value := .agg #[vu32 h.s, vu32 h.d, vu8 h.p, vu16 h.x, vu16 h.y]

def rmay (r : Ru) : Bool := wGe r.pr (-1) && (wLe r.pr 255 && (wEq (pcheck r.sa r.sn) 0 && (wEq (pcheck r.da r.dn) 0 && (portsF r.s1 r.s2 && portsF r.d1 r.d2))))
def rfits (r : Ru) (h : Hd) : Bool := wEq (pcheck r.sa r.sn) 0 && (wEq (pcheck r.da r.dn) 0 && (pin h.s r.sa r.sn && (pin h.d r.da r.dn && ((wEq r.pr (-1) || wEq r.pr h.p) && (finF r.s1 r.s2 h.x && finF r.d1 r.d2 h.y)))))

theorem may_ok {r : Ru} {w : World} (hr : r.In) : Ans 24 [r.val] w (.bool (rmay r)) := by
  obtain ⟨⟨h1, h2⟩, ⟨h3, h4⟩⟩ := hr
  refine of_may r.pm r.pr r.sa r.sn r.da r.dn r.s1 r.s2 r.d1 r.d2 held0 ?_
  intro b hb _
  have hnew : ∀ x ∈ [b], w.heap.size ≤ x := by simpa using hb
  have hfr0 := Fr.refl [] w
  unfold rmay
  repeat' first
    | (refine ⟨fun hc => ?_, fun hc => ?_⟩ <;> try simp only [wNe_true, wNe_false] at hc)
    | (refine ⟨_, wi64 (by omega), ?_⟩)
    | (refine ⟨_, wu32 (by omega), ?_⟩)
    | (intro wc hf
       have hfr := fr_fin hf (by assumption) hnew
       first
       | (refine ⟨?_, hfr⟩; simp only [*, Bool.and_true, Bool.true_and, Bool.false_and, Bool.and_false, Bool.or_true, Bool.true_or, Bool.or_false, Bool.false_or, Bool.not_true]; done)
       | (first
          | refine (acheck_ok (by omega) (by omega)).mono ?_
          | refine (ports_ok).mono ?_
          rintro e w' ⟨he, hk⟩
          have hfr' := hfr.trans hk (by simp)
          refine ⟨_, he, keep_of hf hk, ?_⟩
          clear hfr hk hf he))

theorem fits_ok {r : Ru} {h : Hd} {w : World} (hr : r.In) (hh : h.In) : Ans 28 [r.val, h.val] w (.bool (rfits r h)) := by
  obtain ⟨⟨h1, h2⟩, ⟨h3, h4⟩⟩ := hr
  obtain ⟨⟨g1, g2⟩, ⟨g3, g4⟩, ⟨g5, g6⟩, ⟨g7, g8⟩, ⟨g9, g10⟩⟩ := hh
  refine of_fits r.pm r.pr r.sa r.sn r.da r.dn r.s1 r.s2 r.d1 r.d2 h.s h.d h.p h.x h.y held0 ?_
  intro b hb _ b2 hb2 _
  have hnew : ∀ x ∈ [b, b2], w.heap.size ≤ x := by simpa using ⟨hb, hb2⟩
  have hfr0 := Fr.refl [] w
  unfold rfits
  repeat' first
    | (refine ⟨fun hc => ?_, fun hc => ?_⟩ <;> try simp only [wNe_true, wNe_false] at hc)
    | (refine ⟨_, wi64 (by omega), ?_⟩)
    | (refine ⟨_, wu32 (by omega), ?_⟩)
    | (intro wc hf
       have hfr := fr_fin hf (by assumption) hnew
       first
       | (refine ⟨?_, hfr⟩; simp only [*, Bool.and_true, Bool.true_and, Bool.false_and, Bool.and_false, Bool.or_true, Bool.true_or, Bool.or_false, Bool.false_or, Bool.not_true]; done)
       | (first
          | refine (acheck_ok (by omega) (by omega)).mono ?_
          | refine (ain_ok (by omega) (by omega) (by omega) (by omega)).mono ?_
          | refine (fin_ok (by omega) (by omega)).mono ?_
          rintro e w' ⟨he, hk⟩
          have hfr' := hfr.trans hk (by simp)
          refine ⟨_, he, keep_of hf hk, ?_⟩
          clear hfr hk hf he))

theorem check1_ok {r : Ru} {w : World} (hr : r.In) : Ans 23 [r.val] w (.bool (!rmay r)) := by
  refine of_check1 r.pm r.pr r.sa r.sn r.da r.dn r.s1 r.s2 r.d1 r.d2 held0 ?_
  intro b hb _
  have hnew : ∀ x ∈ [b], w.heap.size ≤ x := by simpa using hb
  have hfr0 := Fr.refl [] w
  repeat' first
    | (refine ⟨fun hc => ?_, fun hc => ?_⟩ <;> try simp only [wNe_true, wNe_false] at hc)
    | (refine ⟨_, wi64 (by omega), ?_⟩)
    | (refine ⟨_, wu32 (by omega), ?_⟩)
    | (intro wc hf
       have hfr := fr_fin hf (by assumption) hnew
       first
       | (refine ⟨?_, hfr⟩; simp only [*, Bool.and_true, Bool.true_and, Bool.false_and, Bool.and_false, Bool.or_true, Bool.true_or, Bool.or_false, Bool.false_or, wNot]; done)
       | (first
          | refine (may_ok hr).mono ?_
          rintro e w' ⟨he, hk⟩
          have hfr' := hfr.trans hk (by simp)
          refine ⟨_, he, keep_of hf hk, ?_⟩
          clear hfr hk hf he))

theorem xmay_ok {r : Ru} {w : World} (hr : r.In) : Ans 25 [r.val] w (.bool (rmay r)) := by
  obtain ⟨⟨h1, h2⟩, ⟨h3, h4⟩⟩ := hr
  refine of_xmay r.pm r.pr r.sa r.sn r.da r.dn r.s1 r.s2 r.d1 r.d2 held0 ?_
  intro b hb _
  have hnew : ∀ x ∈ [b], w.heap.size ≤ x := by simpa using hb
  have hfr0 := Fr.refl [] w
  unfold rmay portsF
  repeat' first
    | (refine ⟨fun hc => ?_, fun hc => ?_⟩ <;> try simp only [wNe_true, wNe_false] at hc)
    | (refine ⟨_, wi64 (by omega), ?_⟩)
    | (refine ⟨_, wu32 (by omega), ?_⟩)
    | (intro wc hf
       have hfr := fr_fin hf (by assumption) hnew
       first
       | (refine ⟨?_, hfr⟩; simp only [*, Bool.and_true, Bool.true_and, Bool.false_and, Bool.and_false, Bool.or_true, Bool.true_or, Bool.or_false, Bool.false_or, Bool.not_true]; done)
       | (first
          | refine (xcheck_ok (by omega) (by omega)).mono ?_
          rintro e w' ⟨he, hk⟩
          have hfr' := hfr.trans hk (by simp)
          refine ⟨_, he, keep_of hf hk, ?_⟩
          clear hfr hk hf he))

theorem xfits_ok {r : Ru} {h : Hd} {w : World} (hr : r.In) (hh : h.In) : Ans 36 [r.val, h.val] w (.bool (rfits r h)) := by
  obtain ⟨⟨h1, h2⟩, ⟨h3, h4⟩⟩ := hr
  obtain ⟨⟨g1, g2⟩, ⟨g3, g4⟩, ⟨g5, g6⟩, ⟨g7, g8⟩, ⟨g9, g10⟩⟩ := hh
  refine of_xfits r.pm r.pr r.sa r.sn r.da r.dn r.s1 r.s2 r.d1 r.d2 h.s h.d h.p h.x h.y held0 ?_
  intro b hb _ b2 hb2 _
  have hnew : ∀ x ∈ [b, b2], w.heap.size ≤ x := by simpa using ⟨hb, hb2⟩
  have hfr0 := Fr.refl [] w
  unfold rfits finF
  repeat' first
    | (refine ⟨fun hc => ?_, fun hc => ?_⟩ <;> try simp only [wNe_true, wNe_false] at hc)
    | (refine ⟨_, wi64 (by omega), ?_⟩)
    | (refine ⟨_, wu32 (by omega), ?_⟩)
    | (intro wc hf
       have hfr := fr_fin hf (by assumption) hnew
       first
       | (refine ⟨?_, hfr⟩; simp only [*, Bool.and_true, Bool.true_and, Bool.false_and, Bool.and_false, Bool.or_true, Bool.true_or, Bool.or_false, Bool.false_or, Bool.not_true]; done)
       | (first
          | refine (xcheck_ok (by omega) (by omega)).mono ?_
          | refine (xin_ok (by omega) (by omega) (by omega) (by omega)).mono ?_
          rintro e w' ⟨he, hk⟩
          have hfr' := hfr.trans hk (by simp)
          refine ⟨_, he, keep_of hf hk, ?_⟩
          clear hfr hk hf he))

end Go.Proofs.Ytnbbnokjbopcbaa
