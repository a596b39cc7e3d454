/- The document's own functions of prefixes answer the same words. -/
import Derived.Test.YtnbbnokjbopcbaaRaA
set_option linter.all false
namespace Go.Proofs.Ytnbbnokjbopcbaa
open Go Go.Sx

theorem size_ok {n : Int} {w : World} (h0 : 0 ≤ n) (h1 : n ≤ 32) : Ans 38 [vi64 n] w (vu64 (2 ^ (32 - n.toNat))) := by
  refine of_size n held0 ?_
  refine ⟨fun vs wb m => Fr [] w wb ∧ ∃ i : Int, vs = [vu64 (2 ^ (i.toNat - n.toNat)), vi64 i] ∧ n ≤ i ∧ i ≤ 32 ∧ m = (32 - i).toNat, fun wc hf => ⟨(32 - n).toNat, fr_fin0 hf (Fr.refl _ _), n, by simp, by omega, h1, rfl⟩, ?_⟩
  rintro m wb a i hb ⟨hfr, j, hv, hj0, hj1, hm⟩
  simp only [List.cons.injEq, Value.int.injEq, true_and, and_true] at hv
  obtain ⟨rfl, rfl⟩ := hv
  refine ⟨fun hl => ?_, fun hl w1 hf => ?_⟩
  · simp only [wLt, decide_eq_true_eq] at hl
    have hq := pow_pos' (i.toNat - n.toNat)
    have hp := pow_le32 (i.toNat - n.toNat) (by omega)
    refine ⟨2 * 2 ^ (i.toNat - n.toNat), wu64 (n := 2 * 2 ^ (i.toNat - n.toNat)) (by omega), i + 1, wi64 (n := i + 1) (by omega), ⟨rfl, rfl⟩, fun wc hf => ?_⟩
    refine ⟨(32 - (i + 1)).toNat, ?_, fr_fin0 hf hfr, i + 1, ?_, by omega, by omega, rfl⟩
    · show Nat.succ _ ≤ m
      omega
    · have e : (i + 1).toNat - n.toNat = (i.toNat - n.toNat) + 1 := by omega
      rw [e, Int.pow_succ, Int.mul_comm]
  · simp only [wLt, decide_eq_false_iff_not] at hl
    have : i = 32 := by omega
    subst this
    exact ⟨rfl, fr_fin0 hf hfr⟩

theorem rem_run {t : TypeId} {x y : Operand} {a b : Int} {P : Program} {w : World} (h0 : 0 ≤ a) (hb : 0 < b) : wRun P (wBin .rem t x y (vu64 a) (vu64 b)) w (vu64 (a % b)) w := by
  show (wBin _ _ _ _ _ _).run _ _ = _
  have : ¬ b = 0 := by omega
  simp only [wBin, eqGuard, binOp_rem, Op.intDiv, if_neg this, Int.tmod_eq_emod_of_nonneg h0]; rfl

theorem xcheck_ok {a n : Int} {w : World} (h0 : 0 ≤ a) (h1 : a < 4294967296) : Ans 33 [.agg #[vu32 a, vi64 n]] w (vi64 (pcheck a n)) := by
  refine of_xcheck a n held0 ?_
  intro b hb _
  have hnew : ∀ x ∈ [b], w.heap.size ≤ x := by simpa using hb
  refine ⟨fun hl w1 hf => ?_, fun hl => ⟨fun hg w1 hf => ?_, fun hg => ⟨a, wu64 (by omega), fun wc hf => ?_⟩⟩⟩
  · simp only [wLt, decide_eq_true_eq] at hl
    exact ⟨by rw [pcheck, if_pos (by omega)], fr_fin hf (Fr.refl _ _) hnew⟩
  · simp only [wGt, decide_eq_true_eq] at hg
    exact ⟨by rw [pcheck, if_pos (by omega)], fr_fin hf (Fr.refl _ _) hnew⟩
  · simp only [wLt, wGt, decide_eq_false_iff_not] at hl hg
    have f1 := fr_fin hf (Fr.refl _ _) hnew
    refine (size_ok (w := wc) (by omega) (by omega : n ≤ 32)).mono ?_
    rintro e w' ⟨he, hk⟩
    have hq := pow_pos' (32 - n.toNat)
    refine ⟨_, he, keep_of hf hk, a % 2 ^ (32 - n.toNat), fun _ _ => rem_run h0 (by omega), fun hz w1 hf1 => ?_, fun hz w1 hf1 => ?_⟩
    · simp only [wNe, bne_iff_ne] at hz
      exact ⟨by rw [pcheck, if_neg (by omega), if_neg hz], fr_fin hf1 (f1.trans hk (by simp)) hnew⟩
    · simp only [wNe, bne_eq_false_iff_eq] at hz
      exact ⟨by rw [pcheck, if_neg (by omega), if_pos hz], fr_fin hf1 (f1.trans hk (by simp)) hnew⟩

theorem pin_plain {x a p : Int} (hp : 0 < p) (ha : a % p = 0) : (x - x % p = a) ↔ (a ≤ x ∧ x - a < p) := by
  have h1 := Int.emod_nonneg x (by omega : p ≠ 0)
  have h2 := Int.emod_lt_of_pos x hp
  constructor
  · intro h; omega
  · rintro ⟨h3, h4⟩
    have h5 : (x - a) % p = x - a := Int.emod_eq_of_lt (by omega) h4
    have h6 : (x - a) % p = x % p := by rw [Int.sub_emod, ha, Int.sub_zero, Int.emod_emod]
    omega

theorem xin_ok {x a n : Int} {w : World} (h0 : 0 ≤ a) (h1 : a < 4294967296) (h2 : 0 ≤ x) (h3 : x < 4294967296) : Ans 39 [vu32 x, .agg #[vu32 a, vi64 n]] w (.bool (pin x a n)) := by
  refine of_xin x a n held0 ?_
  intro b hb _ wc hf
  have hnew : ∀ x ∈ [b], w.heap.size ≤ x := by simpa using hb
  have f1 := fr_fin hf (Fr.refl _ _) hnew
  refine (xcheck_ok (w := wc) (n := n) h0 h1).mono ?_
  rintro e w' ⟨he, hk⟩
  have f2 := f1.trans hk (by simp)
  refine ⟨_, he, keep_of hf hk, fun hz => ?_, fun hz wd hg => ?_⟩
  · simp only [wEq, beq_iff_eq] at hz
    have hn : 0 ≤ n ∧ n ≤ 32 ∧ a % 2 ^ (32 - n.toNat) = 0 := by
      unfold pcheck at hz
      by_cases hh : n < 0 ∨ 32 < n
      · rw [if_pos hh] at hz; omega
      · rw [if_neg hh] at hz
        refine ⟨by omega, by omega, ?_⟩
        by_cases h7 : a % 2 ^ (32 - n.toNat) = 0
        · exact h7
        · rw [if_neg h7] at hz; omega
    have hq := pow_pos' (32 - n.toNat)
    have key := pin_plain (x := x) (by omega) hn.2.2
    refine ⟨fun hg => ?_, fun hg wd hw => ?_⟩
    · simp only [wGe, decide_eq_true_eq] at hg
      refine ⟨x, wu64 (by omega), a, wu64 (by omega), x - a, wu64 (n := x - a) (by omega), fun wd hw => ?_⟩
      have f3 := fr_fin hw f2 hnew
      refine (size_ok (w := wd) hn.1 hn.2.1).mono ?_
      rintro e' w'' ⟨he', hk'⟩
      refine ⟨_, he', keep_of hw hk', fun w1 hf1 => ⟨?_, fr_fin hf1 (f3.trans hk' (by simp)) hnew⟩⟩
      have : (x - x % 2 ^ (32 - n.toNat) = a) ↔ (x - a < 2 ^ (32 - n.toNat)) := by rw [key]; exact ⟨fun h => h.2, fun h => ⟨hg, h⟩⟩
      simp only [pin, hz, wLt, this, decide_true, Bool.true_and]
    · simp only [wGe, decide_eq_false_iff_not] at hg
      refine ⟨?_, fr_fin hw f2 hnew⟩
      have : ¬ (x - x % 2 ^ (32 - n.toNat) = a) := by rw [key]; omega
      simp only [pin, hz, this, decide_true, decide_false, Bool.true_and]
  · simp only [wEq, beq_eq_false_iff_ne] at hz
    exact ⟨by simp [pin, hz], fr_fin hg f2 hnew⟩

theorem wNe_true {a b : Int} : (wNe a b = true) = (wEq a b = false) := by simp [wNe, wEq]
theorem wNe_false {a b : Int} : (wNe a b = false) = (wEq a b = true) := by simp [wNe, wEq]

end Go.Proofs.Ytnbbnokjbopcbaa
