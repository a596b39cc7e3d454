/- Prefixes: what package addr and the document's own functions answer; contracts of both. -/
import Derived.Test.YtnbbnokjbopcbaaV
import Derived.Test.YtnbbnokjbopcbaaFr
import Derived.Laws.BitsAllLaws
import Derived.Laws.Entries
set_option linter.all false
namespace Go.Proofs.Ytnbbnokjbopcbaa
open Go Go.Sx

/-- The function answers this, and turns nothing that was there. -/
def Ans (f : FuncId) (args : List Value) (w : World) (v : Value) : Prop := Calls Try.prog f args.toArray w fun e w' => e = .returned v ∧ Fr [] w w'

theorem keep_of {hp : Heap} {ρ : List Nat} {w0 w w' : World} (h : wFin hp ρ w0 w) (k : Fr [] w w') : wKeep ρ w w' := k.keep fun b hb => ⟨h.lt b hb, by simp⟩

theorem fr_fin {hp : Heap} {ρ : List Nat} {w0 w : World} (h : wFin hp ρ w0 w) {v : World} (k : Fr [] v w0) (hn : ∀ b ∈ ρ, v.heap.size ≤ b) : Fr [] v w :=
  k.trans (Fr.of_fin h) fun x hx hlt => absurd (hn x hx) (by omega)

theorem fr_fin0 {hp : Heap} {w0 w : World} (h : wFin hp [] w0 w) {v : World} (k : Fr [] v w0) : Fr [] v w := fr_fin h k (by simp)

theorem wi64 {n : Int} (h : -9223372036854775808 ≤ n ∧ n ≤ 9223372036854775807) : wWrap .i64 n n := wrap_of (by simpa [IntKind.min, IntKind.max, IntKind.bits, IntKind.signed] using h)
theorem wu64 {n : Int} (h : 0 ≤ n ∧ n ≤ 18446744073709551615) : wWrap .u64 n n := wrap_of (by simpa [IntKind.min, IntKind.max, IntKind.bits, IntKind.signed] using h)
theorem wu32 {n : Int} (h : 0 ≤ n ∧ n ≤ 4294967295) : wWrap .u32 n n := wrap_of (by simpa [IntKind.min, IntKind.max, IntKind.bits, IntKind.signed] using h)

theorem held0 {w : World} : Held [] [] w := ⟨rfl, by simp, by simp, by simp⟩

/-! ### the plain words -/
def pcheck (a n : Int) : Int := if n < 0 ∨ 32 < n then 1 else if a % 2 ^ (32 - n.toNat) = 0 then 0 else 10
def pin (x a n : Int) : Bool := decide (pcheck a n = 0) && decide (x - x % 2 ^ (32 - n.toNat) = a)

theorem pow_le32 (k : Nat) (h : k ≤ 32) : (2 : Int) ^ k ≤ 4294967296 := by
  have : (2 : Nat) ^ k ≤ 2 ^ 32 := Nat.pow_le_pow_right (by decide) h
  have h2 : ((2 ^ k : Nat) : Int) ≤ ((2 ^ 32 : Nat) : Int) := by exact_mod_cast this
  simpa using h2
theorem pow_pos' (k : Nat) : (1 : Int) ≤ (2 : Int) ^ k := by
  have : 1 ≤ (2 : Nat) ^ k := Nat.one_le_two_pow
  have h2 : ((1 : Nat) : Int) ≤ ((2 ^ k : Nat) : Int) := by exact_mod_cast this
  simpa using h2

theorem behind_ok {n : Int} {w : World} (h0 : 0 ≤ n) (h1 : n ≤ 32) : Ans 37 [vi64 n] w (vu32 (2 ^ (32 - n.toNat) - 1)) := by
  refine of_behind n held0 ?_
  have e : (32 - n).toNat = 32 - n.toNat := by omega
  have hp := pow_le32 (32 - n.toNat) (by omega)
  have hq := pow_pos' (32 - n.toNat)
  refine ⟨32 - n, wi64 (n := 32 - n) (by omega), 2 ^ (32 - n.toNat), fun wc _ => ?_, 2 ^ (32 - n.toNat) - 1, wu64 (n := 2 ^ (32 - n.toNat) - 1) (by omega), 2 ^ (32 - n.toNat) - 1, wu32 (n := 2 ^ (32 - n.toNat) - 1) (by omega), fun w1 hf => ⟨rfl, fr_fin0 hf (Fr.refl _ _)⟩⟩
  show (wBin _ _ _ _ _ _).run _ _ = _
  have hm : min (32 - n).toNat 64 = 32 - n.toNat := by omega
  have hw : IntKind.u64.wrap (1 * 2 ^ (32 - n.toNat)) = 2 ^ (32 - n.toNat) := by rw [Int.one_mul]; exact wu64 (by omega)
  have hk : IntKind.u64.bits = 64 := rfl
  have hn : ¬ (32 - n < 0) := by omega
  simp only [wBin, eqGuard, binOp, Op.shift, if_neg hn, hk, hm, hw]
  rfl

theorem and_mask {a : Int} (k : Nat) (h0 : 0 ≤ a) (h1 : a < 4294967296) (hk : k ≤ 32) : bits .and .u32 a (2 ^ k - 1) = a % 2 ^ k := by
  have hp := pow_le32 k hk
  have hq := pow_pos' k
  rw [u32_and a _ h0 h1 (by omega) (by omega)]
  have e : ((2 : Int) ^ k - 1).toNat = 2 ^ k - 1 := by
    have : ((2 : Int) ^ k) = ((2 ^ k : Nat) : Int) := by simp
    rw [this]; omega
  rw [e, Nat.and_two_pow_sub_one_eq_mod]
  obtain ⟨m, rfl⟩ := Int.eq_ofNat_of_zero_le h0
  simp

theorem and_run {t : TypeId} {x y : Operand} {a b : Int} {P : Program} {w : World} : wRun P (wBin .and t x y (vu32 a) (vu32 b)) w (vu32 (bits .and .u32 a b)) w := by
  show (wBin _ _ _ _ _ _).run _ _ = _
  simp only [wBin, eqGuard, binOp_and, intBits_and]; rfl
theorem andNot_run {t : TypeId} {x y : Operand} {a b : Int} {P : Program} {w : World} : wRun P (wBin .andNot t x y (vu32 a) (vu32 b)) w (vu32 (bits .andNot .u32 a b)) w := by
  show (wBin _ _ _ _ _ _).run _ _ = _
  simp only [wBin, eqGuard, binOp_andNot, intBits_andNot]; rfl

theorem nat_andNot (k m : Nat) (hk : k ≤ 32) (hm : m < 4294967296) : m &&& (4294967295 - (2 ^ k - 1)) = m - m % 2 ^ k := by
  have h1 : 4294967295 - (2 ^ k - 1) = 4294967296 - 2 ^ k := by
    have : 1 ≤ 2 ^ k := Nat.one_le_two_pow
    omega
  have h2 : m - m % 2 ^ k = m / 2 ^ k * 2 ^ k := by
    have := Nat.div_add_mod m (2 ^ k)
    have := Nat.mul_comm (2 ^ k) (m / 2 ^ k)
    omega
  rw [h1, h2]
  have h3 := nat_midmask 32 k m hk
  have e : (2 : Nat) ^ 32 = 4294967296 := by decide
  rw [e] at h3
  rw [h3, Nat.mod_eq_of_lt hm]

theorem andNot_mask {a : Int} (k : Nat) (h0 : 0 ≤ a) (h1 : a < 4294967296) (hk : k ≤ 32) : bits .andNot .u32 a (2 ^ k - 1) = a - a % 2 ^ k := by
  have hp := pow_le32 k hk
  have hq := pow_pos' k
  rw [u32_andNot a _ h0 h1 (by omega) (by omega)]
  have e : ((2 : Int) ^ k - 1).toNat = 2 ^ k - 1 := by
    have : ((2 : Int) ^ k) = ((2 ^ k : Nat) : Int) := by simp
    rw [this]; omega
  obtain ⟨m, rfl⟩ := Int.eq_ofNat_of_zero_le h0
  rw [e]
  simp only [Int.ofNat_eq_natCast, Int.toNat_natCast]
  rw [nat_andNot k m hk (by omega)]
  have h4 : m % 2 ^ k ≤ m := Nat.mod_le _ _
  have h5 : ((m % 2 ^ k : Nat) : Int) = (m : Int) % 2 ^ k := by simp
  rw [← h5]; omega

theorem acheck_ok {a n : Int} {w : World} (h0 : 0 ≤ a) (h1 : a < 4294967296) : Ans 31 [.agg #[vu32 a, vi64 n]] w (vi64 (pcheck a n)) := by
  refine of_acheck a n held0 ?_
  intro b hb _
  have hnew : ∀ x ∈ [b], w.heap.size ≤ x := by simpa using hb
  refine ⟨fun hl w1 hf => ?_, fun hl => ⟨fun hg w1 hf => ?_, fun hg wc hf => ?_⟩⟩
  · simp only [wLt, decide_eq_true_eq] at hl
    exact ⟨by rw [pcheck, if_pos (by omega)], fr_fin hf (Fr.refl _ _) hnew⟩
  · simp only [wGt, decide_eq_true_eq] at hg
    exact ⟨by rw [pcheck, if_pos (by omega)], fr_fin hf (Fr.refl _ _) hnew⟩
  · simp only [wLt, wGt, decide_eq_false_iff_not] at hl hg
    have f1 := fr_fin hf (Fr.refl _ _) hnew
    refine (behind_ok (w := wc) (by omega) (by omega : n ≤ 32)).mono ?_
    rintro e w' ⟨he, hk⟩
    refine ⟨_, he, keep_of hf hk, a % 2 ^ (32 - n.toNat), fun _ _ => ?_, fun hz w1 hf1 => ?_, fun hz w1 hf1 => ?_⟩
    · rw [← and_mask (32 - n.toNat) h0 h1 (by omega)]; exact and_run
    · simp only [wNe, bne_iff_ne] at hz
      exact ⟨by rw [pcheck, if_neg (by omega), if_neg hz], fr_fin hf1 (f1.trans hk (by simp)) hnew⟩
    · simp only [wNe, bne_eq_false_iff_eq] at hz
      exact ⟨by rw [pcheck, if_neg (by omega), if_pos hz], fr_fin hf1 (f1.trans hk (by simp)) hnew⟩

theorem ain_ok {x a n : Int} {w : World} (h0 : 0 ≤ a) (h1 : a < 4294967296) (h2 : 0 ≤ x) (h3 : x < 4294967296) : Ans 34 [vu32 x, .agg #[vu32 a, vi64 n]] w (.bool (pin x a n)) := by
  refine of_ain x a n held0 ?_
  intro b hb _ wc hf
  have hnew : ∀ x ∈ [b], w.heap.size ≤ x := by simpa using hb
  have f1 := fr_fin hf (Fr.refl _ _) hnew
  refine (acheck_ok (w := wc) (n := n) h0 h1).mono ?_
  rintro e w' ⟨he, hk⟩
  have f2 := f1.trans hk (by simp)
  refine ⟨_, he, keep_of hf hk, fun hz wd hg => ?_, fun hz wd hg => ?_⟩
  · simp only [wEq, beq_iff_eq] at hz
    have hn : 0 ≤ n ∧ n ≤ 32 := by
      unfold pcheck at hz
      by_cases hh : n < 0 ∨ 32 < n
      · rw [if_pos hh] at hz; omega
      · omega
    have f3 := fr_fin hg f2 hnew
    refine (behind_ok (w := wd) hn.1 hn.2).mono ?_
    rintro e' w'' ⟨he', hk'⟩
    refine ⟨_, he', keep_of hg hk', x - x % 2 ^ (32 - n.toNat), fun _ _ => ?_, fun w1 hf1 => ⟨?_, fr_fin hf1 (f3.trans hk' (by simp)) hnew⟩⟩
    · rw [← andNot_mask (32 - n.toNat) h2 h3 (by omega)]; exact andNot_run
    · simp [pin, hz, wEq, BEq.beq]
  · simp only [wEq, beq_eq_false_iff_ne] at hz
    exact ⟨by simp [pin, hz], fr_fin hg f2 hnew⟩

def portsF (a b : Int) : Bool := decide (a ≤ b) && decide (b ≤ 65535)
def finF (a b p : Int) : Bool := decide (a ≤ p) && decide (p ≤ b)
theorem ports_ok {a b : Int} {w : World} : Ans 32 [.agg #[vu32 a, vu32 b]] w (.bool (portsF a b)) := by
  refine of_ports a b held0 ?_
  intro c hc _
  have hnew : ∀ x ∈ [c], w.heap.size ≤ x := by simpa using hc
  refine ⟨fun hl w1 hf => ⟨by simp only [wLe] at hl; simp [hl, wLe, portsF, finF], fr_fin hf (Fr.refl _ _) hnew⟩, fun hl w1 hf => ⟨by simp only [wLe] at hl; simp [hl, portsF, finF], fr_fin hf (Fr.refl _ _) hnew⟩⟩

theorem fin_ok {a b p : Int} {w : World} (h0 : 0 ≤ p) (h1 : p ≤ 65535) : Ans 35 [.agg #[vu32 a, vu32 b], vu16 p] w (.bool (finF a b p)) := by
  refine of_fin a b p held0 ?_
  intro c hc _
  have hnew : ∀ x ∈ [c], w.heap.size ≤ x := by simpa using hc
  have hw : wWrap .u32 p p := wu32 (by omega)
  refine ⟨p, hw, fun hl => ⟨p, hw, fun w1 hf => ⟨by simp only [wLe] at hl; simp [hl, wLe, portsF, finF], fr_fin hf (Fr.refl _ _) hnew⟩⟩, fun hl w1 hf => ⟨by simp only [wLe] at hl; simp [hl, portsF, finF], fr_fin hf (Fr.refl _ _) hnew⟩⟩

end Go.Proofs.Ytnbbnokjbopcbaa
