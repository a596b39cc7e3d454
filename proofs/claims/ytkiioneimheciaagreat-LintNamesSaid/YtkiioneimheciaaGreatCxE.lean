/- The doer is right, part 2: what the operations that only read come to. -/
import Derived.Test.YtkiioneimheciaaGreatCxD
set_option linter.all false
namespace Go.Cx
open Go Go.Sx

/-- The blocks as they are seen stand in the world. -/
def View (τ : Tau) (g : Gt) (w : World) : Prop := ∀ t o, g t = some o → ∃ b c, τ t = some (b, c) ∧ o.ok τ w b c

section
variable {P : Program} {Y : Tys} {τ : Tau} {sl : T CV} {g : Gt} {a : Act} {w : World}

theorem add_plain (b o n : Nat) : Addr.add ⟨b, o, none⟩ n = ⟨b, o + n, none⟩ := by
  unfold Addr.add; split
  · simp_all
  · rfl

theorem cell_of {b c o : Nat} {k : Blk} {v : CV} (hk : k.ok τ w b c) (h : cellC k o = some v) : ∃ x, w.cell? ⟨b, o, none⟩ = some x ∧ v.rel τ x := by
  unfold cellC at h
  cases hb : Nat.blt o k.len
  · rw [hb] at h; cases h
  · rw [hb] at h
    obtain ⟨⟨arr, h1, h2, _⟩, _⟩ := hk
    obtain ⟨x, hx, hr⟩ := h2 o v (by simpa using hb) h
    exact ⟨x, by simp only [World.cell?, h1]; simpa using hx, hr⟩

theorem range_of {b c : Nat} {k : Blk} (hk : k.ok τ w b c) : ∀ {n o : Nat} {l : List CV}, rangeC k o n = some l → l.length = n ∧ ∃ xs, CV.rels τ l xs ∧ ∀ (j : Nat) (y : Value), xs[j]? = some y → w.cell? ⟨b, o + j, none⟩ = some y
  | 0, o, l, h => by cases h; exact ⟨rfl, [], rfl, fun j y hj => by simp at hj⟩
  | n + 1, o, l, h => by
    simp only [rangeC] at h
    split at h
    · rename_i v hv
      split at h
      · rename_i vs hvs
        cases h
        obtain ⟨x, hx, hr⟩ := cell_of hk hv
        obtain ⟨h1, xs, h2, h3⟩ := range_of hk hvs
        refine ⟨by simp [h1], x :: xs, ⟨x, xs, rfl, hr, h2⟩, fun j y hj => ?_⟩
        cases j with
        | zero => simp at hj; subst hj; exact hx
        | succ j =>
          have := h3 j y (by simpa using hj)
          rw [show o + (j + 1) = Nat.succ o + j from by rw [Nat.succ_eq_add_one]; omega]; exact this
      · cases h
    · cases h

theorem run_ld (hY : TysOk P Y) (hv : View τ g w) {t : TypeId} {e : TE} (he : lk Y.T t = some e) (ha : isAggD e.d = false) {tk : Tk} {o : Nat} {k : Blk} {v : CV} {x : Value} (hx : CV.rel τ (.ptr tk o) x)
    (hg : g tk = some (.cells k)) (hc : cellC k o = some v) : ∃ y, v.rel τ y ∧ (Instr.loadAt t x).run P w = .ok y w := by
  obtain ⟨b, c, h1, rfl⟩ := hx
  obtain ⟨b', c', h2, hk⟩ := hv tk _ hg
  rw [h1] at h2; cases h2
  obtain ⟨y, hy, hr⟩ := cell_of hk hc
  exact ⟨y, hr, load_one (Tab.get_ok hY.tab he) ha hy⟩

theorem run_ldn (hY : TysOk P Y) (hv : View τ g w) {t : TypeId} {e : TE} (he : lk Y.T t = some e) (ha : isAggD e.d = true) {tk : Tk} {o : Nat} {k : Blk} {l : List CV} {x : Value} (hx : CV.rel τ (.ptr tk o) x)
    (hg : g tk = some (.cells k)) (hc : rangeC k o e.size = some l) : ∃ y, CV.rel τ (.agg l) y ∧ (Instr.loadAt t x).run P w = .ok y w := by
  obtain ⟨b, c, h1, rfl⟩ := hx
  obtain ⟨b', c', h2, hk⟩ := hv tk _ hg
  rw [h1] at h2; cases h2
  obtain ⟨hl, xs, hr, hcell⟩ := range_of hk hc
  exact ⟨_, ⟨xs, hr, rfl⟩, load_agg (Tab.get_ok hY.tab he) ha (by rw [rels_length hr, hl]) hcell⟩

theorem le_not (x y : Int) : decide (x ≤ y) = !decide (y < x) := by
  by_cases h : y < x
  · simp [h]
  · simp [h, Int.not_lt.1 h]

theorem binI_run {op : BinOp} {k : IntKind} {x y : Int} {v : CV} (h : binI op k x y = some v) (t : TypeId) : ∃ z, v.rel τ z ∧ (binOp op t (.int k x) (.int k y)).run P w = .ok z w := by
  have lift : ∀ {k : IntKind} {a b : Nat}, Nat.ble a (mostN k) = true → Nat.ble b (mostN k) = true → a < 2 ^ k.bits ∧ b < 2 ^ k.bits := fun {k a b} ha hb => by
    have ha := Nat.le_of_ble_eq_true ha
    have hb := Nat.le_of_ble_eq_true hb
    cases k <;> simp [mostN, IntKind.bits] at * <;> omega
  have small : ∀ {k : IntKind} {n : Nat}, n ≤ mostN k → k.wrap (n : Int) = n := fun {k n} hn => by
    have := wrapC_eq k (n : Int)
    rw [← this]
    show (bif Nat.ble n (mostN k) then Int.ofNat n else _) = _
    rw [Nat.ble_eq_true_of_le hn]; rfl
  have most : ∀ {k : IntKind}, ∃ p, mostN k + 1 = 2 ^ p := fun {k} => by
    cases k
    · exact ⟨7, rfl⟩
    · exact ⟨15, rfl⟩
    · exact ⟨31, rfl⟩
    · exact ⟨63, rfl⟩
    · exact ⟨8, rfl⟩
    · exact ⟨16, rfl⟩
    · exact ⟨32, rfl⟩
    · exact ⟨64, rfl⟩
  cases op <;> simp only [binI] at h
  case add => cases h; exact ⟨_, rfl, by simp [binOp, Op.intArith, wrapC_eq] <;> rfl⟩
  case sub => cases h; exact ⟨_, rfl, by simp [binOp, Op.intArith, wrapC_eq] <;> rfl⟩
  case mul => cases h; exact ⟨_, rfl, by simp [binOp, Op.intArith, wrapC_eq] <;> rfl⟩
  case quo =>
    cases hz : eqI y 0
    · rw [hz] at h; cases h
      have : y ≠ 0 := fun e => by rw [eqI_eq, e] at hz; simp at hz
      exact ⟨_, rfl, by simp [binOp, Op.intDiv, this, wrapC_eq]⟩
    · rw [hz] at h; cases h
  case rem =>
    cases hz : eqI y 0
    · rw [hz] at h; cases h
      have : y ≠ 0 := fun e => by rw [eqI_eq, e] at hz; simp at hz
      exact ⟨_, rfl, by simp [binOp, Op.intDiv, this]⟩
    · rw [hz] at h; cases h
  case eql => cases h; exact ⟨_, rfl, by simp [binOp, Op.intCmp, eqI_eq]⟩
  case neq => cases h; exact ⟨_, rfl, by simp [binOp, Op.intCmp, eqI_eq]; rfl⟩
  case lss => cases h; exact ⟨_, rfl, by simp [binOp, Op.intCmp, ltI_eq]⟩
  case leq => cases h; exact ⟨_, rfl, by simp [binOp, Op.intCmp, ltI_eq, le_not]⟩
  case gtr => cases h; exact ⟨_, rfl, by simp [binOp, Op.intCmp, ltI_eq]⟩
  case geq => cases h; exact ⟨_, rfl, by simp [binOp, Op.intCmp, ltI_eq, le_not]⟩
  case and =>
    split at h
    · rename_i a b
      cases hc : (Nat.ble a (mostN k) && Nat.ble b (mostN k))
      · rw [hc] at h; cases h
      · rw [hc] at h; cases h
        simp only [Bool.and_eq_true] at hc
        obtain ⟨h1, h2⟩ := lift hc.1 hc.2
        refine ⟨_, rfl, ?_⟩
        have e : k.wrap ((BitVec.ofInt k.bits (Int.ofNat a) &&& BitVec.ofInt k.bits (Int.ofNat b)).toNat : Int) = ((Nat.land a b : Nat) : Int) := by
          rw [BitVec.toNat_and]
          simp only [Int.ofNat_eq_natCast, BitVec.ofInt_natCast, BitVec.toNat_ofNat, Nat.mod_eq_of_lt h1, Nat.mod_eq_of_lt h2]
          exact small (Nat.le_trans Nat.and_le_left (Nat.le_of_ble_eq_true hc.1))
        show (binOp _ _ _ _).run P w = _
        simp only [binOp, Op.intBits, ne_eq, not_true_eq_false, if_false, Sem.run_pure, e]
        rfl
    · cases h
  case or =>
    split at h
    · rename_i a b
      cases hc : (Nat.ble a (mostN k) && Nat.ble b (mostN k))
      · rw [hc] at h; cases h
      · rw [hc] at h; cases h
        simp only [Bool.and_eq_true] at hc
        obtain ⟨h1, h2⟩ := lift hc.1 hc.2
        refine ⟨_, rfl, ?_⟩
        have e : k.wrap ((BitVec.ofInt k.bits (Int.ofNat a) ||| BitVec.ofInt k.bits (Int.ofNat b)).toNat : Int) = ((Nat.lor a b : Nat) : Int) := by
          rw [BitVec.toNat_or]
          simp only [Int.ofNat_eq_natCast, BitVec.ofInt_natCast, BitVec.toNat_ofNat, Nat.mod_eq_of_lt h1, Nat.mod_eq_of_lt h2]
          obtain ⟨p, hp⟩ := most (k := k)
          have h3 := Nat.le_of_ble_eq_true hc.1
          have h4 := Nat.le_of_ble_eq_true hc.2
          refine small (k := k) (n := a ||| b) ?_
          have := Nat.or_lt_two_pow (x := a) (y := b) (n := p) (by omega) (by omega)
          omega
        show (binOp _ _ _ _).run P w = _
        simp only [binOp, Op.intBits, ne_eq, not_true_eq_false, if_false, Sem.run_pure, e]
        rfl
    · cases h
  case xor =>
    split at h
    · rename_i a b
      cases hc : (Nat.ble a (mostN k) && Nat.ble b (mostN k))
      · rw [hc] at h; cases h
      · rw [hc] at h; cases h
        simp only [Bool.and_eq_true] at hc
        obtain ⟨h1, h2⟩ := lift hc.1 hc.2
        refine ⟨_, rfl, ?_⟩
        have e : k.wrap ((BitVec.ofInt k.bits (Int.ofNat a) ^^^ BitVec.ofInt k.bits (Int.ofNat b)).toNat : Int) = ((Nat.xor a b : Nat) : Int) := by
          rw [BitVec.toNat_xor]
          simp only [Int.ofNat_eq_natCast, BitVec.ofInt_natCast, BitVec.toNat_ofNat, Nat.mod_eq_of_lt h1, Nat.mod_eq_of_lt h2]
          obtain ⟨p, hp⟩ := most (k := k)
          have h3 := Nat.le_of_ble_eq_true hc.1
          have h4 := Nat.le_of_ble_eq_true hc.2
          refine small (k := k) (n := a ^^^ b) ?_
          have := Nat.xor_lt_two_pow (x := a) (y := b) (n := p) (by omega) (by omega)
          omega
        show (binOp _ _ _ _).run P w = _
        simp only [binOp, Op.intBits, ne_eq, not_true_eq_false, if_false, Sem.run_pure, e]
        rfl
    · cases h
  all_goals cases h

theorem shiftI_run {left : Bool} {k j : IntKind} {x y : Int} {v : CV} (h : shiftI left k x y = some v) (t : TypeId) : ∃ z, v.rel τ z ∧ (binOp (if left then .shl else .shr) t (.int k x) (.int j y)).run P w = .ok z w := by
  unfold shiftI at h
  split at h
  · rename_i n
    have hy : ¬ ((Int.ofNat n) < 0) := by simp
    have hn : (Int.ofNat n).toNat = n := rfl
    have ep : ∀ m : Nat, (Int.ofNat (Nat.pow 2 m)) = (2 : Int) ^ m := fun m => by
      show ((2 ^ m : Nat) : Int) = _
      simp
    have em : ∀ a b : Int, Int.mul a b = a * b := fun _ _ => rfl
    cases left
    · simp only [cond_false] at h
      cases hb : Nat.ble n k.bits
      · rw [hb] at h; cases h
        have : k.bits < n := by
          by_cases hh : n ≤ k.bits
          · rw [Nat.ble_eq_true_of_le hh] at hb; cases hb
          · omega
        exact ⟨_, rfl, by simp only [Bool.false_eq_true, if_false, binOp, Op.shift, hy, hn, show min n k.bits = k.bits from by omega, Sem.run_pure, ep]⟩
      · rw [hb] at h; cases h
        have := Nat.le_of_ble_eq_true hb
        exact ⟨_, rfl, by simp only [Bool.false_eq_true, if_false, binOp, Op.shift, hy, hn, show min n k.bits = n from by omega, Sem.run_pure, ep]⟩
    · simp only [cond_true] at h
      cases hb : Nat.ble n k.bits
      · rw [hb] at h; cases h
        have : k.bits < n := by
          by_cases hh : n ≤ k.bits
          · rw [Nat.ble_eq_true_of_le hh] at hb; cases hb
          · omega
        exact ⟨_, rfl, by simp only [if_true, binOp, Op.shift, hy, if_false, hn, show min n k.bits = k.bits from by omega, Sem.run_pure, ep, em, wrapC_eq]⟩
      · rw [hb] at h; cases h
        have := Nat.le_of_ble_eq_true hb
        exact ⟨_, rfl, by simp only [if_true, binOp, Op.shift, hy, if_false, hn, show min n k.bits = n from by omega, Sem.run_pure, ep, em, wrapC_eq]⟩
  · cases h

/-- Between what a `==` compares, nothing else is asked. -/
theorem guard_int (op : BinOp) (t : TypeId) (x y : Operand) (k j : IntKind) (m n : Int) : (eqGuard op t x y (.int k m) (.int j n)).run P w = .ok () w := by
  cases op <;> simp [eqGuard]

theorem binC_run {op : BinOp} {u v r : CV} (h : binC op u v = some r) (t : TypeId) (x' y' : Operand) {x y : Value} (hx : u.rel τ x) (hy : v.rel τ y) :
    ∃ z, r.rel τ z ∧ (do eqGuard op t x' y' x y; binOp op t x y : Sem Value).run P w = .ok z w := by
  unfold binC at h
  split at h
  · rename_i k m j n
    cases hx; cases hy
    simp only [Sem.run_bind, guard_int, Result.andThen_ok]
    split at h
    · exact shiftI_run (left := true) h t
    · exact shiftI_run (left := false) h t
    · cases hs : IntKind.same k j
      · rw [hs] at h; cases h
      · rw [hs] at h
        have := same_eq hs; subst this
        exact binI_run h t
  · rename_i m n
    cases hx; cases hy
    split at h
    · cases h
      exact ⟨_, rfl, by simp [eqGuard, binOp, Op.stringOp, strEq_list]⟩
    · cases h
      exact ⟨_, rfl, by simp [eqGuard, binOp, Op.stringOp, strEq_list]⟩
    · cases h
  · cases h

end
end Go.Cx
