/- The doer is right, part 1: operands, and the operations that only read. -/
import Derived.Test.YtkiioneimheciaaGreatCxC
import Derived.Laws.StructEq
set_option linter.all false
namespace Go.Cx
open Go Go.Sx

/-! ### plain helps -/
theorem mapO_get {α β : Type} {f : α → Option β} : ∀ {l : List α} {m : List β}, mapO f l = some m → m.length = l.length ∧ ∀ (i : Nat) (y : β), m[i]? = some y → ∃ x, l[i]? = some x ∧ f x = some y
  | [], m, h => by cases h; exact ⟨rfl, fun i y hy => by simp at hy⟩
  | x :: r, m, h => by
    simp only [mapO] at h
    split at h
    · rename_i y hy
      split at h
      · rename_i ys hys
        cases h
        obtain ⟨h1, h2⟩ := mapO_get hys
        refine ⟨by simp [h1], fun i z hz => ?_⟩
        cases i with
        | zero => simp at hz; subst hz; exact ⟨x, rfl, hy⟩
        | succ i => obtain ⟨u, hu, hf⟩ := h2 i z (by simpa using hz); exact ⟨u, by simpa using hu, hf⟩
      · cases h
    · cases h

theorem nth_eq {α : Type} : ∀ (l : List α) (n : Nat), nth l n = l[n]?
  | [], n => by simp [nth]
  | x :: r, n => by
    simp only [nth]
    cases hb : Nat.beq n 0
    · have := Nat.ne_of_beq_eq_false hb
      obtain ⟨m, rfl⟩ : ∃ m, n = m + 1 := ⟨n - 1, by omega⟩
      simp only [cond_false]
      rw [show Nat.sub (m + 1) 1 = m from rfl, nth_eq r m]; simp
    · have := Nat.eq_of_beq_eq_true hb; subst this; rfl
theorem takeN_eq {α : Type} : ∀ {l : List α} {n : Nat} {s : List α}, takeN l n = some s → s = l.take n ∧ n ≤ l.length
  | l, 0, s, h => by cases l <;> simp [takeN] at h <;> subst h <;> simp
  | [], n + 1, s, h => by simp [takeN] at h
  | x :: r, n + 1, s, h => by
    simp only [takeN] at h
    split at h
    · rename_i t ht
      cases h
      obtain ⟨h1, h2⟩ := takeN_eq ht
      subst h1
      exact ⟨by simp, by simp; omega⟩
    · cases h
theorem dropN_eq {α : Type} : ∀ (l : List α) (n : Nat), dropN l n = l.drop n
  | l, 0 => by cases l <;> rfl
  | [], n + 1 => rfl
  | x :: r, n + 1 => by simp [dropN, dropN_eq r n]
theorem setR_length {α : Type} : ∀ (l : List α) (o : Nat) (r : List α), (setR l o r).length = l.length
  | l, o, [] => rfl
  | l, o, x :: r => by rw [setR, setR_length]; simp

theorem eqI_eq (a b : Int) : eqI a b = (a == b) := by
  have key : eqI a b = true ↔ a = b := by
    cases a <;> cases b <;> simp [eqI, Nat.beq_eq] <;> omega
  cases h : eqI a b
  · have : a ≠ b := fun e => by rw [key.2 e] at h; cases h
    simp [this]
  · simp [key.1 h]
theorem ltI_eq (a b : Int) : ltI a b = decide (a < b) := by
  have key : ltI a b = true ↔ a < b := by
    cases a <;> cases b <;> simp [ltI] <;> omega
  cases h : ltI a b
  · have : ¬ a < b := fun e => by rw [key.2 e] at h; cases h
    simp [this]
  · simp [key.1 h]
theorem wrapC_eq (k : IntKind) (n : Int) : wrapC k n = k.wrap n := by
  have in_range : ∀ {k : IntKind} {n : Int}, k.min ≤ n ∧ n ≤ k.max → k.wrap n = n := fun {k n} h => by
    cases k <;> simp [IntKind.wrap, IntKind.min, IntKind.max, IntKind.bits, IntKind.signed] at * <;> omega
  unfold wrapC
  cases n with
  | ofNat a =>
    cases hb : Nat.ble a (mostN k)
    · simp only [hb, cond_false]
    · have h := Nat.le_of_ble_eq_true hb
      simp only [hb, cond_true]
      refine (in_range ?_).symm
      cases k <;> simp [mostN, IntKind.min, IntKind.max, IntKind.bits, IntKind.signed] at * <;> omega
  | negSucc a =>
    cases hb : Nat.blt a (leastN k)
    · simp only [hb, cond_false]
    · have h : a < leastN k := by simpa using hb
      simp only [hb, cond_true]
      refine (in_range ?_).symm
      cases k <;> simp [leastN, IntKind.min, IntKind.max, IntKind.bits, IntKind.signed] at * <;> omega

theorem strEq_eq : ∀ (a b : List UInt8), strEq a b = (a == b)
  | [], [] => rfl
  | [], _ :: _ => rfl
  | _ :: _, [] => rfl
  | a :: r, b :: s => by
    simp only [strEq]
    cases hb : Nat.beq a.toNat b.toNat
    · have h := Nat.ne_of_beq_eq_false hb
      have : a ≠ b := fun e => h (by rw [e])
      simp [this]
    · have h := Nat.eq_of_beq_eq_true hb
      have : a = b := UInt8.toNat_inj.1 h
      subst this
      simp [strEq_eq r s]

/-! ### operands -/
def SlOk (τ : Tau) (sl : T CV) (tmps : Array Value) : Prop := ∀ (t : Nat) (v : CV), t < 2 ^ depth → sl.get (at_ t) = some v → v.rel τ (tmps.getD t undef)

theorem SlOk.mono {τ σ : Tau} {sl : T CV} {tmps : Array Value} (h : τ.le σ) (k : SlOk τ sl tmps) : SlOk σ sl tmps := fun t v ht hv => (k t v ht hv).mono h

theorem rels_mapO {τ : Tau} {f : Value → Option CV} (hf : ∀ v c, f v = some c → c.rel τ v) : ∀ {l : List Value} {m : List CV}, mapO f l = some m → CV.rels τ m l
  | [], m, h => by cases h; exact rfl
  | x :: r, m, h => by
    simp only [mapO] at h
    split at h
    · rename_i y hy
      split at h
      · rename_i ys hys
        cases h
        exact ⟨x, r, rfl, hf _ _ hy, rels_mapO hf hys⟩
      · cases h
    · cases h

theorem ofVal_rel {τ : Tau} : ∀ (n : Nat) {v : Value} {c : CV}, ofVal n v = some c → c.rel τ v
  | 0, v, c, h => by cases h
  | n + 1, v, c, h => by
    unfold ofVal at h
    split at h
    · cases h; exact rfl
    · cases h; exact rfl
    · cases h; exact rfl
    · cases h; exact rfl
    · cases h; exact rfl
    · cases h; exact rfl
    · cases h; exact rfl
    · split at h
      · rename_i l hl
        cases h
        exact ⟨_, rels_mapO (fun v c hv => ofVal_rel n hv) hl, by simp⟩
      · cases h
    · split at h
      · rename_i l hl
        cases h
        exact ⟨_, rels_mapO (fun v c hv => ofVal_rel n hv) hl, by simp⟩
      · cases h
    · cases h

section
variable {τ : Tau} {sl : T CV} {a : Act}

theorem opd_rel (hs : SlOk τ sl a.tmps) {x : Operand} {o : Opd} (ho : opd x = some o) {v : CV} (hv : ev sl o = some v) : v.rel τ (a.eval x) := by
  cases x with
  | tmp t =>
    simp only [opd] at ho
    cases hb : Nat.blt t 18446744073709551616
    · rw [hb] at ho; cases ho
    · rw [hb] at ho
      simp only [cond_true, Option.some.injEq] at ho; subst ho
      have hb' : t < 18446744073709551616 := by simpa using hb
      exact hs t v hb' hv
  | const c =>
    simp only [opd] at ho
    split at ho
    · rename_i u hu
      cases ho; cases hv
      exact ofVal_rel _ hu
    · cases ho
  | func f =>
    simp only [opd, Option.some.injEq] at ho; subst ho
    cases hv
    exact ⟨[], [], rfl, rfl, rfl⟩
  | global g => cases ho

theorem opds_rel (hs : SlOk τ sl a.tmps) : ∀ {xs : List Operand} {os : List Opd}, mapO opd xs = some os → ∀ {vs : List CV}, mapO (ev sl) os = some vs → CV.rels τ vs (xs.map a.eval)
  | [], os, h, vs, k => by cases h; cases k; exact rfl
  | x :: r, os, h, vs, k => by
    simp only [mapO] at h
    split at h
    · rename_i y hy
      split at h
      · rename_i ys hys
        cases h
        simp only [mapO] at k
        split at k
        · rename_i v hv
          split at k
          · rename_i us hus
            cases k
            exact ⟨_, _, rfl, opd_rel hs hy hv, opds_rel hs hys hus⟩
          · cases k
        · cases k
      · cases h
    · cases h

theorem one1_some {x : Operand} {f : Opd → COp} {c : COp} (h : one1 x f = some c) : ∃ o, opd x = some o ∧ c = f o := by
  unfold one1 at h
  split at h
  · rename_i o ho; cases h; exact ⟨o, ho, rfl⟩
  · cases h
theorem two2_some {x y : Operand} {f : Opd → Opd → COp} {c : COp} (h : two2 x y f = some c) : ∃ o p, opd x = some o ∧ opd y = some p ∧ c = f o p := by
  unfold two2 at h
  split at h
  · rename_i o p ho hp; cases h; exact ⟨o, p, ho, hp, rfl⟩
  · cases h
theorem three3_some {x y z : Operand} {f : Opd → Opd → Opd → COp} {c : COp} (h : three3 x y z f = some c) : ∃ o p q, opd x = some o ∧ opd y = some p ∧ opd z = some q ∧ c = f o p q := by
  unfold three3 at h
  split at h
  · rename_i o p q ho hp hq; cases h; exact ⟨o, p, q, ho, hp, hq, rfl⟩
  · cases h
end

/-! ### one value for one -/
mutual
theorem rel_unique {τ : Tau} : ∀ {v : CV} {x y : Value}, v.rel τ x → v.rel τ y → x = y
  | .int _ _, _, _, h, k => h.trans k.symm
  | .bool _, _, _, h, k => h.trans k.symm
  | .str _, _, _, h, k => h.trans k.symm
  | .nilp, _, _, h, k => h.trans k.symm
  | .ptr _ _, _, _, h, k => by obtain ⟨b, c, h1, rfl⟩ := h; obtain ⟨b', c', h2, rfl⟩ := k; rw [h1] at h2; cases h2; rfl
  | .nils, _, _, h, k => h.trans k.symm
  | .slc _ _ _ _, _, _, h, k => by obtain ⟨b, c, h1, rfl⟩ := h; obtain ⟨b', c', h2, rfl⟩ := k; rw [h1] at h2; cases h2; rfl
  | .nilm, _, _, h, k => h.trans k.symm
  | .mp _, _, _, h, k => by obtain ⟨b, c, h1, rfl⟩ := h; obtain ⟨b', c', h2, rfl⟩ := k; rw [h1] at h2; cases h2; rfl
  | .fn _ _ _, _, _, h, k => by obtain ⟨x, y, h1, h2, rfl⟩ := h; obtain ⟨x', y', h3, h4, rfl⟩ := k; rw [rels_unique h1 h3, rels_unique h2 h4]
  | .nilf, _, _, h, k => h.trans k.symm
  | .agg _, _, _, h, k => by obtain ⟨x, h1, rfl⟩ := h; obtain ⟨x', h3, rfl⟩ := k; rw [rels_unique h1 h3]
  | .tup _, _, _, h, k => by obtain ⟨x, h1, rfl⟩ := h; obtain ⟨x', h3, rfl⟩ := k; rw [rels_unique h1 h3]
theorem rels_unique {τ : Tau} : ∀ {v : List CV} {x y : List Value}, CV.rels τ v x → CV.rels τ v y → x = y
  | [], _, _, h, k => h.trans k.symm
  | _ :: _, _, _, h, k => by obtain ⟨x, xs, rfl, h1, h2⟩ := h; obtain ⟨y, ys, rfl, k1, k2⟩ := k; rw [rel_unique h1 k1, rels_unique h2 k2]
end

/-! ### what is alike -/
def CV.leaf : CV → Value
  | .int k n => .int k n
  | .bool b => .bool b
  | .str s => .string s
  | _ => undef

theorem leaf_of_fits {τ : Tau} {l : Lf} {v : CV} {x : Value} (h : l.fits v = true) (k : v.rel τ x) : x = v.leaf := by
  cases l <;> cases v <;> simp [Lf.fits] at h <;> exact k
theorem leafs_of_fits {τ : Tau} : ∀ {ls : List Lf} {l : List CV} {xs : List Value}, fitsL ls l = true → CV.rels τ l xs → xs = l.map CV.leaf
  | [], [], _, _, k => k
  | [], _ :: _, _, h, _ => by simp [fitsL] at h
  | _ :: _, [], _, h, _ => by simp [fitsL] at h
  | a :: ls, v :: l, _, h, k => by
    obtain ⟨y, ys, rfl, k1, k2⟩ := k
    simp only [fitsL] at h
    cases hf : a.fits v
    · rw [hf] at h; cases h
    · rw [hf] at h
      rw [List.map_cons, leaf_of_fits hf k1, leafs_of_fits h k2]

/-- Values of a type are rows of plain leaves, told apart leaf by leaf. -/
structure EqOk (P : Program) (t : TypeId) (ls : List Lf) : Prop where
  und : ∃ d, (∀ w, (underlying t).run P w = .ok d w) ∧ ∀ x y, Instr.sameNow d x y = none
  chk : ∀ e l w, fitsL ls l = true → (Instr.checkKey e 10000 t (.agg (l.map CV.leaf).toArray)).run P w = .ok () w
  eq : ∀ l m r w, fitsL ls l = true → fitsL ls m = true → eqL l m = some r → (Op.equalIn 10000 t (.agg (l.map CV.leaf).toArray) (.agg (m.map CV.leaf).toArray)).run P w = .ok r w
  guard : P.eqGuardType P.depth t = false

structure TysOk (P : Program) (Y : Tys) : Prop where
  tab : Tab.ok P Y.T
  eqt : ∀ t ls, lk Y.eqt t = some ls → EqOk P t ls

theorem strEq_bytes (a b : ByteArray) : strEq a.data.toList b.data.toList = (a == b) := by
  rw [strEq_eq, beq_toListBytes, ByteArray.toList_eq, ByteArray.toList_eq]
theorem strEq_list (a b : ByteArray) : strEq a.data.toList b.data.toList = (a.toList == b.toList) := by
  rw [strEq_eq, ByteArray.toList_eq, ByteArray.toList_eq]
theorem boolEq (a b : Bool) : (bif a then b else !b) = (a == b) := by cases a <;> cases b <;> rfl

theorem fits_len : ∀ {ls : List Lf} {l : List CV}, fitsL ls l = true → l.length = ls.length
  | [], [], _ => rfl
  | [], _ :: _, h => by simp [fitsL] at h
  | _ :: _, [], h => by simp [fitsL] at h
  | a :: ls, v :: l, h => by
    simp only [fitsL] at h
    cases hf : a.fits v
    · rw [hf] at h; cases h
    · rw [hf] at h; simp [fits_len (ls := ls) (l := l) h]

theorem leaf_bits : ∀ {ls : List Lf} {l : List CV}, fitsL ls l = true → ((l.map CV.leaf).zip (l.map CV.leaf)).all (fun (x, y) => Instr.sameBits 9999 x y) = true
  | [], [], _ => rfl
  | [], _ :: _, h => by simp [fitsL] at h
  | _ :: _, [], h => by simp [fitsL] at h
  | a :: ls, v :: l, h => by
    simp only [fitsL] at h
    cases hf : a.fits v
    · rw [hf] at h; cases h
    · rw [hf] at h
      have ih := leaf_bits (ls := ls) (l := l) h
      simp only [List.map_cons, List.zip_cons_cons, List.all_cons, ih, Bool.and_true]
      cases a <;> cases v <;> simp [Lf.fits] at hf <;> simp [CV.leaf, Instr.sameBits]
      rw [beq_toListBytes]; simp

end Go.Cx
