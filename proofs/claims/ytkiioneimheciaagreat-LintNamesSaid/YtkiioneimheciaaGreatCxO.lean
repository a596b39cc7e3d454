/- For the doer's tables: what is needed of each. -/
import Derived.Test.YtkiioneimheciaaGreatCxN
import Derived.Laws.Externs
set_option linter.all false
namespace Go.Cx
open Go Go.Sx

theorem fits_int {k : IntKind} {ls : List Lf} {l : List CV} (h : fitsL (.int k :: ls) l = true) : ∃ n l', l = .int k n :: l' ∧ fitsL ls l' = true := by
  cases l with
  | nil => cases h
  | cons v l =>
    simp only [fitsL] at h
    cases hf : Lf.fits (.int k) v <;> rw [hf] at h
    · cases h
    · cases v <;> simp [Lf.fits] at hf
      rename_i j n
      rw [same_eq hf]
      exact ⟨n, l, rfl, h⟩
theorem fits_bool {ls : List Lf} {l : List CV} (h : fitsL (.bool :: ls) l = true) : ∃ n l', l = .bool n :: l' ∧ fitsL ls l' = true := by
  cases l with
  | nil => cases h
  | cons v l =>
    simp only [fitsL] at h
    cases hf : Lf.fits .bool v <;> rw [hf] at h
    · cases h
    · cases v <;> simp [Lf.fits] at hf
      rename_i n
      exact ⟨n, l, rfl, h⟩
theorem fits_str {ls : List Lf} {l : List CV} (h : fitsL (.str :: ls) l = true) : ∃ n l', l = .str n :: l' ∧ fitsL ls l' = true := by
  cases l with
  | nil => cases h
  | cons v l =>
    simp only [fitsL] at h
    cases hf : Lf.fits .str v <;> rw [hf] at h
    · cases h
    · cases v <;> simp [Lf.fits] at hf
      rename_i n
      exact ⟨n, l, rfl, h⟩
theorem fits_nil {l : List CV} (h : fitsL [] l = true) : [] = l := by cases l; rfl; cases h

/-- All leaves are the same. -/
def eqB : List CV → List CV → Bool
  | .int _ a :: r, .int _ b :: s => (a == b) && eqB r s
  | .bool a :: r, .bool b :: s => (a == b) && eqB r s
  | .str a :: r, .str b :: s => (a.toList == b.toList) && eqB r s
  | _, _ => true

theorem eqL_all : ∀ {l m : List CV} {r : Bool}, eqL l m = some r → r = eqB l m
  | [], [], r, h => by cases h; rfl
  | [], _ :: _, r, h => by cases h
  | _ :: _, [], r, h => by simp [eqL] at h
  | a :: l, b :: m, r, h => by
    simp only [eqL] at h
    cases hs : eqS a b with
    | none => rw [hs] at h; cases h
    | some q =>
      rw [hs] at h
      cases a <;> cases b <;> simp only [eqS, reduceCtorEq] at hs
      · rename_i k x j y
        have := Go.Cx.cond_some hs
        simp only [Option.some.injEq, eqI_eq] at this
        subst this
        simp only [eqB]
        cases hq : (x == y) <;> rw [hq] at h
        · cases h; rfl
        · rw [eqL_all h]; rfl
      · rename_i x y
        simp only [Option.some.injEq, boolEq] at hs
        subst hs
        simp only [eqB]
        cases hq : (x == y) <;> rw [hq] at h
        · cases h; rfl
        · rw [eqL_all h]; rfl
      · rename_i x y
        simp only [Option.some.injEq, strEq_list] at hs
        subst hs
        simp only [eqB]
        cases hq : (x.toList == y.toList) <;> rw [hq] at h
        · cases h; rfl
        · rw [eqL_all h]; rfl

/-! ### the functions -/
noncomputable def fnsT (Y : Tys) : List (FuncId × Func) → T CFn
  | [] => .nil
  | (f, fn) :: r => T.put (fnO Y f fn) (at_ f) (fnsT Y r)

def FnlOk (P : Program) : List (FuncId × Func) → Prop
  | [] => True
  | (f, fn) :: r => P.funcs[f]? = some fn ∧ (∀ args w, (callFunc f args).run P w = .ok (.enter f args) w) ∧ FnlOk P r

theorem fnsT_ok {P : Program} {Y : Tys} : ∀ {l : List (FuncId × Func)}, FnlOk P l → ∀ p fn, (fnsT Y l).get p = some fn → ∃ func, P.funcs[fn.id]? = some func ∧ fnO Y fn.id func = some fn ∧ ∀ args w, (callFunc fn.id args).run P w = .ok (.enter fn.id args) w
  | [], _, p, fn, h => by rw [fnsT, T.get_nil] at h; cases h
  | (f, func) :: r, hl, p, fn, h => by
    obtain ⟨h1, h2, h3⟩ := hl
    simp only [fnsT] at h
    rw [T.get_put] at h
    split at h
    · have hid : fn.id = f := by
        unfold fnO at h
        (repeat' split at h) <;> cases h
        rfl
      rw [hid]
      exact ⟨func, h1, h, h2⟩
    · exact fnsT_ok h3 p fn h

/-! ### functions that are written out -/
noncomputable def litT : List (FuncId × Func × CFn) → T CFn
  | [] => .nil
  | (f, _, c) :: r => T.put (some c) (at_ f) (litT r)
def LitOk (P : Program) (Y : Tys) : List (FuncId × Func × CFn) → Prop
  | [] => True
  | (f, fn, c) :: r => P.funcs[f]? = some fn ∧ (∀ args w, (callFunc f args).run P w = .ok (.enter f args) w) ∧ fnO Y f fn = some c ∧ LitOk P Y r
theorem litT_ok {P : Program} {Y : Tys} : ∀ {l : List (FuncId × Func × CFn)}, LitOk P Y l → ∀ p fn, (litT l).get p = some fn → ∃ func, P.funcs[fn.id]? = some func ∧ fnO Y fn.id func = some fn ∧ ∀ args w, (callFunc fn.id args).run P w = .ok (.enter fn.id args) w
  | [], _, p, fn, h => by rw [litT, T.get_nil] at h; cases h
  | (f, func, c) :: r, hl, p, fn, h => by
    obtain ⟨h1, h2, h4, h3⟩ := hl
    simp only [litT] at h
    rw [T.get_put] at h
    split at h
    · cases h
      have hid : c.id = f := by
        unfold fnO at h4
        (repeat' split at h4) <;> cases h4
        rfl
      rw [hid]
      exact ⟨func, h1, h4, h2⟩
    · exact litT_ok h3 p fn h

/-! ### a function without a body -/
def add64C : List CV → Option CV
  | [.int .u64 (.ofNat x), .int .u64 (.ofNat y), .int .u64 (.ofNat c)] => bif Nat.ble c 1 then some (.tup [.int .u64 (.ofNat (Nat.mod (Nat.add (Nat.add x y) c) 18446744073709551616)), .int .u64 (.ofNat (Nat.div (Nat.add (Nat.add x y) c) 18446744073709551616))]) else none
  | _ => none

theorem add64_ok {P : Program} {f : FuncId} {fn : Func} (hf : P.funcs[f]? = some fn) (hname : (fn.name == "runtime.NumGoroutine") = false) (hb : fn.body.isNone = true) (hn : Extern.findNext fn = none) (he : Extern.find fn = some add64Entry)
    {τ : Tau} {vs : List CV} {v : CV} {xs : List Value} {w : World} (h : add64C vs = some v) (hr : CV.rels τ vs xs) : ∃ x, v.rel τ x ∧ (callFunc f xs.toArray).run P w = .ok (.value x) w := by
  unfold add64C at h
  split at h
  · rename_i x y c
    cases hc : Nat.ble c 1 <;> rw [hc] at h <;> cases h
    have hc' := Nat.le_of_ble_eq_true hc
    obtain ⟨_, _, rfl, rfl, _, _, rfl, rfl, _, _, rfl, rfl, rfl⟩ := hr
    have hrun := run_add64 (P := P) (x : Int) (y : Int) (c : Int) (by omega) (by omega) (by omega) (by omega) w
    refine ⟨_, ⟨_, ⟨_, _, rfl, rfl, ⟨_, _, rfl, rfl, rfl⟩⟩, rfl⟩, ?_⟩
    rw [run_callFunc_extern hf hname hb hn he]
    have e : (add64Entry [Value.int .u64 (Int.ofNat x), Value.int .u64 (Int.ofNat y), Value.int .u64 (Int.ofNat c)].toArray).run P w = _ := hrun
    rw [e]
    simp only [Result.andThen_ok]
    congr 4
  · cases h

end Go.Cx
