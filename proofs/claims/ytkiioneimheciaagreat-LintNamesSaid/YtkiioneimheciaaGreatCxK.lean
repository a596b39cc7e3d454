/- The doer is right, part 8: calls, and regions in whatever order they run. -/
import Derived.Test.YtkiioneimheciaaGreatCxJ
set_option linter.all false
namespace Go.Cx
open Go Go.Sx

def CE.exit' : CE → Exit
  | .normal => .normal
  | .exit id => .exit id
  | .ret => .ret

/-- The doer's state is what the frame and the world hold. -/
structure Rep (K : Nat → Prop) (w0 : World) (τ : Tau) (nt : Nat) (st : St) (a : Act) (w : World) : Prop where
  nodef : a.defers = []
  size : a.tmps.size = nt
  slots : SlOk τ st.sl a.tmps
  heap : Hp.ok K w0 τ st.h w

/-- What a piece of code comes to. -/
def Qc (K : Nat → Prop) (w0 : World) (τ : Tau) (nt : Nat) (st : St) (e : CE) (st' : St) : Exit → Act → World → Prop := fun x a w =>
  x = e.exit' ∧ ∃ τ' nd, τ.le τ' ∧ Rep K w0 τ' nt st' a w ∧ Mv st st' nd

structure EnvOk (P : Program) (Y : Tys) (fns : Fns) (exts : Exts) : Prop where
  tys : TysOk P Y
  fns : ∀ p fn, fns p = some fn → ∃ func, P.funcs[fn.id]? = some func ∧ fnO Y fn.id func = some fn ∧ ∀ args w, (callFunc fn.id args).run P w = .ok (.enter fn.id args) w
  exts : ∀ f g, exts f = some g → ∀ τ vs v xs w, g vs = some v → CV.rels τ vs xs → ∃ x, v.rel τ x ∧ (callFunc f xs.toArray).run P w = .ok (.value x) w
  mixed : P.follows .mixedOrders = true

def SelfOk (P : Program) (Y : Tys) (self : Self) : Prop :=
  (∀ nt code c (K : Nat → Prop) w0 τ st a w e st', cc Y nt code = some c → self c st = some (e, st') → Rep K w0 τ nt st a w → code.wp P (Qc K w0 τ nt st e st') a w) ∧
  ∀ c st e st', self c st = some (e, st') → ∃ nd, st'.dirty = nd ++ st.dirty

section
variable {P : Program} {Y : Tys} {self : Self} {fns : Fns} {exts : Exts} {K : Nat → Prop} {w0 w : World} {τ : Tau} {a : Act} {nt : Nat}

theorem Rep.mono_sl {st : St} (R : Rep K w0 τ nt st a w) {τ' : Tau} (h : τ.le τ') {st' : St} (hs : st'.sl = st.sl) {w' : World} (hh : Hp.ok K w0 τ' st'.h w') : Rep K w0 τ' nt st' a w' :=
  ⟨R.nodef, R.size, by rw [hs]; exact R.slots.mono h, hh⟩

theorem Rep.put {st : St} (R : Rep K w0 τ nt st a w) {d : Option Tmp} {p : Option Tk} (hd : dstO nt d = some p) {v : CV} {x : Value} (hx : v.rel τ x) : Rep K w0 τ nt (putC st p v) (a.put d x) w := by
  cases d with
  | none => cases hd; exact R
  | some d =>
    simp only [dstO] at hd
    cases hb : (Nat.blt d nt && Nat.blt d 18446744073709551616) <;> rw [hb] at hd <;> cases hd
    simp only [Bool.and_eq_true] at hb
    have h1 : d < nt := by simpa using hb.1
    have h2 : d < 2 ^ depth := by have h : d < 18446744073709551616 := by simpa using hb.2
                                  exact h
    refine ⟨R.nodef, by simp [Act.put, R.size], fun t u ht hu => ?_, R.heap⟩
    simp only [putC, T.get_put] at hu
    simp only [Act.put, Array.getD_eq_getD_getElem?, Array.getElem?_setIfInBounds]
    by_cases htd : t = d
    · subst htd
      rw [if_pos rfl] at hu
      cases hu
      rw [if_pos rfl, if_pos (by rw [R.size]; exact h1)]
      exact hx
    · rw [if_neg (fun e => htd (at_inj ht h2 e))] at hu
      rw [if_neg (fun e => htd e.symm), ← Array.getD_eq_getD_getElem?]
      exact R.slots t u ht hu

theorem want_ok {st : St} (R : Rep K w0 τ nt st a w) {ops : Array Oper} {o : Oper} {g : Option (Tk × Bool)} (hg : guardO ops.toList o.guard = some g) {b : Bool} (h : wantC st.sl g = some b) : Region.wanted o (yielded ops a.tmps) = b := by
  unfold Region.wanted
  cases hgu : o.guard with
  | none =>
    rw [hgu] at hg
    cases hg; cases h; rfl
  | some jw =>
    obtain ⟨j, want⟩ := jw
    rw [hgu] at hg
    simp only [guardO] at hg
    split at hg
    · rename_i oj hoj
      split at hg
      · rename_i d hd
        cases hb : Nat.blt d 18446744073709551616 <;> rw [hb] at hg <;> cases hg
        have h2 : d < 2 ^ depth := by have h : d < 18446744073709551616 := by simpa using hb
                                      exact h
        have hd' : (ops[j]?).bind (·.dst) = some d := by
          have : ops[j]? = some oj := by simpa using hoj
          rw [this]; exact hd
        simp only [wantC] at h
        split at h
        · rename_i c hc
          have hr : a.tmps.getD d undef = .bool c := R.slots d _ h2 hc
          have h3 : a.tmps[d]? = some (.bool c) := by
            rw [Array.getD_eq_getD_getElem?] at hr
            cases hq : a.tmps[d]? with
            | none => rw [hq] at hr; simp [undef] at hr
            | some q => rw [hq] at hr; simpa using hr
          cases h
          show (yielded ops a.tmps j == some want) = _
          unfold yielded
          rw [hd']
          simp only [Option.bind_some, h3]
          cases c <;> cases want <;> rfl
        · rename_i l hc
          obtain ⟨xs, _, hr⟩ := R.slots d _ h2 hc
          cases h
          show (yielded ops a.tmps j == some want) = _
          unfold yielded
          rw [hd']
          simp only [Option.bind_some]
          cases hq : a.tmps[d]? with
          | none => rfl
          | some q =>
            rw [Array.getD_eq_getD_getElem?, hq] at hr
            simp only [Option.getD_some] at hr; subst hr; rfl
        · cases h
      · cases hg
    · cases hg

/-! ### calls -/
theorem res_ok (hY : TysOk P Y) {st : St} (R : Rep K w0 τ nt st a w) : ∀ {rs : List ResultVar} {cs : List CRes} {l : List CV}, resO Y rs = some cs → resC st cs = some l → ∃ xs, CV.rels τ l xs ∧ (rs.mapM (resOne a.tmps)).run P w = .ok xs w
  | [], cs, l, h, k => by cases h; cases k; exact ⟨[], rfl, by simp⟩
  | .tmp t :: r, cs, l, h, k => by
    simp only [resO] at h
    cases hb : Nat.blt t 18446744073709551616 <;> rw [hb] at h
    · cases h
    · simp only [cond_true] at h
      have h2 : t < 2 ^ depth := by have h : t < 18446744073709551616 := by simpa using hb
                                    exact h
      split at h
      · rename_i cs' hcs
        cases h
        simp only [resC] at k
        split at k
        · rename_i v vs hv hvs
          cases k
          obtain ⟨xs, h3, h4⟩ := res_ok hY R hcs hvs
          exact ⟨_, ⟨_, xs, rfl, R.slots t v h2 hv, h3⟩, by simp [List.mapM_cons, resOne, h4]⟩
        · cases k
      · cases h
  | .cell ad t :: r, cs, l, h, k => by
    simp only [resO] at h
    cases hb : Nat.blt ad 18446744073709551616 <;> rw [hb] at h
    · cases h
    · simp only [cond_true] at h
      have h2 : ad < 2 ^ depth := by have h : ad < 18446744073709551616 := by simpa using hb
                                     exact h
      split at h
      · rename_i e cs' he hcs
        cases h
        simp only [resC] at k
        split at k
        · rename_i tk o vs hv hvs
          obtain ⟨xs, h3, h4⟩ := res_ok hY R hcs hvs
          have hp := R.slots ad _ h2 hv
          simp only [blkAt] at k
          split at k
          · rename_i blk hk
            split at hk
            · rename_i blk' hg
              cases hk
              have fin : ∀ {v : CV} {x : Value}, v.rel τ x → (Instr.loadAt t (a.tmps.getD ad undef)).run P w = .ok x w → ∃ xs, CV.rels τ (v :: vs) xs ∧ ((.cell ad t :: r : List ResultVar).mapM (resOne a.tmps)).run P w = .ok xs w := fun {v x} hr hl => by
                obtain ⟨b, c, e1, e2⟩ := hp
                rw [e2] at hl
                refine ⟨x :: xs, ⟨x, xs, rfl, hr, h3⟩, ?_⟩
                simp only [Instr.loadAt, Instr.sureAddr, Sem.run_bind, Sem.run_pure, Result.andThen_ok] at hl
                simp [List.mapM_cons, resOne, e2, asAddr, hl, h4]
              cases ha : isAggD e.d
              · rw [ha] at k
                simp only [cond_false] at k
                split at k
                · rename_i v hc
                  cases k
                  obtain ⟨x, h5, h6⟩ := run_ld hY (view_of R.heap) he ha hp hg hc
                  exact fin h5 h6
                · cases k
              · rw [ha] at k
                simp only [cond_true] at k
                split at k
                · rename_i l' hc
                  cases k
                  obtain ⟨x, h5, h6⟩ := run_ldn hY (view_of R.heap) he ha hp hg hc
                  exact fin h5 h6
                · cases k
            · cases hk
          · cases k
        · cases k
      · cases h

theorem oneC_rel {l : List CV} {xs : List Value} (h : CV.rels τ l xs) : (oneC l).rel τ (if h : xs.toArray.size = 1 then xs.toArray[0] else .tuple xs.toArray) := by
  have hl := rels_length h
  match l, h with
  | [], h => cases h; exact ⟨[], rfl, rfl⟩
  | [v], h => obtain ⟨y, ys, rfl, h1, h2⟩ := h; cases h2; simpa [oneC] using h1
  | v :: u :: r, h =>
    have h' := h
    obtain ⟨y, ys, rfl, h1, z, zs, rfl, h2, h3⟩ := h
    simp only [oneC]
    rw [dif_neg (by simp)]
    exact ⟨_, h', rfl⟩

/-- What a call of the doer's comes to. -/
theorem body_ok (hE : EnvOk P Y fns exts) (hS : SelfOk P Y self) {st st' : St} {f : FuncId} {fn : CFn} {vs : List CV} {v : CV} (hf : fns (at_ f) = some fn) (h : callC self fns exts st f vs = some (v, st')) {xs : List Value} (hr : CV.rels τ vs xs) (H : Hp.ok K w0 τ st.h w) :
    (∀ args w, (callFunc f args).run P w = .ok (.enter f args) w) ∧ Calls P f xs.toArray w fun e w' => ∃ τ' x nd, e = .returned x ∧ τ.le τ' ∧ v.rel τ' x ∧ Hp.ok K w0 τ' st'.h w' ∧ st'.sl = st.sl ∧ Mv st st' nd := by
  unfold callC at h
  rw [hf] at h
  simp only at h
  cases hb : (Nat.beq fn.id f && Nat.ble vs.length fn.nt && Nat.ble fn.nt 65536) <;> rw [hb] at h
  · cases h
  · simp only [cond_true] at h
    simp only [Bool.and_eq_true] at hb
    have hid := Nat.eq_of_beq_eq_true hb.1.1
    have hnt := Nat.le_of_ble_eq_true hb.1.2
    have hnt2 := Nat.le_of_ble_eq_true hb.2
    have hdep : (65536 : Nat) < 2 ^ depth := by decide
    obtain ⟨func, f1, f2, f3⟩ := hE.fns _ _ hf
    rw [hid] at f1 f2 f3
    refine ⟨f3, ?_⟩
    split at h
    · rename_i e st2 hrun
      unfold fnO at f2
      split at f2
      · rename_i code hcode
        split at f2
        · rename_i x r hx hres
          cases f2
          simp only at hnt hnt2 hrun h
          refine calls_of_wp f1 hcode ?_
          have hlen := rels_length hr
          have R0 : Rep K w0 τ func.ntmps { st with sl := layT 0 vs .nil } { tmps := xs.toArray ++ Array.replicate (func.ntmps - xs.toArray.size) undef, defers := [] } w := by
            refine ⟨rfl, by simp; omega, fun t u ht hu => ?_, H⟩
            have hsm : vs.length ≤ 2 ^ depth := by omega
            simp only at hu
            rw [layT_get vs 0 .nil t (by omega) ht] at hu
            split at hu
            · rename_i hlt
              obtain ⟨y, hy, hry⟩ := rels_get hr (by simpa using hu)
              have hlt' : t < xs.length := by rw [hlen]; omega
              rw [Array.getD_eq_getD_getElem?, Array.getElem?_append_left (by simpa using hlt')]
              simp only [List.getElem?_toArray, hy, Option.getD_some]
              exact hry
            · rw [T.get_nil] at hu; cases hu
          refine wp_mono (hS.1 _ _ _ _ _ _ _ _ _ _ _ hx hrun R0) fun e' a' w' hq => ?_
          obtain ⟨rfl, τ', nd, h1, R', h3⟩ := hq
          have fin : (match resC st2 r with
              | some l => some (oneC l, { st2 with sl := st.sl })
              | none => none) = some (v, st') → a'.defers = [] ∧ ∃ v0, (results func a'.tmps).run P w' = .ok v0 w' ∧ ∃ τ' x nd, (Ending.returned v0) = .returned x ∧ τ.le τ' ∧ v.rel τ' x ∧ Hp.ok K w0 τ' st'.h w' ∧ st'.sl = st.sl ∧ Mv st st' nd := fun h => by
            split at h
            · rename_i l hl
              cases h
              obtain ⟨ys, h4, h5⟩ := res_ok hE.tys R' hres hl
              refine ⟨R'.nodef, _, ?_, τ', _, nd, rfl, h1, oneC_rel h4, R'.heap, rfl, ⟨h3.dirty, h3.keep⟩⟩
              have e0 : results func a'.tmps = (do let vs ← func.results.mapM (resOne a'.tmps); pure (if h : vs.size = 1 then vs[0] else .tuple vs)) := by
                unfold results
                congr 2
              have e1 : func.results.mapM (resOne a'.tmps) = List.toArray <$> func.results.toList.mapM (resOne a'.tmps) := by
                rw [← List.mapM_toArray, Array.toArray_toList]
              rw [e0, e1]
              simp only [Sem.run_bind, Sem.run_map, h5, Result.andThen_ok, Sem.run_pure]
            · cases h
          cases e with
          | exit id => cases h
          | normal => exact fin h
          | ret => exact fin h
        · cases f2
      · cases f2
    · cases h

end
end Go.Cx
