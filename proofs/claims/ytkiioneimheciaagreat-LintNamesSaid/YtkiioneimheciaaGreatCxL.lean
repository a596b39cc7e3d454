/- The doer is right, part 9: regions. -/
import Derived.Test.YtkiioneimheciaaGreatCxK
set_option linter.all false
namespace Go.Cx
open Go Go.Sx

/-! ### what is marked only grows -/
theorem storeC_dirty {st st' : St} {t : Tk} {b : Blk} {o : Nat} {vs : List CV} (h : storeC st t b o vs = some st') : st'.dirty = [t] ++ st.dirty := by
  unfold storeC at h
  cases hc : (Nat.ble (o + vs.length) b.len && vs.all CV.plain) <;> rw [hc] at h <;> cases h
  rfl
theorem newC_dirty {st st' : St} {o : Ob} {k : Tk → CV} {v : CV} (h : newC st o k = some (v, st')) : st'.dirty = [] ++ st.dirty := by
  rw [newC_eq] at h; cases h; rfl
theorem cond_some {α : Type} {b : Bool} {x : Option α} {y : α} (h : (bif b then x else none) = some y) : x = some y := by
  cases b
  · cases h
  · exact h
theorem appC_dirty {st st' : St} {e s b : Nat} {x y v : CV} (h : appC st e s b x y = some (v, st')) : ∃ nd, st'.dirty = nd ++ st.dirty := by
  unfold appC at h
  split at h
  · cases h
  · split at h
    · cases h; exact ⟨[], rfl⟩
    · split at h
      · have h := cond_some h; cases h; exact ⟨[], rfl⟩
      · cases h
    · cases h
  · split at h
    · cases h
    · have h := cond_some h
      split at h
      · exact ⟨_, newC_dirty (cond_some h)⟩
      · split at h
        · have h := cond_some h
          rename_i b' _ _
          cases hq2 : (Nat.ble _ b'.len && Nat.ble _ b'.len) <;> rw [hq2] at h
          · simp only [cond_false] at h
            have h := cond_some (cond_some h)
            split at h
            · exact ⟨_, newC_dirty (cond_some h)⟩
            · exact ⟨[_], newC_dirty (cond_some h)⟩
          · simp only [cond_true] at h
            split at h
            · rename_i st2 hst
              cases h
              exact ⟨_, storeC_dirty hst⟩
            · cases h
        · cases h
      · cases h

theorem doC_dirty {st st' : St} {c : COp} {v : CV} (h : doC st c = some (v, st')) : ∃ nd, st'.dirty = nd ++ st.dirty := by
  have rd : ∀ {c : COp}, (match pureC st.sl st.h.at_.get c with | some v => some (v, st) | none => none) = some (v, st') → ∃ nd, st'.dirty = nd ++ st.dirty := fun {c} h => by
    split at h
    · cases h; exact ⟨[], rfl⟩
    · cases h
  have sto : ∀ {t : Tk} {b : Blk} {o : Nat} {vs : List CV} {u : CV}, (match storeC st t b o vs with | some st' => some (u, st') | none => none) = some (v, st') → ∃ nd, st'.dirty = nd ++ st.dirty := fun {t b o vs u} h => by
    split at h
    · rename_i st2 hst; cases h; exact ⟨_, storeC_dirty hst⟩
    · cases h
  cases c <;> simp only [doC] at h
  case app => (repeat' split at h) <;> first | (cases h; done) | exact appC_dirty h
  case new => exact ⟨_, newC_dirty h⟩
  case box => (repeat' split at h) <;> first | (cases h; done) | exact ⟨_, newC_dirty (cond_some h)⟩
  case bslice => (repeat' split at h) <;> first | (cases h; done) | exact ⟨_, newC_dirty h⟩
  case mkmap => exact ⟨_, newC_dirty h⟩
  case mksl => (repeat' split at h) <;> first | (cases h; done) | exact ⟨_, newC_dirty (cond_some h)⟩
  case st =>
    split at h
    · split at h
      · exact sto (cond_some h)
      · cases h
    · cases h
  case mupd =>
    split at h
    · have h := cond_some h
      (repeat' split at h) <;> first | (cases h; done) | (cases h; exact ⟨[_], rfl⟩)
    · cases h
  case ment =>
    split at h
    · have h := cond_some h
      (repeat' split at h) <;> first | (cases h; done) | (cases h; exact ⟨[_], rfl⟩)
    · cases h
  case est => (repeat' split at h) <;> first | (cases h; done) | (cases h; exact ⟨[_], rfl⟩)
  case clr =>
    split at h
    · cases h; exact ⟨[], rfl⟩
    · rename_i l _ _
      cases hl : Nat.beq _ 0 <;> rw [hl] at h
      · simp only [cond_false] at h
        split at h
        · exact sto h
        · cases h
      · cases h; exact ⟨[], rfl⟩
    · cases h
  case copy =>
    split at h
    · split at h
      · split at h
        · exact sto h
        · cases h
      · cases h
    · split at h
      · cases h; exact ⟨[], rfl⟩
      · cases h
    · cases h
  all_goals first | exact rd h | (cases h; done)

section
variable {P : Program} {Y : Tys} {self : Self} {fns : Fns} {exts : Exts} {K : Nat → Prop} {w0 w : World} {τ : Tau} {a : Act} {nt : Nat} {Q : Exit → Act → World → Prop}

abbrev MonoSelf (self : Self) : Prop := ∀ c st e st', self c st = some (e, st') → ∃ nd, st'.dirty = nd ++ st.dirty

theorem callC_dirty (hm : MonoSelf self) {st st' : St} {f : FuncId} {vs : List CV} {v : CV} (h : callC self fns exts st f vs = some (v, st')) : ∃ nd, st'.dirty = nd ++ st.dirty := by
  unfold callC at h
  split at h
  · have h := cond_some h
    split at h
    · rename_i e st2 hrun
      obtain ⟨nd, hd⟩ := hm _ _ _ _ hrun
      split at h
      · cases h
      · split at h
        · cases h; exact ⟨nd, hd⟩
        · cases h
    · cases h
  · split at h
    · split at h
      · cases h; exact ⟨[], rfl⟩
      · cases h
    · cases h
theorem actC_dirty (hm : MonoSelf self) {st st' : St} {c : COp} {v : CV} (h : actC self fns exts st c = some (v, st')) : ∃ nd, st'.dirty = nd ++ st.dirty := by
  unfold actC at h
  split at h
  · split at h
    · exact callC_dirty hm h
    · cases h
  · exact doC_dirty h
theorem putC_dirty {st : St} {d : Option Tk} {v : CV} : (putC st d v).dirty = st.dirty := by cases d <;> rfl
theorem runL_dirty (hm : MonoSelf self) : ∀ {l : List Stp} {st st' : St}, runL self fns exts l st = some st' → ∃ nd, st'.dirty = nd ++ st.dirty
  | [], st, st', h => by cases h; exact ⟨[], rfl⟩
  | s :: r, st, st', h => by
    simp only [runL] at h
    split at h
    · split at h
      · rename_i v st1 h1
        obtain ⟨n1, e1⟩ := actC_dirty hm h1
        obtain ⟨n2, e2⟩ := runL_dirty hm h
        exact ⟨n2 ++ n1, by rw [e2, putC_dirty, e1, List.append_assoc]⟩
      · cases h
    · obtain ⟨n2, e2⟩ := runL_dirty hm h
      exact ⟨n2, by rw [e2, putC_dirty]⟩
    · cases h
theorem drawL_dirty (hm : MonoSelf self) {g0 : Gt} : ∀ {l : List Stp} {st st' : St} {tc tc' : List Tk}, drawL self fns exts g0 l st tc = some (st', tc') → (∃ nd, st'.dirty = nd ++ st.dirty) ∧ ∃ nt, tc' = nt ++ tc
  | [], st, st', tc, tc', h => by cases h; exact ⟨⟨[], rfl⟩, [], rfl⟩
  | s :: r, st, st', tc, tc', h => by
    simp only [drawL] at h
    split at h
    · obtain ⟨⟨n2, e2⟩, n3, e3⟩ := drawL_dirty hm h
      exact ⟨⟨n2, by rw [e2, putC_dirty]⟩, n3, e3⟩
    · cases hs : s.sole <;> rw [hs] at h
      · simp only [cond_false] at h
        split at h
        · obtain ⟨⟨n2, e2⟩, n3, e3⟩ := drawL_dirty hm h
          refine ⟨⟨n2, by rw [e2, putC_dirty]⟩, ?_⟩
          cases hc : s.cert <;> rw [hc] at e3
          · simp only [cond_false] at e3
            split at e3
            · rename_i t _; exact ⟨n3 ++ [t], by rw [e3]; simp⟩
            · exact ⟨n3, e3⟩
          · exact ⟨n3, e3⟩
        · cases h
      · simp only [cond_true] at h
        split at h
        · rename_i v st1 h1
          obtain ⟨n1, e1⟩ := actC_dirty hm h1
          obtain ⟨⟨n2, e2⟩, n3, e3⟩ := drawL_dirty hm h
          exact ⟨⟨n2 ++ n1, by rw [e2, putC_dirty, e1, List.append_assoc]⟩, n3, e3⟩
        · cases h
    · cases h

/-! ### an act -/
/-- What follows an act of an operation. -/
theorem act_ok (hE : EnvOk P Y fns exts) (hS : SelfOk P Y self) {o : Oper} {c : COp} (hc : comp Y o = some c) {st st' : St} {v : CV} (h : actC self fns exts st c = some (v, st')) (R : Rep K w0 τ nt st a w) {next : Act → World → Prop}
    (hk : ∀ τ' x w' nd, τ.le τ' → v.rel τ' x → Hp.ok K w0 τ' st'.h w' → st'.sl = st.sl → Mv st st' nd → (c.pure = true ∨ c.makes = true → nd = []) → next (a.put o.dst x) w') : o.wp P a w next Q := by
  unfold actC at h
  split at h
  · rename_i fo args
    split at h
    · rename_i f a1 b1 vs hf hvs
      obtain ⟨dst, op, type, pos, after, guard⟩ := o
      -- only a call comes to a call
      have hop : ∃ cl : Call, op = .call cl ∧ ∃ fx, cl.callee = .value fx ∧ opd fx = some fo ∧ mapO opd cl.args.toList = some args := by
        cases op
        case call c' =>
          obtain ⟨callee, cargs, ats⟩ := c'
          cases callee
          case value fx =>
            simp only [comp] at hc
            split at hc
            · rename_i u1 u2 k1 k2
              cases hc
              exact ⟨_, rfl, fx, rfl, k1, k2⟩
            · cases hc
          case invoke => cases hc
          case builtin b =>
            exfalso
            have hp : ∀ st : St, True := fun _ => trivial
            cases b <;> (try (cases hc; done)) <;> simp only [comp] at hc <;> (repeat' split at hc) <;> first
              | (cases hc; done)
              | (obtain ⟨o, ho, hh⟩ := one1_some hc; cases hh; done)
              | (have hc := cond_some hc; first
                  | (obtain ⟨o, p, ho, hpp, hh⟩ := two2_some hc; cases hh; done)
                  | (obtain ⟨o, ho, hh⟩ := one1_some hc; cases hh; done))
              | (obtain ⟨o, p, ho, hpp, hh⟩ := two2_some hc; cases hh; done)
        all_goals exfalso
        case unOp uop t x => cases uop <;> (try (cases hc; done)); obtain ⟨o, ho, hh⟩ := one1_some hc; cases hh
        case makeFunc fn first caps =>
          cases fn <;> (try (simp [comp] at hc; done))
          simp only [comp] at hc
          split at hc <;> cases hc
        case makeMap t r => cases r <;> cases hc
        case slice t x lo hi mx =>
          cases mx with
          | some m => simp [comp] at hc
          | none =>
            simp only [comp] at hc
            (repeat' split at hc) <;> first
              | (cases hc; done)
              | (have hc := cond_some hc; cases hc; done)
        all_goals
          simp only [comp] at hc
          (repeat' split at hc) <;> first
            | (cases hc; done)
            | (obtain ⟨o, ho, hh⟩ := one1_some hc; cases hh; done)
            | (obtain ⟨o, p, ho, hpp, hh⟩ := two2_some hc; cases hh; done)
            | (obtain ⟨o, p, q, ho, hpp, hq, hh⟩ := three3_some hc; cases hh; done)
            | (have hc := cond_some hc; first
                | (cases hc; done)
                | (obtain ⟨o, ho, hh⟩ := one1_some hc; cases hh; done)
                | (obtain ⟨o, p, ho, hpp, hh⟩ := two2_some hc; cases hh; done))
            | (cases hq : isAggD _ <;> rw [hq] at hc <;> simp only [cond_true, cond_false] at hc <;> first
                | (obtain ⟨o, ho, hh⟩ := one1_some hc; cases hh; done)
                | (obtain ⟨o, p, ho, hpp, hh⟩ := two2_some hc; cases hh; done)
                | (cases hc; done))
            | (cases hq : Nat.beq _ 0 <;> rw [hq] at hc <;> simp only [cond_true, cond_false] at hc <;> first
                | (obtain ⟨o, ho, hh⟩ := one1_some hc; cases hh; done)
                | (cases hc; done))
      obtain ⟨cl, rfl, fx, hcl, ho, hargs⟩ := hop
      obtain ⟨callee, cargs, ats⟩ := cl
      simp only at hcl hargs
      subst hcl
      obtain ⟨xs, ys, r1, r2, r3⟩ := opd_rel R.slots ho hf
      have rv := opds_rel R.slots hargs hvs
      have rall := rels_append (rels_append r1 rv) r2
      have hx : (execOp a.eval ⟨dst, .call ⟨.value fx, cargs, ats⟩, type, pos, after, guard⟩).run P w = (callFunc f (xs ++ cargs.toList.map a.eval ++ ys).toArray).run P w := by
        have e2 : (xs ++ cargs.toList.map a.eval ++ ys).toArray = xs.toArray ++ (cargs.map a.eval) ++ ys.toArray := by
          apply Array.ext'; simp
        rw [e2]
        simp [execOp, resolve, r3, Deferred.ofValue, invoke]
      cases hfn : fns (at_ f) with
      | some fn =>
        obtain ⟨hcall, hcalls⟩ := body_ok hE hS hfn h rall R.heap
        unfold Oper.wp
        rw [hx, hcall, Oper.upon_enter]
        refine Calls.mono hcalls fun e w' he => ?_
        obtain ⟨τ', x, nd, rfl, h1, h2, h3, h4, h5⟩ := he
        exact hk τ' x w' nd h1 h2 h3 h4 h5 (fun hh => by rcases hh with hh | hh <;> cases hh)
      | none =>
        unfold callC at h
        rw [hfn] at h
        simp only at h
        split at h
        · rename_i g hg
          split at h
          · rename_i u hu
            cases h
            obtain ⟨x, h1, h2⟩ := hE.exts f g hg τ _ _ _ w hu rall
            unfold Oper.wp
            rw [hx, h2]
            exact hk τ x w [] (Tau.le.refl τ) h1 R.heap rfl (Mv.refl st) (fun _ => rfl)
          · cases h
        · cases h
    · cases h
  · obtain ⟨nd, ⟨τ', w', x, h1, h2, h3, h4, h5, h6⟩, h7⟩ := doC_ok hE.tys R.slots R.heap hc h
    unfold Oper.wp
    rcases h3 with h3 | ⟨h3, hx⟩
    · rw [h3]; exact hk τ' x w' nd h1 h2 h4 h5 h6 h7
    · rw [h3]; subst hx; exact hk τ' _ w' nd h1 h2 h4 h5 h6 h7

/-! ### in the order of the text -/
theorem runL_ok (hE : EnvOk P Y fns exts) (hS : SelfOk P Y self) {ops : Array Oper} : ∀ (r : List Oper) (i : Nat) {l : List Stp} {st st' : St} {τ : Tau} {a : Act} {w : World}, ops.toList.drop i = r → seqO Y nt ops.toList i r = some l → runL self fns exts l st = some st' → Rep K w0 τ nt st a w →
    (∀ τ' a' w' nd, τ.le τ' → Rep K w0 τ' nt st' a' w' → Mv st st' nd → Q .normal a' w') → wpOps P ops Q (List.range' i r.length) a w
  | [], i, l, st, st', τ, a, w, hd, hl, h, R, hk => by
    cases hl; cases h
    simp only [List.length_nil, List.range'_zero, wpOps]
    exact hk τ a w [] (Tau.le.refl τ) R (Mv.refl st)
  | o :: r, i, l, st, st', τ, a, w, hd, hl, h, R, hk => by
    have ho : ops[i]? = some o := by
      have : (ops.toList.drop i)[0]? = some o := by rw [hd]; rfl
      simpa using this
    have hd' : ops.toList.drop (i + 1) = r := by
      have : (ops.toList.drop i).drop 1 = r := by rw [hd]; rfl
      rwa [List.drop_drop] at this
    simp only [seqO] at hl
    split at hl
    · rename_i s hs
      split at hl
      · rename_i l' hl'
        cases hl
        unfold stpO at hs
        split at hs
        · rename_i d g c hdst hg hc
          cases hs
          simp only [List.length_cons, List.range'_succ, wpOps, ho]
          simp only [runL] at h
          split at h
          · rename_i hw
            rw [want_ok R hg hw]
            simp only [if_true]
            split at h
            · rename_i v st1 h1
              refine .inl (act_ok hE hS hc h1 R fun τ' x w' nd g1 g2 g3 g4 g5 _ => ?_)
              have R1 : Rep K w0 τ' nt (putC st1 d v) (a.put o.dst x) w' := (R.mono_sl g1 g4 g3).put hdst g2
              refine runL_ok hE hS r (i + 1) hd' hl' h R1 fun τ2 a2 w2 nd2 k1 k2 k3 => hk τ2 a2 w2 (nd2 ++ nd) (g1.trans k1) k2 ?_
              exact g5.trans ⟨by rw [k3.dirty, putC_dirty], fun p q hp hq => k3.keep p q hp (by cases d <;> exact hq)⟩
            · cases h
          · rename_i hw
            rw [want_ok R hg hw]
            simp only [Bool.false_eq_true, if_false]
            have R1 : Rep K w0 τ nt (putC st d undefC) (a.put o.dst undef) w := R.put hdst undef_rel
            refine runL_ok hE hS r (i + 1) hd' hl' h R1 fun τ2 a2 w2 nd2 k1 k2 k3 => hk τ2 a2 w2 nd2 k1 k2 ?_
            exact ⟨by rw [k3.dirty, putC_dirty], fun p q hp hq => k3.keep p q hp (by cases d <;> exact hq)⟩
          · cases h
        · cases hs
      · cases hl
    · cases hl

end

end Go.Cx
