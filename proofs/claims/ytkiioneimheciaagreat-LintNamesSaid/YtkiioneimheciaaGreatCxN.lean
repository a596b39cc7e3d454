/- The doer is right, part 11: code, and calls. WHAT THE DOER COMES TO, THE CALL COMES TO. -/
import Derived.Test.YtkiioneimheciaaGreatCxM
set_option linter.all false
namespace Go.Cx
open Go Go.Sx

section
variable {P : Program} {Y : Tys} {self : Self} {fns : Fns} {exts : Exts} {K : Nat → Prop} {w0 : World} {nt : Nat}

theorem apartT_spec {d : List Tk} : ∀ {l : List Tk}, apartT d l = true → ∀ t ∈ l, t ∉ d
  | [], _, t, ht => by cases ht
  | x :: r, h, t, ht => by
    simp only [apartT] at h
    cases hb : hasT d x <;> rw [hb] at h
    · cases ht with
      | head => exact fun hm => by rw [hasT_mem.2 hm] at hb; cases hb
      | tail _ ht => exact apartT_spec h t ht
    · cases h

theorem Hp.ok.drew {h : Hp} {τ : Tau} {w w' : World} (H : Hp.ok K w0 τ h w) (hw : w'.heap = w.heap) (ho : w'.os = w.os) (ht : w'.tape = w.tape) (hu : w'.output = w.output) : Hp.ok K w0 τ h w' :=
  ⟨⟨by rw [hw]; exact H.size, H.kin, fun b hb => by rw [hw]; exact H.same b hb, ho.trans H.os, ht.trans H.tape, hu.trans H.output⟩, H.dom, fun t o e => by
    obtain ⟨b, c, h1, h2, h3⟩ := H.live t o e
    exact ⟨b, c, h1, h2, h3.of_same (by rw [hw])⟩, H.inj⟩

theorem region_ok (hE : EnvOk P Y fns exts) (hS : SelfOk P Y self) {id : Nat} {ops : Array Oper} {draw : Bool} {c : CC} {τ : Tau} {st st' : St} {e : CE} {a : Act} {w : World} (hc : ccR Y nt ops draw = some c) (h : ex self fns exts c st = some (e, st')) (R : Rep K w0 τ nt st a w) :
    (Code.region id ops draw).wp P (Qc K w0 τ nt st e st') a w := by
  simp only [ccR] at hc
  cases draw
  · simp only [cond_false] at hc
    split at hc
    · rename_i l hl
      cases hc
      simp only [ex] at h
      split at h
      · rename_i st2 hrun
        cases h
        refine wp_region ?_
        have := runL_ok (Q := Qc K w0 τ nt st .normal st') hE hS ops.toList 0 (st := st) (st' := st') (τ := τ) (a := a) (w := w) rfl hl hrun R fun τ' a' w' nd h1 h2 h3 => ⟨rfl, τ', nd, h1, h2, h3⟩
        rw [List.range_eq_range']
        simpa using this
      · cases h
    · cases hc
  · simp only [cond_true] at hc
    cases hns : Region.noSelect ops <;> rw [hns] at hc
    · cases hc
    · simp only [cond_true] at hc
      split at hc
      · rename_i l hl
        cases hc
        simp only [ex] at h
        split at h
        · rename_i st2 hrun
          cases h
          unfold drawC at hrun
          split at hrun
          · rename_i stF tcF hdr
            have hap : apartT stF.dirty tcF = true := by
              cases hb : apartT stF.dirty tcF
              · rw [hb] at hrun; cases hrun
              · rfl
            have hst := cond_some hrun
            simp only [Option.some.injEq] at hst
            subst hst
            have her : ∀ {ps : List Tk} {t : T CV} {p : Tk} {v : CV}, (eraseT ps t).get p = some v → t.get p = some v := by
              intro ps
              induction ps with
              | nil => intro t p v h; exact h
              | cons q ps ih =>
                intro t p v h
                have := ih h
                rw [T.get_put] at this
                split at this
                · cases this
                · exact this
            have her2 : ∀ {ps : List Tk} {t : T CV} {p : Tk}, p ∈ ps → (eraseT ps t).get p = none := by
              intro ps
              induction ps with
              | nil => intro t p h; cases h
              | cons q ps ih =>
                intro t p h
                cases h with
                | head =>
                  cases hg : (eraseT (q :: ps) t).get q with
                  | none => rfl
                  | some v =>
                    have := her (ps := ps) hg
                    rw [T.get_put, if_pos rfl] at this; cases this
                | tail _ h => exact ih h
            have R' : Rep (withB K []) w0 τ nt { st with sl := eraseT (eraseO Y nt ops.toList) st.sl, dirty := [] } a { w with drawn := w.drawn + 1 } := ⟨R.nodef, R.size, fun t u ht hu => R.slots t u ht (her hu), Hp.ok.less (K := withB K []) (K' := K) (R.heap.drew rfl rfl rfl rfl) fun b hb => by
              rcases hb with hb | ⟨x, hx, _⟩
              · exact hb
              · cases hx⟩
            refine wp_region_any hE.mixed (wpAny_of_L (S := Ph τ st.h.at_.get stF.dirty (actsAt Y 0 ops.toList)) _ _ _ _ ?_)
            have := drawL_ok (Q := Qc K w0 τ nt st .normal { stF with dirty := stF.dirty ++ st.dirty }) (K := K) (w0 := w0) (nt := nt) hE hS hns (fun c a w hq => by obtain ⟨h1, _⟩ := hq; cases h1) (view_of R.heap) (stF := stF) (tcF := tcF) (D := stF.dirty) (fun t ht => ht) (apartT_spec hap)
              ops.size (List.replicate ops.size false) l hl (by simp) ops.size (List.replicate ops.size false) [] (by simp) (fun j _ => by simp) (by simp) (by simp) (by simp)
              { st with sl := eraseT (eraseO Y nt ops.toList) st.sl, dirty := [] } [] τ a w0 { w with drawn := w.drawn + 1 } hdr (fun x hx => by cases hx) (fun i o d h1 h2 h3 h4 => ?_) R' (Old.refl R.heap.kin) (Tau.le.refl τ) (fun p q _ hq => hq) fun τ' a' w' nd h1 h2 h3 => ⟨rfl, τ', nd, h1, ⟨h2.nodef, h2.size, h2.slots, h2.heap⟩, by
                have e : stF.dirty = nd := by rw [h3.dirty]; simp
                exact ⟨by rw [e], h3.keep⟩⟩
            · rw [show (List.replicate ops.size false).toArray = Array.replicate ops.size false from by simp] at this
              exact this
            · refine her2 ?_
              unfold eraseO
              refine List.mem_filterMap.2 ⟨i, List.mem_range.2 (by simpa using (Array.getElem?_eq_some_iff.1 h3).1), ?_⟩
              have h3' : ops.toList[i]? = some o := by simpa using h3
              rw [h1, h3']
              simp [h4]
          · cases hrun
        · cases h
      · cases hc

theorem Qc.seq {τ τ1 : Tau} {st st1 st2 : St} {nd : List Tk} {e : CE} {x : Exit} {a : Act} {w : World} (h1 : τ.le τ1) (hm : Mv st st1 nd) (h : Qc K w0 τ1 nt st1 e st2 x a w) : Qc K w0 τ nt st e st2 x a w :=
  let ⟨hx, τ', nd', k1, k2, k3⟩ := h
  ⟨hx, τ', nd' ++ nd, h1.trans k1, k2, hm.trans k3⟩

theorem ex_loop {n : Nat} {b : CC} {st : St} : go fns exts (n + 1) (.loop b) st = (match ex (go fns exts n) fns exts b st with
    | some (e, st') => match e with
      | .normal => go fns exts n (.loop b) st'
      | e => some (e, st')
    | none => none) := rfl

theorem ex_dirty (hm : MonoSelf self) : ∀ {c : CC} {st st' : St} {e : CE}, ex self fns exts c st = some (e, st') → ∃ nd, st'.dirty = nd ++ st.dirty
  | .skip, st, st', e, h => by cases h; exact ⟨[], rfl⟩
  | .exit _, st, st', e, h => by cases h; exact ⟨[], rfl⟩
  | .ret, st, st', e, h => by cases h; exact ⟨[], rfl⟩
  | .run l, st, st', e, h => by
    simp only [ex] at h
    split at h
    · rename_i st2 h2; cases h; exact runL_dirty hm h2
    · cases h
  | .draw er l, st, st', e, h => by
    simp only [ex] at h
    split at h
    · rename_i st2 h2
      cases h
      unfold drawC at h2
      split at h2
      · have := cond_some h2; cases this; exact ⟨_, rfl⟩
      · cases h2
    · cases h
  | .seq x y, st, st', e, h => by
    simp only [ex] at h
    split at h
    · rename_i e1 st1 h1
      obtain ⟨n1, e1'⟩ := ex_dirty hm h1
      split at h
      · obtain ⟨n2, e2⟩ := ex_dirty hm h
        exact ⟨n2 ++ n1, by rw [e2, e1', List.append_assoc]⟩
      · cases h; exact ⟨n1, e1'⟩
    · cases h
  | .cond c x y, st, st', e, h => by
    simp only [ex] at h
    split at h
    · rename_i t _
      cases t
      · exact ex_dirty hm (c := y) h
      · exact ex_dirty hm (c := x) h
    · cases h
  | .block id x, st, st', e, h => by
    simp only [ex] at h
    split at h
    · rename_i e1 st1 h1
      obtain ⟨n1, e1'⟩ := ex_dirty hm h1
      split at h
      · rename_i i
        cases hb : Nat.beq i id <;> rw [hb] at h <;> cases h <;> exact ⟨n1, e1'⟩
      · cases h; exact ⟨n1, e1'⟩
    · cases h
  | .loop x, st, st', e, h => by
    simp only [ex] at h
    split at h
    · rename_i e1 st1 h1
      obtain ⟨n1, e1'⟩ := ex_dirty hm h1
      split at h
      · obtain ⟨n2, e2⟩ := hm _ _ _ _ h
        exact ⟨n2 ++ n1, by rw [e2, e1', List.append_assoc]⟩
      · cases h; exact ⟨n1, e1'⟩
    · cases h

theorem loop_ok {code : Code} {b : CC} {e : CE} {stF : St} (N : Nat) (hb : ∀ n, n < N → ∀ τ st a w e st', ex (go fns exts n) fns exts b st = some (e, st') → Rep K w0 τ nt st a w → SelfOk P Y (go fns exts n) → code.wp P (Qc K w0 τ nt st e st') a w) (hS : ∀ n, n < N → SelfOk P Y (go fns exts n)) :
    ∀ {τ : Tau} {st : St} {a : Act} {w : World}, go fns exts N (.loop b) st = some (e, stF) → Rep K w0 τ nt st a w → (Code.loop code).wp P (Qc K w0 τ nt st e stF) a w := by
  intro τ st a w h R
  refine wp_loop_n (fun m a' w' => m ≤ N ∧ ∃ st1 τ1 nd, go fns exts m (.loop b) st1 = some (e, stF) ∧ Rep K w0 τ1 nt st1 a' w' ∧ τ.le τ1 ∧ Mv st st1 nd) N ⟨Nat.le_refl _, st, τ, [], h, R, Tau.le.refl τ, Mv.refl st⟩ ?_
  rintro m a' w' ⟨hm, st1, τ1, nd, h1, R1, hle, hmv⟩
  cases m with
  | zero => cases h1
  | succ m =>
    rw [ex_loop] at h1
    split at h1
    · rename_i e2 st2 hx
      refine wp_mono (hb m (by omega) τ1 st1 a' w' e2 st2 hx R1 (hS m (by omega))) fun x a2 w2 hq => ?_
      obtain ⟨rfl, τ2, nd2, k1, k2, k3⟩ := hq
      cases e2 with
      | normal => exact ⟨m, by omega, by omega, st2, τ2, nd2 ++ nd, h1, k2, hle.trans k1, hmv.trans k3⟩
      | exit id => cases h1; exact ⟨rfl, τ2, nd2 ++ nd, hle.trans k1, k2, hmv.trans k3⟩
      | ret => cases h1; exact ⟨rfl, τ2, nd2 ++ nd, hle.trans k1, k2, hmv.trans k3⟩
    · cases h1

theorem ex_ok (hE : EnvOk P Y fns exts) (n : Nat) (hS : ∀ m, m ≤ n → SelfOk P Y (go fns exts m)) : ∀ (code : Code) (m : Nat), m ≤ n → ∀ {c : CC} {τ : Tau} {st st' : St} {e : CE} {a : Act} {w : World}, cc Y nt code = some c → ex (go fns exts m) fns exts c st = some (e, st') → Rep K w0 τ nt st a w → code.wp P (Qc K w0 τ nt st e st') a w
  | .skip, m, hm, c, τ, st, st', e, a, w, hc, h, R => by cases hc; cases h; exact wp_skip ⟨rfl, τ, [], Tau.le.refl τ, R, Mv.refl st⟩
  | .label l, m, hm, c, τ, st, st', e, a, w, hc, h, R => by cases hc; cases h; exact wp_label ⟨rfl, τ, [], Tau.le.refl τ, R, Mv.refl st⟩
  | .region id ops draw, m, hm, c, τ, st, st', e, a, w, hc, h, R => by
    simp only [cc] at hc
    cases hc
    cases hr : ccR Y nt ops draw with
    | none => rw [hr] at h; cases h
    | some c => rw [hr] at h; exact region_ok hE (hS m hm) hr h R
  | .seq x y, m, hm, c, τ, st, st', e, a, w, hc, h, R => by
    simp only [cc] at hc
    split at hc
    · rename_i cx cy hx hy
      cases hc
      simp only [ex] at h
      split at h
      · rename_i e1 st1 h1
        refine wp_seq (wp_mono (ex_ok hE n hS x m hm hx h1 R) fun q a' w' hq => ?_)
        cases e1 with
        | normal =>
          obtain ⟨rfl, τ1, nd, k1, k2, k3⟩ := hq
          refine wp_mono (ex_ok hE n hS y m hm hy h k2) fun q a2 w2 hq2 => hq2.seq k1 k3
        | exit id =>
          cases h
          have hq' := hq
          obtain ⟨rfl, _⟩ := hq
          exact hq'
        | ret =>
          cases h
          have hq' := hq
          obtain ⟨rfl, _⟩ := hq
          exact hq'
      · cases h
    · cases hc
  | .cond b x y, m, hm, c, τ, st, st', e, a, w, hc, h, R => by
    simp only [cc] at hc
    split at hc
    · rename_i u cx cy hu hx hy
      cases hc
      simp only [ex] at h
      split at h
      · rename_i t ht
        have hb : a.eval b = .bool t := opd_rel R.slots hu ht
        cases t
        · exact wp_cond_false hb (ex_ok hE n hS y m hm hy h R)
        · exact wp_cond_true hb (ex_ok hE n hS x m hm hx h R)
      · cases h
    · cases hc
  | .block id x, m, hm, c, τ, st, st', e, a, w, hc, h, R => by
    simp only [cc] at hc
    split at hc
    · rename_i cx hx
      cases hc
      simp only [ex] at h
      split at h
      · rename_i e1 st1 h1
        refine wp_block (wp_mono (ex_ok hE n hS x m hm hx h1 R) fun q a' w' hq => ?_)
        obtain ⟨rfl, τ1, nd, k1, k2, k3⟩ := hq
        cases e1 with
        | normal => cases h; exact ⟨rfl, τ1, nd, k1, k2, k3⟩
        | ret => cases h; exact ⟨rfl, τ1, nd, k1, k2, k3⟩
        | exit i =>
          simp only at h
          show Exit.inBlock id _ (.exit i) a' w'
          simp only [Exit.inBlock]
          cases hb : Nat.beq i id <;> rw [hb] at h
          · cases h
            rw [if_neg (Nat.ne_of_beq_eq_false hb)]
            exact ⟨rfl, τ1, nd, k1, k2, k3⟩
          · cases h
            rw [if_pos (Nat.eq_of_beq_eq_true hb)]
            exact ⟨rfl, τ1, nd, k1, k2, k3⟩
      · cases h
    · cases hc
  | .loop x, m, hm, c, τ, st, st', e, a, w, hc, h, R => by
    simp only [cc] at hc
    split at hc
    · rename_i cx hx
      cases hc
      have h' : go fns exts (m + 1) (.loop cx) st = some (e, st') := by rw [ex_loop]; exact h
      exact loop_ok (m + 1) (fun k hkn τ st a w e st' hk R hSk => ex_ok hE n hS x k (by omega) hx hk R) (fun k hk => hS k (by omega)) h' R
    · cases hc
  | .exit id, m, hm, c, τ, st, st', e, a, w, hc, h, R => by cases hc; cases h; exact wp_exit ⟨rfl, τ, [], Tau.le.refl τ, R, Mv.refl st⟩
  | .ret, m, hm, c, τ, st, st', e, a, w, hc, h, R => by cases hc; cases h; exact wp_ret ⟨rfl, τ, [], Tau.le.refl τ, R, Mv.refl st⟩
  | .rangeFunc _ _ _ _, m, hm, c, τ, st, st', e, a, w, hc, h, R => by cases hc; cases h
  | .scope _, m, hm, c, τ, st, st', e, a, w, hc, h, R => by cases hc; cases h
  | .goto _, m, hm, c, τ, st, st', e, a, w, hc, h, R => by cases hc; cases h
  | .refuse _, m, hm, c, τ, st, st', e, a, w, hc, h, R => by cases hc; cases h

theorem go_ok (hE : EnvOk P Y fns exts) : ∀ n, SelfOk P Y (go fns exts n) := by
  intro n
  induction n using Nat.strongRecOn with
  | _ n ih =>
    cases n with
    | zero => exact ⟨(fun nt code c K w0 τ st a w e st' _ h _ => by cases h), (fun c st e st' h => by cases h)⟩
    | succ n =>
      have hS : ∀ m, m ≤ n → SelfOk P Y (go fns exts m) := fun m hm => ih m (by omega)
      exact ⟨(fun nt code c K w0 τ st a w e st' hc h R => ex_ok hE n hS code n (Nat.le_refl _) hc h R), (fun c st e st' h => ex_dirty (hS n (Nat.le_refl _)).2 (c := c) h)⟩

/-- WHAT THE DOER ANSWERS, FROM NOTHING, THE CALL ANSWERS, in whatever world; and nothing that was there turns. -/
theorem callF_ok (hE : EnvOk P Y fns exts) {n : Nat} {f : FuncId} {vs : List CV} {xs : List Value} {v : CV} {st' : St} {fn : CFn} (hf : fns (at_ f) = some fn) (hv : CV.rels (fun _ => none) vs xs) (h : callF fns exts n f vs = some (v, st')) (w : World) :
    Calls P f xs.toArray w fun e w' => ∃ τ x, e = .returned x ∧ v.rel τ x ∧ Old (· < w.heap.size) w w' := by
  have H : Hp.ok (· < w.heap.size) w (fun _ => none) (⟨.nil, .e⟩ : Hp) w := ⟨Old.refl (fun _ h => h), (fun t p e => by cases e), (fun t o e => by rw [T.get_nil] at e; cases e), (fun t u o o' b c c' _ e => by rw [T.get_nil] at e; cases e)⟩
  have := (body_ok hE (go_ok hE n) hf h hv H).2
  refine Calls.mono this fun e w' he => ?_
  obtain ⟨τ', x, nd, rfl, h1, h2, h3, h4, h5⟩ := he
  exact ⟨τ', x, rfl, h2, h3.toOld⟩

end
end Go.Cx
