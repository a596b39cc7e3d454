/- The doer is right, part 4: an operation that only reads, whichever it is. -/
import Derived.Test.YtkiioneimheciaaGreatCxF
set_option linter.all false
namespace Go.Cx
open Go Go.Sx

section
variable {P : Program} {Y : Tys} {τ : Tau} {sl : T CV} {g : Gt} {a : Act} {w : World}

theorem eqC_run (hY : TysOk P Y) {t : TypeId} {kd : EK} (hk : eqKind Y t = some kd) {u v : CV} {r : Bool} (h : eqC kd u v = some r) {x y : Value} (hx : u.rel τ x) (hy : v.rel τ y) (neg : Bool) (x' y' : Operand) :
    (do eqGuard (if neg then .neq else .eql) t x' y' x y; binOp (if neg then .neq else .eql) t x y : Sem Value).run P w = .ok (.bool (bif neg then !r else r)) w := by
  unfold eqKind at hk
  split at hk
  · rename_i e he
    have hok := Tab.get_ok hY.tab he
    have fin : ∀ {x y : Value}, (eqGuard (if neg then .neq else .eql) t x' y' x y).run P w = .ok () w → (binOp .eql t x y) = (do pure (.bool (← Op.equal t x y)) : Sem Value) → (binOp .neq t x y) = (do pure (.bool (!(← Op.equal t x y))) : Sem Value) → (Op.equalIn 10000 t x y).run P w = .ok r w →
        (do eqGuard (if neg then .neq else .eql) t x' y' x y; binOp (if neg then .neq else .eql) t x y : Sem Value).run P w = .ok (.bool (bif neg then !r else r)) w := fun {x y} h1 h2 h2' h3 => by
      simp only [Sem.run_bind, h1, Result.andThen_ok]
      cases neg
      · simp only [Bool.false_eq_true, if_false, cond_false]
        rw [h2]; simp [Op.equal, Op.maxDepth, h3]
      · simp only [if_true, cond_true]
        rw [h2']; simp [Op.equal, Op.maxDepth, h3]
    have agg : ∀ ls, lk Y.eqt t = some ls → kd = .agg ls → (do eqGuard (if neg then .neq else .eql) t x' y' x y; binOp (if neg then .neq else .eql) t x y : Sem Value).run P w = .ok (.bool (bif neg then !r else r)) w := fun ls hls hkd => by
      subst hkd
      have hE := hY.eqt _ _ hls
      cases u <;> cases v <;> (try (simp [eqC] at h; done))
      rename_i l m
      simp only [eqC] at h
      cases hb : (fitsL ls l && fitsL ls m) <;> rw [hb] at h
      · cases h
      simp only [cond_true] at h
      simp only [Bool.and_eq_true] at hb
      obtain ⟨f1, f2⟩ := hb
      obtain ⟨xs, h1, rfl⟩ := hx
      obtain ⟨ys, h2, rfl⟩ := hy
      rw [leafs_of_fits f1 h1, leafs_of_fits f2 h2]
      have h3 := hE.eq l m r w f1 f2 h
      exact fin (run_eqGuard_agg w _ t x' y' _ _ hE.guard) rfl rfl h3
    split at hk
    · rename_i hd; cases hk
      cases u <;> cases v <;> simp [eqC] at h
      cases hx; cases hy
      refine fin (by cases neg <;> simp [eqGuard]) rfl rfl ?_
      rename_i b c
      have hr : r = (b == c) := by subst h; cases b <;> cases c <;> rfl
      show (Op.equalIn (9999 + 1) t _ _).run P w = _
      generalize 9999 = n
      simp [Op.equalIn, hok.run, hd, hr]
    · rename_i el hd; cases hk
      cases u <;> cases v <;> simp [eqC] at h
      · cases hx; cases hy; subst h
        refine fin (by cases neg <;> simp [eqGuard]) rfl rfl ?_
        show (Op.equalIn (9999 + 1) t _ _).run P w = _
        generalize 9999 = n
        simp [Op.equalIn, hok.run, hd]
      · cases hx; obtain ⟨b, c, _, rfl⟩ := hy; subst h
        refine fin (by cases neg <;> simp [eqGuard]) rfl rfl ?_
        show (Op.equalIn (9999 + 1) t _ _).run P w = _
        generalize 9999 = n
        simp [Op.equalIn, hok.run, hd]
      · cases hy; obtain ⟨b, c, _, rfl⟩ := hx; subst h
        refine fin (by cases neg <;> simp [eqGuard]) rfl rfl ?_
        show (Op.equalIn (9999 + 1) t _ _).run P w = _
        generalize 9999 = n
        simp [Op.equalIn, hok.run, hd]
    · rename_i el hd; cases hk
      cases u <;> cases v <;> simp [eqC] at h
      · cases hx; cases hy; subst h
        refine fin (by cases neg <;> simp [eqGuard]) rfl rfl ?_
        show (Op.equalIn (9999 + 1) t _ _).run P w = _
        generalize 9999 = n
        simp [Op.equalIn, hok.run, hd]
      · cases hx; obtain ⟨b, c, _, rfl⟩ := hy; subst h
        refine fin (by cases neg <;> simp [eqGuard]) rfl rfl ?_
        show (Op.equalIn (9999 + 1) t _ _).run P w = _
        generalize 9999 = n
        simp [Op.equalIn, hok.run, hd]
      · cases hy; obtain ⟨b, c, _, rfl⟩ := hx; subst h
        refine fin (by cases neg <;> simp [eqGuard]) rfl rfl ?_
        show (Op.equalIn (9999 + 1) t _ _).run P w = _
        generalize 9999 = n
        simp [Op.equalIn, hok.run, hd]
    · rename_i k1 k2 hd; cases hk
      cases u <;> cases v <;> simp [eqC] at h
      · cases hx; cases hy; subst h
        refine fin (by cases neg <;> simp [eqGuard]) rfl rfl ?_
        show (Op.equalIn (9999 + 1) t _ _).run P w = _
        generalize 9999 = n
        simp [Op.equalIn, hok.run, hd]
      · cases hx; obtain ⟨b, c, _, rfl⟩ := hy; subst h
        refine fin (by cases neg <;> simp [eqGuard]) rfl rfl ?_
        show (Op.equalIn (9999 + 1) t _ _).run P w = _
        generalize 9999 = n
        simp [Op.equalIn, hok.run, hd]
      · cases hy; obtain ⟨b, c, _, rfl⟩ := hx; subst h
        refine fin (by cases neg <;> simp [eqGuard]) rfl rfl ?_
        show (Op.equalIn (9999 + 1) t _ _).run P w = _
        generalize 9999 = n
        simp [Op.equalIn, hok.run, hd]
    · rename_i k1 k2 k3 hd; cases hk
      cases u <;> cases v <;> simp [eqC] at h
      · cases hy; obtain ⟨b, c, _, _, rfl⟩ := hx; subst h
        refine fin (by cases neg <;> simp [eqGuard]) rfl rfl ?_
        show (Op.equalIn (9999 + 1) t _ _).run P w = _
        generalize 9999 = n
        simp [Op.equalIn, hok.run, hd]
      · cases hx; obtain ⟨b, c, _, _, rfl⟩ := hy; subst h
        refine fin (by cases neg <;> simp [eqGuard]) rfl rfl ?_
        show (Op.equalIn (9999 + 1) t _ _).run P w = _
        generalize 9999 = n
        simp [Op.equalIn, hok.run, hd]
      · cases hx; cases hy; subst h
        refine fin (by cases neg <;> simp [eqGuard]) rfl rfl ?_
        show (Op.equalIn (9999 + 1) t _ _).run P w = _
        generalize 9999 = n
        simp [Op.equalIn, hok.run, hd]
    · split at hk
      · rename_i ls hls; cases hk; exact agg ls hls rfl
      · cases hk
    · split at hk
      · rename_i ls hls; cases hk; exact agg ls hls rfl
      · cases hk
    · cases hk
  · cases hk

theorem natO_run (hs : SlOk τ sl a.tmps) {d n : Nat} {x : Option Operand} {o : Option Opd} (ho : optO opd x = some o) (h : natO sl d o = some n) : (x = none ∧ n = d) ∨ ∃ y k, x = some y ∧ a.eval y = .int k (n : Int) := by
  cases x with
  | none => cases ho; simp [natO] at h; exact .inl ⟨rfl, h.symm⟩
  | some y =>
    simp only [optO] at ho
    split at ho
    · rename_i p hp
      cases ho
      simp only [natO] at h
      split at h
      · rename_i k m hm
        cases h
        exact .inr ⟨y, k, rfl, opd_rel hs hp hm⟩
      · cases h
    · cases ho

theorem bounds_run {len cap l h : Nat} {lo hi : Option Operand} (hl : (lo = none ∧ l = 0) ∨ ∃ y k, lo = some y ∧ a.eval y = .int k (l : Int)) (hh : (hi = none ∧ h = len) ∨ ∃ y k, hi = some y ∧ a.eval y = .int k (h : Int))
    (h1 : l ≤ h) (h2 : h ≤ cap) : (Instr.sliceBounds true len cap (lo.map a.eval) (hi.map a.eval) none).run P w = .ok (l, h, cap) w := by
  have hb : ∀ {x : Value} {k : IntKind} {n y : Nat} {c : BoundsCode}, x = .int k (n : Int) → n ≤ y → (Instr.sliceBound x y c).run P w = .ok n w := fun {x k n y c} hx hn => by
    subst hx
    simp only [Instr.sliceBound, asIntOf, Sem.run_bind, Sem.run_pure, Result.andThen_ok]
    rw [if_pos ⟨by omega, by omega⟩]
    simp
  rcases hl with ⟨rfl, rfl⟩ | ⟨y, k, rfl, hy⟩ <;> rcases hh with ⟨rfl, rfl⟩ | ⟨z, j, rfl, hz⟩
  · simp [Instr.sliceBounds]
  · simp [Instr.sliceBounds, hb hz h2]
  · simp [Instr.sliceBounds, hb hy h1]
  · simp [Instr.sliceBounds, hb hy h1, hb hz h2]

theorem slice_run (hY : TysOk P Y) (hs : SlOk τ sl a.tmps) (hv : View τ g w) {t el : TypeId} {e ee : TE} (he : lk Y.T t = some e) (hd : e.d = .slice el) (hee : lk Y.T el = some ee) (hz : 0 < ee.size) {x y : Value} {u r : CV} (hx : u.rel τ x)
    {lo hi : Option Operand} {lo' hi' : Option Opd} (hl : optO opd lo = some lo') (hh : optO opd hi = some hi') (h : sliceC sl g ee.size u lo' hi' = some r) :
    ∃ v, r.rel τ v ∧ (Instr.sliceAt t x (lo.map a.eval) (hi.map a.eval) none).run P w = .ok v w := by
  have hok := Tab.get_ok hY.tab he
  have hok' := Tab.get_ok hY.tab hee
  cases u with
  | nils =>
    simp only [sliceC] at h
    split at h
    · rename_i h1 h2
      cases h; cases hx
      have := bounds_run (P := P) (w := w) (len := 0) (cap := 0) (natO_run hs hl h1) (natO_run hs hh h2) (Nat.le_refl _) (Nat.le_refl _)
      exact ⟨_, rfl, by simp [Instr.sliceAt, Instr.slice, hok.run, hd, this, hok'.sz]⟩
    · cases h
  | slc tk o l q =>
    simp only [sliceC] at h
    split at h
    · rename_i A B h1 h2
      obtain ⟨b, c, h3, rfl⟩ := hx
      unfold capAt at h
      split at h
      · rename_i cap room hcap
        split at hcap
        · rename_i k hg
          cases hc : (Nat.beq k.esz ee.size && Nat.blt 0 ee.size)
          · rw [hc] at hcap; cases hcap
          · rw [hc] at hcap
            simp only [cond_true, Option.some.injEq, Prod.mk.injEq] at hcap
            obtain ⟨rfl, rfl⟩ := hcap
            simp only [Bool.and_eq_true] at hc
            have hesz := Nat.eq_of_beq_eq_true hc.1
            cases hd' : (Nat.ble A B && Nat.ble B l && Nat.ble (q + l) (Nat.div k.len ee.size))
            · rw [hd'] at h; cases h
            · rw [hd'] at h
              simp only [cond_true] at h
              simp only [Bool.and_eq_true] at hd'
              have g1 := Nat.le_of_ble_eq_true hd'.1.1
              have g2 := Nat.le_of_ble_eq_true hd'.1.2
              have g3 := Nat.le_of_ble_eq_true hd'.2
              obtain ⟨b', c', h4, hk⟩ := hv _ _ hg
              rw [h3] at h4; cases h4
              obtain ⟨⟨arr, a1, a2, a3, a4, a5⟩, _⟩ := hk
              have hroom : Nat.div k.len ee.size ≤ c := by
                show k.len / ee.size ≤ c
                have : k.len ≤ c * ee.size := by rw [← hesz, ← a4]; exact a3
                exact (Nat.div_le_iff_le_mul_add_pred hz).2 (by rw [Nat.mul_comm]; omega)
              have hrun := bounds_run (P := P) (w := w) (len := l) (cap := c - q) (natO_run hs hl h1) (natO_run hs hh h2) g1 (by omega)
              have hbody : (Instr.sliceAt t (.slice (some ⟨b, o, none⟩) l (c - q)) (lo.map a.eval) (hi.map a.eval) none).run P w = .ok (.slice (some (if c - q = A then ⟨b, o, none⟩ else ⟨b, o + A * ee.size, none⟩)) (B - A) (c - q - A)) w := by
                simp only [Instr.sliceAt, Instr.slice, Sem.run_bind, hok.run, hd, Result.andThen_ok, hrun, hok'.sz, Sem.run_pure]
                split <;> simp [add_plain]
              refine ⟨_, ?_, hbody⟩
              cases hb : Nat.blt (q + A) (Nat.div k.len ee.size)
              · rw [hb] at h
                simp only [cond_false] at h
                split at h
                · rename_i n hn
                  cases h
                  obtain ⟨e1, e2⟩ := a5 n hn
                  have hge : Nat.div k.len ee.size ≤ q + A := by
                    by_cases hh : q + A < Nat.div k.len ee.size
                    · have : Nat.blt (q + A) (Nat.div k.len ee.size) = true := by simpa using hh
                      rw [this] at hb; cases hb
                    · omega
                  have hcl : Nat.div k.len ee.size = c := by
                    show k.len / ee.size = c
                    rw [← e2, a4, hesz]; exact Nat.mul_div_cancel _ hz
                  rw [if_pos (by omega)]
                  exact ⟨b, c, h3, by rw [Nat.sub_sub]⟩
                · cases h
              · rw [hb] at h
                simp only [cond_true, Option.some.injEq] at h
                subst h
                have hlt : q + A < Nat.div k.len ee.size := by simpa using hb
                rw [if_neg (by omega)]
                exact ⟨b, c, h3, by rw [Nat.sub_sub]⟩
        · cases hcap
      · cases h
    · cases h
  | _ => cases h

theorem intsC_rel : ∀ (vs : List CV) {k : IntKind} {l : List Int} {xs : List Value}, intsC vs = some (k, l) → CV.rels τ vs xs → xs = l.map (Value.int k) := by
  intro vs
  induction vs with
  | nil => intro k l xs h; cases h
  | cons v r ih =>
    intro k l xs h hr
    unfold intsC at h
    split at h
    · rename_i e
      obtain ⟨rfl, rfl⟩ := List.cons.inj e
      simp only [Option.some.injEq, Prod.mk.injEq] at h
      obtain ⟨rfl, rfl⟩ := h
      obtain ⟨y, ys, rfl, h1, h2⟩ := hr
      cases h1; cases h2; rfl
    · rename_i e
      obtain ⟨rfl, rfl⟩ := List.cons.inj e
      split at h
      · rename_i j m hm
        rename_i k' n _ _
        cases hs : IntKind.same k' j
        · rw [hs] at h; cases h
        · rw [hs] at h
          simp only [cond_true, Option.some.injEq, Prod.mk.injEq] at h
          obtain ⟨rfl, rfl⟩ := h
          obtain ⟨y, ys, rfl, h1, h2⟩ := hr
          have := ih hm h2
          rw [← same_eq hs] at this
          cases h1
          rw [List.map_cons, this]
      · cases h
    · cases h

theorem pure_ok (hY : TysOk P Y) (hs : SlOk τ sl a.tmps) (hv : View τ g w) {o : Oper} {c : COp} (hc : comp Y o = some c) {v : CV} (hp : pureC sl g c = some v) :
    ∃ x, v.rel τ x ∧ (execOp a.eval o).run P w = .ok (.value x) w := by
  have lift : ∀ {s : Sem Value} {x : Value}, semV a.eval o = some s → s.run P w = .ok x w → (execOp a.eval o).run P w = .ok (.value x) w := fun {s x} h1 h2 => by
    rw [semV_exec h1]; simp [h2]
  obtain ⟨dst, op, type, pos, after, guard⟩ := o
  have mv : ∀ x, one1 x .mv = some c → ∃ u, v.rel τ u ∧ u = a.eval x := fun x h => by
    obtain ⟨o, ho, rfl⟩ := one1_some h
    exact ⟨_, opd_rel hs ho hp, rfl⟩
  cases op
  case move x => obtain ⟨u, h1, rfl⟩ := mv x hc; exact ⟨_, h1, by simp [execOp]⟩
  case assign x => obtain ⟨u, h1, rfl⟩ := mv x hc; exact ⟨_, h1, by simp [execOp]⟩
  case pick x y z =>
    obtain ⟨o, p, q, ho, hp', hq, rfl⟩ := three3_some hc
    simp only [pureC] at hp
    split at hp
    · rename_i t ht
      have hb : a.eval x = .bool t := opd_rel hs ho ht
      cases t
      · exact ⟨_, opd_rel hs hq hp, by simp [execOp, hb, asBool]⟩
      · exact ⟨_, opd_rel hs hp' hp, by simp [execOp, hb, asBool]⟩
    · cases hp
  case nilCheck x =>
    obtain ⟨o, ho, rfl⟩ := one1_some hc
    simp only [pureC] at hp
    split at hp
    · rename_i t f ht
      cases hp
      have := opd_rel hs ho ht
      refine ⟨_, this, ?_⟩
      obtain ⟨b, c, h1, h2⟩ := this
      simp [execOp, h2]
    · rename_i f l m ht
      cases hp
      have := opd_rel hs ho ht
      refine ⟨_, this, ?_⟩
      obtain ⟨b, c, h1, h2, h3⟩ := this
      simp [execOp, h3]
    · cases hp
  case build t ps =>
    simp only [comp] at hc
    split at hc
    · rename_i e he
      split at hc
      · rename_i z hz
        split at hc
        · rename_i fs hd
          split at hc
          · rename_i pl hpl
            split at hc
            · rename_i qs hqs
              cases hc
              simp only [pureC] at hp
              split at hp
              · rename_i l hl
                cases hp
                obtain ⟨x, h1, h2⟩ := build_run (P := P) (w := w) hY hs (t := t) he hz hqs hl fun ys h w => build_struct hY he hd hpl h w
                exact ⟨x, h1, lift rfl (by rw [← Array.toList_map, Array.toArray_toList]; exact h2)⟩
              · cases hp
            · cases hc
          · cases hc
        · rename_i n el hd
          split at hc
          · rename_i ee hee
            split at hc
            · rename_i qs hqs
              cases hc
              simp only [pureC] at hp
              split at hp
              · rename_i l hl
                cases hp
                obtain ⟨x, h1, h2⟩ := build_run (P := P) (w := w) hY hs (t := t) he hz hqs hl fun ys h w => build_array hY he hd hee h w
                exact ⟨x, h1, lift rfl (by rw [← Array.toList_map, Array.toArray_toList]; exact h2)⟩
              · cases hp
            · cases hc
          · cases hc
        · cases hc
      · cases hc
    · cases hc
  case load t x =>
    simp only [comp] at hc
    split at hc
    · rename_i e he
      cases ha : isAggD e.d
      · rw [ha] at hc
        obtain ⟨o, ho, rfl⟩ := one1_some hc
        simp only [pureC] at hp
        split at hp
        · rename_i tk off ht
          split at hp
          · rename_i k hg
            obtain ⟨y, h1, h2⟩ := run_ld hY hv he ha (opd_rel hs ho ht) hg hp
            exact ⟨y, h1, lift rfl h2⟩
          · cases hp
        · cases hp
      · rw [ha] at hc
        obtain ⟨o, ho, rfl⟩ := one1_some hc
        simp only [pureC] at hp
        split at hp
        · rename_i tk off ht
          split at hp
          · rename_i k hg
            split at hp
            · rename_i l hl
              cases hp
              obtain ⟨y, h1, h2⟩ := run_ldn hY hv he ha (opd_rel hs ho ht) hg hl
              exact ⟨y, h1, lift rfl h2⟩
            · cases hp
          · cases hp
        · cases hp
    · cases hc
  case fieldAddr t x f =>
    simp only [comp] at hc
    split at hc
    · rename_i e he
      split at hc
      · rename_i fs hd
        split at hc
        · rename_i fd hfd
          split at hc
          · rename_i ee hee
            cases hz : Nat.beq ee.size 0
            · rw [hz] at hc
              obtain ⟨o, ho, rfl⟩ := one1_some hc
              simp only [pureC] at hp
              split at hp
              · rename_i tk off ht
                cases hp
                obtain ⟨b, c, h1, h2⟩ := opd_rel hs ho ht
                have hok := Tab.get_ok hY.tab he
                have hok' := Tab.get_ok hY.tab hee
                have hz' : ee.size ≠ 0 := Nat.ne_of_beq_eq_false hz
                exact ⟨_, ⟨b, c, h1, rfl⟩, lift rfl (by simp [Instr.fieldAt, hok.run, hd, hfd, h2, Instr.sureAddr, fieldPlace, hok'.sz, hz', add_plain])⟩
              · cases hp
            · rw [hz] at hc; cases hc
          · cases hc
        · cases hc
      · cases hc
    · cases hc
  case field t x f =>
    simp only [comp] at hc
    split at hc
    · rename_i e he
      split at hc
      · rename_i fs hd
        split at hc
        · rename_i fd hfd
          split at hc
          · rename_i ee hee
            have hok := Tab.get_ok hY.tab he
            have hok' := Tab.get_ok hY.tab hee
            cases ha : isAggD ee.d
            · rw [ha] at hc
              obtain ⟨o, ho, rfl⟩ := one1_some hc
              simp only [pureC] at hp
              split at hp
              · rename_i l ht
                obtain ⟨xs, h1, h2⟩ := opd_rel hs ho ht
                rw [nth_eq] at hp
                obtain ⟨y, hy, hr⟩ := rels_get h1 hp
                exact ⟨y, hr, lift rfl (by simp [Instr.field, hok.run, hd, hfd, h2, asAgg, part, hok'.agg, ha, hy])⟩
              · cases hp
            · rw [ha] at hc
              obtain ⟨o, ho, rfl⟩ := one1_some hc
              simp only [pureC] at hp
              split at hp
              · rename_i l ht
                split at hp
                · rename_i s hsub
                  cases hp
                  obtain ⟨xs, h1, h2⟩ := opd_rel hs ho ht
                  obtain ⟨rfl, _⟩ := takeN_eq hsub
                  rw [dropN_eq]
                  exact ⟨_, ⟨_, rels_take _ (rels_drop _ h1), rfl⟩, lift rfl (by simp [Instr.field, hok.run, hd, hfd, h2, asAgg, part, hok'.agg, ha, hok'.sz])⟩
                · cases hp
              · cases hp
          · cases hc
        · cases hc
      · cases hc
    · cases hc
  case indexAddr t x i =>
    simp only [comp] at hc
    split at hc
    · rename_i e he
      have hok := Tab.get_ok hY.tab he
      split at hc
      · rename_i el hd
        split at hc
        · rename_i ee hee
          have hok' := Tab.get_ok hY.tab hee
          obtain ⟨o, p, ho, hpp, rfl⟩ := two2_some hc
          simp only [pureC] at hp
          split at hp
          · rename_i tk off l q k m ht hm
            cases hb : Nat.blt m l
            · rw [hb] at hp; cases hp
            · rw [hb] at hp
              simp only [cond_true, Option.some.injEq] at hp; subst hp
              have hlt : m < l := by simpa using hb
              obtain ⟨b, c, h1, h2⟩ := opd_rel hs ho ht
              have h3 : a.eval i = .int k (Int.ofNat m) := opd_rel hs hpp hm
              exact ⟨_, ⟨b, c, h1, rfl⟩, lift rfl (by simp [Instr.indexAt, h2, h3, asIntOf, hok.run, hd, hok'.sz, add_plain, hlt])⟩
          · cases hp
        · cases hc
      · rename_i n el hd
        split at hc
        · rename_i ee hee
          have hok' := Tab.get_ok hY.tab hee
          obtain ⟨o, p, ho, hpp, rfl⟩ := two2_some hc
          simp only [pureC] at hp
          split at hp
          · rename_i tk off k m ht hm
            cases hb : Nat.blt m n
            · rw [hb] at hp; cases hp
            · rw [hb] at hp
              simp only [cond_true, Option.some.injEq] at hp; subst hp
              have hlt : m < n := by simpa using hb
              obtain ⟨b, c, h1, h2⟩ := opd_rel hs ho ht
              have h3 : a.eval i = .int k (Int.ofNat m) := opd_rel hs hpp hm
              exact ⟨_, ⟨b, c, h1, rfl⟩, lift rfl (by simp [Instr.indexAt, h2, h3, asIntOf, hok.run, hd, hok'.sz, add_plain, hlt, Instr.sureAddr])⟩
          · cases hp
        · cases hc
      · cases hc
    · cases hc
  case index t x i =>
    simp only [comp] at hc
    split at hc
    · rename_i e he
      have hok := Tab.get_ok hY.tab he
      split at hc
      · rename_i n el hd
        split at hc
        · rename_i ee hee
          have hok' := Tab.get_ok hY.tab hee
          cases ha : isAggD ee.d
          · rw [ha] at hc
            obtain ⟨o, p, ho, hpp, rfl⟩ := two2_some hc
            simp only [pureC] at hp
            split at hp
            · rename_i l k m ht hm
              cases hb : Nat.blt m n
              · rw [hb] at hp; cases hp
              · rw [hb] at hp
                simp only [cond_true] at hp
                rw [nth_eq] at hp
                have hlt : m < n := by simpa using hb
                obtain ⟨xs, h1, h2⟩ := opd_rel hs ho ht
                have h3 : a.eval i = .int k (Int.ofNat m) := opd_rel hs hpp hm
                obtain ⟨y, hy, hr⟩ := rels_get h1 hp
                have hy' : xs[m * ee.size]? = some y := hy
                exact ⟨y, hr, lift rfl (by simp [Instr.index, h2, h3, asIntOf, hok.run, hd, hok'.sz, hlt, part, hok'.agg, ha, hy'])⟩
            · cases hp
          · rw [ha] at hc; cases hc
        · cases hc
      · rename_i hd
        obtain ⟨o, p, ho, hpp, rfl⟩ := two2_some hc
        simp only [pureC] at hp
        split at hp
        · rename_i s k m ht hm
          split at hp
          · rename_i b hb
            cases hp
            have h2 : a.eval x = .string s := opd_rel hs ho ht
            have h3 : a.eval i = .int k (m : Int) := opd_rel hs hpp hm
            rw [nth_eq] at hb
            have hb' : s[m]? = some b := by
              have hlt : m < s.data.toList.length := (List.getElem?_eq_some_iff.1 hb).1
              have hlt' : m < s.size := by simpa using hlt
              rw [getElem?_pos s m hlt']
              have : s.data.toList[m]? = some (s[m]) := by
                rw [List.getElem?_eq_getElem hlt]; rfl
              rw [this] at hb; exact hb
            exact ⟨_, rfl, lift rfl (by simp [Instr.index, h2, h3, asIntOf, hok.run, hd, hb'])⟩
          · cases hp
        · cases hp
      · cases hc
    · cases hc
  case binOp bop t x y t2 =>
    have bin : ∀ {c}, two2 x y (.bin bop) = some c → pureC sl g c = some v → ∃ x1, v.rel τ x1 ∧ (execOp a.eval ⟨dst, .binOp bop t x y t2, type, pos, after, guard⟩).run P w = .ok (.value x1) w := fun hc hp => by
      obtain ⟨o, p, ho, hpp, rfl⟩ := two2_some hc
      simp only [pureC] at hp
      split at hp
      · rename_i u1 u2 h1 h2
        obtain ⟨z, hz, hr⟩ := binC_run (P := P) (w := w) hp t x y (opd_rel hs ho h1) (opd_rel hs hpp h2)
        exact ⟨z, hz, lift rfl hr⟩
      · cases hp
    have eqs : ∀ (neg : Bool) {c : COp}, bop = (if neg then .neq else .eql) → (match eqKind Y t with | some kd => two2 x y (.eqs neg kd) | none => none) = some c → pureC sl g c = some v → ∃ x1, v.rel τ x1 ∧ (execOp a.eval ⟨dst, .binOp bop t x y t2, type, pos, after, guard⟩).run P w = .ok (.value x1) w := fun neg c hb hce hp => by
      cases hk : eqKind Y t with
      | none => rw [hk] at hce; cases hce
      | some kd =>
        rw [hk] at hce
        have hkd := hk
        subst hb
        obtain ⟨o, p, ho, hpp, rfl⟩ := two2_some hce
        simp only [pureC] at hp
        split at hp
        · rename_i u1 u2 h1 h2
          split at hp
          · rename_i r hr
            cases hp
            exact ⟨_, rfl, lift rfl (eqC_run hY hkd hr (opd_rel hs ho h1) (opd_rel hs hpp h2) neg x y)⟩
          · cases hp
        · cases hp
    simp only [comp] at hc
    split at hc
    · rename_i e he
      split at hc
      · exact bin hc hp
      · exact bin hc hp
      · split at hc
        · exact eqs false rfl hc hp
        · exact eqs true rfl hc hp
        · cases hc
    · cases hc
  case unOp uop t x =>
    cases uop <;> (try (cases hc; done))
    obtain ⟨o, ho, rfl⟩ := one1_some hc
    simp only [pureC] at hp
    split at hp
    · rename_i b hb
      cases hp
      have h1 : a.eval x = .bool b := opd_rel hs ho hb
      exact ⟨_, rfl, lift rfl (by simp [h1, Op.unary])⟩
    · cases hp
  case convert s d x =>
    simp only [comp] at hc
    split at hc
    · rename_i es e hes he
      split at hc
      · rename_i k hd
        obtain ⟨o, ho, rfl⟩ := one1_some hc
        simp only [pureC] at hp
        split at hp
        · rename_i j n hn
          cases hp
          have h1 : a.eval x = .int j n := opd_rel hs ho hn
          have hok := Tab.get_ok hY.tab he
          have hok' := Tab.get_ok hY.tab hes
          exact ⟨_, rfl, lift rfl (by simp [h1, convert, hok.run, hok'.run, hd, Conv.intToInt, wrapC_eq])⟩
        · cases hp
      · cases hc
    · cases hc
  case makeFunc fn first caps =>
    cases fn <;> (try (simp [comp] at hc; done))
    simp only [comp] at hc
    split at hc
    · rename_i f u1 u2 h1 h2
      cases hc
      simp only [pureC] at hp
      split at hp
      · rename_i v1 v2 k1 k2
        cases hp
        refine ⟨_, ⟨_, _, opds_rel hs h1 k1, opds_rel hs h2 k2, rfl⟩, ?_⟩
        simp only [execOp, Instr.makeFunc, Sem.run_bind, Sem.run_pure, Result.andThen_ok]
        simp [← Array.toList_map]
      · cases hp
    · cases hc
  case lookup t m k ok =>
    simp only [comp] at hc
    split at hc
    · rename_i e he
      split at hc
      · rename_i kt et hd
        split at hc
        · rename_i kk ee hkk hee
          split at hc
          · rename_i z hz
            obtain ⟨o, p, ho, hpp, rfl⟩ := two2_some hc
            simp only [pureC] at hp
            split at hp
            · rename_i u1 u2 h1 h2
              obtain ⟨x, k1, k2⟩ := look_run hY hv he hd hkk hee hz hp (opd_rel hs ho h1) (opd_rel hs hpp h2)
              exact ⟨x, k1, lift rfl k2⟩
            · cases hp
          · cases hc
        · cases hc
      · cases hc
    · cases hc
  case slice t x lo hi mx =>
    cases mx with
    | some m => simp [comp] at hc
    | none =>
      simp only [comp] at hc
      split at hc
      · rename_i e he
        split at hc
        · rename_i el hd
          split at hc
          · rename_i ee hee
            split at hc
            · rename_i o l h ho hl hh
              cases hb : Nat.blt 0 ee.size
              · rw [hb] at hc; cases hc
              · rw [hb] at hc
                simp only [cond_true, Option.some.injEq] at hc; subst hc
                simp only [pureC] at hp
                split at hp
                · rename_i u hu
                  obtain ⟨y, k1, k2⟩ := slice_run (P := P) (w := w) (y := .bool false) hY hs hv he hd hee (by simpa using hb) (opd_rel hs ho hu) hl hh hp
                  exact ⟨y, k1, lift rfl k2⟩
                · cases hp
            · cases hc
          · cases hc
        · cases hc
      · cases hc
  case extract x i =>
    obtain ⟨o, ho, rfl⟩ := one1_some hc
    simp only [pureC] at hp
    split at hp
    · rename_i l hl
      rw [nth_eq] at hp
      obtain ⟨xs, h1, h2⟩ := opd_rel hs ho hl
      obtain ⟨y, hy, hr⟩ := rels_get h1 hp
      exact ⟨y, hr, by simp [execOp, Instr.extract, h2, hy]⟩
    · cases hp
  case call c' =>
    obtain ⟨callee, args, ats⟩ := c'
    cases callee
    case value f =>
      simp only [comp] at hc
      split at hc
      · cases hc; cases hp
      · cases hc
    case invoke => cases hc
    case builtin b =>
      have hargs : ∀ {l : List Opd} {vs : List CV}, mapO opd args.toList = some l → mapO (ev sl) l = some vs → CV.rels τ vs (args.toList.map a.eval) := fun h1 h2 => opds_rel hs h1 h2
      cases b <;> (try (cases hc; done))
      case append =>
        simp only [comp] at hc
        (repeat' split at hc) <;> (try (cases hc; done))
        rename_i hb
        cases hq : (Nat.beq _ _ && Nat.blt 0 _ && Nat.beq _ _) <;> rw [hq] at hc
        · cases hc
        · obtain ⟨o, p, ho, hpp, rfl⟩ := two2_some hc
          cases hp
      case clear =>
        simp only [comp] at hc
        (repeat' split at hc) <;> (try (cases hc; done))
        rename_i hb
        cases hq : (Nat.beq _ _) <;> rw [hq] at hc
        · cases hc
        · obtain ⟨o, ho, rfl⟩ := one1_some hc
          cases hp
      case copy =>
        simp only [comp] at hc
        (repeat' split at hc) <;> (try (cases hc; done))
        obtain ⟨o, p, ho, hpp, rfl⟩ := two2_some hc
        cases hp
      case len =>
        simp only [comp] at hc
        split at hc
        · rename_i x t hx ht
          have h3 : ats = #[t] := by rw [← Array.toArray_toList (xs := ats), ht]
          have h4 : args.toList.map a.eval = [a.eval x] := by rw [hx]; rfl
          split at hc
          · rename_i e he
            have hok := Tab.get_ok hY.tab he
            split at hc
            · rename_i el hd
              obtain ⟨o, ho, rfl⟩ := one1_some hc
              simp only [pureC] at hp
              split at hp
              · rename_i hu
                cases hp
                have hx' : a.eval x = .slice none 0 0 := opd_rel hs ho hu
                refine ⟨_, rfl, lift rfl ?_⟩
                rw [h3, h4, hx']
                simp [Builtin.len_, hok.run, hd, goInt]
              · rename_i tk of l q hu
                cases hp
                obtain ⟨b, c, _, hx'⟩ := opd_rel hs ho hu
                refine ⟨_, rfl, lift rfl ?_⟩
                rw [h3, h4, hx']
                simp [Builtin.len_, hok.run, hd, goInt]
              · cases hp
            · rename_i hd
              obtain ⟨o, ho, rfl⟩ := one1_some hc
              simp only [pureC] at hp
              split at hp
              · rename_i s hu
                cases hp
                have hx' : a.eval x = .string s := opd_rel hs ho hu
                refine ⟨_, rfl, lift rfl ?_⟩
                rw [h3, h4, hx']
                simp [Builtin.len_, hok.run, hd, goInt]
              · cases hp
            · rename_i kt et hd
              obtain ⟨o, ho, rfl⟩ := one1_some hc
              simp only [pureC] at hp
              split at hp
              · rename_i hu
                cases hp
                have hx' : a.eval x = .map none := opd_rel hs ho hu
                refine ⟨_, rfl, lift rfl ?_⟩
                rw [h3, h4, hx']
                simp [Builtin.len_, hok.run, hd, goInt]
              · rename_i tk hu
                split at hp
                · rename_i es n hg
                  cases hp
                  obtain ⟨b, c, h1, hx'⟩ := opd_rel hs ho hu
                  obtain ⟨b', c', h2, arr, h5, h6⟩ := hv _ _ hg
                  rw [h1] at h2; cases h2
                  refine ⟨_, rfl, lift rfl ?_⟩
                  rw [h3, h4, hx']
                  have hlen : arr.size = es.length := by
                    rw [← Array.length_toList]
                    have : ∀ {es : List Ent} {ms : List MapEntry}, entsRel τ es ms → ms.length = es.length := by
                      intro es
                      induction es with
                      | nil => intro ms h; cases h; rfl
                      | cons e es ih => intro ms h; obtain ⟨m, ms', rfl, _, _, _, h⟩ := h; simp [ih h]
                    exact this h6
                  have hget : (getObj b).run P w = .ok (.map arr n) w := by simp only [getObj, Sem.run, h5]
                  simp [Builtin.len_, hok.run, hd, hget, goInt, hlen]
                · cases hp
              · cases hp
            · cases hc
          · cases hc
        · cases hc
      case min =>
        simp only [comp] at hc
        split at hc
        · rename_i l hl
          cases hc
          simp only [pureC] at hp
          split at hp
          · rename_i vs hvs
            split at hp
            · rename_i k n r hi
              cases hp
              have hr := intsC_rel _ hi (hargs hl hvs)
              refine ⟨_, rfl, lift rfl ?_⟩
              rw [hr]
              have e : (minI : Int → Int → Int) = wMin2 := by funext x y; unfold minI; rw [ltI_eq]; simp [wMin2, Bool.cond_decide]
              simp only [Builtin.min_, List.map_cons, cond_false, e]
              exact min_run r n
            · cases hp
          · cases hp
        · cases hc
      case max =>
        simp only [comp] at hc
        split at hc
        · rename_i l hl
          cases hc
          simp only [pureC] at hp
          split at hp
          · rename_i vs hvs
            split at hp
            · rename_i k n r hi
              cases hp
              have hr := intsC_rel _ hi (hargs hl hvs)
              refine ⟨_, rfl, lift rfl ?_⟩
              rw [hr]
              have e : (maxI : Int → Int → Int) = wMax2 := by funext x y; unfold maxI; rw [ltI_eq]; simp [wMax2, Bool.cond_decide]
              simp only [Builtin.max_, List.map_cons, cond_true, e]
              exact max_run r n
            · cases hp
          · cases hp
        · cases hc
  case makeMap t r =>
    cases r with
    | none => cases hc; cases hp
    | some x => cases hc
  all_goals
    simp only [comp] at hc
    (repeat' split at hc)
    all_goals first
      | (cases hc; done)
      | (cases hc; cases hp; done)
      | (obtain ⟨o, ho, rfl⟩ := one1_some hc; cases hp; done)
      | (obtain ⟨o, p, ho, hpp, rfl⟩ := two2_some hc; cases hp; done)
      | (obtain ⟨o, p, q, ho, hpp, hq, rfl⟩ := three3_some hc; cases hp; done)
      | (cases hq : Nat.ble _ 65536 <;> rw [hq] at hc <;> cases hc; cases hp; done)
      | (cases hq : (Nat.ble _ 65536 && Nat.beq _ _ && Nat.blt 0 _) <;> rw [hq] at hc <;> cases hc; cases hp; done)
      | (cases hq : (Nat.beq _ _ && Nat.blt 0 _) <;> rw [hq] at hc
         · cases hc
         · obtain ⟨o, p, ho, hpp, rfl⟩ := two2_some hc
           cases hp)

end
end Go.Cx
