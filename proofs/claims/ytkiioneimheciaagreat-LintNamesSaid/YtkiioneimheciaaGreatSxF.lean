/- The reckoner is right, part 5: the operations that act, whichever it is. -/
import Derived.Test.YtkiioneimheciaaGreatSxE
namespace Go.Sx
open Go

section
variable {E : Env} {o : Oper} {mask : Nat → Bool} {own : Bool} {st : St} {ρ : List Nat} {w0 w : World} {a : Act} {k : KX}
  {next : Act → World → Prop} {Q : Exit → Act → World → Prop}

theorem storeX_sound (hE : E.ok) (R : Rep E.fr st ρ w0 a w) {t : TypeId} {x v : SV} {p : Prop} (h : storeX E t x v mask st ρ w0 k = some p) (hp : p) :
    ∃ st' w', k (.raw undef) st' ρ w0 ∧ (Instr.storeAt t (x.val ρ) (v.val ρ)).run E.P w = .ok () w' ∧ Rep E.fr st' ρ w0 a w' ∧ Moves mask own ρ ρ w w' := by
  unfold storeX at h
  split at h
  · rename_i tk o e he
    have hok := Tab.get_ok hE.tab he
    split at h
    · rename_i b hb
      cases hc : (mask tk && Nat.beq v.cells.length e.size && Nat.ble (o + e.size) b.cells.length && v.cells.all SV.plain)
      · rw [hc] at h; cases h
      · rw [hc] at h
        simp only [cond_true, Option.some.injEq] at h
        subst h
        simp only [Bool.and_eq_true] at hc
        obtain ⟨⟨⟨hm, hl⟩, hle⟩, hpl⟩ := hc
        have hl := Nat.eq_of_beq_eq_true hl
        have hle := Nat.le_of_ble_eq_true hle
        have htk : tk < ρ.length := by have := (List.getElem?_eq_some_iff.1 hb).1; rw [R.fin.len] at this; exact this
        have hheap := R.fin.held tk b hb
        generalize hbb : ρ.getD tk 0 = bb at hheap
        obtain ⟨w', h1, h2, h3, h4, h5, h6, h7⟩ := storeCells_run (P := E.P) (ρ := ρ) o v.cells 0 (SV.vals ρ b.cells) w hpl hheap (by rw [vals_length]; omega)
        have hinj : ∀ s, s < ρ.length → s ≠ tk → ρ.getD s 0 ≠ bb := fun s hs hne e => by
          have e' : ρ.getD s 0 = ρ.getD tk 0 := e.trans hbb.symm
          rw [List.getD_eq_getElem?_getD, List.getD_eq_getElem?_getD, List.getElem?_eq_getElem hs, List.getElem?_eq_getElem htk] at e'
          exact hne ((List.getElem_inj R.fin.nodup).1 e')
        refine ⟨_, w', hp, ?_, ⟨R.nodef, R.size, R.slot, ⟨⟨?_, R.fin.nodup, fun c hc => by rw [h4]; exact R.fin.lt c hc, fun s kk hs => ?_⟩, ⟨by rw [h4]; exact R.fin.size, fun c hc hn => ?_, h5.trans R.fin.os, h6.trans R.fin.tape, h7.trans R.fin.output⟩⟩⟩,
          ⟨⟨[], by simp⟩, by rw [h4]; exact Nat.le_refl _, fun s hs hm' => h3 _ (hinj s hs (fun e => by rw [e, hm] at hm'; cases hm')), fun _ => ⟨fun c hc hn => h3 c (by rw [← hbb]; exact hn tk htk hm), h5, h6, h7⟩⟩⟩
        · simp [Instr.storeAt, SV.val, Instr.sureAddr, storeVar, val_cells, vals_length, hok.sz, hl]
          rw [show ρ[tk]?.getD 0 = bb from by rw [← hbb, List.getD_eq_getElem?_getD]]
          exact h1
        · simp [R.fin.len]
        · simp only [List.getElem?_set] at hs
          split at hs
          · rename_i e
            subst e
            split at hs
            · simp only [Option.some.injEq] at hs
              subst hs
              rw [hbb, h2, vals_map, vals_map, vals_map, setRange_map, Nat.add_zero]
            · cases hs
          · rename_i hne
            have hs' : s < ρ.length := by have := (List.getElem?_eq_some_iff.1 hs).1; rw [R.fin.len] at this; exact this
            rw [h3 _ (hinj s hs' (fun e => hne e.symm))]
            exact R.fin.held s kk hs
        · rw [h3 c (fun e => hn (by rw [e, ← hbb]; exact getD_mem htk))]
          exact R.fin.same c hc hn
    · cases h
  · cases h

theorem actV_sound (R : Rep E.fr st ρ w0 a w) {s : Sem Value} {ty : TypeId} (h : actV E s ty st ρ w0 k) :
    ∃ v w', k v st ρ w' ∧ s.run E.P w = .ok (v.val ρ) w' ∧ Rep E.fr st ρ w' a w' ∧ Moves mask false ρ ρ w w' := by
  obtain ⟨v, _, w', h1, h2, h3⟩ := Shape.ex_some _ _ (h w R.fin)
  have hk : ∀ t, t < ρ.length → w'.heap[ρ.getD t 0]? = w.heap[ρ.getD t 0]? := fun t ht => h2.2 _ (getD_mem ht)
  exact ⟨v, w', h3, h1, ⟨R.nodef, R.size, R.slot, ⟨⟨R.fin.len, R.fin.nodup, fun b hb => Nat.lt_of_lt_of_le (R.fin.lt b hb) h2.1, fun t b hb => by
    rw [hk t (by have := (List.getElem?_eq_some_iff.1 hb).1; rw [R.fin.len] at this; exact this)]; exact R.fin.held t b hb⟩, Ext.refl _ _⟩⟩, ⟨⟨[], by simp⟩, h2.1, fun t ht _ => hk t ht, fun h => by cases h⟩⟩
theorem actU_sound (R : Rep E.fr st ρ w0 a w) {s : Sem Unit} (h : actU E s st ρ w0 k) :
    ∃ w', k (.raw undef) st ρ w' ∧ s.run E.P w = .ok () w' ∧ Rep E.fr st ρ w' a w' ∧ Moves mask false ρ ρ w w' := by
  obtain ⟨w', h1, h2, h3⟩ := h w R.fin
  have hk : ∀ t, t < ρ.length → w'.heap[ρ.getD t 0]? = w.heap[ρ.getD t 0]? := fun t ht => h2.2 _ (getD_mem ht)
  exact ⟨w', h3, h1, ⟨R.nodef, R.size, R.slot, ⟨⟨R.fin.len, R.fin.nodup, fun b hb => Nat.lt_of_lt_of_le (R.fin.lt b hb) h2.1, fun t b hb => by
    rw [hk t (by have := (List.getElem?_eq_some_iff.1 hb).1; rw [R.fin.len] at this; exact this)]; exact R.fin.held t b hb⟩, Ext.refl _ _⟩⟩, ⟨⟨[], by simp⟩, h2.1, fun t ht _ => hk t ht, fun h => by cases h⟩⟩

theorem hasN_mem : ∀ {l : List Nat} {t : Nat}, hasN l t = true ↔ t ∈ l
  | [], t => by simp [hasN]
  | b :: r, t => by
    simp only [hasN, List.mem_cons]
    cases hb : Nat.beq b t
    · have := Nat.ne_of_beq_eq_false hb
      simp only [cond_false, hasN_mem (l := r)]
      constructor
      · exact .inr
      · rintro (h | h)
        · exact absurd h.symm this
        · exact h
    · have := Nat.eq_of_beq_eq_true hb
      simp [this]

theorem others_mem {ts : List Nat} : ∀ {ρ : List Nat} {i t : Nat}, t < ρ.length → hasN ts (i + t) = false → ρ.getD t 0 ∈ others ts i ρ
  | [], _, _, h, _ => by simp at h
  | b :: r, i, 0, _, h => by
    simp only [others, Nat.add_zero] at h ⊢
    rw [h]; simp
  | b :: r, i, t + 1, hl, h => by
    have := others_mem (ts := ts) (ρ := r) (i := i + 1) (t := t) (by simpa using hl) (by rw [show i + 1 + t = i + (t + 1) from by omega]; exact h)
    simp only [others]
    have e : (b :: r).getD (t + 1) 0 = r.getD t 0 := by simp [List.getD_eq_getElem?_getD]
    rw [e]
    cases hasN ts i
    · exact List.mem_cons_of_mem _ this
    · exact this

theorem hvX_sound {w' : World} {kk : Heap → Prop} : ∀ {hv : List (Nat × Option (List Shape))} {hp : Heap}, hvX ρ w' hv hp kk → hp.length = ρ.length →
    (∀ t b, hp[t]? = some (some b) → t ∉ hv.map (·.1) → w'.heap[ρ.getD t 0]? = some (.cells (SV.vals ρ b.cells).toArray b.elem (0, 0))) →
    ∃ hp', kk hp' ∧ hp'.length = ρ.length ∧ ∀ t b, hp'[t]? = some (some b) → w'.heap[ρ.getD t 0]? = some (.cells (SV.vals ρ b.cells).toArray b.elem (0, 0))
  | [], hp, h, hl, hh => ⟨hp, h, hl, fun t b hb => hh t b hb (by simp)⟩
  | (t, none) :: r, hp, h, hl, hh => by
    refine hvX_sound (hv := r) (hp := hp.set t none) h (by simpa using hl) fun s b hb hn => ?_
    simp only [List.getElem?_set] at hb
    split at hb
    · split at hb <;> cases hb
    · rename_i hne
      exact hh s b hb (by simp only [List.map_cons, List.mem_cons, not_or]; exact ⟨fun e => hne e.symm, hn⟩)
  | (t, some sh) :: r, hp, h, hl, hh => by
    simp only [hvX] at h
    split at h
    · rename_i b hb
      obtain ⟨cs, _, h1, h2⟩ := Shape.exs_some _ _ h
      refine hvX_sound (hv := r) h2 (by simpa using hl) fun s b' hb' hn => ?_
      simp only [List.getElem?_set] at hb'
      split at hb'
      · rename_i e
        subst e
        split at hb'
        · simp only [Option.some.injEq] at hb'; subst hb'; exact h1
        · cases hb'
      · rename_i hne
        exact hh s b' hb' (by simp only [List.map_cons, List.mem_cons, not_or]; exact ⟨fun e => hne e.symm, hn⟩)
    · exact h.elim

theorem callX_sound (hE : E.ok) (R : Rep E.fr st ρ w0 a w) {f : FuncId} {args : List Value} (h : callX E f args o mask st ρ w0 k)
    (hx : (execOp a.eval o).run E.P w = (callFunc f args.toArray).run E.P w) (hk : After E o mask false ρ a w k next) : o.wp E.P a w next Q := by
  unfold callX at h
  generalize hintOf E o = hint at h
  cases hc : (hasN E.fns f && hint.hv.all (fun x => mask x.1))
  · rw [hc] at h; exact h.elim
  · rw [hc] at h
    simp only [cond_true] at h
    simp only [Bool.and_eq_true] at hc
    unfold Oper.wp
    rw [hx, hE.fns f hc.1]
    simp only [Oper.upon_enter]
    refine Calls.mono (h w R.fin) fun e w' he => ?_
    obtain ⟨v, _, rfl, hkeep, hhv⟩ := Shape.ex_some _ _ he
    have hsame : ∀ t, t < ρ.length → t ∉ hint.hv.map (·.1) → w'.heap[ρ.getD t 0]? = w.heap[ρ.getD t 0]? := fun t ht hn =>
      hkeep.2 _ (others_mem ht (by
        rw [Nat.zero_add]
        cases hb : hasN (hint.hv.map (·.1)) t
        · rfl
        · exact absurd (hasN_mem.1 hb) hn))
    obtain ⟨hp', hk', hl', hheld⟩ := hvX_sound hhv R.fin.len fun t b hb hn => by
      rw [hsame t (by have := (List.getElem?_eq_some_iff.1 hb).1; rw [R.fin.len] at this; exact this) hn]; exact R.fin.held t b hb
    exact hk v _ ρ w' w' hk' ⟨R.nodef, R.size, R.slot, ⟨⟨hl', R.fin.nodup, fun b hb => Nat.lt_of_lt_of_le (R.fin.lt b hb) hkeep.1, hheld⟩, Ext.refl _ _⟩⟩
      ⟨⟨[], by simp⟩, hkeep.1, (fun t ht hm => hsame t ht (fun hn => by
        obtain ⟨x, hx1, hx2⟩ := List.mem_map.1 hn
        have := List.all_eq_true.1 hc.2 x hx1
        rw [hx2, hm] at this; cases this)), (fun h => by cases h)⟩

theorem view_ok (R : Rep E.fr st ρ w0 a w) : (fullView st ρ w0).ok w := ⟨R.fin.toHeld, fun _ => R.fin.toExt⟩

theorem gen_sound (R : Rep E.fr st ρ w0 a w) (hk : After E o mask own ρ a w k next)
    (h : (bif own then False else match getAll (st.get E.fr) o.op.operands.toList with
    | some _ => match semV (evS ρ (st.get E.fr)) o, semU (evS ρ (st.get E.fr)) o with
      | some s, _ => actV E s o.type st ρ w0 k
      | none, some s => actU E s st ρ w0 k
      | none, none => False
    | none => False)) : o.wp E.P a w next Q := by
  cases own
  · simp only [cond_false] at h
    split at h
    · rename_i vs hv
      split at h
      · rename_i s hs
        obtain ⟨v, w', h1, h2, h3, h4⟩ := actV_sound (mask := mask) R h
        refine wp_value (v := v.val ρ) (w' := w') ?_ (hk _ _ _ _ _ h1 h3 h4)
        rw [execOp_evS (fun x v h => R.get h) hv (not_select _ _ _ hs), semV_exec hs]; simp [h2]
      · rename_i s _ hs
        obtain ⟨w', h1, h2, h3, h4⟩ := actU_sound (mask := mask) R h
        refine wp_skipped (w' := w') ?_ (hk _ _ _ _ _ h1 h3 h4)
        rw [execOp_evS (fun x v h => R.get h) hv (not_selectU _ _ _ hs), semU_exec hs]; simp [h2]
      · exact h.elim
    · exact h.elim
  · exact h.elim

theorem effX_sound (hE : E.ok) (R : Rep E.fr st ρ w0 a w) (h : effX E o mask own st ρ w0 k) (hk : After E o mask own ρ a w k next) : o.wp E.P a w next Q := by
  have gen := fun h => gen_sound (E := E) (Q := Q) R hk h
  have hg : ∀ x v, st.get E.fr x = some v → a.eval x = v.val ρ := fun x v h => R.get h
  have fall : (match pureX E (fullView st ρ w0) ρ (st.get E.fr) o with
    | some f => f fun v => k v st ρ w0
    | none => (bif own then False else match getAll (st.get E.fr) o.op.operands.toList with
    | some _ => match semV (evS ρ (st.get E.fr)) o, semU (evS ρ (st.get E.fr)) o with
      | some s, _ => actV E s o.type st ρ w0 k
      | none, some s => actU E s st ρ w0 k
      | none, none => False
    | none => False)) → o.wp E.P a w next Q := by
    intro h
    split at h
    · rename_i f hf
      obtain ⟨v, h1, h2⟩ := pureX_sound (r := []) hE hg (by simp [fullView]) (fun _ _ _ _ _ _ => rfl) hf h
      exact wp_value (h2 w (view_ok R)) (hk _ _ _ _ _ h1 R (Moves.none _ _ _ _))
    · exact gen h
  obtain ⟨dst, op, type, pos, after, guard⟩ := o
  cases op <;> simp only [effX] at h
  case alloc t =>
    split at h
    · rename_i e he
      have hok := Tab.get_ok hE.tab he
      have hrun : ∀ w, (execOp a.eval ⟨dst, .alloc t, type, pos, after, guard⟩).run E.P w = .ok (.value (.pointer (some ⟨w.heap.size, 0, none⟩))) (w.alloc (.cells e.zero.cells t)) := fun w => by
        simp [execOp, Instr.alloc, hok.zero, newVar, newRow, newObj, Sem.run]
      generalize isOpq E _ = q at h
      cases q
      · simp only [cond_false] at h
        obtain ⟨st', h1, h2, h3⟩ := newTok_sound (mask := mask) (own := own) R h
        rw [ofVals_map] at h2 h3
        refine wp_value (hrun w) ?_
        have := hk _ _ _ _ _ h1 h2 h3
        simpa [SV.val, List.getD_eq_getElem?_getD] using this
      · simp only [cond_true] at h
        refine wp_value (hrun w) ?_
        have hp : ∀ b, b < w.heap.size → (w.alloc (.cells e.zero.cells t)).heap[b]? = w.heap[b]? := fun b hb => by
          simp only [World.alloc, Array.getElem?_push]; rw [if_neg (by omega)]
        exact hk _ _ _ _ _ (h w R.fin) ⟨R.nodef, R.size, R.slot, ⟨⟨R.fin.len, R.fin.nodup, fun b hb => by have := R.fin.lt b hb; simp; omega, fun t b hb => by
          rw [hp _ (R.fin.lt _ (getD_mem (by have := (List.getElem?_eq_some_iff.1 hb).1; rw [R.fin.len] at this; exact this)))]; exact R.fin.held t b hb⟩, Ext.refl _ _⟩⟩
          ⟨⟨[], by simp⟩, by simp, (fun t ht _ => hp _ (R.fin.lt _ (getD_mem ht))), (fun _ => ⟨fun b hb _ => hp b hb, rfl, rfl, rfl⟩)⟩
    · exact h.elim
  case box t x =>
    split at h
    · rename_i v hv
      obtain ⟨st', h1, h2, h3⟩ := newTok_sound (mask := mask) (own := own) R h
      refine wp_value (w' := w.alloc (.cells (SV.vals ρ v.cells).toArray t)) (v := .pointer (some ⟨w.heap.size, 0, none⟩)) ?_ ?_
      · simp [execOp, Instr.box, newVar, newRow, newObj, Sem.run, hg _ _ hv, val_cells]
      · have := hk _ _ _ _ _ h1 h2 h3
        simpa [SV.val, List.getD_eq_getElem?_getD] using this
    · exact h.elim
  case buildSlice t len ps =>
    split at h
    · rename_i el sz by_ ze vs he hvs
      have hok := Tab.get_ok hE.tab he
      split at h
      · rename_i ee hee
        have hok' := Tab.get_ok hE.tab hee
        split at h
        · rename_i cs hcs
          cases hc : (Nat.ble (len * ee.size) 1000 && Nat.blt 0 (len * ee.size) && Nat.blt 0 ee.zero.cells.size)
          · rw [hc] at h; exact gen h
          · rw [hc] at h
            simp only [cond_true] at h
            simp only [Bool.and_eq_true] at hc
            have hle := Nat.le_of_ble_eq_true hc.1.1
            have h0 : 0 < len * ee.size := by have := hc.1.2; simpa using this
            have hz : 0 < ee.zero.cells.size := by have := hc.2; simpa using this
            obtain ⟨st', h1, h2, h3⟩ := newTok_sound (mask := mask) (own := own) R h
            refine wp_value (w' := w.alloc (.cells (SV.vals ρ cs).toArray el)) (v := .slice (some ⟨w.heap.size, 0, none⟩) len len) ?_ ?_
            · have hfill := fill_eq ρ hcs
              have hparts := parts_map hg hvs
              have hinit : SV.vals ρ ((List.range (len * ee.size)).map fun i => ((ee.zero.cells.toList.map ofVal)[i % ee.zero.cells.size]?).getD (.raw undef)) = ((Array.range (len * ee.size)).map fun i => ee.zero.cells[i % ee.zero.cells.size]!).toList := by
                rw [vals_map, List.map_map]
                simp only [Array.toList_map, Array.toList_range]
                refine List.map_congr_left fun i _ => ?_
                have hm : i % ee.zero.cells.size < ee.zero.cells.size := Nat.mod_lt _ hz
                simp [ofVal_val, hm]
              rw [hinit] at hfill
              have e1 : ((ps.map fun x => (x.1, a.eval x.2)).toList) = vs.map fun x => (x.1, x.2.val ρ) := by rw [← hparts]; simp
              simp only [execOp, Sem.run_bind, Instr.buildSlice, hok.run, hok'.sz, Result.andThen_ok]
              rw [if_neg (by omega), if_neg (by omega)]
              simp only [Sem.run_bind, hok'.zero, Result.andThen_ok, Sem.run_pure]
              have e2 : ((ps.map fun x : Nat × Operand => match x with | (i, x) => (i, a.eval x)).toList) = vs.map fun x => (x.1, x.2.val ρ) := e1
              rw [e2]
              simp only [Array.toArray_toList] at hfill
              rw [hfill]
              simp [newRow, newObj, Sem.run]
            · have := hk _ _ _ _ _ h1 h2 h3
              simpa [SV.val, List.getD_eq_getElem?_getD] using this
        · exact h.elim
      · exact h.elim
    · exact h.elim
  case store t x v =>
    split at h
    · rename_i p u hp hu
      cases hs : storeX E t p u mask st ρ w0 k with
      | none => rw [hs] at h; exact gen h
      | some q =>
        rw [hs] at h
        obtain ⟨st', w', h1, h2, h3, h4⟩ := storeX_sound (own := own) hE R hs h
        refine wp_skipped (w' := w') ?_ (hk _ _ _ _ _ h1 h3 h4)
        simp [execOp, hg _ _ hp, hg _ _ hu, h2]
    · exact h.elim
  case call c =>
    obtain ⟨callee, args, ats⟩ := c
    cases callee
    case value x =>
      simp only at h
      split at h
      · rename_i f caps vs hx hv
        have e : (args.map a.eval) = (SV.vals ρ vs).toArray := by
          rw [← getAll_map hg hv, ← Array.toList_map, Array.toArray_toList]
        cases hfn : hasN E.fns f
        · rw [hfn] at h
          simp only [cond_false] at h
          obtain ⟨v, _, h1, h2⟩ := Shape.ex_some _ _ (h w R.fin)
          refine wp_value (v := v.val ρ) (w' := w) ?_ (hk _ _ _ _ _ h2 R (Moves.none _ _ _ _))
          have h1 : (callFunc f (SV.vals ρ (vs ++ caps)).toArray).run E.P w = .ok (.value (v.val ρ)) w := h1
          simp only [vals_append] at h1
          simp [execOp, resolve, hg _ _ hx, SV.val, Deferred.ofValue, invoke, e, ← h1]
        rw [hfn] at h
        simp only [cond_true] at h
        cases own
        · simp only [cond_false] at h
          refine callX_sound hE R h ?_ hk
          simp [execOp, resolve, hg _ _ hx, SV.val, Deferred.ofValue, invoke, e, vals_append]
        · exact h.elim
      · rename_i f first caps vs hx hv
        cases own
        · simp only [cond_false] at h
          refine callX_sound hE R h ?_ hk
          have e : (args.map a.eval) = (SV.vals ρ vs).toArray := by
            rw [← getAll_map hg hv, ← Array.toList_map, Array.toArray_toList]
          have e2 : (first.toList ++ SV.vals ρ vs ++ caps.toList).toArray = first ++ (SV.vals ρ vs).toArray ++ caps := by
            apply Array.ext'; simp
          rw [e2]
          simp only [execOp, resolve, hg _ _ hx, SV.val, Deferred.ofValue, Sem.run_bind, Sem.run_pure, Result.andThen_ok, invoke, e]
        · exact h.elim
      · exact h.elim
    all_goals exact fall h
  all_goals exact fall h

end
end Go.Sx
