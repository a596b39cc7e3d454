/- The reckoner is right, part 4: the state, and the operations that act. -/
import Derived.Test.YtkiioneimheciaaGreatSxC
namespace Go.Sx
open Go

/-- The state is what the frame and the world hold. -/
structure Rep (fr : List (Nat × SV)) (st : St) (ρ : List Nat) (w0 : World) (a : Act) (w : World) : Prop where
  nodef : a.defers = []
  size : a.tmps.size = st.nt
  slot : ∀ t v, st.slot fr t = some v → a.tmps.getD t undef = v.val ρ
  fin : Fin st.hp ρ w0 w

theorem Rep.get {fr : List (Nat × SV)} {st : St} {ρ : List Nat} {w0 w : World} {a : Act} (R : Rep fr st ρ w0 a w) {x : Operand} {v : SV} (h : st.get fr x = some v) : a.eval x = v.val ρ := by
  cases x with
  | tmp t => exact R.slot t v h
  | const c => simp only [St.get, Option.some.injEq] at h; subst h; rw [ofVal_val]; rfl
  | func f => simp only [St.get, Option.some.injEq] at h; subst h; rfl
  | global g => cases h

/-- How an act moves the world. -/
structure Moves (mask : Nat → Bool) (own : Bool) (ρ ρ' : List Nat) (w w' : World) : Prop where
  grow : ∃ r, ρ' = ρ ++ r
  size : w.heap.size ≤ w'.heap.size
  keep : ∀ t, t < ρ.length → mask t = false → w'.heap[ρ.getD t 0]? = w.heap[ρ.getD t 0]?
  own : own = true → (∀ b, b < w.heap.size → (∀ t, t < ρ.length → mask t = true → b ≠ ρ.getD t 0) → w'.heap[b]? = w.heap[b]?) ∧ w'.os = w.os ∧ w'.tape = w.tape ∧ w'.output = w.output

theorem Moves.none (mask : Nat → Bool) (own : Bool) (ρ : List Nat) (w : World) : Moves mask own ρ ρ w w :=
  ⟨⟨[], by simp⟩, Nat.le_refl _, fun _ _ _ => rfl, fun _ => ⟨fun _ _ _ => rfl, rfl, rfl, rfl⟩⟩

theorem Ext.refl (ρ : List Nat) (w : World) : Ext ρ w w := ⟨Nat.le_refl _, fun _ _ _ => rfl, rfl, rfl, rfl⟩

theorem getD_mem {ρ : List Nat} {t : Nat} (h : t < ρ.length) : ρ.getD t 0 ∈ ρ := by
  rw [List.getD_eq_getElem?_getD, List.getElem?_eq_getElem h]; exact List.getElem_mem h

section
variable {E : Env} {o : Oper} {mask : Nat → Bool} {own : Bool} {st : St} {ρ : List Nat} {w0 w : World} {a : Act} {k : KX}
  {next : Act → World → Prop} {Q : Exit → Act → World → Prop}

/-- What follows an act. -/
def After (E : Env) (o : Oper) (mask : Nat → Bool) (own : Bool) (ρ : List Nat) (a : Act) (w : World) (k : KX) (next : Act → World → Prop) : Prop :=
  ∀ v st' ρ' w0' w', k v st' ρ' w0' → Rep E.fr st' ρ' w0' a w' → Moves mask own ρ ρ' w w' → next (a.put o.dst (v.val ρ')) w'

theorem lk_wf {n : Nat} : ∀ {l : List (Nat × SV)} {t : Nat} {v : SV}, l.all (fun x => x.2.wf n) = true → lk l t = some v → v.wf n = true
  | [], _, _, _, h => by simp [lk] at h
  | (b, x) :: r, t, v, hw, h => by
    simp only [List.all_cons, Bool.and_eq_true] at hw
    simp only [lk] at h
    cases hb : Nat.beq b t
    · rw [hb] at h; exact lk_wf hw.2 h
    · rw [hb] at h; simp at h; subst h; exact hw.1

theorem st_wf_hp {n : Nat} (h : st.wf E.fr n = true) {t : Nat} {b : Blk} (hb : st.hp[t]? = some (some b)) : SV.wfs n b.cells = true := by
  simp only [St.wf, Bool.and_eq_true, List.all_eq_true] at h
  have := h.2 _ (List.mem_of_getElem? hb)
  simpa using this
theorem st_wf_sl {n : Nat} (h : st.wf E.fr n = true) {t : Nat} {v : SV} (hb : st.slot E.fr t = some v) : v.wf n = true := by
  simp only [St.wf, Bool.and_eq_true] at h
  unfold St.slot at hb
  split at hb
  · rename_i u hu
    simp only [Option.some.injEq] at hb; subst hb
    exact lk_wf h.1.1 hu
  · exact lk_wf h.1.2 hb

/-- A new block of the call's own. -/
theorem newTok_sound (R : Rep E.fr st ρ w0 a w) {cs : List SV} {t : TypeId} {kk : Nat → St → List Nat → Prop} (h : newTok E.fr st ρ w0 cs t kk) :
    ∃ st', kk ρ.length st' (ρ ++ [w.heap.size]) ∧ Rep E.fr st' (ρ ++ [w.heap.size]) w0 a (w.alloc (.cells (SV.vals ρ cs).toArray t)) ∧ Moves mask own ρ (ρ ++ [w.heap.size]) w (w.alloc (.cells (SV.vals ρ cs).toArray t)) := by
  unfold newTok at h
  cases hc : (st.wf E.fr ρ.length && Nat.beq st.hp.length ρ.length && SV.wfs ρ.length cs)
  · rw [hc] at h; exact h.elim
  · rw [hc] at h
    simp only [cond_true] at h
    simp only [Bool.and_eq_true] at hc
    obtain ⟨⟨hwf, _⟩, hcs⟩ := hc
    have hnin : w.heap.size ∉ ρ := fun hm => by have := R.fin.lt _ hm; omega
    have hpush : ∀ b, b < w.heap.size → (w.alloc (.cells (SV.vals ρ cs).toArray t)).heap[b]? = w.heap[b]? := fun b hb => by
      simp only [World.alloc, Array.getElem?_push]; rw [if_neg (by omega)]
    refine ⟨_, h w.heap.size R.fin.size hnin, ⟨R.nodef, R.size, fun s v hv => ?_, ?_⟩, ⟨⟨_, rfl⟩, by simp, fun s hs _ => hpush _ (R.fin.lt _ (getD_mem hs)), fun _ => ⟨fun b hb _ => hpush b hb, rfl, rfl, rfl⟩⟩⟩
    · rw [val_grown (st_wf_sl hwf hv)]; exact R.slot s v hv
    · refine ⟨⟨by simp [R.fin.len], ?_, fun b hb => ?_, fun s b hb => ?_⟩, ⟨by have := R.fin.size; simp; omega, fun b hb hn => ?_, R.fin.os, R.fin.tape, R.fin.output⟩⟩
      · rw [List.nodup_append]; exact ⟨R.fin.nodup, by simp, fun x hx y hy => by simp at hy; subst hy; exact fun e => hnin (e ▸ hx)⟩
      · simp only [List.mem_append, List.mem_singleton] at hb
        simp only [World.size_alloc]
        rcases hb with hb | hb
        · have := R.fin.lt b hb; omega
        · omega
      · simp only at hb
        by_cases hs : s < st.hp.length
        · rw [List.getElem?_append_left hs] at hb
          have hs' : s < ρ.length := by rw [← R.fin.len]; exact hs
          rw [getD_append hs', hpush _ (R.fin.lt _ (getD_mem hs')), R.fin.held s b hb, vals_grown (st_wf_hp hwf hb)]
        · rw [List.getElem?_append_right (by omega)] at hb
          have hs0 : s - st.hp.length = 0 := by
            by_cases h0 : s - st.hp.length = 0
            · exact h0
            · rw [List.getElem?_eq_none (by simp; omega)] at hb; cases hb
          rw [hs0] at hb
          simp only [List.getElem?_cons_zero, Option.some.injEq] at hb
          subst hb
          have hsl : s = ρ.length := by have := R.fin.len; omega
          subst hsl
          have e : (ρ ++ [w.heap.size]).getD ρ.length 0 = w.heap.size := by rw [List.getD_eq_getElem?_getD]; simp
          rw [e, vals_grown hcs]
          show (w.heap.push _)[w.heap.size]? = _
          rw [Array.getElem?_push, if_pos rfl]
      · simp only [List.mem_append, not_or] at hn
        rw [hpush b (by have := R.fin.size; omega)]
        exact R.fin.same b hb hn.1

/-- An operation that yields a value and leaves the world alone. -/
theorem wp_value {P : Program} {v : Value} {w' : World} (h : (execOp a.eval o).run P w = .ok (.value v) w') (hn : next (a.put o.dst v) w') : o.wp P a w next Q := by
  unfold Oper.wp; rw [h]; exact hn
theorem wp_skipped {P : Program} {w' : World} (h : (execOp a.eval o).run P w = .ok .skip w') (hn : next (a.put o.dst undef) w') : o.wp P a w next Q := by
  unfold Oper.wp; rw [h]; exact hn

theorem plain_run {α : Type} {P : Program} {c : SV} (h : c.plain = true) (ρ : List Nat) (m : Mode) (ad : Addr) (kk : Sem α) (w : World) :
    (Sem.store m ad (c.val ρ) kk).run P w = (match w.cell? ad with
    | some _ => if w.frozen? ad then .halt (.unsupported (.unsafePointer "a write to bytes that a string shares")) w else kk.run P (w.setCell ad (c.val ρ))
    | none => match w.farStore P ad (c.val ρ) (m == .atomic) with
      | .ok (w, _) => kk.run P w
      | .error h => .halt h w) := by
  cases c with
  | raw v => cases v <;> first | rfl | (simp [SV.plain] at h)
  | agg l => simp [SV.plain] at h
  | tup l => simp [SV.plain] at h
  | _ => rfl

theorem storeCells_run {P : Program} {b : Nat} {t : TypeId} (o : Nat) : ∀ (cs : List SV) (i : Nat) (l : List Value) (w : World), cs.all SV.plain = true →
    w.heap[b]? = some (.cells l.toArray t (0, 0)) → o + i + cs.length ≤ l.length →
    ∃ w', (storeCells ⟨b, o, none⟩ (SV.vals ρ cs) i).run P w = .ok () w' ∧ w'.heap[b]? = some (.cells (setRange l (o + i) (SV.vals ρ cs)).toArray t (0, 0)) ∧
      (∀ c, c ≠ b → w'.heap[c]? = w.heap[c]?) ∧ w'.heap.size = w.heap.size ∧ w'.os = w.os ∧ w'.tape = w.tape ∧ w'.output = w.output
  | [], i, l, w, _, hb, _ => ⟨w, by simp [SV.vals, storeCells], by simpa [SV.vals, setRange] using hb, fun _ _ => rfl, rfl, rfl, rfl, rfl⟩
  | c :: cs, i, l, w, hp, hb, hl => by
    simp only [List.all_cons, Bool.and_eq_true] at hp
    simp only [List.length_cons] at hl
    have ha : Addr.add ⟨b, o, none⟩ i = ⟨b, o + i, none⟩ := by
      unfold Addr.add; split
      · simp_all
      · rfl
    have hcell : w.cell? ⟨b, o + i, none⟩ = some (l[o + i]'(by omega)) := by
      simp only [World.cell?, hb]; simp [show o + i < l.length from by omega]
    have hfr : w.frozen? ⟨b, o + i, none⟩ = false := by simp [World.frozen?, hb]
    have hset : (w.setCell ⟨b, o + i, none⟩ (c.val ρ)).heap[b]? = some (.cells (l.set (o + i) (c.val ρ)).toArray t (0, 0)) := by
      simp [World.setCell, Array.getElem?_modify, hb]
    obtain ⟨w', h1, h2, h3, h4, h5, h6, h7⟩ := storeCells_run (P := P) o cs (i + 1) _ _ hp.2 hset (by simp; omega)
    refine ⟨w', ?_, ?_, fun x hx => ?_, by rw [h4]; simp, by rw [h5]; rfl, by rw [h6]; rfl, by rw [h7]; rfl⟩
    · simp only [SV.vals, storeCells, Sem.run_bind, store, ha]
      rw [plain_run hp.1, hcell, hfr]
      simp [h1]
    · rw [h2, show o + (i + 1) = o + i + 1 from by omega]; rfl
    · rw [h3 x hx]
      simp only [World.setCell, Array.getElem?_modify]
      rw [if_neg (fun e => hx e.symm)]

end
end Go.Sx
