/- The reckoner is right, part 2: the operations that only read. -/
import Derived.Test.YtkiioneimheciaaGreatSxA
namespace Go.Sx
open Go

section
variable {E : Env} {V : View} {ρ r : List Nat} {get : Operand → Option SV} {ev : Operand → Value} {o : Oper} {f : (SV → Prop) → Prop} {K : SV → Prop}

theorem execOp_evS (hg : ∀ x v, get x = some v → ev x = v.val ρ) {vs : List SV} (h : getAll get o.op.operands.toList = some vs) (hs : ∀ cs b, o.op ≠ .select cs b) : execOp ev o = execOp (evS ρ get) o :=
  execOp_congr o hs fun x hx => (evS_of hg h x (Array.mem_toList_iff.2 hx)).symm

theorem genX_sound (hg : ∀ x v, get x = some v → ev x = v.val ρ) (hf : genX E V ρ get o = some f) (hk : f K) : ∃ v, K v ∧ Gives E V ρ ev o v := by
  unfold genX at hf
  cases hb : (blind o.op || V.ext && reads o.op)
  · simp [hb] at hf
  · simp only [hb, cond_true] at hf
    split at hf
    · rename_i vs s hv hs
      simp only [runX, Option.some.injEq] at hf
      subst hf
      obtain ⟨v, hw, hrun, hK⟩ := Shape.ex_some _ _ hk
      refine ⟨v, hK, fun w hw' => ?_⟩
      rw [execOp_evS hg hv (not_select _ _ _ hs), semV_exec hs]
      have h1 : s.run E.P w = .ok (v.val V.ρ) w := hrun w hw'.2
      have h2 : v.val V.ρ = v.val ρ := val_wf0 hw
      rw [h2] at h1
      simp [h1]
    · cases hf

theorem loadCells_run (P : Program) (w : World) (b o : Nat) : ∀ (vs : List Value) (i : Nat) (acc : Array Value),
    (∀ j v, vs[j]? = some v → w.cell? ⟨b, o + (i + j), none⟩ = some v) → (loadCellsFrom ⟨b, o, none⟩ i vs.length acc).run P w = .ok (acc ++ vs.toArray) w
  | [], i, acc, _ => by simp [loadCellsFrom]
  | v :: vs, i, acc, h => by
    have ha : (Addr.add ⟨b, o, none⟩ i) = ⟨b, o + i, none⟩ := by
      unfold Addr.add
      split
      · simp_all
      · rfl
    have h0 := h 0 v rfl
    simp only [Nat.add_zero] at h0
    have ih := loadCells_run P w b o vs (i + 1) (acc.push v) (fun j x hj => by
      have := h (j + 1) x (by simpa using hj)
      rw [show i + (j + 1) = i + 1 + j from by omega] at this
      exact this)
    simp only [List.length_cons, loadCellsFrom, Sem.run_bind, load, ha, Sem.run, h0, Result.andThen_ok, ih]
    simp

theorem held_cell {hp : Heap} {ρ : List Nat} {w : World} (H : Held hp ρ w) {t : Nat} {k : Blk} (hk : hp[t]? = some (some k)) (o : Nat) :
    w.cell? ⟨ρ.getD t 0, o, none⟩ = (k.cells[o]?).map (SV.val ρ) := by
  have := H.held t k hk
  simp only [World.cell?, this]
  simp [vals_get]

theorem ext_cell {ρ : List Nat} {w0 w : World} (H : Ext ρ w0 w) {b o : Nat} {v : Value} (hb : b ∉ ρ) (h : w0.cell? ⟨b, o, none⟩ = some v) : w.cell? ⟨b, o, none⟩ = some v := by
  have hlt : b < w0.heap.size := by
    by_cases hlt : b < w0.heap.size
    · exact hlt
    · simp [World.cell?, Array.getElem?_eq_none (Nat.le_of_not_lt hlt)] at h
  have := H.same b hlt hb
  simp only [World.cell?, this] at h ⊢
  exact h

theorem exs_len : ∀ (l : List Shape) (p : List SV → Prop), Shape.exs l p → ∃ vs, SV.wfs 0 vs = true ∧ vs.length = l.length ∧ p vs
  | [], p, h => ⟨[], rfl, rfl, h⟩
  | s :: r, p, h => by
    obtain ⟨v, hv, h⟩ := Shape.ex_some s _ h
    obtain ⟨vs, hvs, hl, h⟩ := exs_len r _ h
    exact ⟨v :: vs, by simp [SV.wfs, hv, hvs], by simp [hl], h⟩

theorem cellsAt_get {w : World} {b o : Nat} {ρ : List Nat} : ∀ {l : List SV} {i : Nat}, cellsAt w b o ρ i l → ∀ (j : Nat) (v : SV), l[j]? = some v → w.cell? ⟨b, o + (i + j), none⟩ = some (v.val ρ)
  | [], _, _, j, v, h => by simp at h
  | c :: r, i, h, 0, v, e => by simp at e; subst e; exact h.1
  | c :: r, i, h, j + 1, v, e => by
    have := cellsAt_get h.2 j v (by simpa using e)
    rw [show i + (j + 1) = i + 1 + j from by omega]
    exact this

theorem wfs_get {n : Nat} : ∀ {l : List SV} {i : Nat} {c : SV}, SV.wfs n l = true → l[i]? = some c → c.wf n = true
  | [], _, _, _, h => by simp at h
  | a :: l, 0, c, hw, h => by simp only [SV.wfs, Bool.and_eq_true] at hw; simp at h; subst h; exact hw.1
  | a :: l, i + 1, c, hw, h => by simp only [SV.wfs, Bool.and_eq_true] at hw; exact wfs_get (i := i) hw.2 (by simpa using h)

theorem load_one {P : Program} {t : TypeId} {e : TE} (hok : e.ok P t) (ha : isAggD e.d = false) {w : World} {b o : Nat} {v : Value} (h : w.cell? ⟨b, o, none⟩ = some v) :
    (Instr.loadAt t (.pointer (some ⟨b, o, none⟩))).run P w = .ok v w := by
  simp [Instr.loadAt, Instr.sureAddr, loadVar, hok.agg, ha, load, Sem.run, h]

theorem load_agg {P : Program} {t : TypeId} {e : TE} (hok : e.ok P t) (ha : isAggD e.d = true) {w : World} {b o : Nat} {vs : List Value} (hl : vs.length = e.size)
    (h : ∀ j v, vs[j]? = some v → w.cell? ⟨b, o + j, none⟩ = some v) : (Instr.loadAt t (.pointer (some ⟨b, o, none⟩))).run P w = .ok (.agg vs.toArray) w := by
  have := loadCells_run P w b o vs 0 #[] (fun j v hj => by rw [Nat.zero_add]; exact h j v hj)
  rw [hl] at this
  simp [Instr.loadAt, Instr.sureAddr, loadVar, hok.agg, ha, hok.sz, loadCells, this]

theorem loadX_sound (hE : E.ok) {t : TypeId} {x : SV} (hρ : ρ = V.ρ ++ r)
    (hval : ∀ (t : Nat) (k : Blk) (i : Nat) (c : SV), V.hp[t]? = some (some k) → k.cells[i]? = some c → c.val ρ = c.val V.ρ) (hf : loadX E V t x = some f) (hk : f K) :
    ∃ v, K v ∧ ∀ w, V.ok w → (Instr.loadAt t (x.val ρ)).run E.P w = .ok (v.val ρ) w := by
  unfold loadX at hf
  split at hf
  · rename_i tk o e he
    have hok := Tab.get_ok hE.tab he
    split at hf
    · rename_i k hk'
      have hlt : ∀ w, V.ok w → tk < V.ρ.length := fun w hw => by
        have := (List.getElem?_eq_some_iff.1 hk').1
        rw [hw.1.len] at this; exact this
      have hcell : ∀ w, V.ok w → ∀ o, w.cell? ⟨ρ.getD tk 0, o, none⟩ = (k.cells[o]?).map (SV.val ρ) := fun w hw o => by
        have h1 := held_cell hw.1 hk' o
        have h2 : ρ.getD tk 0 = V.ρ.getD tk 0 := by rw [hρ]; exact getD_append (hlt w hw)
        rw [h2, h1]
        cases hc : k.cells[o]? with
        | none => rfl
        | some c => simp [hval tk k o c hk' hc]
      simp only [SV.val]
      generalize ρ.getD tk 0 = bb at hcell
      cases ha : isAggD e.d
      · simp only [ha, cond_false] at hf
        split at hf
        · rename_i c hc
          simp only [Option.some.injEq] at hf; subst hf
          refine ⟨c, hk, fun w hw => load_one hok ha ?_⟩
          rw [hcell w hw, hc]; rfl
        · cases hf
      · simp only [ha, cond_true] at hf
        cases hb : Nat.ble (o + e.size) k.cells.length
        · simp [hb] at hf
        · simp only [hb, cond_true, Option.some.injEq] at hf; subst hf
          refine ⟨_, hk, fun w hw => ?_⟩
          have hle : o + e.size ≤ k.cells.length := Nat.le_of_ble_eq_true hb
          refine load_agg hok ha (by rw [vals_length]; simp; omega) fun j v hj => ?_
          rw [vals_get, List.getElem?_take] at hj
          split at hj
          · rw [hcell w hw, ← hj]; simp
          · simp at hj
    · cases hf
  · rename_i b o e he
    have hok := Tab.get_ok hE.tab he
    simp only [SV.val]
    cases hx' : V.ext
    · simp [hx'] at hf
    · simp only [hx', cond_true] at hf
      cases ha : isAggD e.d
      · simp only [ha, cond_false, Option.some.injEq] at hf; subst hf
        obtain ⟨hb, hk⟩ := hk
        obtain ⟨c, hc, h1, h2⟩ := Shape.ex_some _ _ hk
        refine ⟨c, h2, fun w hw => load_one hok ha ?_⟩
        rw [← val_wf0 (ρ := V.ρ) hc]
        exact ext_cell (hw.2 hx') hb h1
      · simp only [ha, cond_true] at hf
        cases hb : Nat.beq (shapeCells E.T 8 t).length e.size
        · simp [hb] at hf
        · simp only [hb, cond_true, Option.some.injEq] at hf; subst hf
          obtain ⟨hb', hk⟩ := hk
          obtain ⟨cs, hc, hl, h1, h2⟩ := exs_len _ _ hk
          refine ⟨_, h2, fun w hw => load_agg hok ha (by rw [vals_length, hl]; exact Nat.eq_of_beq_eq_true hb) fun j v hj => ?_⟩
          rw [vals_get] at hj
          cases hcj : cs[j]? with
          | none => rw [hcj] at hj; cases hj
          | some c =>
            rw [hcj] at hj
            simp only [Option.map_some, Option.some.injEq] at hj
            subst hj
            have h3 := cellsAt_get h1 j c hcj
            rw [Nat.zero_add] at h3
            rw [← val_wf0 (ρ := V.ρ) (wfs_get hc hcj)]
            exact ext_cell (hw.2 hx') hb' h3
  · cases hf

theorem fieldX_sound (hE : E.ok) {t : TypeId} {x : SV} {n : Nat} (hf : fieldX E t x n = some f) (hk : f K) :
    ∃ v, K v ∧ ∀ w, (Instr.field t (x.val ρ) n).run E.P w = .ok (v.val ρ) w := by
  unfold fieldX at hf
  split at hf
  · rename_i fs sz by_ ze he
    have hok := Tab.get_ok hE.tab he
    split at hf
    · rename_i fd l hfd
      split at hf
      · rename_i e he'
        have hok' := Tab.get_ok hE.tab he'
        cases ha : isAggD e.d
        · simp only [ha, cond_false] at hf
          split at hf
          · rename_i c hc
            simp only [Option.some.injEq] at hf; subst hf
            refine ⟨c, hk, fun w => ?_⟩
            simp [Instr.field, hok.run, hfd, SV.val, asAgg, part, hok'.agg, ha, vals_get, hc]
          · cases hf
        · simp only [ha, cond_true] at hf
          cases hb : Nat.ble (fd.offset + e.size) l.length
          · simp [hb] at hf
          · simp only [hb, cond_true, Option.some.injEq] at hf; subst hf
            refine ⟨_, hk, fun w => ?_⟩
            simp [Instr.field, hok.run, hfd, SV.val, asAgg, part, hok'.agg, ha, hok'.sz, vals_map]
      · cases hf
    · cases hf
  · cases hf

theorem fieldAddrX_sound (hE : E.ok) {t : TypeId} {x : SV} {n : Nat} (hf : fieldAddrX E t x n = some f) (hk : f K) :
    ∃ v, K v ∧ ∀ w, (Instr.fieldAt t (x.val ρ) n).run E.P w = .ok (v.val ρ) w := by
  unfold fieldAddrX at hf
  have hadd : ∀ b o n : Nat, Addr.add ⟨b, o, none⟩ n = ⟨b, o + n, none⟩ := fun b o n => by
    unfold Addr.add; split
    · simp_all
    · rfl
  split at hf
  · rename_i fs sz by_ ze he
    have hok := Tab.get_ok hE.tab he
    split at hf
    · rename_i fd hfd
      split at hf
      · rename_i e he'
        have hok' := Tab.get_ok hE.tab he'
        cases hz : Nat.beq e.size 0
        · simp only [hz, cond_false] at hf
          have hz' : e.size ≠ 0 := Nat.ne_of_beq_eq_false hz
          split at hf
          · rename_i tk o
            simp only [Option.some.injEq] at hf; subst hf
            refine ⟨_, hk, fun w => ?_⟩
            simp [Instr.fieldAt, hok.run, hfd, SV.val, Instr.sureAddr, fieldPlace, hok'.sz, hz', hadd]
          · rename_i b o
            simp only [Option.some.injEq] at hf; subst hf
            refine ⟨_, hk, fun w => ?_⟩
            simp [Instr.fieldAt, hok.run, hfd, SV.val, Instr.sureAddr, fieldPlace, hok'.sz, hz', hadd]
          · cases hf
        · simp [hz] at hf
      · cases hf
    · cases hf
  · cases hf

theorem idxX_sound (hE : E.ok) {t : TypeId} {x i : SV} (hf : idxX E t x i = some f) (hk : f K) :
    ∃ v, K v ∧ ∀ w, (Instr.indexAt t (x.val ρ) (i.val ρ)).run E.P w = .ok (v.val ρ) w := by
  have hadd : ∀ b o n : Nat, Addr.add ⟨b, o, none⟩ n = ⟨b, o + n, none⟩ := fun b o n => by
    unfold Addr.add; split
    · simp_all
    · rfl
  unfold idxX at hf
  split at hf
  · rename_i k n e he
    have hok := Tab.get_ok hE.tab he
    split at hf
    · rename_i el A l c hd
      split at hf
      · rename_i ee hee
        have hok' := Tab.get_ok hE.tab hee
        simp only [Option.some.injEq] at hf; subst hf
        obtain ⟨b, o, hA, hi, hk⟩ := hk
        refine ⟨_, hk, fun w => ?_⟩
        subst hA
        simp [Instr.indexAt, SV.val, asIntOf, hok.run, hd, hok'.sz, hadd, hi.1, hi.2]
      · cases hf
    · rename_i el tk o l c hd
      split at hf
      · rename_i ee hee
        have hok' := Tab.get_ok hE.tab hee
        simp only [Option.some.injEq] at hf; subst hf
        obtain ⟨hi, hk⟩ := hk
        refine ⟨_, hk, fun w => ?_⟩
        simp [Instr.indexAt, SV.val, asIntOf, hok.run, hd, hok'.sz, hadd, hi.1, hi.2]
      · cases hf
    · rename_i len el b o hd
      split at hf
      · rename_i ee hee
        have hok' := Tab.get_ok hE.tab hee
        simp only [Option.some.injEq] at hf; subst hf
        obtain ⟨hi, hk⟩ := hk
        refine ⟨_, hk, fun w => ?_⟩
        simp [Instr.indexAt, SV.val, asIntOf, hok.run, hd, hok'.sz, hadd, hi.1, hi.2, Instr.sureAddr]
      · cases hf
    · rename_i len el tk o hd
      split at hf
      · rename_i ee hee
        have hok' := Tab.get_ok hE.tab hee
        simp only [Option.some.injEq] at hf; subst hf
        obtain ⟨hi, hk⟩ := hk
        refine ⟨_, hk, fun w => ?_⟩
        simp [Instr.indexAt, SV.val, asIntOf, hok.run, hd, hok'.sz, hadd, hi.1, hi.2, Instr.sureAddr]
      · cases hf
    · cases hf
  · cases hf

theorem binX_sound {op : BinOp} {x y : SV} (hf : binX E op x y = some f) (hk : f K) (t : TypeId) (x' y' : Operand) :
    ∃ v, K v ∧ ∀ w, (do eqGuard op t x' y' (x.val ρ) (y.val ρ); binOp op t (x.val ρ) (y.val ρ) : Sem Value).run E.P w = .ok (v.val ρ) w := by
  unfold binX at hf
  split at hf
  · rename_i k a j b
    cases hs : IntKind.same k j
    · simp [hs] at hf
    · simp only [hs, cond_true] at hf
      have hkj := same_eq hs
      subst hkj
      have hg : ∀ w, (eqGuard op t x' y' (.int k a) (.int k b)).run E.P w = .ok () w := fun w => by
        cases op <;> simp [eqGuard]
      split at hf
      · rename_i g hg'
        simp only [Option.some.injEq] at hf; subst hf
        obtain ⟨r, hr, hk⟩ := hk
        refine ⟨_, hk, fun w => ?_⟩
        have hr' : k.wrap (g a b) = r := hr
        subst hr'
        cases op <;> simp [intOp] at hg' <;> subst hg' <;> simp [SV.val, hg, binOp, Op.intArith]
      · split at hf
        · rename_i g hg'
          simp only [Option.some.injEq] at hf; subst hf
          refine ⟨_, hk, fun w => ?_⟩
          cases op <;> simp [cmpOp] at hg' <;> subst hg' <;> simp [SV.val, hg, binOp, Op.intCmp]
        · cases hf
  · cases hf

theorem lenX_sound (hE : E.ok) {t ty : TypeId} {x : SV} (hf : lenX E t x = some f) (hk : f K) :
    ∃ v, K v ∧ ∀ w, (Builtin.len_ #[t] ty #[x.val ρ]).run E.P w = .ok (v.val ρ) w := by
  unfold lenX at hf
  split at hf
  · rename_i he
    have hok := Tab.get_ok hE.tab he
    simp only [Option.some.injEq] at hf; subst hf
    exact ⟨_, hk, fun w => by simp [Builtin.len_, SV.val, hok.run, goInt]⟩
  · rename_i he
    have hok := Tab.get_ok hE.tab he
    simp only [Option.some.injEq] at hf; subst hf
    exact ⟨_, hk, fun w => by simp [Builtin.len_, SV.val, hok.run, goInt]⟩
  · rename_i he
    have hok := Tab.get_ok hE.tab he
    simp only [Option.some.injEq] at hf; subst hf
    exact ⟨_, hk, fun w => by simp [Builtin.len_, SV.val, hok.run, goInt]⟩
  · cases hf

end
end Go.Sx
