/- The reckoner is right, part 8: a call. -/
import Derived.Test.YtkiioneimheciaaGreatSxH
namespace Go.Sx
open Go

section
variable {E : Env} {st : St} {ρ : List Nat} {w0 w : World} {a : Act}

def resOne (tmps : Array Value) : ResultVar → Sem Value
  | .tmp t => pure (tmps.getD t undef)
  | .cell a t => do loadVar t (← asAddr (tmps.getD a undef))

theorem resX_sound (hE : E.ok) (R : Rep E.fr st ρ w0 a w) : ∀ {rs : List ResultVar} {vs : List SV}, resX E st rs = some vs →
    (rs.mapM (resOne a.tmps)).run E.P w = .ok (SV.vals ρ vs) w
  | [], vs, h => by simp [resX] at h; subst h; simp [SV.vals]
  | .tmp t :: r, vs, h => by
    simp only [resX] at h
    split at h
    · rename_i v us hv hu
      simp only [Option.some.injEq] at h; subst h
      have := resX_sound hE R hu
      simp [List.mapM_cons, resOne, this, SV.vals, ← R.slot t v hv]
    · cases h
  | .cell ad t :: r, vs, h => by
    simp only [resX] at h
    split at h
    · rename_i tk o us hv hu
      have ih := resX_sound hE R hu
      have hs := R.slot ad _ hv
      simp only [SV.val] at hs
      split at h
      · rename_i e k he hk
        have hok := Tab.get_ok hE.tab he
        have hload := fun f (K : SV → Prop) (hf : loadX E (fullView st ρ w0) t (.ptr tk o) = some f) (hk : f K) => loadX_sound (r := []) (ρ := ρ) hE (by simp [fullView]) (fun _ _ _ _ _ _ => rfl) hf hk
        cases ha : isAggD e.d
        · simp only [ha, cond_false] at h
          split at h
          · rename_i c hc
            simp only [Option.some.injEq] at h; subst h
            obtain ⟨u, hu1, hu2⟩ := hload (fun K => K c) (fun x => x = c) (by simp [loadX, he, fullView, hk, ha, hc]) rfl
            subst hu1
            have := hu2 w (view_ok R)
            simp only [SV.val, Instr.loadAt, Instr.sureAddr, Sem.run_bind, Sem.run_pure, Result.andThen_ok] at this
            simp [List.mapM_cons, resOne, hs, asAddr, this, ih, SV.vals, ← List.getD_eq_getElem?_getD]
          · cases h
        · simp only [ha, cond_true] at h
          cases hb : Nat.ble (o + e.size) k.cells.length
          · simp [hb] at h
          · simp only [hb, cond_true, Option.some.injEq] at h; subst h
            obtain ⟨u, hu1, hu2⟩ := hload (fun K => K (.agg ((k.cells.drop o).take e.size))) (fun x => x = .agg ((k.cells.drop o).take e.size)) (by simp [loadX, he, fullView, hk, ha, hb]) rfl
            subst hu1
            have := hu2 w (view_ok R)
            simp only [SV.val, Instr.loadAt, Instr.sureAddr, Sem.run_bind, Sem.run_pure, Result.andThen_ok] at this
            simp [List.mapM_cons, resOne, hs, asAddr, this, ih, SV.vals, SV.val, ← List.getD_eq_getElem?_getD]
      · cases h
    · cases h

theorem one_val (ρ : List Nat) (vs : List SV) : (one vs).val ρ = (if h : (SV.vals ρ vs).toArray.size = 1 then (SV.vals ρ vs).toArray[0] else .tuple (SV.vals ρ vs).toArray) := by
  match vs with
  | [] => simp [one, SV.vals, SV.val]
  | [v] => simp [one, SV.vals]
  | v :: u :: r => simp [one, SV.vals, SV.val]

theorem lk_slots : ∀ {args : List SV} {i t : Nat} {v : SV}, lk (slotsOf i args) t = some v → i ≤ t ∧ args[t - i]? = some v
  | [], _, _, _, h => by cases h
  | x :: r, i, t, v, h => by
    simp only [slotsOf, lk] at h
    cases hb : Nat.beq i t
    · rw [hb] at h
      obtain ⟨h1, h2⟩ := lk_slots h
      exact ⟨by omega, by rw [show t - i = (t - (i + 1)) + 1 from by omega]; simpa using h2⟩
    · rw [hb] at h
      simp only [cond_true, Option.some.injEq] at h; subst h
      have := Nat.eq_of_beq_eq_true hb; subst this
      exact ⟨Nat.le_refl _, by simp⟩

/-- WHAT IS TOLD OF A FUNCTION IS ENOUGH FOR ITS CALL. -/
theorem fnX_sound (hE : E.ok) (hfr : E.fr = []) {f : FuncId} {fn : Func} {c : Code} {nt : Nat} {rs : List ResultVar} (hf : E.P.funcs[f]? = some fn) (hb : fn.body = some c) (hnt : fn.ntmps = nt) (hrs : fn.results = rs.toArray)
    {args : List SV} (hl : args.length ≤ nt) {hp : Heap} (hh : Held hp ρ w) {R : Ending → World → Prop} (hX : fnX E c nt rs args hp ρ w R) : Calls E.P f (SV.vals ρ args).toArray w R := by
  refine calls_of_wp hf hb ?_
  have hsz : (SV.vals ρ args).toArray.size = args.length := by simp [vals_length]
  have hR : Rep [] { nt, sl := slotsOf 0 args, hp } ρ w { tmps := (SV.vals ρ args).toArray ++ Array.replicate (fn.ntmps - (SV.vals ρ args).toArray.size) undef, defers := [] } w := by
    refine ⟨rfl, ?_, fun t v hv => ?_, ⟨hh, Ext.refl _ _⟩⟩
    · simp only [Array.size_append, hsz, Array.size_replicate, hnt]; omega
    · have hv' : lk (slotsOf 0 args) t = some v := by
        unfold St.slot at hv
        split at hv
        · rename_i u hu; rw [hu]; exact hv
        · cases hv
      obtain ⟨_, h2⟩ := lk_slots hv'
      rw [Nat.sub_zero] at h2
      have hlt : t < args.length := (List.getElem?_eq_some_iff.1 h2).1
      rw [Array.getD_eq_getD_getElem?, Array.getElem?_append_left (by rw [hsz]; exact hlt)]
      simp [vals_get, h2]
  have hE' : ({ E with fr := [] } : Env) = E := by cases E; simp_all
  refine wp_mono (X_sound c E hE 0 [] _ ρ w _ _ w (by rw [hE']; exact hX) hR) fun e a' w' hq => ?_
  have fin : (∃ st ρ' w0, retK E rs R .ret st ρ' w0 ∧ Rep [] st ρ' w0 a' w') → a'.defers = [] ∧ ∃ v, (results fn a'.tmps).run E.P w' = .ok v w' ∧ R (.returned v) w' := by
    rintro ⟨st, ρ', w0, hK, R'⟩
    refine ⟨R'.nodef, ?_⟩
    unfold retK at hK
    simp only at hK
    split at hK
    · rename_i vs hvs
      refine ⟨(one vs).val ρ', ?_, hK w' R'.fin⟩
      rw [← hfr] at R'
      have := resX_sound hE R' hvs
      have e0 : results fn a'.tmps = (do let vs ← fn.results.mapM (resOne a'.tmps); pure (if h : vs.size = 1 then vs[0] else .tuple vs)) := by
        unfold results
        congr 2
      have e1 : fn.results.mapM (resOne a'.tmps) = List.toArray <$> rs.mapM (resOne a'.tmps) := by
        rw [hrs, List.mapM_toArray]
      rw [e0, e1]
      simp only [Sem.run_bind, Sem.run_map, this, Result.andThen_ok, Sem.run_pure, one_val]
    · exact hK.elim
  cases e with
  | normal => exact fin hq
  | ret => exact fin hq
  | panic c => exact hq.elim
  | outgrown => exact hq.elim
  | exit i => obtain ⟨st, ρ', w0, hK, _⟩ := hq; exact hK.elim
  | goto l => obtain ⟨st, ρ', w0, hK, _⟩ := hq; exact hK.elim

end

/-- The functions of a list are called as they stand. -/
def FnsOk (P : Program) : List FuncId → Prop
  | [] => True
  | f :: r => (∀ args w, (callFunc f args).run P w = .ok (.enter f args) w) ∧ FnsOk P r
theorem FnsOk.call {P : Program} : ∀ {l : List FuncId}, FnsOk P l → ∀ f, hasN l f = true → ∀ args w, (callFunc f args).run P w = .ok (.enter f args) w
  | [], _, f, h => by cases h
  | g :: r, hl, f, h => by
    simp only [hasN] at h
    cases hb : Nat.beq g f
    · rw [hb] at h; exact FnsOk.call hl.2 f h
    · rw [← Nat.eq_of_beq_eq_true hb]; exact hl.1

end Go.Sx
