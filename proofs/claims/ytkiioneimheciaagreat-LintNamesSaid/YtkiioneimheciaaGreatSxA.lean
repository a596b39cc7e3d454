/- The reckoner is right, part 1: values, tables, and the operations that only read. -/
import Derived.Test.YtkiioneimheciaaGreatSx
import Derived.Laws.Sem
import Derived.Laws.World
namespace Go.Sx
open Go

theorem vals_map (ρ : List Nat) : ∀ l, SV.vals ρ l = l.map (SV.val ρ)
  | [] => rfl
  | v :: r => by simp [SV.vals, vals_map ρ r]

theorem vals_length (ρ : List Nat) (l : List SV) : (SV.vals ρ l).length = l.length := by simp [vals_map]
theorem vals_append (ρ : List Nat) (l m : List SV) : SV.vals ρ (l ++ m) = SV.vals ρ l ++ SV.vals ρ m := by simp [vals_map]
theorem vals_get (ρ : List Nat) (l : List SV) (i : Nat) : (SV.vals ρ l)[i]? = (l[i]?).map (SV.val ρ) := by simp [vals_map]

theorem val_cells (ρ : List Nat) (v : SV) : (v.val ρ).cells = (SV.vals ρ v.cells).toArray := by
  cases v with
  | raw x =>
    cases x <;> simp [SV.val, SV.cells, Value.cells, vals_map]
    rename_i cs
    show cs = (cs.toList.map _).toArray
    have : (SV.val ρ ∘ SV.raw) = id := by funext x; simp [SV.val]
    simp [this]
  | _ => simp [SV.val, SV.cells, Value.cells, SV.vals]

mutual
theorem val_of_wf {n : Nat} {ρ σ : List Nat} (h : ∀ t, t < n → ρ.getD t 0 = σ.getD t 0) : ∀ v : SV, v.wf n = true → v.val ρ = v.val σ
  | .raw _, _ => rfl
  | .bol _, _ => rfl
  | .adr _ _, _ => rfl
  | .ptr t o, hw => by simp only [SV.wf, Nat.blt_eq] at hw; simp only [SV.val, h t hw]
  | .slc t o l c, hw => by simp only [SV.wf, Nat.blt_eq] at hw; simp only [SV.val, h t hw]
  | .fn f caps, hw => by simp only [SV.wf] at hw; simp only [SV.val, vals_of_wf h caps hw]
  | .agg l, hw => by simp only [SV.wf] at hw; simp only [SV.val, vals_of_wf h l hw]
  | .tup l, hw => by simp only [SV.wf] at hw; simp only [SV.val, vals_of_wf h l hw]
theorem vals_of_wf {n : Nat} {ρ σ : List Nat} (h : ∀ t, t < n → ρ.getD t 0 = σ.getD t 0) : ∀ l : List SV, SV.wfs n l = true → SV.vals ρ l = SV.vals σ l
  | [], _ => rfl
  | v :: r, hw => by
    simp only [SV.wfs, Bool.and_eq_true] at hw
    simp only [SV.vals, val_of_wf h v hw.1, vals_of_wf h r hw.2]
end

theorem getD_append {ρ r : List Nat} {t : Nat} (h : t < ρ.length) : (ρ ++ r).getD t 0 = ρ.getD t 0 := by
  simp only [List.getD_eq_getElem?_getD, List.getElem?_append_left h]

theorem val_grown {ρ r : List Nat} {v : SV} (h : v.wf ρ.length = true) : v.val (ρ ++ r) = v.val ρ := val_of_wf (fun _ ht => getD_append ht) v h
theorem vals_grown {ρ r : List Nat} {l : List SV} (h : SV.wfs ρ.length l = true) : SV.vals (ρ ++ r) l = SV.vals ρ l := vals_of_wf (fun _ ht => getD_append ht) l h
theorem val_wf0 {ρ σ : List Nat} {v : SV} (h : v.wf 0 = true) : v.val ρ = v.val σ := val_of_wf (fun _ ht => absurd ht (by omega)) v h
theorem vals_wf0 {ρ σ : List Nat} {l : List SV} (h : SV.wfs 0 l = true) : SV.vals ρ l = SV.vals σ l := vals_of_wf (fun _ ht => absurd ht (by omega)) l h

mutual
theorem Shape.ex_some : ∀ (s : Shape) (p : SV → Prop), s.ex p → ∃ v, v.wf 0 = true ∧ p v
  | .int k, p, h => by obtain ⟨n, h⟩ := h; exact ⟨_, rfl, h⟩
  | .bool, p, h => by obtain ⟨n, h⟩ := h; exact ⟨_, rfl, h⟩
  | .str, p, h => by obtain ⟨n, h⟩ := h; exact ⟨_, rfl, h⟩
  | .ptr, p, h => by obtain ⟨n, h⟩ := h; exact ⟨_, rfl, h⟩
  | .adr, p, h => by obtain ⟨n, o, h⟩ := h; exact ⟨_, rfl, h⟩
  | .slice, p, h => by obtain ⟨n, l, c, h⟩ := h; exact ⟨_, rfl, h⟩
  | .map, p, h => by obtain ⟨n, h⟩ := h; exact ⟨_, rfl, h⟩
  | .val, p, h => by obtain ⟨n, h⟩ := h; exact ⟨_, rfl, h⟩
  | .lit v, p, h => ⟨_, rfl, h⟩
  | .agg l, p, h => by obtain ⟨vs, hw, h⟩ := Shape.exs_some l _ h; exact ⟨_, by simpa [SV.wf] using hw, h⟩
  | .tup l, p, h => by obtain ⟨vs, hw, h⟩ := Shape.exs_some l _ h; exact ⟨_, by simpa [SV.wf] using hw, h⟩
theorem Shape.exs_some : ∀ (l : List Shape) (p : List SV → Prop), Shape.exs l p → ∃ vs, SV.wfs 0 vs = true ∧ p vs
  | [], p, h => ⟨[], rfl, h⟩
  | s :: r, p, h => by
    obtain ⟨v, hv, h⟩ := Shape.ex_some s _ h
    obtain ⟨vs, hvs, h⟩ := Shape.exs_some r _ h
    exact ⟨v :: vs, by simp [SV.wfs, hv, hvs], h⟩
end

theorem same_eq : ∀ {j k : IntKind}, IntKind.same j k = true → j = k := by intro j k; cases j <;> cases k <;> simp [IntKind.same]

theorem fits_int {k : IntKind} {v : SV} (f : (Shape.int k).fits v = true) : ∃ n, v = .raw (.int k n) := by
  unfold Shape.fits at f
  split at f <;> simp_all
  exact (same_eq f).symm
theorem fits_bool {v : SV} (f : Shape.bool.fits v = true) : ∃ n, ∀ ρ, v.val ρ = .bool n := by
  unfold Shape.fits at f
  split at f <;> simp_all [SV.val]
theorem fits_str {v : SV} (f : Shape.str.fits v = true) : ∃ n, ∀ ρ, v.val ρ = .string n := by
  unfold Shape.fits at f
  split at f <;> simp_all [SV.val]
theorem fits_ptr {v : SV} (f : Shape.ptr.fits v = true) (ρ : List Nat) : ∃ n, v.val ρ = .pointer n := by
  unfold Shape.fits at f
  split at f <;> simp_all [SV.val]
theorem fits_adr {v : SV} (f : Shape.adr.fits v = true) (ρ : List Nat) : ∃ b o, v.val ρ = .pointer (some ⟨b, o, none⟩) := by
  unfold Shape.fits at f
  split at f <;> simp_all [SV.val]
theorem fits_slice {v : SV} (f : Shape.slice.fits v = true) (ρ : List Nat) : ∃ a l c, v.val ρ = .slice a l c := by
  unfold Shape.fits at f
  split at f <;> simp_all [SV.val]
theorem fits_map {v : SV} (f : Shape.map.fits v = true) : ∃ n, ∀ ρ, v.val ρ = .map n := by
  unfold Shape.fits at f
  split at f <;> simp_all [SV.val]
theorem fits_agg {l : List Shape} {v : SV} (f : (Shape.agg l).fits v = true) : ∃ vs, v = .agg vs ∧ Shape.fitss l vs = true := by
  unfold Shape.fits at f
  split at f <;> simp_all
theorem fits_tup {l : List Shape} {v : SV} (f : (Shape.tup l).fits v = true) : ∃ vs, v = .tup vs ∧ Shape.fitss l vs = true := by
  unfold Shape.fits at f
  split at f <;> simp_all

mutual
theorem Shape.all_inst (ρ : List Nat) : ∀ (s : Shape) (p : SV → Prop) (v : SV), s.all p → s.fits v = true → ∃ u, p u ∧ u.val ρ = v.val ρ
  | .int k, p, v, h, f => let ⟨n, e⟩ := fits_int f; ⟨_, h n, by rw [e]⟩
  | .bool, p, v, h, f => let ⟨n, e⟩ := fits_bool f; ⟨_, h n, (e ρ).symm⟩
  | .str, p, v, h, f => let ⟨n, e⟩ := fits_str f; ⟨_, h n, (e ρ).symm⟩
  | .ptr, p, v, h, f => let ⟨n, e⟩ := fits_ptr f ρ; ⟨_, h n, e.symm⟩
  | .adr, p, v, h, f => let ⟨b, o, e⟩ := fits_adr f ρ; ⟨_, h b o, e.symm⟩
  | .slice, p, v, h, f => let ⟨a, l, c, e⟩ := fits_slice f ρ; ⟨_, h a l c, e.symm⟩
  | .map, p, v, h, f => let ⟨n, e⟩ := fits_map f; ⟨_, h n, (e ρ).symm⟩
  | .val, p, v, h, f => ⟨_, h (v.val ρ), rfl⟩
  | .lit u, p, v, h, f => by cases v <;> simp [Shape.fits] at f
  | .agg l, p, v, h, f => by
    obtain ⟨vs, e, f⟩ := fits_agg f
    obtain ⟨us, hp, he⟩ := Shape.alls_inst ρ l _ vs h f
    exact ⟨_, hp, by simp [e, SV.val, he]⟩
  | .tup l, p, v, h, f => by
    obtain ⟨vs, e, f⟩ := fits_tup f
    obtain ⟨us, hp, he⟩ := Shape.alls_inst ρ l _ vs h f
    exact ⟨_, hp, by simp [e, SV.val, he]⟩
theorem Shape.alls_inst (ρ : List Nat) : ∀ (l : List Shape) (p : List SV → Prop) (vs : List SV), Shape.alls l p → Shape.fitss l vs = true → ∃ us, p us ∧ SV.vals ρ us = SV.vals ρ vs
  | [], p, vs, h, f => by cases vs <;> simp [Shape.fitss] at f; exact ⟨[], h, rfl⟩
  | s :: r, p, [], h, f => by simp [Shape.fitss] at f
  | s :: r, p, v :: vs, h, f => by
    simp only [Shape.fitss, Bool.and_eq_true] at f
    obtain ⟨u, h, hu⟩ := Shape.all_inst ρ s _ v h f.1
    obtain ⟨us, h, hus⟩ := Shape.alls_inst ρ r _ vs h f.2
    exact ⟨u :: us, h, by simp [SV.vals, hu, hus]⟩
end

/-! ### tables -/
theorem Tab.get_ok {P : Program} : ∀ {T : Tab} {t : TypeId} {e : TE}, Tab.ok P T → lk T t = some e → e.ok P t
  | [], _, _, _, h => by simp [lk] at h
  | (a, x) :: r, t, e, hT, h => by
    simp only [lk] at h
    cases hb : Nat.beq a t
    · rw [hb] at h; exact Tab.get_ok hT.2 h
    · rw [hb] at h; simp at h; subst h; rw [← Nat.eq_of_beq_eq_true hb]; exact hT.1

structure Env.ok (E : Env) : Prop where
  tab : Tab.ok E.P E.T
  fns : ∀ f, hasN E.fns f = true → ∀ args w, (callFunc f args).run E.P w = .ok (.enter f args) w
  mixed : E.P.follows .mixedOrders = true

section
variable {E : Env} {V : View} {ρ r : List Nat} {get : Operand → Option SV} {ev : Operand → Value} {o : Oper} {f : (SV → Prop) → Prop} {K : SV → Prop}

/-- What an operation yields, in every world of the view. -/
def Gives (E : Env) (V : View) (ρ : List Nat) (ev : Operand → Value) (o : Oper) (v : SV) : Prop :=
  ∀ w, V.ok w → (execOp ev o).run E.P w = .ok (.value (v.val ρ)) w

theorem evS_of (hg : ∀ x v, get x = some v → ev x = v.val ρ) : ∀ {l : List Operand} {vs : List SV}, getAll get l = some vs → ∀ x ∈ l, evS ρ get x = ev x
  | [], _, _, x, hx => by cases hx
  | y :: l, vs, h, x, hx => by
    simp only [getAll] at h
    split at h
    · rename_i v us hy hl
      cases hx with
      | head => simp only [evS, hy]; exact (hg _ _ hy).symm
      | tail _ hx => exact evS_of hg hl x hx
    · cases h

theorem getAll_map (hg : ∀ x v, get x = some v → ev x = v.val ρ) : ∀ {l : List Operand} {vs : List SV}, getAll get l = some vs → l.map ev = SV.vals ρ vs
  | [], _, h => by simp [getAll] at h; subst h; rfl
  | y :: l, vs, h => by
    simp only [getAll] at h
    split at h
    · rename_i v us hy hl
      cases h
      simp only [List.map, SV.vals, hg _ _ hy, getAll_map hg hl]
    · cases h

theorem not_select (ev : Operand → Value) (o : Oper) (s : Sem Value) (h : semV ev o = some s) : ∀ cs b, o.op ≠ .select cs b := by
  intro cs b e
  simp [semV, e] at h
theorem not_selectU (ev : Operand → Value) (o : Oper) (s : Sem Unit) (h : semU ev o = some s) : ∀ cs b, o.op ≠ .select cs b := by
  intro cs b e
  simp [semU, e] at h

/-- What 'semV' tells is what the model runs. -/
theorem semV_exec {s : Sem Value} (h : semV ev o = some s) : execOp ev o = (do pure (.value (← s))) := by
  obtain ⟨dst, op, type, pos, after, guard⟩ := o
  cases op <;> simp only [semV] at h <;> (try cases h) <;> (try rfl)
  · simp only [execOp, ← Array.toList_map]
  · simp only [execOp, ← Array.toList_map]
  · rename_i c
    obtain ⟨callee, args, ats⟩ := c
    cases callee <;> simp only [reduceCtorEq] at h
    rename_i b
    cases b <;> simp only [Option.some.injEq, reduceCtorEq] at h <;> subst h <;> simp [execOp, resolve, invoke, builtin, ← Array.toList_map]
theorem semU_exec {s : Sem Unit} (h : semU ev o = some s) : execOp ev o = (do s; pure .skip) := by
  obtain ⟨dst, op, type, pos, after, guard⟩ := o
  cases op <;> simp only [semU] at h <;> (try cases h) <;> (try rfl)

end
end Go.Sx
