/- The reckoner is right, part 3: an operation that only reads, whichever it is; the state; the operations that act. -/
import Derived.Test.YtkiioneimheciaaGreatSxB
namespace Go.Sx
open Go

section
variable {E : Env} {V : View} {ρ r : List Nat} {get : Operand → Option SV} {ev : Operand → Value} {o : Oper} {f : (SV → Prop) → Prop} {K : SV → Prop}

theorem exec_of_semV {v : SV} {s : Sem Value} (hs : semV ev o = some s) (h : ∀ w, V.ok w → s.run E.P w = .ok (v.val ρ) w) : Gives E V ρ ev o v := fun w hw => by
  rw [semV_exec hs]; simp [h w hw]

theorem ofVal_val (ρ : List Nat) (v : Value) : (ofVal v).val ρ = v := by cases v <;> rfl

/-! ### a store into a block -/
theorem setRange_length {α : Type} : ∀ (l : List α) (o : Nat) (r : List α), (setRange l o r).length = l.length
  | _, _, [] => rfl
  | l, o, x :: r => by rw [setRange, setRange_length]; simp
theorem setRange_map {α β : Type} (f : α → β) : ∀ (l : List α) (o : Nat) (r : List α), (setRange l o r).map f = setRange (l.map f) o (r.map f)
  | _, _, [] => rfl
  | l, o, x :: r => by rw [setRange, setRange_map, List.map_set]; rfl

theorem fill_eq {place : Nat → Option (Nat × Nat)} (ρ : List Nat) : ∀ {ps : List (Nat × SV)} {cells r : List SV}, fillS place cells ps = some r →
    Instr.fill place (SV.vals ρ cells).toArray (ps.map fun x => (x.1, x.2.val ρ)) = some (SV.vals ρ r).toArray
  | [], cells, r, h => by simp [fillS] at h; subst h; rfl
  | (i, v) :: rest, cells, r, h => by
    simp only [fillS] at h
    split at h
    · cases h
    · rename_i off size hpl
      cases hc : (Nat.beq v.cells.length size && Nat.ble (off + v.cells.length) cells.length)
      · rw [hc] at h; cases h
      · rw [hc] at h
        simp only [cond_true] at h
        simp only [Bool.and_eq_true] at hc
        have h1 := Nat.eq_of_beq_eq_true hc.1
        have h2 := Nat.le_of_ble_eq_true hc.2
        have ih := fill_eq ρ h
        have key : ∀ (xs : List Value) (l : List Value) (j : Nat), (xs.zipIdx j).foldl (fun (cs : Array Value) (x : Value × Nat) => cs.setIfInBounds (off + x.2) x.1) l.toArray = (setRange l (off + j) xs).toArray := by
          intro xs
          induction xs with
          | nil => intro l j; rfl
          | cons x xs ihx =>
            intro l j
            simp only [List.zipIdx_cons, List.foldl_cons, setRange]
            rw [show off + j + 1 = off + (j + 1) from by omega, ← ihx]
            simp
        have hfold : (SV.vals ρ v.cells).toArray.zipIdx.foldl (fun cs (x : Value × Nat) => cs.setIfInBounds (off + x.2) x.1) (SV.vals ρ cells).toArray = (SV.vals ρ (setRange cells off v.cells)).toArray := by
          rw [← Array.foldl_toList]
          have := key (SV.vals ρ v.cells) (SV.vals ρ cells) 0
          simp only [Nat.add_zero] at this
          rw [vals_map ρ (setRange _ _ _), setRange_map, ← vals_map, ← vals_map, ← this]
          simp
        simp only [List.map_cons, Instr.fill, hpl, val_cells]
        have hno : ¬ ((SV.vals ρ v.cells).toArray.size ≠ size ∨ off + (SV.vals ρ v.cells).toArray.size > (SV.vals ρ cells).toArray.size) := by
          simp only [List.size_toArray, vals_length]; omega
        simp only [Bool.or_eq_true, decide_eq_true_eq]
        rw [if_neg hno, ← ih, ← hfold]

theorem parts_map (hg : ∀ x v, get x = some v → ev x = v.val ρ) : ∀ {ps : List (Nat × Operand)} {vs : List (Nat × SV)}, parts get ps = some vs →
    ps.map (fun x => (x.1, ev x.2)) = vs.map fun x => (x.1, x.2.val ρ)
  | [], vs, h => by simp [parts] at h; subst h; rfl
  | (i, x) :: r, vs, h => by
    simp only [parts] at h
    split at h
    · rename_i v us hv hu
      cases h
      simp [hg _ _ hv, parts_map hg hu]
    · cases h

theorem ofVals_map (ρ : List Nat) (cs : List Value) : SV.vals ρ (cs.map ofVal) = cs := by
  rw [vals_map, List.map_map]
  have : SV.val ρ ∘ ofVal = id := by funext v; exact ofVal_val ρ v
  simp [this]


theorem places_run {P : Program} {T : Tab} (hT : Tab.ok P T) (w : World) : ∀ {fs : List Field} {ps : List (Nat × Nat)}, places T fs = some ps →
    (fs.mapM fun f => do pure (f.offset, ← sizeOf f.type) : Sem (List (Nat × Nat))).run P w = .ok ps w
  | [], ps, h => by simp [places] at h; subst h; simp
  | f :: r, ps, h => by
    simp only [places] at h
    split at h
    · rename_i e us he hu
      simp only [Option.some.injEq] at h; subst h
      have := places_run hT w hu
      simp only [List.mapM_cons, Sem.run_bind, (Tab.get_ok hT he).sz, Result.andThen_ok, Sem.run_pure, this]
    · cases h

theorem buildX_sound (hE : E.ok) {t : TypeId} {vs : List (Nat × SV)} (hf : buildX E t vs = some f) (hk : f K) :
    ∃ v, K v ∧ ∀ w, (Instr.build t (vs.map fun x => (x.1, x.2.val ρ)).toArray).run E.P w = .ok (v.val ρ) w := by
  unfold buildX at hf
  split at hf
  · rename_i fs sz by_ zero he
    have hok := Tab.get_ok hE.tab he
    split at hf
    · rename_i ps hps
      split at hf
      · rename_i cs hcs
        simp only [Option.some.injEq] at hf; subst hf
        refine ⟨_, hk, fun w => ?_⟩
        have h1 := fill_eq ρ hcs
        rw [ofVals_map] at h1
        simp only [Array.toArray_toList] at h1
        have h2 := places_run hE.tab w hps
        have e1 : (fs.mapM fun f => do pure (f.offset, ← sizeOf f.type) : Sem (Array (Nat × Nat))) = List.toArray <$> (fs.toList.mapM fun f => do pure (f.offset, ← sizeOf f.type)) := by
          rw [← List.mapM_toArray, Array.toArray_toList]
        simp only [Instr.build, Sem.run_bind, hok.zero, hok.run, Result.andThen_ok, e1, Sem.run_map, h2]
        have e2 : (fun i : Nat => ps.toArray[i]?) = fun i : Nat => ps[i]? := by funext i; simp
        rw [e2, h1]
        simp [SV.val]
      · cases hf
    · cases hf
  · rename_i n el sz by_ zero he
    have hok := Tab.get_ok hE.tab he
    split at hf
    · rename_i ee hee
      have hok' := Tab.get_ok hE.tab hee
      split at hf
      · rename_i cs hcs
        simp only [Option.some.injEq] at hf; subst hf
        refine ⟨_, hk, fun w => ?_⟩
        have h1 := fill_eq ρ hcs
        rw [ofVals_map] at h1
        simp only [Array.toArray_toList] at h1
        simp only [Instr.build, Sem.run_bind, hok.zero, hok.run, hok'.sz, Result.andThen_ok]
        rw [h1]
        simp [SV.val]
      · cases hf
    · cases hf
  · cases hf

theorem ints_spec (ρ : List Nat) : ∀ (vs : List SV) {k : IntKind} {l : List Int}, ints vs = some (k, l) → SV.vals ρ vs = l.map (Value.int k) := by
  intro vs
  induction vs with
  | nil => intro k l h; cases h
  | cons v r ih =>
    intro k l h
    unfold ints at h
    split at h
    · simp only [Option.some.injEq, Prod.mk.injEq] at h
      obtain ⟨rfl, rfl⟩ := h
      rename_i e
      obtain ⟨rfl, rfl⟩ := List.cons.inj e
      rfl
    · rename_i e
      obtain ⟨rfl, rfl⟩ := List.cons.inj e
      split at h
      · rename_i j m hm
        rename_i k' n _ _
        cases hs : IntKind.same k' j
        · rw [hs] at h; cases h
        · rw [hs] at h
          simp only [cond_true, Option.some.injEq, Prod.mk.injEq] at h
          obtain ⟨rfl, rfl⟩ := h
          have := ih hm
          rw [← same_eq hs] at this
          simp only [SV.vals, List.map_cons, this]
          rfl
      · cases h
    · cases h

theorem min_run {P : Program} {w : World} {k : IntKind} : ∀ (l : List Int) (n : Int), ((l.map (Value.int k)).foldlM Builtin.min2 (Value.int k n)).run P w = .ok (.int k (l.foldl wMin2 n)) w
  | [], n => by simp
  | m :: l, n => by simp only [List.map_cons, List.foldlM_cons, Sem.run_bind, Builtin.min2, Sem.run_pure, Result.andThen_ok, List.foldl_cons]; exact min_run l _
theorem max_run {P : Program} {w : World} {k : IntKind} : ∀ (l : List Int) (n : Int), ((l.map (Value.int k)).foldlM Builtin.max2 (Value.int k n)).run P w = .ok (.int k (l.foldl wMax2 n)) w
  | [], n => by simp
  | m :: l, n => by simp only [List.map_cons, List.foldlM_cons, Sem.run_bind, Builtin.max2, Sem.run_pure, Result.andThen_ok, List.foldl_cons]; exact max_run l _

theorem foldX_sound {mx : Bool} {vs : List SV} {ats : Array TypeId} {ty : TypeId} (hf : foldX mx vs = some f) (hk : f K) :
    ∃ v, K v ∧ ∀ (P : Program) (w : World), (if mx then Builtin.max_ ats ty (SV.vals ρ vs).toArray else Builtin.min_ ats ty (SV.vals ρ vs).toArray).run P w = .ok (v.val ρ) w := by
  unfold foldX at hf
  split at hf
  · rename_i k n l hi
    simp only [Option.some.injEq] at hf; subst hf
    refine ⟨_, hk, fun P w => ?_⟩
    rw [ints_spec ρ _ hi]
    cases mx
    · simp only [Bool.false_eq_true, if_false, Builtin.min_, List.map_cons, cond_false, SV.val]
      exact min_run l n
    · simp only [if_true, Builtin.max_, List.map_cons, cond_true, SV.val]
      exact max_run l n
  · cases hf

theorem pureX_sound (hE : E.ok) (hg : ∀ x v, get x = some v → ev x = v.val ρ) (hρ : ρ = V.ρ ++ r)
    (hval : ∀ (t : Nat) (k : Blk) (i : Nat) (c : SV), V.hp[t]? = some (some k) → k.cells[i]? = some c → c.val ρ = c.val V.ρ) (hf : pureX E V ρ get o = some f) (hk : f K) :
    ∃ v, K v ∧ Gives E V ρ ev o v := by
  have gen : genX E V ρ get o = some f → ∃ v, K v ∧ Gives E V ρ ev o v := fun h => genX_sound hg h hk
  obtain ⟨dst, op, type, pos, after, guard⟩ := o
  have pure1 : ∀ x, (op = .move x ∨ op = .assign x) → (match get x with | some v => some fun K : SV → Prop => K v | none => none) = some f → ∃ v, K v ∧ Gives E V ρ ev ⟨dst, op, type, pos, after, guard⟩ v := by
    intro x hop hf
    split at hf
    · rename_i v hv
      simp only [Option.some.injEq] at hf; subst hf
      refine ⟨v, hk, fun w _ => ?_⟩
      rcases hop with rfl | rfl <;> simp [execOp, hg x v hv]
    · cases hf
  cases op
  case move x => exact pure1 x (.inl rfl) hf
  case assign x => exact pure1 x (.inr rfl) hf
  case pick c x y =>
    simp only [pureX] at hf
    split at hf
    · rename_i b u v hc hx hy
      simp only [Option.some.injEq] at hf; subst hf
      refine ⟨_, hk, fun w _ => ?_⟩
      cases b <;> simp [execOp, hg _ _ hc, hg _ _ hx, hg _ _ hy, SV.val, asBool]
    · cases hf
  case load t x =>
    simp only [pureX] at hf
    split at hf
    · rename_i v hv
      obtain ⟨u, h1, h2⟩ := loadX_sound hE hρ hval hf hk
      exact ⟨u, h1, exec_of_semV rfl fun w hw => by rw [hg _ _ hv]; exact h2 w hw⟩
    · cases hf
  case nilCheck x =>
    simp only [pureX] at hf
    split at hf
    · rename_i t o hv
      simp only [Option.some.injEq] at hf; subst hf
      exact ⟨_, hk, fun w _ => by simp [execOp, hg _ _ hv, SV.val]⟩
    · rename_i b o hv
      simp only [Option.some.injEq] at hf; subst hf
      exact ⟨_, hk, fun w _ => by simp [execOp, hg _ _ hv, SV.val]⟩
    · rename_i p hv
      simp only [Option.some.injEq] at hf; subst hf
      obtain ⟨b, o, hp, hk⟩ := hk
      subst hp
      exact ⟨_, hk, fun w _ => by simp [execOp, hg _ _ hv, SV.val]⟩
    · cases hf
  case fieldAddr t x n =>
    simp only [pureX] at hf
    split at hf
    · rename_i v hv
      obtain ⟨u, h1, h2⟩ := fieldAddrX_sound (ρ := ρ) hE hf hk
      exact ⟨u, h1, exec_of_semV rfl fun w _ => by rw [hg _ _ hv]; exact h2 w⟩
    · cases hf
  case field t x n =>
    simp only [pureX] at hf
    split at hf
    · rename_i v hv
      split at hf
      · rename_i g hfd
        simp only [Option.some.injEq] at hf; subst hf
        obtain ⟨u, h1, h2⟩ := fieldX_sound (ρ := ρ) hE hfd hk
        exact ⟨u, h1, exec_of_semV rfl fun w _ => by rw [hg _ _ hv]; exact h2 w⟩
      · exact gen hf
    · cases hf
  case indexAddr t x i =>
    simp only [pureX] at hf
    split at hf
    · rename_i v n hv hn
      obtain ⟨u, h1, h2⟩ := idxX_sound (ρ := ρ) hE hf hk
      exact ⟨u, h1, exec_of_semV rfl fun w _ => by rw [hg _ _ hv, hg _ _ hn]; exact h2 w⟩
    · cases hf
  case extract x i =>
    simp only [pureX] at hf
    split at hf
    · rename_i l hv
      split at hf
      · rename_i v hi
        simp only [Option.some.injEq] at hf; subst hf
        exact ⟨_, hk, fun w _ => by simp [execOp, Instr.extract, hg _ _ hv, SV.val, vals_get, hi]⟩
      · cases hf
    · cases hf
  case makeFunc fn first caps =>
    cases fn <;> (try (simp only [pureX, genX, blind, reads, Bool.false_or, Bool.and_false, cond_false] at hf; cases hf; done))
    simp only [pureX] at hf
    cases he : first.isEmpty
    · simp [he] at hf
    · simp only [he, cond_true] at hf
      have he' : first = #[] := by simpa using he
      split at hf
      · rename_i vs hv
        simp only [Option.some.injEq] at hf; subst hf
        refine ⟨_, hk, fun w _ => ?_⟩
        have := getAll_map hg hv
        simp only [execOp, he', Instr.makeFunc, SV.val, ← this]
        simp [← Array.toList_map]
      · cases hf
  case build t ps =>
    simp only [pureX] at hf
    split at hf
    · rename_i vs hv
      split at hf
      · rename_i g hfd
        simp only [Option.some.injEq] at hf; subst hf
        obtain ⟨u, h1, h2⟩ := buildX_sound (ρ := ρ) hE hfd hk
        refine ⟨u, h1, exec_of_semV rfl fun w _ => ?_⟩
        rw [parts_map hg hv]; exact h2 w
      · exact gen hf
    · cases hf
  case binOp op t x y t2 =>
    simp only [pureX] at hf
    split at hf
    · rename_i u v hu hv
      split at hf
      · rename_i g hfd
        simp only [Option.some.injEq] at hf; subst hf
        obtain ⟨z, h1, h2⟩ := binX_sound (ρ := ρ) hfd hk t x y
        exact ⟨z, h1, exec_of_semV rfl fun w _ => by rw [hg _ _ hu, hg _ _ hv]; exact h2 w⟩
      · exact gen hf
    · cases hf
  case unOp op t x =>
    cases op <;> (try (exact gen hf))
    simp only [pureX] at hf
    split at hf
    · rename_i b hv
      simp only [Option.some.injEq] at hf; subst hf
      exact ⟨_, hk, exec_of_semV rfl fun w _ => by rw [hg _ _ hv]; simp [SV.val, Op.unary]⟩
    · rename_i b hv
      simp only [Option.some.injEq] at hf; subst hf
      exact ⟨_, hk, exec_of_semV rfl fun w _ => by rw [hg _ _ hv]; simp [SV.val, Op.unary]⟩
    · cases hf
  case convert s d x =>
    simp only [pureX] at hf
    split at hf
    · rename_i j n es k sz by_ ze hv hs hd
      have hok := Tab.get_ok hE.tab hd
      have hok' := Tab.get_ok hE.tab hs
      simp only [Option.some.injEq] at hf; subst hf
      obtain ⟨q, hq, hk⟩ := hk
      have hq' : k.wrap n = q := hq
      subst hq'
      exact ⟨_, hk, exec_of_semV rfl fun w _ => by rw [hg _ _ hv]; simp [SV.val, convert, hok.run, hok'.run, Conv.intToInt]⟩
    · cases hf
    · exact gen hf
  case call c =>
    obtain ⟨callee, args, ats⟩ := c
    cases callee <;> (try (exact gen hf))
    rename_i b
    cases b <;> (try (exact gen hf))
    case min =>
      simp only [pureX] at hf
      split at hf
      · rename_i vs hv
        split at hf
        · rename_i g hfd
          simp only [Option.some.injEq] at hf; subst hf
          obtain ⟨z, h1, h2⟩ := foldX_sound (ρ := ρ) (ats := ats) (ty := type) hfd hk
          refine ⟨z, h1, exec_of_semV rfl fun w _ => ?_⟩
          rw [getAll_map hg hv]; exact h2 E.P w
        · exact gen hf
      · cases hf
    case max =>
      simp only [pureX] at hf
      split at hf
      · rename_i vs hv
        split at hf
        · rename_i g hfd
          simp only [Option.some.injEq] at hf; subst hf
          obtain ⟨z, h1, h2⟩ := foldX_sound (ρ := ρ) (ats := ats) (ty := type) hfd hk
          refine ⟨z, h1, exec_of_semV rfl fun w _ => ?_⟩
          rw [getAll_map hg hv]; exact h2 E.P w
        · exact gen hf
      · cases hf
    simp only [pureX] at hf
    split at hf
    · rename_i x t hx ht
      split at hf
      · rename_i v hv
        split at hf
        · rename_i g hfd
          simp only [Option.some.injEq] at hf; subst hf
          obtain ⟨z, h1, h2⟩ := lenX_sound (ρ := ρ) (ty := type) hE hfd hk
          refine ⟨z, h1, exec_of_semV rfl fun w _ => ?_⟩
          have h3 : ats = #[t] := by rw [← Array.toArray_toList (xs := ats), ht]
          have h4 : args.toList.map ev = [v.val ρ] := by rw [hx]; simp [hg _ _ hv]
          rw [h4, h3]; exact h2 w
        · exact gen hf
      · cases hf
    · cases hf
  all_goals exact gen hf

end
end Go.Sx
