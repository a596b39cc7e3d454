/- The doer is right, part 3: every operation that only reads. -/
import Derived.Test.YtkiioneimheciaaGreatCxE
set_option linter.all false
namespace Go.Cx
open Go Go.Sx

section
variable {P : Program} {Y : Tys} {τ : Tau} {sl : T CV} {g : Gt} {a : Act} {w : World}

theorem cells_rel {v : CV} {x : Value} (h : v.rel τ x) : CV.rels τ v.cells x.cells.toList := by
  cases v with
  | agg l => obtain ⟨xs, h1, rfl⟩ := h; simpa [CV.cells, Value.cells] using h1
  | ptr t o => obtain ⟨b, c, h1, rfl⟩ := h; exact ⟨_, [], rfl, ⟨b, c, h1, rfl⟩, rfl⟩
  | slc t o l q => obtain ⟨b, c, h1, rfl⟩ := h; exact ⟨_, [], rfl, ⟨b, c, h1, rfl⟩, rfl⟩
  | mp t => obtain ⟨b, c, h1, rfl⟩ := h; exact ⟨_, [], rfl, ⟨b, c, h1, rfl⟩, rfl⟩
  | fn f l m => obtain ⟨xs, ys, h1, h2, rfl⟩ := h; exact ⟨_, [], rfl, ⟨xs, ys, h1, h2, rfl⟩, rfl⟩
  | tup l => obtain ⟨xs, h1, rfl⟩ := h; exact ⟨_, [], rfl, ⟨xs, h1, rfl⟩, rfl⟩
  | _ => cases h; exact ⟨_, [], rfl, rfl, rfl⟩

theorem setR_eq {α : Type} : ∀ (l : List α) (o : Nat) (r : List α), setR l o r = setRange l o r
  | _, _, [] => rfl
  | l, o, x :: r => by rw [setR, setR_eq]; rfl
theorem setR_rel : ∀ {vs : List CV} {xs : List Value} (o : Nat) {l : List CV} {ys : List Value}, CV.rels τ vs xs → CV.rels τ l ys → CV.rels τ (setR l o vs) (setRange ys o xs)
  | [], _, o, l, ys, h, k => by cases h; exact k
  | v :: vs, _, o, l, ys, h, k => by obtain ⟨x, xs, rfl, h1, h2⟩ := h; exact setR_rel (o + 1) h2 (rels_set o k h1)

theorem fill_run (hs : SlOk τ sl a.tmps) {place : Nat → Option (Nat × Nat)} : ∀ {ps : List (Nat × Operand)} {qs : List (Nat × Nat × Opd)} {cells l : List CV} {xs : List Value}, partsO place ps = some qs → fillC sl cells qs = some l → CV.rels τ cells xs →
    ∃ ys, CV.rels τ l ys ∧ Instr.fill place xs.toArray (ps.map fun x => (x.1, a.eval x.2)) = some ys.toArray
  | [], qs, cells, l, xs, h, k, hr => by cases h; cases k; exact ⟨xs, hr, rfl⟩
  | (i, x) :: rest, qs, cells, l, xs, h, k, hr => by
    simp only [partsO] at h
    split at h
    · rename_i off size hpl
      split at h
      · rename_i y hy
        split at h
        · rename_i s hs'
          cases h
          simp only [fillC] at k
          split at k
          · rename_i v hv
            cases hc : (Nat.beq v.cells.length size && Nat.ble (off + v.cells.length) cells.length)
            · rw [hc] at k; cases k
            · rw [hc] at k
              simp only [cond_true] at k
              simp only [Bool.and_eq_true] at hc
              have h1 := Nat.eq_of_beq_eq_true hc.1
              have h2 := Nat.le_of_ble_eq_true hc.2
              have hrel := opd_rel hs hy hv
              have hcr := cells_rel hrel
              obtain ⟨ys, hl, hf⟩ := fill_run hs hs' k (setR_rel off hcr hr)
              refine ⟨ys, hl, ?_⟩
              have key : ∀ (zs : List Value) (l : List Value) (j : Nat), (zs.zipIdx j).foldl (fun (cs : Array Value) (x : Value × Nat) => cs.setIfInBounds (off + x.2) x.1) l.toArray = (setRange l (off + j) zs).toArray := by
                intro zs
                induction zs with
                | nil => intro l j; rfl
                | cons x zs ihx =>
                  intro l j
                  simp only [List.zipIdx_cons, List.foldl_cons, setRange]
                  rw [show off + j + 1 = off + (j + 1) from by omega, ← ihx]
                  simp
              have hsz : (a.eval x).cells.size = v.cells.length := by rw [← Array.length_toList, rels_length hcr]
              have hfold : (a.eval x).cells.zipIdx.foldl (fun cs (x : Value × Nat) => cs.setIfInBounds (off + x.2) x.1) xs.toArray = (setRange xs off (a.eval x).cells.toList).toArray := by
                rw [← Array.foldl_toList]
                have := key (a.eval x).cells.toList xs 0
                simp only [Nat.add_zero] at this
                rw [← this]
                simp
              simp only [List.map_cons, Instr.fill, hpl]
              have hno : ¬ ((a.eval x).cells.size ≠ size ∨ off + (a.eval x).cells.size > xs.toArray.size) := by
                simp only [List.size_toArray, rels_length hr, hsz]; omega
              simp only [Bool.or_eq_true, decide_eq_true_eq]
              rw [if_neg hno, ← hf, ← hfold]
          · cases k
        · cases h
      · cases h
    · cases h

theorem build_run (hY : TysOk P Y) (hs : SlOk τ sl a.tmps) {t : TypeId} {ps : Array (Nat × Operand)} {e : TE} (he : lk Y.T t = some e) {z : CV} (hz : zeroC e = some z) {pl : Nat → Option (Nat × Nat)} {qs : List (Nat × Nat × Opd)}
    (hq : partsO pl ps.toList = some qs) {l : List CV} (hl : fillC sl z.cells qs = some l)
    (hrun : ∀ ys : List Value, Instr.fill pl e.zero.cells (ps.map fun x => (x.1, a.eval x.2)).toList = some ys.toArray → ∀ w, (Instr.build t (ps.map fun x => (x.1, a.eval x.2))).run P w = .ok (.agg ys.toArray) w) :
    ∃ x, CV.rel τ (.agg l) x ∧ (Instr.build t (ps.map fun x => (x.1, a.eval x.2))).run P w = .ok x w := by
  obtain ⟨ys, h1, h2⟩ := fill_run hs hq hl (cells_rel (ofVal_rel 9 hz))
  refine ⟨_, ⟨ys, h1, rfl⟩, hrun ys ?_ w⟩
  simpa using h2

theorem build_struct (hY : TysOk P Y) {t : TypeId} {fs : Array Field} {e : TE} (he : lk Y.T t = some e) (hd : e.d = .struct fs) {pl : List (Nat × Nat)} (hp : places Y.T fs.toList = some pl) {qs : Array (Nat × Value)} {ys : List Value}
    (h : Instr.fill (fun i => pl[i]?) e.zero.cells qs.toList = some ys.toArray) (w : World) : (Instr.build t qs).run P w = .ok (.agg ys.toArray) w := by
  have hok := Tab.get_ok hY.tab he
  have h2 := places_run hY.tab w hp
  have e1 : (fs.mapM fun f => do pure (f.offset, ← sizeOf f.type) : Sem (Array (Nat × Nat))) = List.toArray <$> (fs.toList.mapM fun f => do pure (f.offset, ← sizeOf f.type)) := by
    rw [← List.mapM_toArray, Array.toArray_toList]
  simp only [Instr.build, Sem.run_bind, hok.zero, hok.run, hd, Result.andThen_ok, e1, Sem.run_map, h2]
  have e2 : (fun i : Nat => pl.toArray[i]?) = fun i : Nat => pl[i]? := by funext i; simp
  rw [e2, h]
  simp

theorem build_array (hY : TysOk P Y) {t el n : TypeId} {e ee : TE} (he : lk Y.T t = some e) (hd : e.d = .array n el) (hee : lk Y.T el = some ee) {qs : Array (Nat × Value)} {ys : List Value}
    (h : Instr.fill (fun i => some (i * ee.size, ee.size)) e.zero.cells qs.toList = some ys.toArray) (w : World) : (Instr.build t qs).run P w = .ok (.agg ys.toArray) w := by
  have hok := Tab.get_ok hY.tab he
  have hok' := Tab.get_ok hY.tab hee
  simp only [Instr.build, Sem.run_bind, hok.zero, hok.run, hd, hok'.sz, Result.andThen_ok]
  rw [h]
  simp

/-! ### maps -/
theorem keyFit_rel {kk : KK} {k : CV} {x : Value} (h : keyFit kk k = true) (hx : k.rel τ x) :
    match kk with
    | .int => ∃ j n, k = .int j n ∧ x = .int j n
    | .str => ∃ s, k = .str s ∧ x = .string s
    | .bool => ∃ b, k = .bool b ∧ x = .bool b
    | .agg ls => ∃ l, k = .agg l ∧ fitsL ls l = true ∧ x = .agg (l.map CV.leaf).toArray := by
  cases kk <;> cases k <;> simp [keyFit] at h ⊢
  · exact ⟨_, _, ⟨rfl, rfl⟩, hx⟩
  · exact hx
  · exact hx
  · obtain ⟨xs, h1, rfl⟩ := hx
    exact ⟨h, by rw [leafs_of_fits h h1]⟩

/-- What a kind of keys says of the key's type. -/
structure KeyOk' (P : Program) (kt : TypeId) (kk : KK) : Prop where
  chk : ∀ (τ : Tau) e (k : CV) (x : Value) w, keyFit kk k = true → k.rel τ x → (Instr.checkKey e 10000 kt x).run P w = .ok () w
  cmp : ∃ d, (∀ w, (underlying kt).run P w = .ok d w) ∧ ∀ (τ : Tau) (k u : CV) (x y : Value) (r : Bool), keyFit kk k = true → k.rel τ x → u.rel τ y → keyEq kk k u = some r →
    (Instr.sameNow d x y = some r) ∨ (Instr.sameNow d x y = none ∧ (∀ x' y', Instr.sameNow d x' y' = none) ∧ ∀ w, (Op.equal kt x y).run P w = .ok r w)
  bits : ∀ (τ : Tau) (k u : CV) (x y : Value), keyFit kk k = true → k.rel τ x → u.rel τ y → keyEq kk k u = some true → y = x ∧ Instr.sameBits 10000 y x = true

theorem eqS_true {u v : CV} {x y : Value} (h : eqS u v = some true) (hx : u.rel τ x) (hy : v.rel τ y) : x = y := by
  cases u <;> cases v <;> simp [eqS] at h
  · rename_i k n j m
    cases hs : IntKind.same k j
    · rw [hs] at h; cases h
    · rw [hs] at h
      have := same_eq hs; subst this
      simp only [cond_true, Option.some.injEq, eqI_eq, beq_iff_eq] at h
      subst h; exact hx.trans hy.symm
  · rename_i b c
    cases hx; cases hy; cases b <;> cases c <;> simp at h <;> rfl
  · rename_i s t
    cases hx; cases hy
    rw [strEq_eq] at h
    have h := eq_of_beq h
    congr 1
    obtain ⟨⟨s⟩⟩ := s
    obtain ⟨⟨t⟩⟩ := t
    simp at h
    rw [h]
theorem eqL_true : ∀ {l m : List CV} {xs ys : List Value}, eqL l m = some true → CV.rels τ l xs → CV.rels τ m ys → xs = ys
  | [], [], _, _, _, h, k => h.trans k.symm
  | [], _ :: _, _, _, h, _, _ => by simp [eqL] at h
  | _ :: _, [], _, _, h, _, _ => by simp [eqL] at h
  | a :: l, b :: m, _, _, h, hx, hy => by
    obtain ⟨x, xs, rfl, h1, h2⟩ := hx
    obtain ⟨y, ys, rfl, k1, k2⟩ := hy
    simp only [eqL] at h
    split at h
    · rename_i he
      rw [eqS_true he h1 k1, eqL_true h h2 k2]
    · cases h
    · cases h

theorem keyOk (hY : TysOk P Y) {kt : TypeId} {kk : KK} (h : keyKind Y kt = some kk) : KeyOk' P kt kk := by
  unfold keyKind at h
  split at h
  · rename_i e he
    have hok := Tab.get_ok hY.tab he
    have plain : ∀ {d : TypeDesc}, e.d = d → (∀ w, (underlying kt).run P w = .ok d w) := fun hd w => by rw [← hd]; exact hok.run w
    have agg : ∀ ls, lk Y.eqt kt = some ls → KeyOk' P kt (.agg ls) := fun ls hls => by
      have hE := hY.eqt _ _ hls
      obtain ⟨d, hd1, hd2⟩ := hE.und
      refine ⟨fun τ e k x w hf hx => ?_, ⟨d, hd1, fun τ k u x y r hf hx hy he => .inr ⟨hd2 _ _, hd2, fun w => ?_⟩⟩, fun τ k u x y hf hx hy he => ?_⟩
      · obtain ⟨l, rfl, hl, rfl⟩ := keyFit_rel hf hx
        exact hE.chk e l w hl
      · obtain ⟨l, rfl, hl, rfl⟩ := keyFit_rel hf hx
        cases u <;> simp [keyEq] at he
        rename_i m
        cases hm : fitsL ls m
        · rw [hm] at he; cases he
        · rw [hm] at he
          obtain ⟨ys, h1, rfl⟩ := hy
          rw [leafs_of_fits hm h1]
          exact hE.eq l m r w hl hm he
      · obtain ⟨l, rfl, hl, rfl⟩ := keyFit_rel hf hx
        cases u <;> simp [keyEq] at he
        rename_i m
        cases hm : fitsL ls m
        · rw [hm] at he; cases he
        · rw [hm] at he
          obtain ⟨ys, h1, rfl⟩ := hy
          obtain ⟨xs, h2, h3⟩ := hx
          have e2 : xs = l.map CV.leaf := leafs_of_fits hl h2
          have := eqL_true he h2 h1
          subst this
          subst e2
          refine ⟨rfl, ?_⟩
          simp only [Instr.sameBits, beq_self_eq_true, Bool.true_and]
          exact leaf_bits hl
    split at h
    · rename_i k hd
      cases h
      refine ⟨fun τ e k x w hf hx => ?_, ⟨_, plain hd, fun τ k u x y r hf hx hy he => .inl ?_⟩, fun τ k u x y hf hx hy he => ?_⟩
      · obtain ⟨j, n0, rfl, rfl⟩ := keyFit_rel hf hx
        have key : ∀ n, (Instr.checkKey e (n + 1) kt (.int j n0)).run P w = .ok () w := fun n => by
          simp only [Instr.checkKey, Sem.run_bind, plain hd, Result.andThen_ok, Sem.run_pure]
        exact key 9999
      · obtain ⟨j, n, rfl, rfl⟩ := keyFit_rel hf hx
        cases u <;> simp [keyEq, eqS] at he
        rename_i i m
        cases hs : IntKind.same j i
        · rw [hs] at he; cases he
        · rw [hs] at he
          have := same_eq hs; subst this
          cases hy
          simp only [cond_true, Option.some.injEq, eqI_eq] at he
          subst he
          simp [Instr.sameNow]
      · obtain ⟨j, n, rfl, rfl⟩ := keyFit_rel hf hx
        cases u <;> simp [keyEq] at he
        have := eqS_true (τ := τ) he rfl hy
        subst this
        exact ⟨rfl, by simp [Instr.sameBits, beq_toListBytes]⟩
    · rename_i hd
      cases h
      refine ⟨fun τ e k x w hf hx => ?_, ⟨_, plain hd, fun τ k u x y r hf hx hy he => .inl ?_⟩, fun τ k u x y hf hx hy he => ?_⟩
      · obtain ⟨s, rfl, rfl⟩ := keyFit_rel hf hx
        have key : ∀ n, (Instr.checkKey e (n + 1) kt (.string s)).run P w = .ok () w := fun n => by
          simp only [Instr.checkKey, Sem.run_bind, plain hd, Result.andThen_ok, Sem.run_pure]
        exact key 9999
      · obtain ⟨s, rfl, rfl⟩ := keyFit_rel hf hx
        cases u <;> simp [keyEq, eqS] at he
        cases hy
        subst he
        rw [strEq_bytes]
        simp [Instr.sameNow]
      · obtain ⟨s, rfl, rfl⟩ := keyFit_rel hf hx
        cases u <;> simp [keyEq] at he
        have := eqS_true (τ := τ) he rfl hy
        subst this
        exact ⟨rfl, by simp [Instr.sameBits, beq_toListBytes]⟩
    · rename_i hd
      cases h
      refine ⟨fun τ e k x w hf hx => ?_, ⟨_, plain hd, fun τ k u x y r hf hx hy he => .inl ?_⟩, fun τ k u x y hf hx hy he => ?_⟩
      · obtain ⟨s, rfl, rfl⟩ := keyFit_rel hf hx
        have key : ∀ n, (Instr.checkKey e (n + 1) kt (.bool s)).run P w = .ok () w := fun n => by
          simp only [Instr.checkKey, Sem.run_bind, plain hd, Result.andThen_ok, Sem.run_pure]
        exact key 9999
      · obtain ⟨s, rfl, rfl⟩ := keyFit_rel hf hx
        cases u <;> simp [keyEq, eqS] at he
        cases hy
        subst he
        rename_i b
        cases s <;> cases b <;> simp [Instr.sameNow]
      · obtain ⟨s, rfl, rfl⟩ := keyFit_rel hf hx
        cases u <;> simp [keyEq] at he
        have := eqS_true (τ := τ) he rfl hy
        subst this
        exact ⟨rfl, by simp [Instr.sameBits]⟩
    · split at h
      · rename_i ls hls; cases h; exact agg ls hls
      · cases h
    · split at h
      · rename_i ls hls; cases h; exact agg ls hls
      · cases h
    · cases h
  · cases h

/-- Where an entry stands: its number, or none. -/
theorem findE_run {kt : TypeId} {kk : KK} (hK : KeyOk' P kt kk) {k : CV} {x : Value} (hf : keyFit kk k = true) (hx : k.rel τ x) (w : World) : ∀ {es : List Ent} {ms : List MapEntry} {r : Option Ent}, findE kk k es = some r → entsRel τ es ms →
    ∃ q : Option (Nat × Value), (Instr.findKey kt x ms).run P w = .ok q w ∧ match r, q with
      | none, none => True
      | some e, some (i, v) => e.val.rel τ v ∧ ∃ m, ms[i]? = some m ∧ m.key = x ∧ m.val = v ∧ m.born = e.born ∧ Instr.sameBits 10000 m.key x = true ∧ ∀ u y, u.rel τ y → entsRel τ (setE kk k u es) (ms.modify i fun m => { m with key := x, val := y })
      | _, _ => False := by
  obtain ⟨d, hd, hcmp⟩ := hK.cmp
  -- the walk, by whichever comparison
  have walk : ∀ (es : List Ent) (ms : List MapEntry) (r : Option Ent) (j : Nat), findE kk k es = some r → entsRel τ es ms →
      ∃ q : Option (Nat × Value), ((Instr.findNow d x ms j = some q) ∨ ((∀ x' y', Instr.sameNow d x' y' = none) ∧ ∀ w, (Instr.findAsking kt x ms j).run P w = .ok q w)) ∧ match r, q with
        | none, none => True
        | some e, some (i, v) => j ≤ i ∧ e.val.rel τ v ∧ ∃ m, ms[i - j]? = some m ∧ m.key = x ∧ m.val = v ∧ m.born = e.born ∧ Instr.sameBits 10000 m.key x = true ∧ ∀ u y, u.rel τ y → entsRel τ (setE kk k u es) (ms.modify (i - j) fun m => { m with key := x, val := y })
        | _, _ => False := by
    intro es
    induction es with
    | nil =>
      intro ms r j h hr
      cases h; cases hr
      exact ⟨none, .inl rfl, trivial⟩
    | cons e es ih =>
      intro ms r j h hr
      obtain ⟨m, ms', rfl, h1, h2, h3, h4⟩ := hr
      simp only [findE] at h
      split at h
      · rename_i he
        cases h
        obtain ⟨hk1, hk2⟩ := hK.bits τ k e.key x m.key hf hx h1 he
        refine ⟨some (j, m.val), ?_, Nat.le_refl _, h2, m, by simp, hk1, rfl, h3, hk2, fun u y hu => ?_⟩
        · rcases hcmp τ k e.key x m.key true hf hx h1 he with h5 | ⟨_, h6, h7⟩
          · left; simp only [Instr.findNow, h5]
          · right; exact ⟨h6, fun w => by simp [Instr.findAsking, h7]⟩
        · simp only [setE, he, Nat.sub_self]
          exact ⟨_, ms', rfl, hx, hu, h3, h4⟩
      · rename_i he
        obtain ⟨q, hq1, hq2⟩ := ih ms' r (j + 1) h h4
        refine ⟨q, ?_, ?_⟩
        · rcases hcmp τ k e.key x m.key false hf hx h1 he with h5 | ⟨h5, h6, h7⟩
          · rcases hq1 with hq1 | ⟨hn, _⟩
            · left; simp only [Instr.findNow, h5, hq1]
            · rw [hn] at h5; cases h5
          · rcases hq1 with hq1 | ⟨_, hq1⟩
            · right
              refine ⟨h6, fun w => ?_⟩
              -- no number is found now, and the list is empty
              cases ms' with
              | nil => simp [Instr.findNow] at hq1; subst hq1; simp [Instr.findAsking, h7]
              | cons m' ms' => simp [Instr.findNow, h6] at hq1
            · right; exact ⟨h6, fun w => by simp only [Instr.findAsking, Sem.run_bind, h7, Result.andThen_ok, Bool.false_eq_true, if_false, hq1]⟩
        · cases r with
          | none => cases q with
            | none => trivial
            | some z => exact hq2.elim
          | some e' => cases q with
            | none => exact hq2.elim
            | some z =>
              obtain ⟨i, v⟩ := z
              obtain ⟨k0, k1, m', k2, k3, k4, k5, k6, k7⟩ := hq2
              refine ⟨by omega, k1, m', ?_, k3, k4, k5, k6, fun u y hu => ?_⟩
              · rw [show i - j = (i - (j + 1)) + 1 from by omega]; simpa using k2
              · rw [show i - j = (i - (j + 1)) + 1 from by omega]
                simp only [setE, he, List.modify_succ_cons]
                exact ⟨m, _, rfl, h1, h2, h3, k7 u y hu⟩
      · cases h
  intro es ms r h hr
  obtain ⟨q, hq1, hq2⟩ := walk es ms r 0 h hr
  refine ⟨q, ?_, ?_⟩
  · rcases hq1 with hq1 | ⟨h6, hq1⟩
    · simp [Instr.findKey, hd, hq1]
    · simp only [Instr.findKey, Sem.run_bind, hd, Result.andThen_ok]
      cases ms with
      | nil => have := hq1 w; simp [Instr.findAsking] at this; subst this; rfl
      | cons m ms => simp [Instr.findNow, h6]; exact hq1 w
  · cases r <;> cases q <;> simp at hq2 ⊢
    exact hq2

theorem look_run (hY : TysOk P Y) (hv : View τ g w) {t kt et : TypeId} {e ee : TE} (he : lk Y.T t = some e) (hd : e.d = .map kt et) {kk : KK} (hkk : keyKind Y kt = some kk) (hee : lk Y.T et = some ee) {z : CV} (hz : zeroC ee = some z)
    {m k r : CV} {ok : Bool} (h : lookC g kk z ok m k = some r) {x y : Value} (hx : m.rel τ x) (hy : k.rel τ y) : ∃ v, r.rel τ v ∧ (Instr.lookup t x y ok).run P w = .ok v w := by
  have hok := Tab.get_ok hY.tab he
  have hok' := Tab.get_ok hY.tab hee
  have hK := keyOk hY hkk
  have ans : ∀ {v : CV} {u : Value} (is : Bool), v.rel τ u → CV.rel τ (bif ok then .tup [v, .bool is] else v) (if ok then .tuple #[u, .bool is] else u) := fun {v u} is hu => by
    cases ok
    · exact hu
    · exact ⟨_, ⟨u, _, rfl, hu, ⟨_, _, rfl, rfl, rfl⟩⟩, rfl⟩
  unfold lookC at h
  cases hf : keyFit kk k
  · rw [hf] at h; cases h
  · rw [hf] at h
    simp only [cond_true] at h
    split at h
    · cases h
      cases hx
      refine ⟨_, ans false (ofVal_rel 9 hz), ?_⟩
      have hfk : (Instr.findKey kt y []).run P w = .ok none w := by
        obtain ⟨d, hd', _⟩ := hK.cmp
        simp [Instr.findKey, hd', Instr.findNow]
      simp only [Instr.lookup, Sem.run_bind, hok.run, hd, Result.andThen_ok, Sem.run_pure, hK.chk τ _ k y w hf hy, hfk, hok'.zero]
    · rename_i tk
      split at h
      · rename_i es c hg
        obtain ⟨b, c', h1, rfl⟩ := hx
        obtain ⟨b', c'', h2, arr, h3, h4⟩ := hv _ _ hg
        rw [h1] at h2; cases h2
        have hget : (getObj b).run P w = .ok (.map arr c) w := by simp only [getObj, Sem.run, h3]
        split at h
        · rename_i en hfe
          cases h
          obtain ⟨q, hq, hm⟩ := findE_run hK hf hy w hfe h4
          cases q with
          | none => exact hm.elim
          | some p =>
            obtain ⟨i, v⟩ := p
            refine ⟨_, ans true hm.1, ?_⟩
            simp only [Instr.lookup, Sem.run_bind, hok.run, hd, Result.andThen_ok, hget, Sem.run_pure, hK.chk τ _ k y w hf hy, hq]
        · rename_i hfe
          cases h
          obtain ⟨q, hq, hm⟩ := findE_run hK hf hy w hfe h4
          cases q with
          | some p => exact hm.elim
          | none =>
            refine ⟨_, ans false (ofVal_rel 9 hz), ?_⟩
            simp only [Instr.lookup, Sem.run_bind, hok.run, hd, Result.andThen_ok, hget, Sem.run_pure, hK.chk τ _ k y w hf hy, hq, hok'.zero]
        · cases h
      · cases h
    · cases h

end
end Go.Cx
