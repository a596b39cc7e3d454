/- Rows are copied; the rules of a name. -/
import Derived.Test.YtnbbnokjbopcbaaRaE
import Derived.Laws.Cover3
set_option linter.all false
namespace Go.Proofs.Ytnbbnokjbopcbaa
open Go Go.Sx

structure RowTy (P : Program) (t e : TypeId) (sz by_ : Nat) (i : TypeInfo) (z : Value) : Prop where
  und : P.underlying t = some (.slice e)
  info : P.info? e = some i
  zero : i.zero = some z
  size : i.size = sz
  bytes : i.bytes = by_
  cells : z.cells.size = sz
  pos : 0 < sz

theorem rowTy_of {t e : TypeId} {sz by_ : Nat} (h1 : (lk tab t).map TE.d = some (.slice e)) (h2 : (lk tab e).map (fun E => (E.size, E.bytes, E.zero.cells.size)) = some (sz, by_, sz)) (hp : 0 < sz) :
    ∃ i z, RowTy Try.prog t e sz by_ i z := by
  obtain ⟨E1, g1, hd⟩ := Option.map_eq_some_iff.1 h1
  obtain ⟨E2, g2, hh⟩ := Option.map_eq_some_iff.1 h2
  simp only [Prod.mk.injEq] at hh
  have k1 := Tab.get_ok (env_ok [] [] [] []).tab g1
  have k2 := Tab.get_ok (env_ok [] [] [] []).tab g2
  obtain ⟨i, hi, hsz, hby, hzr⟩ := k2.info
  exact ⟨i, E2.zero, by rw [← hd]; exact k1.und, hi, hzr, hsz.trans hh.1, hby.trans hh.2.1, hh.2.2, hp⟩

theorem rules_ty : ∃ i z, RowTy Try.prog 40 57 10 64 i z := rowTy_of (by kernel_rfl) (by kernel_rfl) (by decide)
theorem rewrites_ty : ∃ i z, RowTy Try.prog 22 37 3 32 i z := rowTy_of (by kernel_rfl) (by kernel_rfl) (by decide)

theorem flat_get {sz : Nat} (hp : 0 < sz) : ∀ (rows : List (List Value)), (∀ r ∈ rows, r.length = sz) → ∀ j u, rows.flatten[j]? = some u → ∃ r, rows[j / sz]? = some r ∧ r[j % sz]? = some u
  | [], _, j, u, h => by simp at h
  | r :: rows, hl, j, u, h => by
    have hr := hl r (by simp)
    simp only [List.flatten_cons] at h
    rcases Nat.lt_or_ge j sz with hj | hj
    · rw [List.getElem?_append_left (by omega)] at h
      exact ⟨r, by rw [Nat.div_eq_of_lt hj]; rfl, by rw [Nat.mod_eq_of_lt hj]; exact h⟩
    · rw [List.getElem?_append_right (by omega), hr] at h
      obtain ⟨r', h1, h2⟩ := flat_get hp rows (fun r hr => hl r (by simp [hr])) _ u h
      refine ⟨r', ?_, ?_⟩
      · rw [Nat.div_eq_sub_div hp hj]; simpa using h1
      · rw [Nat.mod_eq_sub_mod hj]; exact h2
theorem flat_put {sz : Nat} : ∀ (rows : List (List Value)), (∀ r ∈ rows, r.length = sz) → ∀ (i k : Nat) (r : List Value) (u : Value), rows[i]? = some r → r[k]? = some u → rows.flatten[i * sz + k]? = some u
  | [], _, i, k, r, u, h, _ => by simp at h
  | r0 :: rows, hl, 0, k, r, u, h, hk => by
    simp at h; subst h
    simp only [List.flatten_cons, Nat.zero_mul, Nat.zero_add]
    rw [List.getElem?_append_left (List.getElem?_eq_some_iff.1 hk).1]; exact hk
  | r0 :: rows, hl, i + 1, k, r, u, h, hk => by
    have hr := hl r0 (by simp)
    simp only [List.flatten_cons]
    rw [List.getElem?_append_right (by rw [hr, Nat.add_mul]; omega)]
    have := flat_put rows (fun r hr => hl r (by simp [hr])) i k r u (by simpa using h) hk
    rw [hr]
    have e : (i + 1) * sz + k - sz = i * sz + k := by rw [Nat.add_mul]; omega
    rw [e]; exact this
theorem flat_len {sz : Nat} : ∀ (rows : List (List Value)), (∀ r ∈ rows, r.length = sz) → rows.flatten.length = rows.length * sz
  | [], _ => by simp
  | r :: rows, hl => by
    have := flat_len rows (fun r hr => hl r (by simp [hr]))
    simp only [List.flatten_cons, List.length_append, this, List.length_cons, hl r (by simp), Nat.add_mul]; omega

/-- An own row holds its rows. -/
theorem rows_of_own {w : World} {base : Nat} {e : TypeId} {sz : Nat} {v : Value} {l : Nat} {rows : List (List Value)} (hl : ∀ r ∈ rows, r.length = sz) (hn : rows.length = l) (h : w.ownsRow base e sz v l rows.flatten) :
    ∃ a c, v = .slice a l c ∧ RowsAt w a l sz rows ∧ (∀ x, a = some x → base ≤ x.block ∧ x.off = 0 ∧ x.spot = none) := by
  rcases h.2 with ⟨rfl, rfl⟩ | ⟨g, cap, cur, rfl, hb, hg, h4, h5, h6, h7⟩
  · refine ⟨none, 0, rfl, ⟨hn.symm, fun i r hr => ?_⟩, fun x hx => by cases hx⟩
    rw [List.eq_nil_of_length_eq_zero hn] at hr; simp at hr
  · refine ⟨_, cap, rfl, ⟨hn.symm, fun i r hr => ⟨g, 0, rfl, block_lt hg, fun k u hk => ?_⟩⟩, fun x hx => by cases hx; exact ⟨hb, rfl, rfl⟩⟩
    have := row_cell h (flat_put rows hl i k r u hr hk)
    simpa [wCell] using this

theorem build_run {P : Program} {t e : TypeId} {sz by_ : Nat} {i : TypeInfo} {z : Value} (ty : RowTy P t e sz by_ i z) (w : World) : wRun P (wBuildSlice t 0 #[]) w (.slice (some ⟨w.heap.size, 0, none⟩) 0 0) (w.alloc (.cells #[] e (0, 0))) := by
  show (wBuildSlice _ _ _).run _ _ = _
  simp [wBuildSlice, Instr.buildSlice, run_underlying ty.und, sizeOf, typeInfo, ty.info, Instr.fill, newRow, newObj, Sem.run]
  rw [show Array.map (fun _ => (default : Value)) (Array.range 0) = #[] from by simp]

/-- Rows are copied behind nothing. -/
theorem copy_run {P : Program} {t e ty' : TypeId} {sz by_ : Nat} {i : TypeInfo} {z : Value} (ty : RowTy P t e sz by_ i z) {w : World} {base g : Nat} (hg : w.heap[g]? = some (.cells #[] e (0, 0))) (hb : base ≤ g)
    {a : Option Addr} {l c : Nat} {rows : List (List Value)} (h : RowsAt w a l sz rows) (hl : ∀ r ∈ rows, r.length = sz ∧ ∀ u ∈ r, u.oneCell' = true) (hn : a = none → l = 0 ∧ c = 0) (hby : l * by_ ≤ 140737488355328) (hm : l ≤ 140737488355328) :
    ∃ v' w', wRun P (wAppend #[t, t] ty' #[.slice (some ⟨g, 0, none⟩) 0 0, .slice a l c]) w v' w' ∧ w'.ownsRow base e sz v' l rows.flatten ∧ Fr [g] w w' := by
  have own : w.ownsRow base e sz (.slice (some ⟨g, 0, none⟩) 0 0) 0 [] := ⟨by simp, .inr ⟨g, 0, #[], rfl, hb, hg, Nat.le_refl _, Nat.zero_le _, by simp, by simp⟩⟩
  have hbs : base ≤ w.heap.size := Nat.le_trans hb (Nat.le_of_lt (block_lt hg))
  cases a with
  | none =>
    obtain ⟨rfl, rfl⟩ := hn rfl
    have hr : rows = [] := List.eq_nil_of_length_eq_zero h.1.symm
    subst hr
    refine ⟨_, w, run_append_owned_none w base t ty' e i sz ty.und ty.info _ _ _ own, own, Fr.refl _ _⟩
  | some x =>
    have hcell : ∀ j u, rows.flatten[j]? = some u → w.cell? (x.add j) = some u := by
      intro j u hj
      obtain ⟨r, h1, h2⟩ := flat_get ty.pos rows (fun r hr => (hl r hr).1) j u hj
      obtain ⟨b, o, ha, _, hc⟩ := h.2 _ _ h1
      obtain rfl : x = ad b o := Option.some.inj ha
      have := hc _ _ h2
      have e : o + j / sz * sz + j % sz = o + j := by have := Nat.div_add_mod j sz; rw [Nat.mul_comm] at this; omega
      rw [e] at this
      rw [show (ad b o).add j = ⟨b, o + j, none⟩ from by simp only [Addr.add]; split <;> simp_all]
      exact this
    have hflat := flat_len rows (fun r hr => (hl r hr).1)
    rw [← h.1] at hflat
    obtain ⟨v', w', h1, h2, h3, _⟩ := run_append_own w base t ty' e i z sz by_ ty.und ty.info ty.zero ty.size ty.bytes ty.cells ty.pos _ _ _ own x l c rows.flatten hflat hcell
      (fun u hu => by
        obtain ⟨r, hr, hur⟩ := List.mem_flatten.1 hu
        exact (hl r hr).2 u hur) (by simp only [maxLen]; omega) (by simpa using hby) hbs
    refine ⟨v', w', h1, ?_, Fr.of_grown h3⟩
    simpa using h2

theorem sliceNil_run {t e : TypeId} {x y : Operand} {P : Program} {w : World} {a : Option Addr} {l c : Nat} (h : P.underlying t = some (.slice e)) : wRun P (wBin .eql t x y (.slice a l c) (.slice none 0 0)) w (.bool a.isNone) w := by
  show (wBin _ _ _ _ _ _).run _ _ = _
  simp only [wBin, eqGuard, binOp]
  simp [run_equal_slice_nil w t e a l c h]

theorem ru_row (rs : List Ru) : ∀ r ∈ rs.map Ru.cells, r.length = 10 ∧ ∀ u ∈ r, u.oneCell' = true := by
  intro r hr
  obtain ⟨x, _, rfl⟩ := List.mem_map.1 hr
  refine ⟨rfl, fun u hu => ?_⟩
  simp only [Ru.cells, List.mem_cons, List.not_mem_nil, or_false] at hu
  rcases hu with rfl | rfl | rfl | rfl | rfl | rfl | rfl | rfl | rfl | rfl <;> rfl

theorem clone_ok {a : Option Addr} {l c : Nat} {rs : List Ru} {w : World} (hrs : RulesAt w a l rs) :
    Calls Try.prog 30 [.slice a l c].toArray w fun e w' => (∃ a' c', e = .returned (.slice a' l c') ∧ RulesAt w' a' l rs ∧ ∀ x, a' = some x → w.heap.size ≤ x.block) ∧ Fr [] w w' := by
  obtain ⟨i, z, ty⟩ := rules_ty
  refine of_clone a l c held0 ?_
  refine ⟨a.isNone, fun wc _ => sliceNil_run ty.und, fun ha w1 hf => ?_, fun ha wc hf => ?_⟩
  · have hn : a = none := by simpa using ha
    have hl := hrs.len
    have hl0 : l = 0 := by
      cases rs with
      | nil => simpa using hl
      | cons r rs =>
        obtain ⟨_, b, o, h1, _⟩ := hrs.get (i := 0) (r := r) rfl
        rw [hn] at h1; cases h1
    subst hl0
    have hr : rs = [] := List.eq_nil_of_length_eq_zero hl.symm
    subst hr
    exact ⟨⟨none, 0, rfl, RulesAt.none _, fun x h => by cases h⟩, fr_fin0 hf (Fr.refl _ _)⟩
  · have hfr := fr_fin0 hf (Fr.refl _ _)
    have hne : a ≠ none := by intro h; rw [h] at ha; cases ha
    have hk : Fr [] wc (wc.alloc (.cells #[] 57 (0, 0))) := Fr.of_alloc _ _
    refine ⟨_, _, _, _, build_run ty wc, keep0 hk, fun wd hf1 => ?_⟩
    have hfr1 := fr_fin0 hf1 (hfr.trans hk (by simp))
    have hg : wd.heap[wc.heap.size]? = some (.cells #[] 57 (0, 0)) := by
      have h0 : (wc.alloc (.cells #[] 57 (0, 0))).heap[wc.heap.size]? = some (.cells #[] 57 (0, 0)) := heap_alloc_new wc _
      exact (Fr.of_fin hf1).block h0 (by simp)
    obtain ⟨v', w', h1, h2, h3⟩ := copy_run (ty' := 40) ty hg (Nat.le_refl _) (c := c) (hrs.fr hfr1).rows (ru_row rs) (fun h => absurd h hne) hrs.few (by have := hrs.few; omega)
    obtain ⟨a', c', rfl, h4, h5⟩ := rows_of_own (fun r hr => (ru_row rs r hr).1) (by simpa using hrs.len.symm) h2
    have hfr2 : Fr [] w w' := hfr1.trans (T := [wc.heap.size]) h3 (fun x hx hlt => by
      simp only [List.mem_singleton] at hx
      subst hx
      have := hfr.size
      omega)
    refine ⟨a', l, c', w', h1, ⟨h3.size, by simp⟩, fun w1 hf2 => ⟨⟨a', c', rfl, ?_⟩, fr_fin0 hf2 hfr2⟩⟩
    have k := Fr.of_fin hf2
    exact ⟨⟨h4.fr k, hrs.ok, hrs.few⟩, fun x hx => Nat.le_trans hfr.size (h5 x hx).1⟩

end Go.Proofs.Ytnbbnokjbopcbaa
