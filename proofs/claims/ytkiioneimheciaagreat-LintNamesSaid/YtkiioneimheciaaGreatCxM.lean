/- The doer is right, part 10: regions whose order is open. -/
import Derived.Test.YtkiioneimheciaaGreatCxL
set_option linter.all false
namespace Go.Cx
open Go Go.Sx

noncomputable def mask (g : Gt) (D : List Tk) : Gt := fun t => bif hasT D t then none else g t

theorem mask_some {g : Gt} {D : List Tk} {t : Tk} (h : t ∉ D) : mask g D t = g t := by
  unfold mask
  cases hb : hasT D t
  · rfl
  · exact absurd (hasT_mem.1 hb) h
theorem mask_get {g : Gt} {D : List Tk} {t : Tk} {o : Ob} (h : mask g D t = some o) : t ∉ D ∧ g t = some o := by
  unfold mask at h
  cases hb : hasT D t <;> rw [hb] at h
  · exact ⟨(fun hm => by rw [hasT_mem.2 hm] at hb; cases hb), h⟩
  · cases h

theorem touch_ok {sl : T CV} {g : Gt} {D : List Tk} {c : COp} {v : CV} (h : pureC sl g c = some v) (ht : ∀ t, touchC sl c = some t → t ∉ D) : pureC sl (mask g D) c = some v := by
  cases c
  case ld x =>
    simp only [pureC, touchC] at h ht ⊢
    split at h
    · rename_i t o hx
      rw [hx] at ht
      simp only at ht ⊢
      rw [mask_some (ht t rfl)]; exact h
    · cases h
  case ldn n x =>
    simp only [pureC, touchC] at h ht ⊢
    split at h
    · rename_i t o hx
      rw [hx] at ht
      simp only at ht ⊢
      rw [mask_some (ht t rfl)]; exact h
    · cases h
  case look kk z ok m k =>
    simp only [pureC, touchC] at h ht ⊢
    split at h
    · rename_i u1 u2 h1 h2
      rw [h1] at ht
      unfold lookC at h ⊢
      cases hf : keyFit kk u2 <;> rw [hf] at h
      · cases h
      · simp only [cond_true] at h ⊢
        cases u1 with
        | mp t => simp only at h ⊢; rw [mask_some (ht t rfl)]; exact h
        | _ => exact h
    · cases h
  case mlen x =>
    simp only [pureC, touchC] at h ht ⊢
    split at h
    · exact h
    · rename_i t hx
      rw [hx] at ht
      simp only at ht ⊢
      rw [mask_some (ht t rfl)]; exact h
    · cases h
  case slice esz x lo hi =>
    simp only [pureC, touchC] at h ht ⊢
    split at h
    · rename_i u hu
      rw [hu] at ht
      cases u with
      | slc t o l q =>
        simp only [sliceC, capAt] at h ⊢
        rw [mask_some (ht t rfl)]; exact h
      | _ => exact h
    · cases h
  case len str x => cases str <;> exact h
  all_goals exact h

section
variable {τ0 τ' : Tau} {w w' w0 : World} {K : Nat → Prop}

theorem ents_back (h : τ0.le τ') : ∀ {es : List Ent} {ms ms' : List MapEntry}, entsRel τ0 es ms → entsRel τ' es ms' → entsRel τ0 es ms'
  | [], _, _, _, k => k
  | e :: es, _, _, h1, k1 => by
    obtain ⟨y, ys, rfl, a1, a2, a3, a4⟩ := h1
    obtain ⟨z, zs, rfl, b1, b2, b3, b4⟩ := k1
    exact ⟨z, zs, rfl, by rw [← rel_unique (a1.mono h) b1]; exact a1, by rw [← rel_unique (a2.mono h) b2]; exact a2, b3, ents_back h a4 b4⟩

theorem ok_back (h : τ0.le τ') {b c : Nat} : ∀ {o : Ob}, o.ok τ0 w b c → o.ok τ' w' b c → o.ok τ0 w' b c
  | .cells k, h1, h2 => by
    obtain ⟨⟨arr, a1, a2, a3⟩, a4⟩ := h1
    obtain ⟨⟨arr', b1, b2, b3⟩, b4⟩ := h2
    refine ⟨⟨arr', b1, fun i v hi hv => ?_, b3⟩, b4⟩
    obtain ⟨x, hx, hr⟩ := a2 i v hi hv
    obtain ⟨x', hx', hr'⟩ := b2 i v hi hv
    exact ⟨x', hx', by rw [← rel_unique (hr.mono h) hr']; exact hr⟩
  | .map es n, h1, h2 => by
    obtain ⟨arr, a1, a2⟩ := h1
    obtain ⟨arr', b1, b2⟩ := h2
    exact ⟨arr', b1, ents_back h a2 b2⟩

/-- Of the blocks at the region's head those that are not marked stand as they stood; before an act, all. -/
def Kept (g0 : Gt) (D : List Tk) (acted : Bool) (h : Hp) : Prop := ∀ p o, (acted = true → p ∉ D) → g0 p = some o → h.at_.get p = some o

def Ph (τ0 : Tau) (g0 : Gt) (D : List Tk) (brk : List Nat) (L : Array Bool) (w : World) : Prop :=
  if brk.any (fun b => L.getD b false) then View τ0 (mask g0 D) w else View τ0 g0 w

theorem Ph.of {g0 : Gt} {D : List Tk} {brk : List Nat} {L : Array Bool} {h : Hp} (hV : View τ0 g0 w0) (hle : τ0.le τ') {wb : World} (H : Hp.ok K wb τ' h w) (hK : Kept g0 D (brk.any fun b => L.getD b false) h) : Ph τ0 g0 D brk L w := by
  have key : ∀ t o, (brk.any (fun b => L.getD b false) = true → t ∉ D) → g0 t = some o → ∃ b c, τ0 t = some (b, c) ∧ o.ok τ0 w b c := fun t o ht hg => by
    obtain ⟨b, c, h1, h2⟩ := hV t o hg
    obtain ⟨b', c', h3, _, h4⟩ := H.live t o (hK t o ht hg)
    rw [hle _ _ h1] at h3; cases h3
    exact ⟨b, c, h1, ok_back hle h2 h4⟩
  unfold Ph
  split
  · intro t o ht
    obtain ⟨h1, h2⟩ := mask_get ht
    exact key t o (fun _ => h1) h2
  · rename_i hn
    intro t o ht
    exact key t o (fun hh => absurd hh hn) ht

theorem Ph.weak {g0 : Gt} {D : List Tk} {brk : List Nat} {L : Array Bool} (h : Ph τ0 g0 D brk L w) : View τ0 (mask g0 D) w := by
  unfold Ph at h
  split at h
  · exact h
  · exact fun t o ht => h t o (mask_get ht).2
theorem Ph.strong {g0 : Gt} {D : List Tk} {brk : List Nat} {L : Array Bool} {C : List Bool} (hC : ∀ b ∈ brk, C.getD b false = false) (hL : LeB L (fun j => C.getD j false)) (h : Ph τ0 g0 D brk L w) : View τ0 g0 w := by
  unfold Ph at h
  rw [if_neg] at h
  · exact h
  · intro hany
    obtain ⟨b, hb, hbL⟩ := List.any_eq_true.1 hany
    have this : C.getD b false = true := hL b hbL
    rw [hC b hb] at this; cases this
theorem Ph.set {g0 : Gt} {D : List Tk} {brk : List Nat} {L : Array Bool} {i : Nat} (hi : hasN brk i = false) : Ph τ0 g0 D brk (L.setIfInBounds i true) w ↔ Ph τ0 g0 D brk L w := by
  unfold Ph; rw [any_set hi]

theorem view_mono {σ : Tau} {g : Gt} (h : τ0.le σ) (hv : View τ0 g w) : View σ g w := fun t o ht => let ⟨b, c, h1, h2⟩ := hv t o ht; ⟨b, c, h _ _ h1, h2.mono h⟩
end

theorem actsAt_mem {Y : Tys} : ∀ {l : List Oper} {j i : Nat} {o : Oper}, l[i]? = some o → (hasN (actsAt Y j l) (j + i) = true ↔ actsO Y o = true)
  | [], j, i, o, h => by simp at h
  | x :: r, j, i, o, h => by
    have ge : ∀ {l : List Oper} {j k : Nat}, k < j → hasN (actsAt Y j l) k = false := by
      intro l
      induction l with
      | nil => intro j k _; rfl
      | cons y l ih =>
        intro j k hk
        simp only [actsAt]
        cases actsO Y y
        · exact ih (by omega)
        · simp only [cond_true, hasN]
          cases hb : Nat.beq j k
          · exact ih (by omega)
          · have := Nat.eq_of_beq_eq_true hb; omega
    cases i with
    | zero =>
      simp at h; subst h
      simp only [actsAt, Nat.add_zero]
      cases ha : actsO Y x
      · simp [ge (l := r) (j := j + 1) (k := j) (by omega)]
      · simp [hasN]
    | succ i =>
      have ih := actsAt_mem (Y := Y) (l := r) (j := j + 1) (i := i) (o := o) (by simpa using h)
      rw [show j + 1 + i = j + (i + 1) from by omega] at ih
      simp only [actsAt]
      cases ha : actsO Y x
      · exact ih
      · simp only [cond_true, hasN]
        cases hb : Nat.beq j (j + (i + 1))
        · exact ih
        · have := Nat.eq_of_beq_eq_true hb; omega

theorem aheadO_spec {Y : Tys} {ops : Array Oper} {listed : List Bool} {i : Nat} {o : Oper} : ∀ {rs : List Nat}, aheadO Y ops listed rs = some (i, o) → i ∈ rs ∧ ops[i]? = some o ∧ Region.free .any ops listed.toArray i = true ∧ pureO Y o = true
  | [], h => by cases h
  | j :: r, h => by
    simp only [aheadO] at h
    split at h
    · obtain ⟨h1, h2⟩ := aheadO_spec (rs := r) h; exact ⟨List.mem_cons_of_mem _ h1, h2⟩
    · rename_i oj hoj
      cases hf : (Region.free .any ops listed.toArray j && pureO Y oj) <;> rw [hf] at h
      · obtain ⟨h1, h2⟩ := aheadO_spec (rs := r) h; exact ⟨List.mem_cons_of_mem _ h1, h2⟩
      · simp only [cond_true, Option.some.injEq, Prod.mk.injEq] at h
        obtain ⟨rfl, rfl⟩ := h
        simp only [Bool.and_eq_true] at hf
        exact ⟨List.mem_cons_self, hoj, hf.1, hf.2⟩

/-! ### blocks that are made ahead -/
theorem readyX_mem {ops : List Oper} {listed : List Bool} {i : Nat} : i ∈ readyX ops listed ↔ listed.getD i true = false ∧ ∃ o, ops[i]? = some o ∧ deps o (fun j => listed.getD j false) = true := by
  unfold readyX
  simp only [List.mem_filter, List.mem_range, Bool.and_eq_true, Bool.not_eq_true']
  constructor
  · rintro ⟨h1, h2, h3⟩
    refine ⟨h2, ?_⟩
    split at h3
    · rename_i o ho; exact ⟨o, ho, h3⟩
    · cases h3
  · rintro ⟨h1, o, ho, h3⟩
    refine ⟨(List.getElem?_eq_some_iff.1 ho).1, h1, ?_⟩
    rw [ho]; exact h3

theorem setAll_length : ∀ (ns : List Nat) (l : List Bool), (setAll l ns).length = l.length
  | [], _ => rfl
  | i :: r, l => by rw [setAll, setAll_length r]; simp
theorem setAll_getD {d : Bool} : ∀ (ns : List Nat) (l : List Bool) (j : Nat), j < l.length → (setAll l ns).getD j d = (hasN ns j || l.getD j d)
  | [], l, j, _ => by simp [setAll, hasN]
  | i :: r, l, j, hj => by
    rw [setAll, setAll_getD r _ j (by simpa using hj)]
    simp only [hasN]
    cases hb : Nat.beq i j
    · have := Nat.ne_of_beq_eq_false hb
      simp only [cond_false]
      rw [List.getD_eq_getElem?_getD, List.getElem?_set_ne this, ← List.getD_eq_getElem?_getD]
    · have := Nat.eq_of_beq_eq_true hb
      subst this
      simp only [cond_true, Bool.true_or]
      rw [List.getD_eq_getElem?_getD, List.getElem?_set_self hj]
      simp

theorem newO_spec {Y : Tys} {nt : Nat} {ops : Array Oper} {i : Nat} (h : newO Y nt ops.toList i = true) : ∃ o elem cs d, ops[i]? = some o ∧ comp Y o = some (.new elem cs) ∧ o.guard = none ∧ o.dst = some d ∧ d < nt ∧ d < 2 ^ depth ∧ ∀ (j : Nat) (oj : Oper), ops[j]? = some oj → j ≠ i → oj.dst ≠ some d := by
  unfold newO at h
  split at h
  · rename_i o ho
    simp only [Bool.and_eq_true] at h
    obtain ⟨⟨⟨h1, h2⟩, h3⟩, h4⟩ := h
    split at h1
    · rename_i elem cs hc
      split at h3
      · rename_i d hd
        simp only [Bool.and_eq_true] at h3
        have h3b : d < 18446744073709551616 := by simpa using h3.2
        refine ⟨o, elem, cs, d, by simpa using ho, hc, by simpa using h2, hd, by simpa using h3.1, h3b, fun j oj hoj hne he => ?_⟩
        have hj : j < ops.toList.length := by simpa using (Array.getElem?_eq_some_iff.1 hoj).1
        have := List.all_eq_true.1 h4 j (List.mem_range.2 hj)
        have hoj' : ops.toList[j]? = some oj := by simpa using hoj
        rw [hoj'] at this
        simp only [Bool.or_eq_true, Bool.not_eq_true'] at this
        rcases this with h | h
        · exact hne (Nat.eq_of_beq_eq_true h)
        · rw [he, hd] at h
          simp [sameD] at h
      · cases h3
    · cases h1
  · cases h

/-- An operation that makes a block of zeros. -/
theorem new_run {P : Program} {Y : Tys} (hY : TysOk P Y) {o : Oper} {elem : TypeId} {cs : List CV} (hc : comp Y o = some (.new elem cs)) :
    ∃ xs : List Value, (∀ τ, CV.rels τ cs xs) ∧ cs.length < 2 ^ depth ∧ ∀ (ev : Operand → Value) (w : World), (execOp ev o).run P w = .ok (.value (.pointer (some ⟨w.heap.size, 0, none⟩))) (w.alloc (.cells xs.toArray elem)) := by
  have hdep : (65536 : Nat) < 2 ^ depth := by decide
  obtain ⟨dst, op, type, pos, after, guard⟩ := o
  cases op
  case alloc t =>
    simp only [comp] at hc
    split at hc
    · rename_i e he
      split at hc
      · rename_i z hz
        cases hb : Nat.ble z.cells.length 65536 <;> rw [hb] at hc <;> cases hc
        have hle := Nat.le_of_ble_eq_true hb
        have hok := Tab.get_ok hY.tab he
        exact ⟨e.zero.cells.toList, fun τ => cells_rel (ofVal_rel (τ := τ) 9 hz), by omega, fun ev w => by simp [execOp, Instr.alloc, hok.zero, newVar, newRow, newObj, Sem.run]⟩
      · cases hc
    · cases hc
  all_goals exfalso
  case unOp uop t x => cases uop <;> (try (cases hc; done)); obtain ⟨o, ho, hh⟩ := one1_some hc; cases hh
  case makeFunc fn first caps =>
    cases fn <;> (try (simp [comp] at hc; done))
    simp only [comp] at hc
    split at hc <;> cases hc
  case makeMap t r => cases r <;> cases hc
  case slice t x lo hi mx =>
    cases mx with
    | some m => simp [comp] at hc
    | none =>
      simp only [comp] at hc
      (repeat' split at hc) <;> first
        | (cases hc; done)
        | (have hc := cond_some hc; cases hc; done)
  case call c' =>
    obtain ⟨callee, cargs, ats⟩ := c'
    cases callee
    case value fx => simp only [comp] at hc; split at hc <;> cases hc
    case invoke => cases hc
    case builtin b =>
      cases b <;> (try (cases hc; done)) <;> simp only [comp] at hc <;> (repeat' split at hc) <;> first
        | (cases hc; done)
        | (obtain ⟨o, ho, hh⟩ := one1_some hc; cases hh; done)
        | (have hc := cond_some hc; first
            | (obtain ⟨o, p, ho, hpp, hh⟩ := two2_some hc; cases hh; done)
            | (obtain ⟨o, ho, hh⟩ := one1_some hc; cases hh; done))
        | (obtain ⟨o, p, ho, hpp, hh⟩ := two2_some hc; cases hh; done)
  all_goals
    simp only [comp] at hc
    (repeat' split at hc) <;> first
      | (cases hc; done)
      | (obtain ⟨o, ho, hh⟩ := one1_some hc; cases hh; done)
      | (obtain ⟨o, p, ho, hpp, hh⟩ := two2_some hc; cases hh; done)
      | (obtain ⟨o, p, q, ho, hpp, hq, hh⟩ := three3_some hc; cases hh; done)
      | (have hc := cond_some hc; first
          | (cases hc; done)
          | (obtain ⟨o, ho, hh⟩ := one1_some hc; cases hh; done)
          | (obtain ⟨o, p, ho, hpp, hh⟩ := two2_some hc; cases hh; done))
      | (cases hq : isAggD _ <;> rw [hq] at hc <;> simp only [cond_true, cond_false] at hc <;> first
          | (obtain ⟨o, ho, hh⟩ := one1_some hc; cases hh; done)
          | (obtain ⟨o, p, ho, hpp, hh⟩ := two2_some hc; cases hh; done)
          | (cases hc; done))
      | (cases hq : Nat.beq _ 0 <;> rw [hq] at hc <;> simp only [cond_true, cond_false] at hc <;> first
          | (obtain ⟨o, ho, hh⟩ := one1_some hc; cases hh; done)
          | (cases hc; done))

theorem nodup_map_inj {α β : Type} {f : α → β} : ∀ {l : List α}, (l.map f).Nodup → ∀ {x y : α}, x ∈ l → y ∈ l → f x = f y → x = y
  | [], _, x, y, hx, _, _ => by cases hx
  | a :: l, h, x, y, hx, hy, e => by
    simp only [List.map_cons, List.nodup_cons] at h
    cases hx with
    | head => cases hy with
      | head => rfl
      | tail _ hy => exact absurd (List.mem_map.2 ⟨y, hy, e.symm⟩) h.1
    | tail _ hx => cases hy with
      | head => exact absurd (List.mem_map.2 ⟨x, hx, e⟩) h.1
      | tail _ hy => exact nodup_map_inj h.2 hx hy e

/-- A block that was made ahead of its turn. -/
def PreOk (Y : Tys) (ops : Array Oper) (nt : Nat) (K : Nat → Prop) (w2 : World) (listed : List Bool) (a : Act) (x : Nat × Nat) : Prop :=
  newO Y nt ops.toList x.1 = true ∧ x.1 ∈ readyX ops.toList listed ∧ ¬ K x.2 ∧
  ∃ o d elem cs xs, ops[x.1]? = some o ∧ o.dst = some d ∧ comp Y o = some (.new elem cs) ∧ (∀ τ, CV.rels τ cs xs) ∧ cs.length < 2 ^ depth ∧ w2.heap[x.2]? = some (.cells xs.toArray elem (0, 0)) ∧ a.tmps.getD d undef = .pointer (some ⟨x.2, 0, none⟩)

def withB (K : Nat → Prop) (pre : List (Nat × Nat)) : Nat → Prop := fun b => K b ∨ ∃ x ∈ pre, x.2 = b

theorem Hp.ok.less {K K' : Nat → Prop} {w0 w : World} {τ : Tau} {h : Hp} (H : Hp.ok K' w0 τ h w) (hK : ∀ b, K b → K' b) : Hp.ok K w0 τ h w :=
  ⟨⟨H.size, fun b hb => H.kin b (hK b hb), fun b hb => H.same b (hK b hb), H.os, H.tape, H.output⟩, H.dom, fun t o e => let ⟨b, c, h1, h2, h3⟩ := H.live t o e; ⟨b, c, h1, fun hk => h2 (hK b hk), h3⟩, H.inj⟩
theorem Hp.ok.rebase {K : Nat → Prop} {w0 w2 w : World} {τ : Tau} {h : Hp} (H : Hp.ok K w2 τ h w) (k : Old K w0 w) : Hp.ok K w0 τ h w := ⟨k, H.dom, H.live, H.inj⟩

theorem getD_set_self {l : List Bool} {i : Nat} (h : i < l.length) (d : Bool) : (l.set i true).getD i d = true := by
  rw [List.getD_eq_getElem?_getD, List.getElem?_set_self h]; rfl
theorem getD_set_ne' {l : List Bool} {i j : Nat} (h : i ≠ j) (d : Bool) : (l.set i true).getD j d = l.getD j d := by
  rw [List.getD_eq_getElem?_getD, List.getElem?_set_ne h, ← List.getD_eq_getElem?_getD]
theorem count_set {l : List Bool} : ∀ {i : Nat}, l.getD i true = false → (l.set i true).count false + 1 = l.count false := by
  induction l with
  | nil => intro i h; simp at h
  | cons b l ih =>
    intro i h
    cases i with
    | zero => simp at h; subst h; simp
    | succ i =>
      have := ih (i := i) (by simpa using h)
      simp only [List.set_cons_succ, List.count_cons]
      omega
theorem getD_lt {l : List Bool} {i : Nat} (h : l.getD i true = false) : i < l.length := by
  by_cases hh : i < l.length
  · exact hh
  · rw [List.getD_eq_getElem?_getD, List.getElem?_eq_none (by omega)] at h; cases h
theorem getD_tf {l : List Bool} {i : Nat} (h : i < l.length) : l.getD i true = l.getD i false := by
  simp [List.getD_eq_getElem?_getD, List.getElem?_eq_getElem h]

section
variable {P : Program} {Y : Tys} {self : Self} {fns : Fns} {exts : Exts} {K : Nat → Prop} {w0 : World} {nt : Nat} {Q : Exit → Act → World → Prop}

theorem drawL_ok (hE : EnvOk P Y fns exts) (hS : SelfOk P Y self) {ops : Array Oper} (hsel : Region.noSelect ops = true) (hQ : ∀ c a w, ¬ Q (.panic c) a w) {g0 : Gt} {D : List Tk} {τ0 : Tau} {wS : World} (hV : View τ0 g0 wS) {stF : St} {tcF : List Tk}
    (hD : ∀ t ∈ stF.dirty, t ∈ D) (hT : ∀ t ∈ tcF, t ∉ D) :
    ∀ (n : Nat) (listed : List Bool) (l : List Stp), schedO Y nt ops (actsAt Y 0 ops.toList) n listed = some l → listed.length = ops.size →
    ∀ (f : Nat) (L' : List Bool) (pre : List (Nat × Nat)), L'.length = ops.size → (∀ j, j < ops.size → L'.getD j false = (listed.getD j false || pre.any fun x => Nat.beq x.1 j)) → L'.count false = f → (pre.map (·.1)).Nodup → (pre.map (·.2)).Nodup →
    ∀ (st : St) (tc : List Tk) (τ : Tau) (a : Act) (w2 w : World), drawL self fns exts g0 l st tc = some (stF, tcF) →
      (∀ x ∈ pre, PreOk Y ops nt K w2 listed a x) → (∀ i o d, newO Y nt ops.toList i = true → listed.getD i true = false → ops[i]? = some o → o.dst = some d → st.sl.get (at_ d) = none) → Rep (withB K pre) w2 τ nt st a w → Old K w0 w2 → τ0.le τ → Kept g0 D ((actsAt Y 0 ops.toList).any fun b => listed.toArray.getD b false) st.h →
      (∀ τ' a' w' nd, τ.le τ' → Rep K w0 τ' nt stF a' w' → Mv st stF nd → Q .normal a' w') →
      wpAnyL P .any ops Q (Ph τ0 g0 D (actsAt Y 0 ops.toList)) f L'.toArray a w := by
  have hset : ∀ (listed : List Bool) i, (listed.set i true).toArray = listed.toArray.setIfInBounds i true := fun listed i => by simp
  -- behind a step
  have kept : ∀ {listed : List Bool} {i : Nat} {o : Oper} {c : COp} {st st1 : St} {nd : List Tk}, ops[i]? = some o → comp Y o = some c → listed.length = ops.size → Kept g0 D ((actsAt Y 0 ops.toList).any fun b => listed.toArray.getD b false) st.h →
      Mv st st1 nd → (∀ t ∈ nd, t ∈ D) → (c.pure = true ∨ c.makes = true → nd = []) → Kept g0 D ((actsAt Y 0 ops.toList).any fun b => (listed.toArray.setIfInBounds i true).getD b false) st1.h := by
    intro listed i o c st st1 nd ho hc hlen hK hM hnd hpm p q hp hq
    cases ha : actsO Y o
    · -- it makes no more than blocks of its own
      have hmem : hasN (actsAt Y 0 ops.toList) i = false := by
        have := actsAt_mem (Y := Y) (l := ops.toList) (j := 0) (i := i) (o := o) (by simpa using ho)
        rw [Nat.zero_add] at this
        cases hb : hasN (actsAt Y 0 ops.toList) i
        · rfl
        · rw [this.1 hb] at ha; cases ha
      rw [any_set hmem] at hp
      have hnil : nd = [] := by
        refine hpm ?_
        unfold actsO at ha
        rw [hc] at ha
        cases hp1 : c.pure <;> cases hp2 : c.makes <;> simp [hp1, hp2] at ha ⊢
      subst hnil
      exact hM.keep p q (by simp) (hK p q hp hq)
    · have hmem : hasN (actsAt Y 0 ops.toList) i = true := by
        have := actsAt_mem (Y := Y) (l := ops.toList) (j := 0) (i := i) (o := o) (by simpa using ho)
        rw [Nat.zero_add] at this
        exact this.2 ha
      have hany : ((actsAt Y 0 ops.toList).any fun b => (listed.toArray.setIfInBounds i true).getD b false) = true := by
        refine List.any_eq_true.2 ⟨i, hasN_mem.1 hmem, ?_⟩
        have hi : i < ops.size := (Array.getElem?_eq_some_iff.1 ho).1
        rw [Array.getD_eq_getD_getElem?, Array.getElem?_setIfInBounds, if_pos rfl, if_pos (by simp [hlen]; exact hi)]; rfl
      have hpD : p ∉ D := hp hany
      exact hM.keep p q (fun hm => hpD (hnd p hm)) (hK p q (fun _ => hpD) hq)
  have newNot : ∀ {i : Nat}, newO Y nt ops.toList i = true → hasN (actsAt Y 0 ops.toList) i = false := fun {i} h => by
    obtain ⟨o, elem, cs, d, h1, h2, _⟩ := newO_spec h
    have := actsAt_mem (Y := Y) (l := ops.toList) (j := 0) (i := i) (o := o) (by simpa using h1)
    rw [Nat.zero_add] at this
    cases hb : hasN (actsAt Y 0 ops.toList) i
    · rfl
    · have h := this.1 hb
      unfold actsO at h
      rw [h2] at h
      cases h
  -- what has acted is the same by either list
  have anyEq : ∀ {listed L' : List Bool} {pre : List (Nat × Nat)}, listed.length = ops.size → L'.length = ops.size → (∀ j, j < ops.size → L'.getD j false = (listed.getD j false || pre.any fun x => Nat.beq x.1 j)) → (∀ x ∈ pre, newO Y nt ops.toList x.1 = true) →
      ((actsAt Y 0 ops.toList).any fun b => L'.toArray.getD b false) = ((actsAt Y 0 ops.toList).any fun b => listed.toArray.getD b false) := by
    intro listed L' pre hl1 hl2 hL hpre
    rw [Bool.eq_iff_iff]
    simp only [List.any_eq_true]
    have one : ∀ b, b ∈ actsAt Y 0 ops.toList → L'.toArray.getD b false = listed.toArray.getD b false := fun b hb => by
      rw [getD_toArray, getD_toArray]
      by_cases hlt : b < ops.size
      · rw [hL b hlt]
        have : (pre.any fun x => Nat.beq x.1 b) = false := by
          cases h : pre.any fun x => Nat.beq x.1 b
          · rfl
          · obtain ⟨x, hx, hxb⟩ := List.any_eq_true.1 h
            have e := Nat.eq_of_beq_eq_true hxb
            have := newNot (hpre x hx)
            rw [e, hasN_mem.2 hb] at this; cases this
        rw [this, Bool.or_false]
      · rw [List.getD_eq_getElem?_getD, List.getD_eq_getElem?_getD, List.getElem?_eq_none (by omega), List.getElem?_eq_none (by omega)]
    constructor
    · rintro ⟨b, hb, h⟩; exact ⟨b, hb, by rw [← one b hb]; exact h⟩
    · rintro ⟨b, hb, h⟩; exact ⟨b, hb, by rw [one b hb]; exact h⟩
  have stay : ∀ {x : Nat × Nat} {listed : List Bool} {a : Act} {w2 : World} {i : Nat} {o : Oper} {u : Value}, PreOk Y ops nt K w2 listed a x → ops[i]? = some o → x.1 ≠ i → listed.length = ops.size → PreOk Y ops nt K w2 (listed.set i true) (a.put o.dst u) x := by
    intro x listed a w2 i o u hx ho hne hlen
    obtain ⟨p1, p2, p3, o', d, elem, cs, xs, q1, q2, q3, q4, q5, q6, q7⟩ := hx
    refine ⟨p1, ?_, p3, o', d, elem, cs, xs, q1, q2, q3, q4, q5, q6, ?_⟩
    · obtain ⟨r1, o2, r2, r3⟩ := readyX_mem.1 p2
      refine readyX_mem.2 ⟨by rw [getD_set_ne' (fun e => hne e.symm)]; exact r1, o2, r2, ?_⟩
      refine deps_spec.2 fun e he hb => ?_
      have := deps_spec.1 r3 e he hb
      by_cases hei : i = e.on
      · rw [← hei, getD_set_self (by rw [hlen]; exact (Array.getElem?_eq_some_iff.1 ho).1)]
      · rw [getD_set_ne' hei]; exact this
    · obtain ⟨o3, _, _, d3, s1, _, _, s4, _, _, s7⟩ := newO_spec p1
      rw [q1] at s1; cases s1
      rw [q2] at s4; cases s4
      have hnd := s7 i o ho (fun e => hne e.symm)
      cases hd : o.dst with
      | none => exact q7
      | some d' =>
        have hdd : d' ≠ d := fun e => hnd (by rw [hd, e])
        simp only [Act.put, Array.getD_eq_getD_getElem?, Array.getElem?_setIfInBounds, if_neg hdd]
        rw [← Array.getD_eq_getD_getElem?]; exact q7
  -- nothing is left
  have fin : ∀ {listed : List Bool} (hr : readyX ops.toList listed = []) (hlen : listed.length = ops.size) {f : Nat} {L' : List Bool} {pre : List (Nat × Nat)} (hl' : L'.length = ops.size) (hL : ∀ j, j < ops.size → L'.getD j false = (listed.getD j false || pre.any fun x => Nat.beq x.1 j))
      {τ : Tau} {a : Act} {w2 w : World} (hpre : ∀ x ∈ pre, PreOk Y ops nt K w2 listed a x) (R : Rep (withB K pre) w2 τ nt stF a w) (hold : Old K w0 w2) (hk : ∀ τ' a' w' nd, τ.le τ' → Rep K w0 τ' nt stF a' w' → Mv stF stF nd → Q .normal a' w'),
      wpAnyL P .any ops Q (Ph τ0 g0 D (actsAt Y 0 ops.toList)) f L'.toArray a w := by
    intro listed hr hlen f L' pre hl' hL τ a w2 w hpre R hold hk
    have hp0 : pre = [] := by
      cases pre with
      | nil => rfl
      | cons x r =>
        have := (hpre x List.mem_cons_self).2.1
        rw [hr] at this; cases this
    subst hp0
    have hLe : L' = listed := by
      apply List.ext_getElem?
      intro j
      by_cases hj : j < ops.size
      · have := hL j hj
        simp only [List.any_nil, Bool.or_false, List.getD_eq_getElem?_getD, List.getElem?_eq_getElem (show j < L'.length by omega), List.getElem?_eq_getElem (show j < listed.length by omega), Option.getD_some] at this
        rw [List.getElem?_eq_getElem (by omega), List.getElem?_eq_getElem (by omega), this]
      · rw [List.getElem?_eq_none (by omega), List.getElem?_eq_none (by omega)]
    rw [readyX_eq] at hr
    subst hLe
    have R1 : Rep K w0 τ nt stF a w := ⟨R.nodef, R.size, R.slots, (R.heap.less fun b hb => .inl hb).rebase (hold.trans (R.heap.less fun b hb => .inl hb).toOld fun _ h => h)⟩
    exact wpAnyL_done hr (hk τ a w [] (Tau.le.refl τ) R1 (Mv.refl stF)) _
  intro n
  induction n with
  | zero =>
    intro listed l hl hlen f L' pre hl' hL hf hnd1 hnd2 st tc τ a w2 w h hpre her R hold hle hK hk
    simp only [schedO] at hl
    split at hl
    · rename_i hr
      cases hl; cases h
      exact fin hr hlen hl' hL hpre R hold hk
    · cases hl
  | succ n ihn =>
    intro listed l hl hlen f
    induction f using Nat.strongRecOn with
    | _ f ihf =>
    intro L' pre hl' hL hf hnd1 hnd2 st tc τ a w2 w h hpre her R hold hle hK hk
    have hl0 := hl
    simp only [schedO] at hl
    split at hl
    · rename_i hr
      cases hl; cases h
      exact fin hr hlen hl' hL hpre R hold hk
    · rename_i hne
      generalize hns : (readyX ops.toList listed).filter (newO Y nt ops.toList) = ns at hl
      generalize hos : ((readyX ops.toList listed).filter fun j => !(newO Y nt ops.toList j)) = os at hl
      have nsMem : ∀ j, j ∈ ns ↔ j ∈ readyX ops.toList listed ∧ newO Y nt ops.toList j = true := fun j => by rw [← hns]; exact List.mem_filter
      have osMem : ∀ j, j ∈ os ↔ j ∈ readyX ops.toList listed ∧ newO Y nt ops.toList j = false := fun j => by rw [← hos, List.mem_filter]; simp
      split at hl
      · rename_i i sole cert hpick
        cases hchk : chkO ops.toList listed ns os i
        · rw [hchk] at hl; cases hl
        rw [hchk] at hl
        simp only [cond_true] at hl
        split at hl
        · rename_i o ho
          split at hl
          · rename_i s hs
            split at hl
            · rename_i l' hl2
              cases hl
              have hilt : i < ops.size := (Array.getElem?_eq_some_iff.1 ho).1
              -- where the pick comes from
              have hpk : i ∈ readyX ops.toList listed ∧ ((sole = true ∧ ∀ j ∈ os, j = i) ∨ (sole = false ∧ cert = certX ops.toList i listed (closeX i listed 0 ops.toList []) (actsAt Y 0 ops.toList) ∧ i ∈ os ∧ Region.free .any ops listed.toArray i = true ∧ pureO Y o = true)) := by
                unfold pickO at hpick
                split at hpick
                · split at hpick
                  · rename_i k r
                    simp only [Option.some.injEq, Prod.mk.injEq] at hpick
                    obtain ⟨rfl, rfl, rfl⟩ := hpick
                    exact ⟨((nsMem k).1 List.mem_cons_self).1, .inl ⟨rfl, fun j hj => by cases hj⟩⟩
                  · cases hpick
                · rename_i k
                  simp only [Option.some.injEq, Prod.mk.injEq] at hpick
                  obtain ⟨rfl, rfl, rfl⟩ := hpick
                  exact ⟨((osMem k).1 List.mem_cons_self).1, .inl ⟨rfl, fun j hj => by simpa using hj⟩⟩
                · split at hpick
                  · rename_i k o' hah
                    simp only [Option.some.injEq, Prod.mk.injEq] at hpick
                    obtain ⟨rfl, rfl, rfl⟩ := hpick
                    obtain ⟨s1, s2, s3, s4⟩ := aheadO_spec hah
                    rw [ho] at s2; cases s2
                    exact ⟨((osMem k).1 s1).1, .inr ⟨rfl, rfl, s1, s3, s4⟩⟩
                  · cases hpick
              obtain ⟨hir, hpk⟩ := hpk
              obtain ⟨hiun, o', ho', hideps⟩ := readyX_mem.1 hir
              have : o' = o := by
                have e : ops.toList[i]? = some o := by simpa using ho
                rw [e] at ho'; cases ho'; rfl
              subst this
              have hPh : Ph τ0 g0 D (actsAt Y 0 ops.toList) L'.toArray w := Ph.of hV hle R.heap (by rw [anyEq hlen hl' hL (fun x hx => (hpre x hx).1)]; exact hK)
              unfold stpO at hs
              split at hs
              · rename_i d g c hdst hg hc
                cases hs
                have hlen2 : (listed.set i true).length = ops.size := by simp [hlen]
                have her2 : ∀ {st1 : St} {v : CV}, st1.sl = st.sl → ∀ i' o' d', newO Y nt ops.toList i' = true → (listed.set i true).getD i' true = false → ops[i']? = some o' → o'.dst = some d' → (putC st1 d v).sl.get (at_ d') = none := by
                  intro st1 v hsl i' o2 d' h1 h2 h3 h4
                  have hne' : i ≠ i' := fun e => by
                    subst e
                    rw [getD_set_self (by rw [hlen]; exact hilt)] at h2; cases h2
                  rw [getD_set_ne' hne'] at h2
                  have h5 := her i' o2 d' h1 h2 h3 h4
                  cases d with
                  | none => simp only [putC]; rw [hsl]; exact h5
                  | some p =>
                    simp only [putC, T.get_put]
                    rw [if_neg]
                    · rw [hsl]; exact h5
                    · intro e
                      obtain ⟨o3, _, _, d3, q1, _, _, q4, _, q6, q7⟩ := newO_spec h1
                      rw [h3] at q1; cases q1
                      rw [h4] at q4; cases q4
                      cases hdo : o'.dst with
                      | none => rw [hdo] at hdst; cases hdst
                      | some dd =>
                        rw [hdo] at hdst
                        simp only [dstO] at hdst
                        cases hb : (Nat.blt dd nt && Nat.blt dd 18446744073709551616) <;> rw [hb] at hdst <;> cases hdst
                        simp only [Bool.and_eq_true] at hb
                        have hdd : dd < 2 ^ depth := by have h : dd < 18446744073709551616 := by simpa using hb.2
                                                        exact h
                        have := at_inj q6 hdd e
                        exact q7 i o' ho hne' (by rw [hdo, this])
                by_cases hip : ∃ x ∈ pre, x.1 = i
                · -- its block is there already
                  obtain ⟨x, hx, hxi⟩ := hip
                  obtain ⟨p1, p2, p3, o2, dd, elem, cs, xs, q1, q2, q3, q4, q5, q6, q7⟩ := hpre x hx
                  rw [hxi] at p1 p2 q1
                  rw [ho] at q1; cases q1
                  rw [hc] at q3; cases q3
                  have hsole : sole = true := by
                    rcases hpk with ⟨h1, _⟩ | ⟨_, _, h3, _⟩
                    · exact h1
                    · have := ((osMem i).1 h3).2
                      rw [p1] at this; cases this
                  subst hsole
                  obtain ⟨_, _, _, d3, s1, _, s3, s4, s5, s6, _⟩ := newO_spec p1
                  rw [ho] at s1; cases s1
                  rw [q2] at s4; cases s4
                  have hd2 : d = some (at_ dd) := by
                    rw [q2] at hdst
                    simp only [dstO] at hdst
                    exact (Option.some.inj (Go.Cx.cond_some hdst)).symm
                  subst hd2
                  have hg2 : g = none := by rw [s3] at hg; cases hg; rfl
                  subst hg2
                  simp only [drawL, wantC, actC, doC, newC_eq, cond_true] at h
                  -- the block becomes the doer's
                  have hb2 : withB K pre x.2 := .inr ⟨x, hx, rfl⟩
                  have hwb : w.heap[x.2]? = some (.cells xs.toArray elem (0, 0)) := by rw [R.heap.same _ hb2]; exact q6
                  have hne' : ∀ t p, τ t = some p → t ≠ st.h.next := fun t p e hh => by have := R.heap.dom t p e; rw [hh] at this; omega
                  have hle2 : τ.le (τ.more st.h.next x.2 1) := fun t p e => by
                    simp only [Tau.more]; rw [if_neg (hne' t p e)]; exact e
                  have hK' : ∀ b, withB K (pre.filter fun y => !(Nat.beq y.1 i)) b → withB K pre b := fun b hb => by
                    rcases hb with hb | ⟨y, hy, hyb⟩
                    · exact .inl hb
                    · exact .inr ⟨y, (List.mem_filter.1 hy).1, hyb⟩
                  have huniq : ∀ y ∈ pre, y.2 = x.2 → y = x := fun y hy e => nodup_map_inj hnd2 hy hx e
                  have H2 : Hp.ok (withB K (pre.filter fun y => !(Nat.beq y.1 i))) w2 (τ.more st.h.next x.2 1) ⟨T.put (some (.cells ⟨layT 0 cs .nil, cs.length, elem, cs.length, some 1⟩)) st.h.next st.h.at_, inc st.h.next⟩ w := by
                    refine ⟨(R.heap.less hK').toOld, fun t p e => ?_, fun t q e => ?_, fun t u q q' b c1 c2 hnee e1 e2 k1 k2 => ?_⟩
                    · simp only [Tau.more] at e
                      simp only [num_inc]
                      split at e
                      · rename_i hh; subst hh; omega
                      · have := R.heap.dom t p e; omega
                    · simp only [T.get_put] at e
                      split at e
                      · rename_i hh; subst hh; cases e
                        refine ⟨x.2, 1, by simp [Tau.more], fun hk2 => ?_, newBlk_ok (xs := xs) (extra := []) (q4 _) (by rw [List.append_nil]; exact hwb) (by rw [List.append_nil, rels_length (q4 τ), Nat.one_mul]) (fun m hm => by cases hm; exact ⟨rfl, rfl⟩) rfl q5⟩
                        rcases hk2 with hk2 | ⟨y, hy, hyb⟩
                        · exact p3 hk2
                        · obtain ⟨hy1, hy2⟩ := List.mem_filter.1 hy
                          have := huniq y hy1 hyb
                          subst this
                          rw [hxi] at hy2; simp at hy2
                      · obtain ⟨b, c', h5, h6, h7⟩ := R.heap.live t q e
                        exact ⟨b, c', hle2 _ _ h5, fun hk2 => h6 (hK' b hk2), h7.mono hle2⟩
                    · simp only [T.get_put] at e1 e2
                      have other : ∀ {u : Tk} {q : Ob} {c : Nat}, st.h.at_.get u = some q → τ.more st.h.next x.2 1 u = some (x.2, c) → False := fun {u q c} e k => by
                        obtain ⟨b', c', h5, h6, h7⟩ := R.heap.live u q e
                        rw [hle2 _ _ h5] at k; cases k
                        exact h6 hb2
                      split at e1
                      · rename_i hh; subst hh
                        simp only [Tau.more, if_true] at k1; cases k1
                        split at e2
                        · rename_i hh; exact hnee hh.symm
                        · exact other e2 k2
                      · split at e2
                        · rename_i hh; subst hh
                          simp only [Tau.more, if_true] at k2; cases k2
                          exact other e1 k1
                        · obtain ⟨b1, c3, k3, _, _⟩ := R.heap.live t _ e1
                          obtain ⟨b2, c4, k4, _, _⟩ := R.heap.live u _ e2
                          have i1 := hle2 _ _ k3; rw [i1] at k1; cases k1
                          have i2 := hle2 _ _ k4; rw [i2] at k2; cases k2
                          exact R.heap.inj t u q q' b c1 c2 hnee e1 e2 k3 k4
                  have hmv : Mv st { st with h := ⟨T.put (some (.cells ⟨layT 0 cs .nil, cs.length, elem, cs.length, some 1⟩)) st.h.next st.h.at_, inc st.h.next⟩ } [] := ⟨rfl, fun p q _ hq => by
                    simp only [T.get_put]
                    obtain ⟨b, c', h5, _, _⟩ := R.heap.live p q hq
                    rw [if_neg (hne' p _ h5)]; exact hq⟩
                  have hK1 := kept ho hc hlen hK hmv (by simp) (fun _ => rfl)
                  refine ihn _ _ hl2 hlen2 f L' (pre.filter fun y => !(Nat.beq y.1 i)) hl' (fun j hj => ?_) hf (hnd1.sublist ((List.filter_sublist).map _)) (hnd2.sublist ((List.filter_sublist).map _)) _ _ _ a w2 w h (fun y hy => ?_) ?_ ?_ hold (hle.trans hle2) ?_ (fun τ2 a2 w3 nd2 k1 k2 k3 => hk τ2 a2 w3 (nd2 ++ []) (hle2.trans k1) k2 ?_)
                  · rw [hL j hj]
                    by_cases hij : i = j
                    · subst hij
                      rw [getD_set_self (by rw [hlen]; exact hilt)]
                      have : (pre.any fun y => Nat.beq y.1 i) = true := List.any_eq_true.2 ⟨x, hx, by rw [hxi]; simp⟩
                      rw [this]; simp
                    · rw [getD_set_ne' hij]
                      congr 1
                      rw [Bool.eq_iff_iff]
                      simp only [List.any_eq_true, List.mem_filter]
                      constructor
                      · rintro ⟨y, hy, hyj⟩
                        refine ⟨y, ⟨hy, ?_⟩, hyj⟩
                        have := Nat.eq_of_beq_eq_true hyj
                        cases hb : Nat.beq y.1 i
                        · rfl
                        · exact absurd ((Nat.eq_of_beq_eq_true hb).symm.trans this) hij
                      · rintro ⟨y, ⟨hy, _⟩, hyj⟩; exact ⟨y, hy, hyj⟩
                  · obtain ⟨hy1, hy2⟩ := List.mem_filter.1 hy
                    have hyi : y.1 ≠ i := fun e => by rw [e] at hy2; simp at hy2
                    obtain ⟨p1', p2', p3', o4, d4, e4, c4, x4, r1, r2, r3, r4, r5, r6, r7⟩ := hpre y hy1
                    refine ⟨p1', ?_, p3', o4, d4, e4, c4, x4, r1, r2, r3, r4, r5, r6, r7⟩
                    obtain ⟨u1, o5, u2, u3⟩ := readyX_mem.1 p2'
                    refine readyX_mem.2 ⟨by rw [getD_set_ne' (fun e => hyi e.symm)]; exact u1, o5, u2, deps_spec.2 fun e he hb => ?_⟩
                    have := deps_spec.1 u3 e he hb
                    by_cases hei : i = e.on
                    · rw [← hei, getD_set_self (by rw [hlen]; exact hilt)]
                    · rw [getD_set_ne' hei]; exact this
                  · exact her2 rfl
                  · have R2 : SlOk (τ.more st.h.next x.2 1) (T.put (some (.ptr st.h.next 0)) (at_ dd) st.sl) a.tmps := fun t u ht hu => by
                      rw [T.get_put] at hu
                      split at hu
                      · rename_i hh
                        cases hu
                        have := at_inj ht s6 hh
                        subst this
                        exact ⟨x.2, 1, by simp [Tau.more], q7⟩
                      · exact (R.slots t u ht hu).mono hle2
                    exact ⟨R.nodef, R.size, R2, H2⟩
                  · rw [hset]; exact hK1
                  · exact hmv.trans ⟨by rw [k3.dirty, putC_dirty], fun p q hp hq => k3.keep p q hp hq⟩
                · -- it is still to come
                  have hiL : L'.getD i true = false := by
                    rw [getD_tf (by rw [hl']; exact hilt), hL i hilt, ← getD_tf (by rw [hlen]; exact hilt), hiun, Bool.false_or]
                    cases hany : pre.any fun x => Nat.beq x.1 i
                    · rfl
                    · obtain ⟨x, hx, hxb⟩ := List.any_eq_true.1 hany
                      exact absurd ⟨x, hx, Nat.eq_of_beq_eq_true hxb⟩ hip
                  have hcnt := count_set hiL
                  obtain ⟨f', rfl⟩ : ∃ f', f = f' + 1 := ⟨f - 1, by omega⟩
                  have hiR : i ∈ Region.ready .any ops L'.toArray := by
                    rw [← readyX_eq]
                    refine readyX_mem.2 ⟨hiL, o', ho', deps_spec.2 fun e he hb => ?_⟩
                    have := deps_spec.1 hideps e he hb
                    have hlt : e.on < ops.size := by
                      by_cases hh : e.on < ops.size
                      · exact hh
                      · rw [List.getD_eq_getElem?_getD, List.getElem?_eq_none (by omega)] at this; cases this
                    rw [hL _ hlt, this]; rfl
                  have hL2 : ∀ j, j < ops.size → (L'.set i true).getD j false = ((listed.set i true).getD j false || pre.any fun x => Nat.beq x.1 j) := fun j hj => by
                    by_cases hij : i = j
                    · subst hij
                      rw [getD_set_self (by rw [hl']; exact hilt), getD_set_self (by rw [hlen]; exact hilt)]; rfl
                    · rw [getD_set_ne' hij, getD_set_ne' hij]; exact hL j hj
                  have hl2' : (L'.set i true).length = ops.size := by simp [hl']
                  have pre2 : ∀ {u : Value}, ∀ x ∈ pre, PreOk Y ops nt K w2 (listed.set i true) (a.put o'.dst u) x := fun {u} x hx => stay (hpre x hx) ho (fun e => hip ⟨x, hx, e⟩) hlen
                  rcases hpk with ⟨rfl, honly⟩ | ⟨rfl, hcert, hios, hfree, hpu⟩
                  · -- in its turn, or a block ahead
                    refine ⟨(fun h0 => by rw [h0] at hiR; cases hiR), fun j hj => ?_⟩
                    by_cases hji : j = i
                    · subst hji
                      unfold wpOp
                      rw [ho]
                      simp only
                      simp only [drawL] at h
                      split at h
                      · rename_i hw
                        rw [want_ok R hg hw]
                        simp only [Bool.false_eq_true, if_false]
                        have R1 := R.put hdst (v := undefC) undef_rel
                        have hh : (putC st d undefC).h = st.h := by cases d <;> rfl
                        have hK1 : Kept g0 D ((actsAt Y 0 ops.toList).any fun b => (listed.toArray.setIfInBounds j true).getD b false) (putC st d undefC).h := by
                          rw [hh]
                          exact kept ho hc hlen hK (Mv.refl st) (by simp) (fun _ => rfl)
                        rw [← hset]
                        refine ⟨Ph.of hV hle R1.heap (by rw [anyEq hlen2 hl2' hL2 (fun x hx => (hpre x hx).1), hset]; exact hK1), ?_⟩
                        exact ihn _ _ hl2 hlen2 f' _ pre hl2' hL2 (by omega) hnd1 hnd2 _ _ _ _ w2 _ h pre2 (her2 rfl) R1 hold hle (by rw [hset]; exact hK1) fun τ2 a2 w3 nd2 k1 k2 k3 => hk τ2 a2 w3 nd2 k1 k2 ⟨by rw [k3.dirty, putC_dirty], fun p q hp hq => k3.keep p q hp (by rw [hh]; exact hq)⟩
                      · rename_i hw
                        rw [want_ok R hg hw]
                        simp only [if_true, cond_true] at h ⊢
                        split at h
                        · rename_i v st1 h1
                          refine .inl (act_ok hE hS hc h1 R fun τ' x w' nd g1 g2 g3 g4 g5 g6 => ?_)
                          have R1 := (R.mono_sl g1 g4 g3).put hdst g2
                          obtain ⟨⟨n2, e2⟩, _⟩ := drawL_dirty hS.2 h
                          have hnd : ∀ t ∈ nd, t ∈ D := fun t ht => hD t (by rw [e2, putC_dirty, g5.dirty]; exact List.mem_append_right _ (List.mem_append_left _ ht))
                          have hh : (putC st1 d v).h = st1.h := by cases d <;> rfl
                          have hK1 : Kept g0 D ((actsAt Y 0 ops.toList).any fun b => (listed.toArray.setIfInBounds j true).getD b false) (putC st1 d v).h := by
                            rw [hh]
                            exact kept ho hc hlen hK g5 hnd g6
                          rw [← hset]
                          refine ⟨Ph.of hV (hle.trans g1) R1.heap (by rw [anyEq hlen2 hl2' hL2 (fun x hx => (hpre x hx).1), hset]; exact hK1), ?_⟩
                          exact ihn _ _ hl2 hlen2 f' _ pre hl2' hL2 (by omega) hnd1 hnd2 _ _ _ _ w2 _ h pre2 (her2 g4) R1 hold (hle.trans g1) (by rw [hset]; exact hK1) fun τ2 a2 w3 nd2 k1 k2 k3 => hk τ2 a2 w3 (nd2 ++ nd) (g1.trans k1) k2 (g5.trans ⟨by rw [k3.dirty, putC_dirty], fun p q hp hq => k3.keep p q hp (by rw [hh]; exact hq)⟩)
                        · cases h
                      · cases h
                    · -- a block ahead
                      rw [← readyX_eq] at hj
                      obtain ⟨hjun, oj, hoj, hjdeps⟩ := readyX_mem.1 hj
                      have hjlt : j < ops.size := by have := (List.getElem?_eq_some_iff.1 hoj).1; simpa using this
                      have hjL := hjun
                      rw [getD_tf (by rw [hl']; exact hjlt), hL j hjlt] at hjL
                      simp only [Bool.or_eq_false_iff] at hjL
                      have hjns : j ∈ ns := by
                        cases hin : hasN (ns.filter fun j => !(Nat.beq j i)) j
                        · exfalso
                          have hjM : j ∈ readyX ops.toList (setAll listed (ns.filter fun j => !(Nat.beq j i))) := by
                            refine readyX_mem.2 ⟨by rw [setAll_getD _ _ _ (by rw [hlen]; exact hjlt), hin, getD_tf (by rw [hlen]; exact hjlt), hjL.1]; rfl, oj, hoj, deps_spec.2 fun e he hb => ?_⟩
                            have := deps_spec.1 hjdeps e he hb
                            have hlt : e.on < ops.size := by
                              by_cases hh : e.on < ops.size
                              · exact hh
                              · rw [List.getD_eq_getElem?_getD, List.getElem?_eq_none (by omega)] at this; cases this
                            rw [hL _ hlt] at this
                            rw [setAll_getD _ _ _ (by rw [hlen]; exact hlt)]
                            rcases Bool.or_eq_true _ _ ▸ this with h1 | h1
                            · rw [h1, Bool.or_true]
                            · obtain ⟨x, hx, hxe⟩ := List.any_eq_true.1 h1
                              have hxe := Nat.eq_of_beq_eq_true hxe
                              have : hasN (ns.filter fun j => !(Nat.beq j i)) e.on = true := by
                                refine hasN_mem.2 (List.mem_filter.2 ⟨(nsMem _).2 ⟨hxe ▸ (hpre x hx).2.1, hxe ▸ (hpre x hx).1⟩, ?_⟩)
                                cases hb : Nat.beq e.on i
                                · rfl
                                · exact absurd ⟨x, hx, hxe.trans (Nat.eq_of_beq_eq_true hb)⟩ hip
                              rw [this, Bool.true_or]
                          have := List.all_eq_true.1 hchk j hjM
                          simp only [Bool.or_eq_true] at this
                          rcases this with h1 | h1
                          · exact hji (honly j (hasN_mem.1 h1))
                          · exact hji (Nat.eq_of_beq_eq_true h1)
                        · exact (List.mem_filter.1 (hasN_mem.1 hin)).1
                      obtain ⟨hjr, hjnew⟩ := (nsMem j).1 hjns
                      obtain ⟨o2, elem, cs, dd, s1, s2, s3, s4, s5, s6, s7⟩ := newO_spec hjnew
                      obtain ⟨xs, r1, r2, r3⟩ := new_run hE.tys s2
                      unfold wpOp
                      rw [s1]
                      simp only
                      have hwant : Region.wanted o2 (yielded ops a.tmps) = true := by unfold Region.wanted; rw [s3]
                      rw [hwant]
                      simp only [if_true]
                      refine .inl ?_
                      unfold Oper.wp
                      rw [r3]
                      show (Ph _ _ _ _ _ _ ∧ wpAnyL _ _ _ _ _ _ _ _ _)
                      have hsz : (w.alloc (.cells xs.toArray elem)).heap.size = w.heap.size + 1 := by simp
                      have hpush : ∀ b, b < w.heap.size → (w.alloc (.cells xs.toArray elem)).heap[b]? = w.heap[b]? := fun b hb => by
                        show (w.heap.push _)[b]? = _
                        rw [Array.getElem?_push, if_neg (by omega)]
                      have hlt0 : ∀ b, withB K pre b → b < w.heap.size := fun b hb => R.heap.toOld.lt hb
                      have hltK : ∀ b, withB K ((j, w.heap.size) :: pre) b → b < w.heap.size + 1 := fun b hb => by
                        rcases hb with hb | ⟨x, hx, hxb⟩
                        · have := hlt0 b (.inl hb); omega
                        · cases hx with
                          | head => simp only at hxb; omega
                          | tail _ hx => have := hlt0 b (.inr ⟨x, hx, hxb⟩); omega
                      have H2 : Hp.ok (withB K ((j, w.heap.size) :: pre)) (w.alloc (.cells xs.toArray elem)) τ st.h (w.alloc (.cells xs.toArray elem)) :=
                        ⟨Old.refl (fun b hb => by rw [hsz]; exact hltK b hb), R.heap.dom, fun t q e => by
                          obtain ⟨b, c', h5, h6, h7⟩ := R.heap.live t q e
                          refine ⟨b, c', h5, fun hb => ?_, h7.of_same (hpush b h7.lt)⟩
                          rcases hb with hb | ⟨x, hx, hxb⟩
                          · exact h6 (.inl hb)
                          · cases hx with
                            | head => have := h7.lt; simp only at hxb; omega
                            | tail _ hx => exact h6 (.inr ⟨x, hx, hxb⟩), R.heap.inj⟩
                      have hold2 : Old K w0 (w.alloc (.cells xs.toArray elem)) := by
                        have k1 : Old K w2 w := (R.heap.less fun b hb => .inl hb).toOld
                        have k2 : Old K w (w.alloc (.cells xs.toArray elem)) := ⟨by rw [hsz]; omega, fun b hb => k1.lt hb, fun b hb => hpush b (k1.lt hb), rfl, rfl, rfl⟩
                        exact (hold.trans k1 fun _ h => h).trans k2 fun _ h => h
                      have hjp : ∀ x ∈ pre, x.1 ≠ j := fun x hx e => by
                        have : (pre.any fun x => Nat.beq x.1 j) = true := List.any_eq_true.2 ⟨x, hx, by rw [e]; simp⟩
                        rw [hjL.2] at this; cases this
                      have hL3 : ∀ k, k < ops.size → (L'.set j true).getD k false = (listed.getD k false || ((j, w.heap.size) :: pre).any fun x => Nat.beq x.1 k) := fun k hk => by
                        simp only [List.any_cons]
                        by_cases hjk : j = k
                        · subst hjk
                          rw [getD_set_self (by rw [hl']; exact hjlt)]; simp
                        · rw [getD_set_ne' hjk, hL k hk]
                          have : Nat.beq j k = false := by
                            cases hb : Nat.beq j k
                            · rfl
                            · exact absurd (Nat.eq_of_beq_eq_true hb) hjk
                          rw [this, Bool.false_or]
                      have hl3 : (L'.set j true).length = ops.size := by simp [hl']
                      have hnew3 : ∀ x ∈ (j, w.heap.size) :: pre, newO Y nt ops.toList x.1 = true := fun x hx => by
                        cases hx with
                        | head => exact hjnew
                        | tail _ hx => exact (hpre x hx).1
                      rw [← hset]
                      refine ⟨Ph.of hV hle H2 (by rw [anyEq hlen hl3 hL3 hnew3]; exact hK), ?_⟩
                      have hcnt2 := count_set hjun
                      refine ihf f' (by omega) _ ((j, w.heap.size) :: pre) hl3 hL3 (by omega) ?_ ?_ st tc τ _ _ _ h ?_ her ⟨by rw [s4]; exact R.nodef, by simp [Act.put, s4, R.size], ?_, H2⟩ hold2 hle hK hk
                      · simp only [List.map_cons, List.nodup_cons]
                        exact ⟨fun hm => by obtain ⟨x, hx, e⟩ := List.mem_map.1 hm; exact hjp x hx e, hnd1⟩
                      · simp only [List.map_cons, List.nodup_cons]
                        exact ⟨fun hm => by obtain ⟨x, hx, e⟩ := List.mem_map.1 hm; have := hlt0 x.2 (.inr ⟨x, hx, rfl⟩); omega, hnd2⟩
                      · intro x hx
                        cases hx with
                        | head =>
                          refine ⟨hjnew, hjr, fun hk2 => by have := hlt0 _ (.inl hk2); omega, o2, dd, elem, cs, xs, s1, s4, s2, r1, r2, ?_, ?_⟩
                          · show (w.heap.push _)[w.heap.size]? = _
                            rw [Array.getElem?_push, if_pos rfl]
                          · rw [s4]
                            simp only [Act.put, Array.getD_eq_getD_getElem?, Array.getElem?_setIfInBounds, if_true]
                            rw [if_pos (by rw [R.size]; exact s5)]; rfl
                        | tail _ hx =>
                          obtain ⟨p1', p2', p3', o4, d4, e4, c4, x4, u1, u2, u3, u4, u5, u6, u7⟩ := hpre x hx
                          refine ⟨p1', p2', p3', o4, d4, e4, c4, x4, u1, u2, u3, u4, u5, ?_, ?_⟩
                          · rw [hpush x.2 (hlt0 _ (.inr ⟨x, hx, rfl⟩)), R.heap.same _ (.inr ⟨x, hx, rfl⟩)]; exact u6
                          · rw [s4]
                            have hdd : dd ≠ d4 := fun e => s7 x.1 o4 u1 (hjp x hx) (by rw [u2, e])
                            simp only [Act.put, Array.getD_eq_getD_getElem?, Array.getElem?_setIfInBounds, if_neg hdd]
                            rw [← Array.getD_eq_getD_getElem?]; exact u7
                      · intro t u ht hu
                        rw [s4]
                        have htd : dd ≠ t := fun e => by
                          subst e
                          have := her j o2 dd hjnew (by rw [getD_tf (by rw [hlen]; exact hjlt)]; exact hjL.1) s1 s4
                          rw [this] at hu; cases hu
                        simp only [Act.put, Array.getD_eq_getD_getElem?, Array.getElem?_setIfInBounds, if_neg htd]
                        rw [← Array.getD_eq_getD_getElem?]
                        exact R.slots t u ht hu
                  · -- one is taken ahead
                    have hpure : c.pure = true := by
                      unfold pureO at hpu
                      rw [hc] at hpu; exact hpu
                    have hnb : hasN (actsAt Y 0 ops.toList) i = false := by
                      have := actsAt_mem (Y := Y) (l := ops.toList) (j := 0) (i := i) (o := o') (by simpa using ho)
                      rw [Nat.zero_add] at this
                      cases hb : hasN (actsAt Y 0 ops.toList) i
                      · rfl
                      · have ha := this.1 hb
                        unfold actsO at ha
                        rw [hc] at ha
                        simp [hpure] at ha
                    have hfree' : ∀ (k : Nat) (ok : Oper), ops[k]? = some ok → k ≠ i → L'.toArray.getD k true = false → (∀ e ∈ ok.after, Region.binds .any e = true → e.on ≠ i) → o'.apart ops ok = true := fun k ok hok hki hun hno => by
                      refine Region.free_spec ho hfree k ok hok hki ?_ hno
                      have hklt : k < ops.size := (Array.getElem?_eq_some_iff.1 hok).1
                      rw [getD_toArray] at hun ⊢
                      rw [getD_tf (by rw [hl']; exact hklt), hL k hklt] at hun
                      rw [getD_tf (by rw [hlen]; exact hklt)]
                      exact (Bool.or_eq_false_iff.1 hun).1
                    have take : ∀ {v : CV} {x : Value} {C : Nat → Bool} {tc2 : List Tk}, v.rel τ x → Cert .any ops C i → LeB listed.toArray C → YieldsIf P ops (fun w => ∃ L, LeB L C ∧ Ph τ0 g0 D (actsAt Y 0 ops.toList) L w) o' x a →
                        drawL self fns exts g0 l' (putC st d v) tc2 = some (stF, tcF) → wpAnyL P .any ops Q (Ph τ0 g0 D (actsAt Y 0 ops.toList)) (f' + 1) L'.toArray a w := by
                      intro v x C tc2 hvx hC hLC hy hdr
                      have hLC' : LeB L'.toArray C := fun k hk => by
                        rw [getD_toArray] at hk
                        have hklt : k < ops.size := by
                          by_cases hh : k < ops.size
                          · exact hh
                          · rw [List.getD_eq_getElem?_getD, List.getElem?_eq_none (by omega)] at hk; cases hk
                        rw [hL k hklt] at hk
                        rcases Bool.or_eq_true _ _ ▸ hk with h1 | h1
                        · exact hLC k (by rw [getD_toArray]; exact h1)
                        · obtain ⟨y, hy2, hyk⟩ := List.any_eq_true.1 h1
                          have hyk := Nat.eq_of_beq_eq_true hyk
                          obtain ⟨_, oy, hoy, hdy⟩ := readyX_mem.1 (hpre y hy2).2.1
                          refine hC.closed k oy (fun e => hip ⟨y, hy2, hyk.trans e⟩) (by rw [← hyk]; simpa using hoy) fun e he hb => ?_
                          have := deps_spec.1 hdy e he hb
                          exact hLC _ (by rw [getD_toArray]; exact this)
                      have R1 := R.put hdst hvx
                      have hh : (putC st d v).h = st.h := by cases d <;> rfl
                      have hK1 : Kept g0 D ((actsAt Y 0 ops.toList).any fun b => (listed.toArray.setIfInBounds i true).getD b false) (putC st d v).h := by
                        rw [hh, any_set hnb]; exact hK
                      refine wpAnyL_first ho (Region.noSelect_spec hsel) (fun c a w hq => absurd hq (hQ _ _ _)) hC (fun L w => (Ph.set hnb).1) f' L'.toArray a w hfree' hiR hLC' hy hPh ((Ph.set hnb).2 hPh) ?_
                      rw [← hset]
                      exact ihn _ _ hl2 hlen2 f' _ pre hl2' hL2 (by omega) hnd1 hnd2 _ _ _ _ w2 _ hdr pre2 (her2 rfl) R1 hold hle (by rw [hset]; exact hK1) fun τ2 a2 w3 nd2 k1 k2 k3 => hk τ2 a2 w3 nd2 k1 k2 ⟨by rw [k3.dirty, putC_dirty], fun p q hp hq => k3.keep p q hp (by rw [hh]; exact hq)⟩
                    simp only [drawL] at h
                    split at h
                    · rename_i hw
                      exact take (C := fun _ => true) undef_rel ⟨fun _ _ _ _ _ => rfl⟩ (fun _ _ => rfl) (.inr ⟨want_ok R hg hw, rfl⟩) h
                    · rename_i hw
                      simp only [cond_false] at h
                      split at h
                      · rename_i v hv
                        cases cert
                        · -- it looks at nothing that is marked
                          simp only [cond_false] at h
                          have htt : ∀ t, touchC st.sl c = some t → t ∉ D := fun t ht => by
                            rw [ht] at h
                            simp only at h
                            obtain ⟨_, n3, e3⟩ := drawL_dirty hS.2 h
                            exact hT t (by rw [e3]; simp)
                          have hv' := touch_ok hv htt
                          obtain ⟨x, hx1, hx2⟩ := pure_ok hE.tys R.slots (view_mono hle hPh.weak) hc hv'
                          exact take (C := fun _ => true) hx1 ⟨fun _ _ _ _ _ => rfl⟩ (fun _ _ => rfl) (.inl ⟨want_ok R hg hw, fun wc hwc => by
                            obtain ⟨L, _, hL⟩ := hwc
                            obtain ⟨x', k1, k2⟩ := pure_ok hE.tys R.slots (view_mono hle hL.weak) hc hv'
                            rw [rel_unique k1 hx1] at k2; exact k2⟩) h
                        · simp only [cond_true] at h
                          obtain ⟨c1, c2, c3⟩ := certX_spec hcert.symm
                          have hLC' : LeB L'.toArray (fun k => (closeX i listed 0 ops.toList []).getD k false) := fun k hk => by
                            rw [getD_toArray] at hk
                            have hklt : k < ops.size := by
                              by_cases hh : k < ops.size
                              · exact hh
                              · rw [List.getD_eq_getElem?_getD, List.getElem?_eq_none (by omega)] at hk; cases hk
                            rw [hL k hklt] at hk
                            rcases Bool.or_eq_true _ _ ▸ hk with h1 | h1
                            · exact c2 k (by rw [getD_toArray]; exact h1)
                            · obtain ⟨y, hy2, hyk⟩ := List.any_eq_true.1 h1
                              have hyk := Nat.eq_of_beq_eq_true hyk
                              obtain ⟨_, oy, hoy, hdy⟩ := readyX_mem.1 (hpre y hy2).2.1
                              refine c1.closed k oy (fun e => hip ⟨y, hy2, hyk.trans e⟩) (by rw [← hyk]; simpa using hoy) fun e he hb => ?_
                              have := deps_spec.1 hdy e he hb
                              exact c2 _ (by rw [getD_toArray]; exact this)
                          obtain ⟨x, hx1, hx2⟩ := pure_ok hE.tys R.slots (view_mono hle (hPh.strong c3 hLC')) hc hv
                          exact take hx1 c1 c2 (.inl ⟨want_ok R hg hw, fun wc hwc => by
                            obtain ⟨L, hLC, hL⟩ := hwc
                            obtain ⟨x', k1, k2⟩ := pure_ok hE.tys R.slots (view_mono hle (hL.strong c3 hLC)) hc hv
                            rw [rel_unique k1 hx1] at k2; exact k2⟩) h
                      · cases h
                    · cases h
              · cases hs
            · cases hl
          · cases hl
        · cases hl
      · cases hl

end
end Go.Cx
