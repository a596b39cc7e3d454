/- The reckoner is right, part 6: regions, in whatever order they run. -/
import Derived.Test.YtkiioneimheciaaGreatSxF
import Derived.Test.YtkiioneimheciaaGreatSxL
namespace Go.Sx
open Go

section
variable {E : Env} {st : St} {ρ : List Nat} {w0 w : World} {a : Act} {Q : Exit → Act → World → Prop}

theorem Rep.put (R : Rep E.fr st ρ w0 a w) {d : Option Tmp} {v : SV} {k : St → Prop} (h : st.put d v k) : ∃ st', k st' ∧ Rep E.fr st' ρ w0 (a.put d (v.val ρ)) w := by
  unfold St.put at h
  cases d with
  | none => exact ⟨st, h, R⟩
  | some d =>
    simp only at h
    cases hb : Nat.blt d st.nt
    · rw [hb] at h; exact h.elim
    · rw [hb] at h
      simp only [cond_true] at h
      have hlt : d < a.tmps.size := by rw [R.size]; simpa using hb
      refine ⟨_, h, ⟨R.nodef, by simp [Act.put, R.size], fun t u hu => ?_, R.fin⟩⟩
      simp only [St.slot, lk] at hu
      simp only [Act.put, Array.getD_eq_getD_getElem?, Array.getElem?_setIfInBounds]
      cases hd : Nat.beq d t
      · rw [hd] at hu
        rw [if_neg (Nat.ne_of_beq_eq_false hd), ← Array.getD_eq_getD_getElem?]
        exact R.slot t u (by simpa [St.slot] using hu)
      · rw [hd] at hu
        simp only [cond_true, Option.some.injEq] at hu
        subst hu
        rw [if_pos (Nat.eq_of_beq_eq_true hd), if_pos hlt]; rfl

theorem boolX_sound {g : Bool} {v : SV} {k : SV → Prop} (h : boolX g v k) : ∃ u, k u ∧ ∀ ρ, u.val ρ = v.val ρ := by
  unfold boolX at h
  cases g
  · exact ⟨v, h, fun _ => rfl⟩
  · simp only [cond_true] at h
    split at h
    · rename_i b
      cases b
      · exact ⟨_, h.2 rfl, fun _ => rfl⟩
      · exact ⟨_, h.1 rfl, fun _ => rfl⟩
    · exact ⟨v, h, fun _ => rfl⟩

theorem wantX_sound (R : Rep E.fr st ρ w0 a w) {ops : Array Oper} {o : Oper} {b : Bool} (h : wantX E.fr ops.toList st o = some b) : Region.wanted o (yielded ops a.tmps) = b := by
  unfold wantX at h
  unfold Region.wanted
  split at h
  · rename_i hg
    simp only [Option.some.injEq] at h; subst h
    rw [hg]
  · rename_i j want hg
    rw [hg]
    simp only
    split at h
    · rename_i d hd
      split at h
      · rename_i c hc
        simp only [Option.some.injEq] at h; subst h
        have := R.slot d _ hc
        simp only [SV.val, Array.getD_eq_getD_getElem?] at this
        have h2 : a.tmps[d]? = some (.bool c) := by
          cases hq : a.tmps[d]? with
          | none => rw [hq] at this; simp [undef] at this
          | some q => rw [hq] at this; simpa using this
        have hd' : (ops[j]?).bind (·.dst) = some d := by rw [← hd]; simp
        unfold yielded
        rw [hd']
        simp only [Option.bind_some, h2]
        cases c <;> cases want <;> rfl
      · rename_i vs hc
        simp only [Option.some.injEq] at h; subst h
        have := R.slot d _ hc
        simp only [SV.val, Array.getD_eq_getD_getElem?] at this
        have hd' : (ops[j]?).bind (·.dst) = some d := by rw [← hd]; simp
        unfold yielded
        rw [hd']
        simp only [Option.bind_some]
        cases hq : a.tmps[d]? with
        | none => rfl
        | some q => rw [hq] at this; simp only [Option.getD_some] at this; subst this; rfl
      · cases h
    · cases h

theorem seqX_sound (hE : E.ok) {ops : Array Oper} {k : St → List Nat → World → Prop} (hk : ∀ st ρ w0 a w, k st ρ w0 → Rep E.fr st ρ w0 a w → Q .normal a w) :
    ∀ (l : List Oper) (i : Nat) (st : St) (ρ : List Nat) (w0 : World) (a : Act) (w : World), ops.toList.drop i = l → seqX E ops.toList i l st ρ w0 k → Rep E.fr st ρ w0 a w →
      wpOps E.P ops Q (List.range' i l.length) a w
  | [], i, st, ρ, w0, a, w, _, h, R => by simpa [wpOps] using hk _ _ _ _ _ h R
  | o :: r, i, st, ρ, w0, a, w, hd, h, R => by
    have ho : ops[i]? = some o := by
      have : (ops.toList.drop i)[0]? = some o := by rw [hd]; rfl
      simpa using this
    have hd' : ops.toList.drop (i + 1) = r := by
      have : (ops.toList.drop i).drop 1 = r := by rw [hd]; rfl
      rwa [List.drop_drop] at this
    simp only [List.length_cons, List.range'_succ, wpOps, ho]
    simp only [seqX] at h
    split at h
    · exact h.elim
    · rename_i hw
      rw [wantX_sound R hw]
      simp only [Bool.false_eq_true, if_false]
      obtain ⟨st', h1, h2⟩ := R.put h
      exact seqX_sound hE hk r (i + 1) st' ρ w0 _ w hd' h1 h2
    · rename_i hw
      rw [wantX_sound R hw]
      simp only [if_true]
      refine .inl ?_
      have go : ∀ v st ρ w0 w', boolX (guards ops.toList i) v (fun v => st.put o.dst v fun st => seqX E ops.toList (i + 1) r st ρ w0 k) → Rep E.fr st ρ w0 a w' → wpOps E.P ops Q (List.range' (i + 1) r.length) (a.put o.dst (v.val ρ)) w' := by
        intro v st ρ w0 w' hb R'
        obtain ⟨u, hu, he⟩ := boolX_sound hb
        obtain ⟨st', h1, h2⟩ := R'.put hu
        rw [← he]
        exact seqX_sound hE hk r (i + 1) st' ρ w0 _ w' hd' h1 h2
      split at h
      · rename_i f hf
        obtain ⟨v, h1, h2⟩ := pureX_sound (r := []) hE (fun x v h => R.get h) (by simp [fullView]) (fun _ _ _ _ _ _ => rfl) hf h
        exact wp_value (h2 w (view_ok R)) (go _ _ _ _ _ h1 R)
      · exact effX_sound hE R h fun v st' ρ' w0' w' h1 h2 _ => go _ _ _ _ _ h1 h2

theorem deps_spec {o : Oper} {C : Nat → Bool} : deps o C = true ↔ ∀ e ∈ o.after, Region.binds .any e = true → C e.on = true := by
  simp only [deps, List.all_eq_true, Bool.or_eq_true, Bool.not_eq_true']
  constructor
  · intro h e he hb
    rcases h e (Array.mem_toList_iff.2 he) with h | h
    · rw [hb] at h; cases h
    · exact h
  · intro h e he
    cases hb : Region.binds .any e
    · exact .inl rfl
    · exact .inr (h e (Array.mem_toList_iff.1 he) hb)

theorem getD_toArray (l : List Bool) (j : Nat) (d : Bool) : l.toArray.getD j d = l.getD j d := by simp [Array.getD_eq_getD_getElem?, List.getD_eq_getElem?_getD]

theorem readyX_eq (ops : Array Oper) (listed : List Bool) : readyX ops.toList listed = Region.ready .any ops listed.toArray := by
  unfold readyX Region.ready
  rw [Array.length_toList]
  refine List.filter_congr fun i hi => ?_
  rw [getD_toArray]
  congr 1
  have h3 : ops.toList[i]? = ops[i]? := by simp
  rw [h3]
  cases ops[i]? with
  | none => rfl
  | some o =>
    simp only [Option.map_some, Option.getD_some, getD_toArray, deps]
    rw [← Array.all_toList]

theorem certX_spec {ops : Array Oper} {i : Nat} {listed C : List Bool} {brk : List Nat} (h : certX ops.toList i listed C brk = true) :
    Cert .any ops (fun j => C.getD j false) i ∧ LeB listed.toArray (fun j => C.getD j false) ∧ ∀ b ∈ brk, C.getD b false = false := by
  simp only [certX, Bool.and_eq_true] at h
  obtain ⟨⟨h1, h2⟩, h3⟩ := h
  refine ⟨⟨fun j o hne ho hd => ?_⟩, fun j hj => ?_, fun b hb => ?_⟩
  · have hlt : j < ops.size := (Array.getElem?_eq_some_iff.1 ho).1
    have := List.all_eq_true.1 h1 j (List.mem_range.2 (by simpa using hlt))
    have ho' : ops.toList[j]? = some o := by simpa using ho
    rw [ho'] at this
    simp only [Bool.or_eq_true, Bool.not_eq_true'] at this
    rcases this with (h | h) | h
    · exact absurd (Nat.eq_of_beq_eq_true h).symm hne
    · exact h
    · have := (deps_spec (o := o) (C := fun k => C.getD k false)).2 hd
      rw [h] at this; cases this
  · rw [getD_toArray] at hj
    have hlt : j < listed.length := by
      by_cases hlt : j < listed.length
      · exact hlt
      · rw [List.getD_eq_getElem?_getD, List.getElem?_eq_none (by omega)] at hj; cases hj
    have := List.all_eq_true.1 h2 j (List.mem_range.2 hlt)
    rw [hj] at this
    simpa using this
  · have := List.all_eq_true.1 h3 b hb
    simpa using this

theorem stableX_spec {V1 V2 : View} {brk : List Nat} {ops : Array Oper} {listed : List Bool} {i : Nat} {o : Oper} {q : Option ((SV → Prop) → Prop)} : ∀ {rs : List Nat},
    stableX E V1 V2 brk ops listed st ρ rs = some (i, o, q) → i ∈ rs ∧ ops[i]? = some o ∧ Region.free .any ops listed.toArray i = true ∧ hasN brk i = false ∧
      match q with
      | none => wantX E.fr ops.toList st o = some false
      | some f => wantX E.fr ops.toList st o = some true ∧ (pureX E V2 ρ (st.get E.fr) o = some f ∨ (pureX E V1 ρ (st.get E.fr) o = some f ∧ ∃ C, certX ops.toList i listed C brk = true))
  | [], h => by cases h
  | j :: r, h => by
    have tl : ∀ {x}, stableX E V1 V2 brk ops listed st ρ r = some x → x = (i, o, q) → _ := fun h1 h2 => stableX_spec (rs := r) (h2 ▸ h1)
    simp only [stableX] at h
    split at h
    · obtain ⟨h1, h2⟩ := tl h rfl; exact ⟨List.mem_cons_of_mem _ h1, h2⟩
    · rename_i oj hoj
      cases hf : (Region.free .any ops listed.toArray j && !(hasN brk j))
      · rw [hf] at h; simp only [cond_false] at h
        obtain ⟨h1, h2⟩ := tl h rfl; exact ⟨List.mem_cons_of_mem _ h1, h2⟩
      · rw [hf] at h; simp only [cond_true] at h
        simp only [Bool.and_eq_true, Bool.not_eq_true'] at hf
        split at h
        · rename_i hw
          simp only [Option.some.injEq, Prod.mk.injEq] at h
          obtain ⟨rfl, rfl, rfl⟩ := h
          exact ⟨List.mem_cons_self, hoj, hf.1, hf.2, hw⟩
        · rename_i hw
          split at h
          · rename_i f hp
            simp only [Option.some.injEq, Prod.mk.injEq] at h
            obtain ⟨rfl, rfl, rfl⟩ := h
            exact ⟨List.mem_cons_self, hoj, hf.1, hf.2, hw, .inl hp⟩
          · split at h
            · rename_i f hp
              cases hce : certX ops.toList j listed (closeX j listed 0 ops.toList []) brk
              · rw [hce] at h; simp only [cond_false] at h
                obtain ⟨h1, h2⟩ := tl h rfl; exact ⟨List.mem_cons_of_mem _ h1, h2⟩
              · rw [hce] at h
                simp only [cond_true, Option.some.injEq, Prod.mk.injEq] at h
                obtain ⟨rfl, rfl, rfl⟩ := h
                exact ⟨List.mem_cons_self, hoj, hf.1, hf.2, hw, .inr ⟨hp, _, hce⟩⟩
            · obtain ⟨h1, h2⟩ := tl h rfl; exact ⟨List.mem_cons_of_mem _ h1, h2⟩
        · obtain ⟨h1, h2⟩ := tl h rfl; exact ⟨List.mem_cons_of_mem _ h1, h2⟩

theorem allX_mem {p : Nat → Prop} : ∀ {rs : List Nat}, allX rs p → ∀ i ∈ rs, p i
  | [], _, i, hi => by cases hi
  | [j], h, i, hi => by simp at hi; subst hi; exact h
  | j :: l :: r, h, i, hi => by
    cases hi with
    | head => exact h.1
    | tail _ hi => exact allX_mem h.2 i hi

/-- What the view holds stays. -/
theorem ok_moves {V : View} {mask : Nat → Bool} {own : Bool} {r ρ' : List Nat} {w' : World} (h : V.ok w) (hρ : ρ = V.ρ ++ r) (hm : ∀ t k, V.hp[t]? = some (some k) → mask t = false) (hms : V.ext = true → ∀ t, mask t = true → t < V.ρ.length)
    (ho : V.ext = true → own = true) (M : Moves mask own ρ ρ' w w') : V.ok w' := by
  have hlt : ∀ t, t < V.ρ.length → t < ρ.length := fun t ht => by rw [hρ]; simp; omega
  have hge : ∀ t, t < V.ρ.length → ρ.getD t 0 = V.ρ.getD t 0 := fun t ht => by rw [hρ]; exact getD_append ht
  refine ⟨⟨h.1.len, h.1.nodup, fun b hb => Nat.lt_of_lt_of_le (h.1.lt b hb) M.size, fun t k hk => ?_⟩, fun hx => ?_⟩
  · have ht : t < V.ρ.length := by have := (List.getElem?_eq_some_iff.1 hk).1; rw [h.1.len] at this; exact this
    rw [← hge t ht, M.keep t (hlt t ht) (hm t k hk), hge t ht]
    exact h.1.held t k hk
  · obtain ⟨m1, m2, m3, m4⟩ := M.own (ho hx)
    have hx' := h.2 hx
    refine ⟨Nat.le_trans hx'.size M.size, fun b hb hn => ?_, m2.trans hx'.os, m3.trans hx'.tape, m4.trans hx'.output⟩
    rw [m1 b (Nat.lt_of_lt_of_le hb hx'.size) fun t _ ht e => hn (by rw [e, hge t (hms hx t ht)]; exact getD_mem (hms hx t ht))]
    exact hx'.same b hb hn

/-- What holds of the world, by what has come up. -/
def Phase (V1 V2 : View) (brk : List Nat) (L : Array Bool) (w : World) : Prop := if brk.any (fun b => L.getD b false) then V2.ok w else V1.ok w

theorem Phase.weak {V1 V2 : View} {brk : List Nat} {L : Array Bool} (h12 : ∀ w, V1.ok w → V2.ok w) (h : Phase V1 V2 brk L w) : V2.ok w := by
  unfold Phase at h
  split at h
  · exact h
  · exact h12 _ h

theorem Phase.strong {V1 V2 : View} {brk : List Nat} {L : Array Bool} {C : List Bool} (hC : ∀ b ∈ brk, C.getD b false = false) (hL : LeB L (fun j => C.getD j false)) (h : Phase V1 V2 brk L w) : V1.ok w := by
  unfold Phase at h
  rw [if_neg] at h
  · exact h
  · intro hany
    obtain ⟨b, hb, hbL⟩ := List.any_eq_true.1 hany
    have this : C.getD b false = true := hL b hbL
    rw [hC b hb] at this; cases this

theorem any_set {brk : List Nat} {L : Array Bool} {i : Nat} (h : hasN brk i = false) : brk.any (fun b => (L.setIfInBounds i true).getD b false) = brk.any (fun b => L.getD b false) := by
  rw [Bool.eq_iff_iff]
  simp only [List.any_eq_true]
  have hne : ∀ b ∈ brk, i ≠ b := fun b hb e => by subst e; rw [hasN_mem.2 hb] at h; cases h
  constructor <;> rintro ⟨b, hb, hh⟩ <;> refine ⟨b, hb, ?_⟩
  · rwa [getD_set_ne false (hne b hb)] at hh
  · rwa [getD_set_ne false (hne b hb)]

theorem Phase.set {V1 V2 : View} {brk : List Nat} {L : Array Bool} {i : Nat} (hi : hasN brk i = false) : Phase V1 V2 brk (L.setIfInBounds i true) w ↔ Phase V1 V2 brk L w := by
  unfold Phase; rw [any_set hi]

theorem wpAnyL_mono {P : Program} {ops : Array Oper} {Q : Exit → Act → World → Prop} {md : Region.Mode} {S S' : Array Bool → World → Prop} (hS : ∀ L w, S L w → S' L w) :
    ∀ (n : Nat) (L : Array Bool) (a : Act) (w : World), wpAnyL P md ops Q S n L a w → wpAnyL P md ops Q S' n L a w
  | 0, _, _, _, h => h
  | n + 1, _, _, _, h => ⟨h.1, fun i hi => wpOp_mono (fun _ _ h' => ⟨hS _ _ h'.1, wpAnyL_mono hS n _ _ _ h'.2⟩) (h.2 i hi)⟩

theorem Phase.sub {V1 V2 : View} {b1 b2 : List Nat} {L : Array Bool} {w : World} (hs : ∀ b ∈ b1, b ∈ b2) (h12 : ∀ w, V1.ok w → V2.ok w) (h : Phase V1 V2 b1 L w) : Phase V1 V2 b2 L w := by
  unfold Phase at h ⊢
  split
  · split at h
    · exact h
    · exact h12 _ h
  · rename_i hn
    rw [if_neg] at h
    · exact h
    · intro ha
      obtain ⟨b, hb, hL⟩ := List.any_eq_true.1 ha
      exact hn (List.any_eq_true.2 ⟨b, hs b hb, hL⟩)

theorem Phase.brk {E : Env} {V1 V2 : View} {ops : Array Oper} {st : St} {brk : List Nat} {L : List Bool} {w : World} : Phase V1 V2 brk L.toArray w ↔ Phase V1 V2 (brkX E ops L st brk) L.toArray w := by
  have : brk.any (fun b => L.toArray.getD b false) = (brkX E ops L st brk).any (fun b => L.toArray.getD b false) := by
    rw [Bool.eq_iff_iff]
    simp only [List.any_eq_true, brkX, List.mem_filter]
    constructor
    · rintro ⟨b, hb, hL⟩
      refine ⟨b, ⟨hb, ?_⟩, hL⟩
      have : L.getD b false = true := by rw [← hL]; simp
      rw [this]; rfl
    · rintro ⟨b, ⟨hb, _⟩, hL⟩; exact ⟨b, hb, hL⟩
  unfold Phase
  rw [this]

theorem drawX_sound (hE : E.ok) {V1 V2 : View} {ms : List Nat} {ops : Array Oper} {k : St → List Nat → World → Prop} (hk : ∀ st ρ w0 a w, k st ρ w0 → Rep E.fr st ρ w0 a w → Q .normal a w)
    (hQ : ∀ c a w, ¬ Q (.panic c) a w) (hsel : Region.noSelect ops = true) (h12 : ∀ w, V1.ok w → V2.ok w) (hx : V2.ext = false) (hρ12 : V2.ρ = V1.ρ) (hm : ∀ t k, V2.hp[t]? = some (some k) → hasN ms t = false) (hpl : V2.hp.length = V1.ρ.length)
    (hwf1 : ∀ (t : Nat) (k : Blk), V1.hp[t]? = some (some k) → SV.wfs V1.ρ.length k.cells = true) (hwf2 : ∀ (t : Nat) (k : Blk), V2.hp[t]? = some (some k) → SV.wfs V2.ρ.length k.cells = true) :
    ∀ (n : Nat) (brk0 : List Nat) (listed : List Bool) (st : St) (ρ r : List Nat) (w0 : World) (a : Act) (w : World), drawX E V1 V2 ms ops n brk0 listed st ρ w0 k → listed.length = ops.size → ρ = V1.ρ ++ r → Rep E.fr st ρ w0 a w → Phase V1 V2 brk0 listed.toArray w →
      wpAnyL E.P .any ops Q (Phase V1 V2 brk0) n listed.toArray a w
  | 0, brk0, listed, st, ρ, r, w0, a, w, h, hlen, hρ, R, hV => by
    simp only [drawX] at h
    split at h
    · rename_i hr
      rw [readyX_eq] at hr
      exact ⟨hr, hk _ _ _ _ _ h R⟩
    · exact h.elim
  | n + 1, brk0, listed, st, ρ, r, w0, a, w, h, hlen, hρ, R, hV => by
    have hset : ∀ i, (listed.set i true).toArray = listed.toArray.setIfInBounds i true := fun i => by simp
    have hlen' : ∀ i, (listed.set i true).length = ops.size := fun i => by simp [hlen]
    have hρ2 : ρ = V2.ρ ++ r := by rw [hρ12]; exact hρ
    simp only [drawX] at h
    split at h
    · rename_i hr
      rw [readyX_eq] at hr
      exact wpAnyL_done hr (hk _ _ _ _ _ h R) _
    · rename_i hr
      rw [readyX_eq] at hr h
      generalize hbrk : brkX E ops listed st brk0 = brk at h
      have hV := (Phase.brk (E := E) (ops := ops) (st := st)).1 hV
      rw [hbrk] at hV
      refine wpAnyL_mono (S := Phase V1 V2 brk) (fun L w hL => Phase.sub (fun b hb => by rw [← hbrk] at hb; exact (List.mem_filter.1 hb).1) h12 hL) n.succ _ _ _ ?_
      have hval1 : ∀ (t : Nat) (k : Blk) (i : Nat) (c : SV), V1.hp[t]? = some (some k) → k.cells[i]? = some c → c.val ρ = c.val V1.ρ := fun t k i c h1 h2 => by
        rw [hρ]; exact val_grown (wfs_get (hwf1 t k h1) h2)
      have hval2 : ∀ (t : Nat) (k : Blk) (i : Nat) (c : SV), V2.hp[t]? = some (some k) → k.cells[i]? = some c → c.val ρ = c.val V2.ρ := fun t k i c h1 h2 => by
        rw [hρ2]; exact val_grown (wfs_get (hwf2 t k h1) h2)
      have take : ∀ {i : Nat} {o : Oper} {v : SV} {C : Nat → Bool} {st' : St}, ops[i]? = some o → Region.free .any ops listed.toArray i = true → i ∈ Region.ready .any ops listed.toArray → hasN brk i = false → Cert .any ops C i → LeB listed.toArray C →
          YieldsIf E.P ops (fun w => ∃ L, LeB L C ∧ Phase V1 V2 brk L w) o (v.val ρ) a → drawX E V1 V2 ms ops n brk (listed.set i true) st' ρ w0 k → Rep E.fr st' ρ w0 (a.put o.dst (v.val ρ)) w → wpAnyL E.P .any ops Q (Phase V1 V2 brk) (n + 1) listed.toArray a w := by
        intro i o v C st' s2 s3 s1 s4 hC hL hy hd hR
        refine wpAnyL_first s2 (Region.noSelect_spec hsel) (fun c a w hq => absurd hq (hQ _ _ _)) hC (fun L w => (Phase.set s4).1) n listed.toArray a w (Region.free_spec s2 s3) s1 hL hy hV ((Phase.set s4).2 hV) ?_
        rw [← hset]
        exact drawX_sound hE hk hQ hsel h12 hx hρ12 hm hpl hwf1 hwf2 n _ _ st' ρ r w0 _ w hd (hlen' i) hρ hR (by rw [hset]; exact (Phase.set s4).2 hV)
      have top : Cert .any ops (fun _ => true) 0 → True := fun _ => trivial
      split at h
      · rename_i i o hs
        obtain ⟨s1, s2, s3, s4, s5⟩ := stableX_spec hs
        obtain ⟨st', h1, h2⟩ := R.put h
        exact take (v := .raw undef) (C := fun _ => true) s2 s3 s1 s4 ⟨fun _ _ _ _ _ => rfl⟩ (fun _ _ => rfl) (.inr ⟨wantX_sound R s5, rfl⟩) h1 h2
      · rename_i i o f hs
        obtain ⟨s1, s2, s3, s4, s5, s6⟩ := stableX_spec hs
        rcases s6 with s6 | ⟨s6, C, hC⟩
        · obtain ⟨v, h1, h2⟩ := pureX_sound hE (fun x v h => R.get h) hρ2 hval2 s6 h
          obtain ⟨u, hu, he⟩ := boolX_sound h1
          obtain ⟨st', h3, h4⟩ := R.put hu
          rw [he] at h4
          exact take (v := v) (C := fun _ => true) s2 s3 s1 s4 ⟨fun _ _ _ _ _ => rfl⟩ (fun _ _ => rfl) (.inl ⟨wantX_sound R s5, fun w hw => by obtain ⟨L, _, hL⟩ := hw; exact h2 w (hL.weak h12)⟩) h3 h4
        · obtain ⟨v, h1, h2⟩ := pureX_sound hE (fun x v h => R.get h) hρ hval1 s6 h
          obtain ⟨u, hu, he⟩ := boolX_sound h1
          obtain ⟨st', h3, h4⟩ := R.put hu
          rw [he] at h4
          obtain ⟨c1, c2, c3⟩ := certX_spec hC
          exact take (v := v) s2 s3 s1 s4 c1 c2 (.inl ⟨wantX_sound R s5, fun w hw => by obtain ⟨L, hLC, hL⟩ := hw; exact h2 w (hL.strong c3 hLC)⟩) h3 h4
      · refine ⟨fun h0 => absurd h0 hr, fun i hi => ?_⟩
        have h1 := allX_mem h i hi
        have hilt : i < listed.length := by
          have := (mem_ready.1 hi).2
          obtain ⟨o, ho, _⟩ := this
          rw [hlen]; exact (Array.getElem?_eq_some_iff.1 ho).1
        unfold wpOp
        split at h1
        · exact h1.elim
        · rename_i o ho
          rw [ho]
          simp only
          split at h1
          · rename_i hw
            rw [wantX_sound R hw]
            simp only [if_true]
            refine .inl ?_
            have next : ∀ v st' ρ' w0' w', boolX (guards ops.toList i) v (fun v => st'.put o.dst v fun st => drawX E V1 V2 ms ops n brk (listed.set i true) st ρ' w0' k) → Rep E.fr st' ρ' w0' a w' → (∃ r', ρ' = ρ ++ r') → Phase V1 V2 brk (listed.toArray.setIfInBounds i true) w' →
                Phase V1 V2 brk (listed.toArray.setIfInBounds i true) w' ∧ wpAnyL E.P .any ops Q (Phase V1 V2 brk) n (listed.toArray.setIfInBounds i true) (a.put o.dst (v.val ρ')) w' := by
              intro v st' ρ' w0' w' h2 R' hg hV'
              obtain ⟨u, hu, he⟩ := boolX_sound h2
              obtain ⟨st2, h3, h4⟩ := R'.put hu
              rw [he] at h4
              obtain ⟨r', hr'⟩ := hg
              refine ⟨hV', ?_⟩
              rw [← hset]
              exact drawX_sound hE hk hQ hsel h12 hx hρ12 hm hpl hwf1 hwf2 n _ _ st2 ρ' (r ++ r') w0' _ w' h3 (hlen' i) (by rw [hr', hρ, List.append_assoc]) h4 (by rw [hset]; exact hV')
            cases hb : hasN brk i
            · rw [hb] at h1
              simp only [cond_false] at h1
              refine effX_sound hE R h1 fun v st' ρ' w0' w' h2 R' M => next _ _ _ _ _ h2 R' M.grow ((Phase.set hb).2 ?_)
              unfold Phase at hV ⊢
              split
              · rename_i hany
                rw [if_pos hany] at hV
                exact ok_moves hV hρ2 (fun _ _ _ => rfl) (fun _ t ht => by cases ht) (fun _ => rfl) M
              · rename_i hany
                rw [if_neg hany] at hV
                exact ok_moves hV hρ (fun _ _ _ => rfl) (fun _ t ht => by cases ht) (fun _ => rfl) M
            · rw [hb] at h1
              simp only [cond_true] at h1
              refine effX_sound hE R h1 fun v st' ρ' w0' w' h2 R' M => next _ _ _ _ _ h2 R' M.grow ?_
              have h2' := ok_moves (hV.weak h12) hρ2 (fun t k htk => by
                have hlt := (List.getElem?_eq_some_iff.1 htk).1
                rw [hpl] at hlt
                have hb2 : Nat.ble V1.ρ.length t = false := by
                  cases hbb : Nat.ble V1.ρ.length t
                  · rfl
                  · have := Nat.le_of_ble_eq_true hbb; omega
                simp only [hm t k htk, hb2, Bool.or_self]) (fun h => by rw [hx] at h; cases h) (fun h => by rw [hx] at h; cases h) M
              unfold Phase
              rw [if_pos]
              · exact h2'
              · refine List.any_eq_true.2 ⟨i, hasN_mem.1 hb, ?_⟩
                simp [Array.getD_eq_getD_getElem?, hilt]
          · exact h1.elim

theorem masked_get : ∀ {ms : List Nat} {hp : Heap} {n t : Nat} {k : Blk}, (masked hp n ms)[t]? = some (some k) → hasN ms t = false ∧ hp[t]? = some (some k)
  | [], hp, n, t, k, h => ⟨rfl, h⟩
  | m :: ms, hp, n, t, k, h => by
    obtain ⟨h1, h2⟩ := masked_get (ms := ms) (hp := hp.set m none) (n := n) h
    simp only [List.getElem?_set] at h2
    split at h2
    · split at h2 <;> cases h2
    · rename_i hne
      refine ⟨?_, h2⟩
      simp only [hasN]
      cases hb : Nat.beq m t
      · exact h1
      · exact absurd (Nat.eq_of_beq_eq_true hb) hne
theorem masked_length : ∀ (ms : List Nat) (hp : Heap) (n : Nat), (masked hp n ms).length = hp.length
  | [], _, _ => rfl
  | m :: ms, hp, n => by rw [masked, masked_length]; simp

theorem Fin.drew {hp : Heap} {w' : World} (h : Fin hp ρ w0 w) (hw : w'.heap = w.heap) (ho : w'.os = w.os) (ht : w'.tape = w.tape) (hu : w'.output = w.output) : Fin hp ρ w0 w' :=
  ⟨⟨h.len, h.nodup, fun b hb => by rw [hw]; exact h.lt b hb, fun t k hk => by rw [hw]; exact h.held t k hk⟩, ⟨by rw [hw]; exact h.size, fun b hb hn => by rw [hw]; exact h.same b hb hn, ho.trans h.os, ht.trans h.tape, hu.trans h.output⟩⟩

theorem regX_sound (hE : E.ok) {id : Nat} {ops : Array Oper} {draw : Bool} {k : St → List Nat → World → Prop} (hk : ∀ st ρ w0 a w, k st ρ w0 → Rep E.fr st ρ w0 a w → Q .normal a w)
    (hQ : ∀ c a w, ¬ Q (.panic c) a w) (h : regX E ops draw st ρ w0 k) (R : Rep E.fr st ρ w0 a w) : (Code.region id ops draw).wp E.P Q a w := by
  unfold regX at h
  cases draw
  · simp only [cond_false] at h
    refine wp_region ?_
    have := seqX_sound (Q := Q) hE hk ops.toList 0 st ρ w0 a w rfl h R
    rw [List.range_eq_range']
    simpa using this
  · simp only [cond_true] at h
    generalize maskOf E (st.get E.fr) st.hp ops.toList ops.toList = ms at h
    cases hc : (st.wf E.fr ρ.length && Nat.beq st.hp.length ρ.length && Region.noSelect ops && ms.all (fun t => Nat.blt t ρ.length))
    · rw [hc] at h; exact h.elim
    · rw [hc] at h
      simp only [cond_true] at h
      simp only [Bool.and_eq_true] at hc
      obtain ⟨⟨⟨c1, _⟩, c3⟩, _⟩ := hc
      refine wp_region_any hE.mixed (wpAny_of_L (S := Phase ⟨st.hp, ρ, w0, true⟩ ⟨masked st.hp 0 ms, ρ, w0, false⟩ (breaksAt E 0 ops.toList)) _ _ _ _ ?_)
      have R' : Rep E.fr st ρ w0 a { w with drawn := w.drawn + 1 } := ⟨R.nodef, R.size, R.slot, R.fin.drew rfl rfl rfl rfl⟩
      have h12 : ∀ w, View.ok ⟨st.hp, ρ, w0, true⟩ w → View.ok ⟨masked st.hp 0 ms, ρ, w0, false⟩ w := fun w h => ⟨⟨by simp [masked_length, h.1.len], h.1.nodup, h.1.lt, fun t b hb => h.1.held t b (masked_get hb).2⟩, fun h => by cases h⟩
      have hV1 : View.ok ⟨st.hp, ρ, w0, true⟩ { w with drawn := w.drawn + 1 } := ⟨R'.fin.toHeld, fun _ => R'.fin.toExt⟩
      have := drawX_sound (Q := Q) hE hk hQ c3 (V1 := ⟨st.hp, ρ, w0, true⟩) (V2 := ⟨masked st.hp 0 ms, ρ, w0, false⟩) h12 rfl rfl (ms := ms) (fun t k h => (masked_get h).1) (by rw [masked_length]; exact R.fin.len) (fun t k h => st_wf_hp c1 h) (fun t k h => st_wf_hp c1 (masked_get h).2)
        ops.size _ (List.replicate ops.size false) st ρ [] w0 a _ h (by simp) (by simp) R' (by
          unfold Phase
          rw [if_neg]
          · exact hV1
          · intro h
            obtain ⟨b, _, hb⟩ := List.any_eq_true.1 h
            simp only [Array.getD_eq_getD_getElem?] at hb
            simp only [List.getElem?_toArray, List.getElem?_replicate] at hb
            split at hb <;> simp at hb)
      rw [show (List.replicate ops.size false).toArray = Array.replicate ops.size false from by simp] at this
      exact this

end
end Go.Sx
