/- The doer is right, part 7: an operation that acts, whichever it is. -/
import Derived.Test.YtkiioneimheciaaGreatCxI
set_option linter.all false
namespace Go.Cx
open Go Go.Sx

section
variable {P : Program} {Y : Tys} {τ : Tau} {K : Nat → Prop} {w0 w : World} {a : Act}

theorem view_of {h : Hp} (H : Hp.ok K w0 τ h w) : View τ h.at_.get w := fun t o e => let ⟨b, c, h1, _, h3⟩ := H.live t o e; ⟨b, c, h1, h3⟩

theorem pureC_pure {sl : T CV} {g : Gt} {c : COp} {v : CV} (h : pureC sl g c = some v) : c.pure = true := by
  cases c <;> first | rfl | (cases h; done)

/-- A new block of plain cells: all its cells are known. -/
theorem did_new {st st' : St} (H : Hp.ok K w0 τ st.h w) {cs : List CV} {xs : List Value} (hr : CV.rels τ cs xs) {elem esz n : Nat} (hl : cs.length = n * esz) (hs : cs.length < 2 ^ depth) {k : Tk → CV} {v : CV} {len : Nat} (hlen : len = cs.length)
    (h : newC st (.cells ⟨layT 0 cs .nil, len, elem, esz, some n⟩) k = some (v, st')) {s : Sem Next} {x : Value} (hx : ∀ τ' : Tau, τ' st.h.next = some (w.heap.size, n) → (k st.h.next).rel τ' x)
    (hrun : s.run P w = .ok (.value x) (w.alloc (.cells xs.toArray elem))) : Did P K w0 τ st st' s w v [] := by
  have hle : τ.le (τ.more st.h.next w.heap.size n) := fun t p e => by
    simp only [Tau.more]
    rw [if_neg]
    · exact e
    · intro hh; have := H.dom t p e; rw [hh] at this; omega
  have hob : Ob.ok (τ.more st.h.next w.heap.size n) (w.alloc (.cells xs.toArray elem)) w.heap.size n (.cells ⟨layT 0 cs .nil, len, elem, esz, some n⟩) := by
    refine newBlk_ok (xs := xs) (extra := []) (hr.mono hle) ?_ (by rw [List.append_nil, rels_length hr, hl]) (fun m hm => by cases hm; exact ⟨rfl, rfl⟩) hlen hs
    show (w.heap.push _)[w.heap.size]? = _
    rw [Array.getElem?_push, if_pos rfl, List.append_nil]
  obtain ⟨g1, g2, g3, g4, g5, g6⟩ := newC_ok (w1 := w) H rfl rfl rfl rfl h hob
  exact ⟨_, _, x, g1, by rw [g5]; exact hx _ g6, .inl hrun, g2, g3, g4⟩

theorem rels_replicate {z : List CV} {zs : List Value} (h : CV.rels τ z zs) : ∀ n, CV.rels τ (List.replicate n z).flatten (List.replicate n zs).flatten
  | 0 => rfl
  | n + 1 => by simp only [List.replicate_succ, List.flatten_cons]; exact rels_append h (rels_replicate h n)
theorem flat_length {α : Type} (z : List α) : ∀ n, (List.replicate n z).flatten.length = n * z.length
  | 0 => by simp
  | n + 1 => by simp only [List.replicate_succ, List.flatten_cons, List.length_append, flat_length z n, Nat.add_mul]; omega
theorem flat_get {α : Type} (z : List α) : ∀ (n i : Nat), i < n * z.length → (List.replicate n z).flatten[i]? = z[i % z.length]?
  | 0, i, h => by simp at h
  | n + 1, i, h => by
    simp only [List.replicate_succ, List.flatten_cons]
    by_cases hi : i < z.length
    · rw [List.getElem?_append_left hi, Nat.mod_eq_of_lt hi]
    · rw [List.getElem?_append_right (by omega), flat_get z n (i - z.length) (by rw [Nat.add_mul] at h; omega)]
      congr 1
      rw [Nat.mod_eq_sub_mod (a := i) (by omega)]

/-- The zero cells of a row. -/
theorem range_zero (z : Array Value) (n : Nat) : ((Array.range (n * z.size)).map fun i => z[i % z.size]!).toList = (List.replicate n z.toList).flatten := by
  apply List.ext_getElem?
  intro i
  by_cases hi : i < n * z.size
  · have hz : 0 < z.size := by rcases Nat.eq_zero_or_pos z.size with h | h; (rw [h] at hi; simp at hi); exact h
    rw [flat_get _ _ _ (by simpa using hi)]
    have hm : i % z.size < z.size := Nat.mod_lt _ hz
    simp [hi, hm]
  · rw [List.getElem?_eq_none (by simp; omega), List.getElem?_eq_none (by rw [flat_length]; simp; omega)]

theorem entsRel_append : ∀ {es : List Ent} {ms : List MapEntry} {e : Ent} {m : MapEntry}, entsRel τ es ms → e.key.rel τ m.key → e.val.rel τ m.val → m.born = e.born → entsRel τ (es ++ [e]) (ms ++ [m])
  | [], ms, e, m, h, h1, h2, h3 => by cases h; exact ⟨m, [], rfl, h1, h2, h3, rfl⟩
  | a :: es, ms, e, m, h, h1, h2, h3 => by obtain ⟨y, ys, rfl, k1, k2, k3, k4⟩ := h; exact ⟨y, _, rfl, k1, k2, k3, entsRel_append k4 h1 h2 h3⟩

theorem stamp_rel : ∀ {es es' : List Ent} {ms : List MapEntry} {n : Nat} {v : CV} {x : Value}, stampE n v es = some es' → entsRel τ es ms → v.rel τ x →
    ∃ i, ms.findIdx? (fun e => (e.born : Int) == (n : Int)) = some i ∧ entsRel τ es' (ms.modify i fun e => { e with val := x })
  | [], es', ms, n, v, x, h, _, _ => by cases h
  | e :: es, es', ms, n, v, x, h, hr, hx => by
    obtain ⟨m, ms', rfl, h1, h2, h3, h4⟩ := hr
    simp only [stampE] at h
    cases hb : Nat.beq e.born n
    · rw [hb] at h
      simp only [cond_false] at h
      split at h
      · rename_i s hs
        cases h
        obtain ⟨i, hi, hr'⟩ := stamp_rel hs h4 hx
        refine ⟨i + 1, ?_, ?_⟩
        · rw [List.findIdx?_cons, if_neg]
          · rw [hi]; rfl
          · rw [h3]; have := Nat.ne_of_beq_eq_false hb; simp; omega
        · rw [List.modify_succ_cons]; exact ⟨m, _, rfl, h1, h2, h3, hr'⟩
      · cases h
    · rw [hb] at h
      cases h
      have := Nat.eq_of_beq_eq_true hb
      refine ⟨0, ?_, ?_⟩
      · rw [List.findIdx?_cons, if_pos]; rw [h3, this]; simp
      · exact ⟨_, ms', rfl, h1, hx, h3, h4⟩

theorem mapSet {st : St} (H : Hp.ok K w0 τ st.h w) {t : Tk} {es es' : List Ent} {n n' : Nat} (ht : st.h.at_.get t = some (.map es n)) {b c : Nat} (hb : τ t = some (b, c)) :
    ∃ arr : Array MapEntry, entsRel τ es arr.toList ∧ (∀ {P : Program}, (getObj b).run P w = .ok (.map arr n) w) ∧ ∀ arr' : Array MapEntry, entsRel τ es' arr'.toList →
      (∀ {P : Program}, (setObj b (.map arr' n')).run P w = .ok () { w with heap := w.heap.setIfInBounds b (.map arr' n') }) ∧ Hp.ok K w0 τ (setC st t (.map es' n')).h { w with heap := w.heap.setIfInBounds b (.map arr' n') } ∧ Mv st (setC st t (.map es' n')) [t] := by
  obtain ⟨b', c', h5, h6, h7⟩ := H.live t _ ht
  rw [hb] at h5; cases h5
  have hlt := h7.lt
  obtain ⟨arr, h8, h9⟩ := h7
  refine ⟨arr, h9, fun {P} => by simp only [getObj, Sem.run, h8], fun arr' hr => ⟨fun {P} => by simp only [setObj, Sem.run, h8], ?_⟩⟩
  exact set_ok H ht hb (fun x hx => by show (w.heap.setIfInBounds b _)[x]? = _; rw [Array.getElem?_setIfInBounds_ne (fun e => hx e.symm)]) (by simp) rfl rfl rfl ⟨arr', by show (w.heap.setIfInBounds b _)[b]? = _; simp [hlt], hr⟩

theorem doC_ok (hY : TysOk P Y) {st st' : St} (hs : SlOk τ st.sl a.tmps) (H : Hp.ok K w0 τ st.h w) {o : Oper} {c : COp} (hc : comp Y o = some c) {v : CV} (h : doC st c = some (v, st')) :
    ∃ nd, Did P K w0 τ st st' (execOp a.eval o) w v nd ∧ (c.pure = true ∨ c.makes = true → nd = []) := by
  have hdep : (4294967296 : Nat) < 2 ^ depth := by decide
  have read : ∀ {c : COp}, comp Y o = some c → (match pureC st.sl st.h.at_.get c with | some v => some (v, st) | none => none) = some (v, st') → ∃ nd, Did P K w0 τ st st' (execOp a.eval o) w v nd ∧ (c.pure = true ∨ c.makes = true → nd = []) := fun {c} hc h => by
    split at h
    · rename_i u hu
      cases h
      obtain ⟨x, h1, h2⟩ := pure_ok hY hs (view_of H) hc hu
      exact ⟨[], Did.still H h1 h2, fun _ => rfl⟩
    · cases h
  obtain ⟨dst, op, type, pos, after, guard⟩ := o
  have upd : ∀ t m k u, (op = .mapUpdate t m k u ∨ op = .insert t m k u) → (match lk Y.T t with
      | some e => match e.d with
        | .map kt _ => match keyKind Y kt with
          | some kk => three3 m k u (.mupd kk)
          | none => none
        | _ => none
      | none => none) = some c → ∃ nd, Did P K w0 τ st st' (execOp a.eval ⟨dst, op, type, pos, after, guard⟩) w v nd ∧ (c.pure = true ∨ c.makes = true → nd = []) := by
    intro t m k u hop hc
    have hsem : semU a.eval ⟨dst, op, type, pos, after, guard⟩ = some (Instr.mapUpdate t (a.eval m) (a.eval k) (a.eval u)) := by
      rcases hop with rfl | rfl <;> rfl
    split at hc
    · rename_i e he
      split at hc
      · rename_i kt et hd
        split at hc
        · rename_i kk hkk
          obtain ⟨p, q, r, hp, hq, hr, rfl⟩ := three3_some hc
          have hok := Tab.get_ok hY.tab he
          have hK := keyOk hY hkk
          simp only [doC] at h
          split at h
          · rename_i tk kv uv h1 h2 h3
            cases hf : keyFit kk kv <;> rw [hf] at h
            · cases h
            · simp only [cond_true, mapAt] at h
              split at h
              · rename_i es n hm
                split at hm
                · rename_i es' n' hg
                  cases hm
                  obtain ⟨b, cc', e1, e2⟩ := opd_rel hs hp h1
                  have hkr := opd_rel hs hq h2
                  have hur := opd_rel hs hr h3
                  split at h
                  · rename_i en hfe
                    cases h
                    obtain ⟨arr, m1, m2, m3⟩ := mapSet (es' := setE kk kv uv es) (n' := n) H hg e1
                    obtain ⟨qq, hq1, hq2⟩ := findE_run hK hf hkr w hfe m1
                    cases qq with
                    | none => exact hq2.elim
                    | some pr =>
                      obtain ⟨i, v0⟩ := pr
                      obtain ⟨g1, me, g2, g3, g4, g5, g6, g7⟩ := hq2
                      obtain ⟨s1, s2, s3⟩ := m3 (arr.modify i fun e => { e with key := a.eval k, val := a.eval u }) (by rw [Array.toList_modify]; exact g7 uv _ hur)
                      have g2' : arr[i]? = some me := by simpa using g2
                      refine ⟨[tk], ⟨τ, _, undef, Tau.le.refl τ, undef_rel, .inr ⟨lift_u hsem ?_, rfl⟩, s2, rfl, s3⟩, fun hh => by rcases hh with hh | hh <;> cases hh⟩
                      rw [e2]
                      rw [g3] at g6
                      simp [Instr.mapUpdate, hok.run, hd, m2, hK.chk τ false kv _ w hf hkr, hq1, g2', Instr.keyThatStays, g3, g6, s1]
                  · rename_i hfe
                    cases h
                    obtain ⟨arr, m1, m2, m3⟩ := mapSet (es' := es ++ [⟨kv, uv, n⟩]) (n' := n + 1) H hg e1
                    obtain ⟨qq, hq1, hq2⟩ := findE_run hK hf hkr w hfe m1
                    cases qq with
                    | some pr => exact hq2.elim
                    | none =>
                      obtain ⟨s1, s2, s3⟩ := m3 (arr.push { key := a.eval k, val := a.eval u, born := n }) (by rw [Array.toList_push]; exact entsRel_append m1 hkr hur rfl)
                      refine ⟨[tk], ⟨τ, _, undef, Tau.le.refl τ, undef_rel, .inr ⟨lift_u hsem ?_, rfl⟩, s2, rfl, s3⟩, fun hh => by rcases hh with hh | hh <;> cases hh⟩
                      rw [e2]
                      simp [Instr.mapUpdate, hok.run, hd, m2, hK.chk τ false kv _ w hf hkr, hq1, s1]
                  · cases h
                · cases hm
              · cases h
          · cases h
        · cases hc
      · cases hc
    · cases hc
  cases op
  case alloc t =>
    simp only [comp] at hc
    split at hc
    · rename_i e he
      split at hc
      · rename_i z hz
        cases hb : Nat.ble z.cells.length 65536 <;> rw [hb] at hc <;> cases hc
        have hle := Nat.le_of_ble_eq_true hb
        have hok := Tab.get_ok hY.tab he
        have hzr := cells_rel (ofVal_rel (τ := τ) 9 hz)
        simp only [doC] at h
        refine ⟨[], did_new H hzr (n := 1) (by omega) (by omega) rfl h (x := .pointer (some ⟨w.heap.size, 0, none⟩)) (fun τ' e => ⟨_, _, e, rfl⟩) ?_, fun _ => rfl⟩
        simp [execOp, Instr.alloc, hok.zero, newVar, newRow, newObj, Sem.run]
      · cases hc
    · cases hc
  case box t x =>
    obtain ⟨p, hp, rfl⟩ := one1_some hc
    simp only [doC] at h
    split at h
    · rename_i u hu
      cases hb : Nat.ble u.cells.length 65536 <;> rw [hb] at h
      · cases h
      · have hle := Nat.le_of_ble_eq_true hb
        simp only [cond_true] at h
        have hr := cells_rel (opd_rel hs hp hu)
        refine ⟨[], did_new H hr (n := 1) (by omega) (by omega) rfl h (x := .pointer (some ⟨w.heap.size, 0, none⟩)) (fun τ' e => ⟨_, _, e, rfl⟩) ?_, fun _ => rfl⟩
        simp [execOp, Instr.box, newVar, newRow, newObj, Sem.run]
    · cases h
  case buildSlice t len ps =>
    simp only [comp] at hc
    split at hc
    · rename_i e he
      split at hc
      · rename_i el hd
        split at hc
        · rename_i ee hee
          split at hc
          · rename_i z hz
            split at hc
            · rename_i qs hqs
              cases hb : (Nat.ble (len * ee.size) 65536 && Nat.beq z.cells.length ee.size && Nat.blt 0 ee.size) <;> rw [hb] at hc <;> cases hc
              simp only [Bool.and_eq_true] at hb
              have b1 := Nat.le_of_ble_eq_true hb.1.1
              have b2 := Nat.eq_of_beq_eq_true hb.1.2
              have b3 : 0 < ee.size := by simpa using hb.2
              have hok := Tab.get_ok hY.tab he
              have hok' := Tab.get_ok hY.tab hee
              simp only [doC] at h
              split at h
              · rename_i l hl
                have hzr := cells_rel (ofVal_rel (τ := τ) 9 hz)
                have hzs : ee.zero.cells.size = ee.size := by rw [← b2, ← Array.length_toList, rels_length hzr]
                obtain ⟨ys, h1, h2⟩ := fill_run hs hqs hl (rels_replicate hzr len)
                have hll : l.length = len * ee.size := by
                  have key : ∀ {qs : List (Nat × Nat × Opd)} {cells l : List CV}, fillC st.sl cells qs = some l → l.length = cells.length := by
                    intro qs
                    induction qs with
                    | nil => intro cells l h; cases h; rfl
                    | cons q qs ih =>
                      intro cells l h
                      obtain ⟨off, size, x⟩ := q
                      simp only [fillC] at h
                      split at h
                      · rename_i v hv
                        cases hcc : (Nat.beq v.cells.length size && Nat.ble (off + v.cells.length) cells.length) <;> rw [hcc] at h
                        · cases h
                        · rw [ih h, setR_length]
                      · cases h
                  rw [key hl, flat_length, b2]
                refine ⟨[], did_new H h1 (n := len) hll (by omega) rfl h (x := .slice (some ⟨w.heap.size, 0, none⟩) len len) (fun τ' e => ⟨_, _, e, rfl⟩) ?_, fun _ => rfl⟩
                have e1 : ((ps.map fun x : Nat × Operand => match x with | (i, x) => (i, a.eval x)).toList) = ps.toList.map fun x => (x.1, a.eval x.2) := by simp
                have e3 : (Array.range (len * ee.size)).map (fun i => ee.zero.cells[i % ee.zero.cells.size]!) = (List.replicate len ee.zero.cells.toList).flatten.toArray := by
                  apply Array.ext'
                  rw [← hzs, range_zero]
                simp only [execOp, Sem.run_bind, Instr.buildSlice, hok.run, hd, hok'.sz, Result.andThen_ok]
                rw [if_neg (by omega)]
                by_cases h0 : len * ee.size = 0
                · have hl0 : len = 0 := by
                    rcases Nat.mul_eq_zero.1 h0 with h | h
                    · exact h
                    · omega
                  subst hl0
                  simp only [List.replicate_zero, List.flatten_nil] at h2
                  rw [if_pos (by omega), e1]
                  have e4 : ∀ f : Nat → Value, (Array.range (0 * ee.size)).map f = #[] := fun f => by rw [Nat.zero_mul]; apply Array.ext'; simp
                  have h2' : Instr.fill (fun i => some (i * ee.size, ee.size)) #[] (ps.toList.map fun x => (x.1, a.eval x.2)) = some ys.toArray := h2
                  simp only [Sem.run_bind, Sem.run_pure, Result.andThen_ok, e4, h2']
                  simp [newRow, newObj, Sem.run]
                · rw [if_neg h0]
                  simp only [Sem.run_bind, hok'.zero, Result.andThen_ok, Sem.run_pure]
                  rw [e1, e3, h2]
                  simp [newRow, newObj, Sem.run]
              · cases h
            · cases hc
          · cases hc
        · cases hc
      · cases hc
    · cases hc
  case makeMap t r =>
    cases r with
    | some x => cases hc
    | none =>
      cases hc
      simp only [doC, newC_eq] at h
      cases h
      have ho : Ob.ok (τ.more st.h.next w.heap.size 0) (w.alloc (.map #[] 0)) w.heap.size 0 (.map [] 0) := ⟨#[], by show (w.heap.push _)[w.heap.size]? = _; rw [Array.getElem?_push, if_pos rfl], rfl⟩
      obtain ⟨g1, g2, g3, g4, g5, g6⟩ := newC_ok (st := st) (w1 := w) H rfl rfl rfl rfl (k := .mp) rfl ho
      exact ⟨[], ⟨_, _, .map (some w.heap.size), g1, ⟨_, _, g6, rfl⟩, .inl (by simp [execOp, Instr.makeMap, newObj, Sem.run]), g2, rfl, g4⟩, fun _ => rfl⟩
  case makeSlice t l cp =>
    simp only [comp] at hc
    split at hc
    · rename_i e he
      split at hc
      · rename_i el hd
        split at hc
        · rename_i ee hee
          split at hc
          · rename_i z hz
            cases hb : (Nat.beq z.cells.length ee.size && Nat.blt 0 ee.size) <;> rw [hb] at hc
            · cases hc
            · simp only [cond_true] at hc
              obtain ⟨p, q, hp, hq, rfl⟩ := two2_some hc
              simp only [Bool.and_eq_true] at hb
              have b2 := Nat.eq_of_beq_eq_true hb.1
              have b3 : 0 < ee.size := by simpa using hb.2
              have hok := Tab.get_ok hY.tab he
              have hok' := Tab.get_ok hY.tab hee
              simp only [doC] at h
              split at h
              · rename_i k1 A k2 B h1 h2
                cases hb2 : (Nat.ble A B && Nat.ble B 65536 && Nat.ble (B * ee.bytes) 140737488355328 && Nat.ble (B * ee.size) 4294967296) <;> rw [hb2] at h
                · cases h
                · simp only [cond_true] at h
                  simp only [Bool.and_eq_true] at hb2
                  have d1 := Nat.le_of_ble_eq_true hb2.1.1.1
                  have d2 := Nat.le_of_ble_eq_true hb2.1.1.2
                  have d3 := Nat.le_of_ble_eq_true hb2.1.2
                  have d4 := Nat.le_of_ble_eq_true hb2.2
                  have hzr := cells_rel (ofVal_rel (τ := τ) 9 hz)
                  have hzs : ee.zero.cells.size = ee.size := by rw [← b2, ← Array.length_toList, rels_length hzr]
                  have e1 : a.eval l = .int k1 (A : Int) := opd_rel hs hp h1
                  have e2 : a.eval cp = .int k2 (B : Int) := opd_rel hs hq h2
                  obtain ⟨i, hi, his, hib, hiz⟩ := hok'.info
                  have hrun := run_make (P := P) w t el i ee.zero (by rw [hok.und, hd]) hi hiz k1 k2 (A : Int) (B : Int) (by omega) (by omega) (by rw [hib, Int.mul_comm, ← Int.natCast_mul]; omega) (by omega)
                  have hll : (List.replicate B z.cells).flatten.length = B * ee.size := by rw [flat_length, b2]
                  have hsm : (List.replicate B z.cells).flatten.length < 2 ^ depth := by rw [hll]; omega
                  refine ⟨[], did_new H (rels_replicate hzr B) (n := B) hll hsm hll.symm h (x := .slice (some ⟨w.heap.size, 0, none⟩) A B) (fun τ' e => ⟨_, _, e, by rw [Nat.sub_zero]⟩) ?_, fun _ => rfl⟩
                  have e3 : madeCells ee.zero.cells ((B : Int).toNat * i.size) = (List.replicate B ee.zero.cells.toList).flatten.toArray := by
                    apply Array.ext'
                    rw [Int.toNat_natCast, his, ← hzs, ← range_zero]
                    rfl
                  refine lift_v rfl ?_
                  simp only [e1, e2]
                  rw [show (wMakeSlice t (.int k1 (A : Int)) (.int k2 (B : Int))) = Instr.makeSlice t (.int k1 (A : Int)) (.int k2 (B : Int)) from rfl, hrun, e3]
                  simp
              · cases h
          · cases hc
        · cases hc
      · cases hc
    · cases hc
  case store t x u =>
    simp only [comp] at hc
    split at hc
    · rename_i e he
      have hok := Tab.get_ok hY.tab he
      obtain ⟨p, q, hp, hq, rfl⟩ := two2_some hc
      simp only [doC] at h
      split at h
      · rename_i tk off v1 h1 h2
        simp only [blkAt] at h
        split at h
        · rename_i k hk
          split at hk
          · rename_i k' hg
            cases hk
            cases hb : Nat.beq v1.cells.length e.size <;> rw [hb] at h
            · cases h
            · have hl := Nat.eq_of_beq_eq_true hb
              simp only [cond_true] at h
              split at h
              · rename_i st2 hst
                cases h
                have hr := opd_rel hs hq h2
                obtain ⟨b, cc', e1, e2⟩ := opd_rel hs hp h1
                obtain ⟨w', s1, s2, s3, s4⟩ := store_ok (P := P) H hg hst (cells_rel hr) e1
                refine ⟨[tk], ⟨τ, w', undef, Tau.le.refl τ, undef_rel, .inr ⟨lift_u rfl ?_, rfl⟩, s2, s3, s4⟩, fun hh => by rcases hh with hh | hh <;> cases hh⟩
                have hsz : (a.eval u).cells.size = e.size := by rw [← Array.length_toList, rels_length (cells_rel hr), hl]
                simp [Instr.storeAt, e2, Instr.sureAddr, storeVar, hok.sz, hsz, s1]
              · cases h
          · cases hk
        · cases h
      · cases h
    · cases hc
  case mapUpdate t m k u => exact upd t m k u (.inl rfl) hc
  case insert t m k u => exact upd t m k u (.inr rfl) hc
  case mapEntry t m k =>
    simp only [comp] at hc
    split at hc
    · rename_i e he
      split at hc
      · rename_i kt et hd
        split at hc
        · rename_i kk ee hkk hee
          split at hc
          · rename_i z hz
            obtain ⟨p, q, hp, hq, rfl⟩ := two2_some hc
            have hok := Tab.get_ok hY.tab he
            have hok' := Tab.get_ok hY.tab hee
            have hK := keyOk hY hkk
            simp only [doC] at h
            split at h
            · rename_i tk kv h1 h2
              cases hf : keyFit kk kv <;> rw [hf] at h
              · cases h
              · simp only [cond_true, mapAt] at h
                split at h
                · rename_i es n hm
                  split at hm
                  · rename_i es' n' hg
                    cases hm
                    obtain ⟨b, cc', e1, e2⟩ := opd_rel hs hp h1
                    have hkr := opd_rel hs hq h2
                    split at h
                    · rename_i en hfe
                      cases h
                      obtain ⟨arr, m1, m2, m3⟩ := mapSet (es' := setE kk kv en.val es) (n' := n) H hg e1
                      obtain ⟨qq, hq1, hq2⟩ := findE_run hK hf hkr w hfe m1
                      cases qq with
                      | none => exact hq2.elim
                      | some pr =>
                        obtain ⟨i, v0⟩ := pr
                        obtain ⟨g1, me, g2, g3, g4, g5, g6, g7⟩ := hq2
                        have hr' := g7 en.val v0 g1
                        have hmod : (arr.toList.modify i fun m => { m with key := a.eval k, val := v0 }) = (arr.modify i fun e => { e with key := a.eval k }).toList := by
                          rw [Array.toList_modify]
                          apply List.ext_getElem?
                          intro j
                          rw [List.getElem?_modify, List.getElem?_modify]
                          by_cases hij : i = j
                          · subst hij
                            simp only [if_true, g2, Option.map_eq_map, Option.map_some]
                            rw [← g4]
                          · simp [hij]
                        rw [hmod] at hr'
                        obtain ⟨s1, s2, s3⟩ := m3 (arr.modify i fun e => { e with key := a.eval k }) hr'
                        have g2' : arr[i]? = some me := by simpa using g2
                        refine ⟨[tk], ⟨τ, _, .tuple #[v0, .int .i64 (en.born : Int)], Tau.le.refl τ, ⟨_, ⟨v0, _, rfl, g1, ⟨_, _, rfl, rfl, rfl⟩⟩, rfl⟩, .inl (lift_v rfl ?_), s2, rfl, s3⟩, fun hh => by rcases hh with hh | hh <;> cases hh⟩
                        simp only [e2]
                        simp [Instr.mapEntry, hok.run, hd, m2, hK.chk τ false kv _ w hf hkr, hq1, g2', Instr.keyThatStays, g3, g6, s1, goInt, g5]
                        rw [g3] at g6
                        simp [g6, s1]
                    · rename_i hfe
                      cases h
                      obtain ⟨arr, m1, m2, m3⟩ := mapSet (es' := es ++ [⟨kv, z, n⟩]) (n' := n + 1) H hg e1
                      obtain ⟨qq, hq1, hq2⟩ := findE_run hK hf hkr w hfe m1
                      cases qq with
                      | some pr => exact hq2.elim
                      | none =>
                        have hzr := ofVal_rel (τ := τ) 9 hz
                        obtain ⟨s1, s2, s3⟩ := m3 (arr.push { key := a.eval k, val := ee.zero, born := n }) (by rw [Array.toList_push]; exact entsRel_append m1 hkr hzr rfl)
                        refine ⟨[tk], ⟨τ, _, .tuple #[ee.zero, .int .i64 (n : Int)], Tau.le.refl τ, ⟨_, ⟨_, _, rfl, hzr, ⟨_, _, rfl, rfl, rfl⟩⟩, rfl⟩, .inl (lift_v rfl ?_), s2, rfl, s3⟩, fun hh => by rcases hh with hh | hh <;> cases hh⟩
                        simp only [e2]
                        simp [Instr.mapEntry, hok.run, hd, m2, hK.chk τ false kv _ w hf hkr, hq1, hok'.zero, s1, goInt]
                    · cases h
                  · cases hm
                · cases h
            · cases h
          · cases hc
        · cases hc
      · cases hc
    · cases hc
  case entryStore t m s u =>
    obtain ⟨p, q, r, hp, hq, hr, rfl⟩ := three3_some hc
    simp only [doC] at h
    split at h
    · rename_i tk k1 n uv h1 h2 h3
      simp only [mapAt] at h
      split at h
      · rename_i es c hm
        split at hm
        · rename_i es' c' hg
          cases hm
          split at h
          · rename_i es2 hst
            cases h
            obtain ⟨b, cc', e1, e2⟩ := opd_rel hs hp h1
            have e3 : a.eval s = .int k1 (n : Int) := opd_rel hs hq h2
            obtain ⟨arr, m1, m2, m3⟩ := mapSet (es' := es2) (n' := c) H hg e1
            obtain ⟨i, i1, i2⟩ := stamp_rel hst m1 (opd_rel hs hr h3)
            obtain ⟨s1, s2, s3⟩ := m3 (arr.modify i fun e => { e with val := a.eval u }) (by rw [Array.toList_modify]; exact i2)
            refine ⟨[tk], ⟨τ, _, undef, Tau.le.refl τ, undef_rel, .inr ⟨lift_u rfl ?_, rfl⟩, s2, rfl, s3⟩, fun hh => by rcases hh with hh | hh <;> cases hh⟩
            have i1' : arr.findIdx? (fun e => (e.born : Int) == (n : Int)) = some i := by rw [← List.findIdx?_toArray] at i1; simpa using i1
            simp only [e2, e3]
            simp [Instr.entryStore, m2, asInt, asIntOf, i1', s1]
          · cases h
        · cases hm
      · cases h
    · cases h
  case call c' =>
    obtain ⟨callee, args, ats⟩ := c'
    cases callee
    case value f =>
      simp only [comp] at hc
      split at hc
      · cases hc; cases h
      · cases hc
    case invoke => cases hc
    case builtin b =>
      cases b <;> (try (cases hc; done))
      case append =>
        have hc0 := hc
        simp only [comp] at hc
        split at hc
        · rename_i x y t t2 hx ht
          have h3 : ats = #[t, t2] := by rw [← Array.toArray_toList (xs := ats), ht]
          have h4 : args.toList.map a.eval = [a.eval x, a.eval y] := by rw [hx]; rfl
          split at hc
          · rename_i e he
            split at hc
            · rename_i el hd
              split at hc
              · rename_i ee hee
                split at hc
                · rename_i z hz
                  cases hb : (Nat.beq t t2 && Nat.blt 0 ee.size && Nat.beq z.cells.length ee.size) <;> rw [hb] at hc
                  · cases hc
                  · simp only [cond_true] at hc
                    simp only [Bool.and_eq_true] at hb
                    have b1 := Nat.eq_of_beq_eq_true hb.1.1
                    have b2 : 0 < ee.size := by simpa using hb.1.2
                    have b3 := Nat.eq_of_beq_eq_true hb.2
                    subst b1
                    obtain ⟨p, q, hp, hq, rfl⟩ := two2_some hc
                    simp only [doC] at h
                    split at h
                    · rename_i u1 u2 k1 k2
                      obtain ⟨τ', w', r, nd, g1, g2, g3, g4, g5, g6⟩ := app_ok (ty := type) hY H he hd hee b2 hz b3 (opd_rel hs hp k1) (opd_rel hs hq k2) h
                      refine ⟨nd, ⟨τ', w', r, g1, g2, .inl (lift_v rfl ?_), g4, g5, g6⟩, fun hh => by rcases hh with hh | hh <;> cases hh⟩
                      rw [h3, h4]; exact g3
                    · cases h
                · cases hc
              · cases hc
            · cases hc
          · cases hc
        · cases hc
      case clear =>
        simp only [comp] at hc
        split at hc
        · rename_i x t hx ht
          have h3 : ats = #[t] := by rw [← Array.toArray_toList (xs := ats), ht]
          have h4 : args.toList.map a.eval = [a.eval x] := by rw [hx]; rfl
          split at hc
          · rename_i e he
            split at hc
            · rename_i el hd
              split at hc
              · rename_i ee hee
                split at hc
                · rename_i z hz
                  cases hb : (Nat.beq z.cells.length ee.size) <;> rw [hb] at hc
                  · cases hc
                  · simp only [cond_true] at hc
                    have b3 := Nat.eq_of_beq_eq_true hb
                    obtain ⟨p, hp, rfl⟩ := one1_some hc
                    have hok := Tab.get_ok hY.tab he
                    have hok' := Tab.get_ok hY.tab hee
                    simp only [doC] at h
                    have ru : CV.rel τ undefC (.tuple #[]) := ⟨[], rfl, rfl⟩
                    split at h
                    · rename_i hu
                      cases h
                      have e1 : a.eval x = .slice none 0 0 := opd_rel hs hp hu
                      refine ⟨[], ⟨τ, w, .tuple #[], Tau.le.refl τ, ru, .inl (lift_v rfl ?_), H, rfl, Mv.refl st⟩, fun _ => rfl⟩
                      rw [h3, h4, e1]
                      simp [Builtin.clear_, hok.run, hd]
                    · rename_i tk off l q hu
                      obtain ⟨b, cc', e1, e2⟩ := opd_rel hs hp hu
                      cases hl : Nat.beq l 0 <;> rw [hl] at h
                      · simp only [cond_false, blkAt] at h
                        have hl' := Nat.ne_of_beq_eq_false hl
                        split at h
                        · rename_i k hk
                          split at hk
                          · rename_i k' hg
                            cases hk
                            split at h
                            · rename_i st2 hst
                              cases h
                              have hzr := cells_rel (ofVal_rel (τ := τ) 9 hz)
                              obtain ⟨w', s1, s2, s3, s4⟩ := store_ok (P := P) H hg hst (rels_replicate hzr l) e1
                              have hzs : ee.zero.cells.size = ee.size := by rw [← b3, ← Array.length_toList, rels_length hzr]
                              have e5 : (Builtin.zeroCells ee.zero.cells l).toList = (List.replicate l ee.zero.cells.toList).flatten := range_zero _ _
                              refine ⟨[tk], ⟨τ, w', .tuple #[], Tau.le.refl τ, ru, .inl (lift_v rfl ?_), s2, s3, s4⟩, fun hh => by rcases hh with hh | hh <;> cases hh⟩
                              rw [h3, h4, e2]
                              obtain ⟨l', rfl⟩ : ∃ l', l = l' + 1 := ⟨l - 1, by omega⟩
                              simp [Builtin.clear_, hok.run, hd, hok'.zero, e5, s1]
                            · cases h
                          · cases hk
                        · cases h
                      · cases h
                        have := Nat.eq_of_beq_eq_true hl
                        subst this
                        refine ⟨[], ⟨τ, w, .tuple #[], Tau.le.refl τ, ru, .inl (lift_v rfl ?_), H, rfl, Mv.refl st⟩, fun _ => rfl⟩
                        rw [h3, h4, e2]
                        simp [Builtin.clear_, hok.run, hd]
                    · cases h
                · cases hc
              · cases hc
            · cases hc
          · cases hc
        · cases hc
      case copy =>
        simp only [comp] at hc
        split at hc
        · rename_i x y t tr hx ht
          have h4 : args.toList.map a.eval = [a.eval x, a.eval y] := by rw [hx]; rfl
          have h3 : ats[0]? = some t := by rw [← Array.getElem?_toList, ht]; rfl
          split at hc
          · rename_i e he
            split at hc
            · rename_i el hd
              split at hc
              · rename_i ee hee
                obtain ⟨p, q, hp, hq, rfl⟩ := two2_some hc
                have hok := Tab.get_ok hY.tab he
                have hok' := Tab.get_ok hY.tab hee
                have hlen : ∀ {u : CV} {x : Value} {m : Nat}, slen u = some m → u.rel τ x → ∃ b c, x = .slice b m c := fun {u x m} h1 h2 => by
                  cases u <;> simp [slen] at h1
                  · subst h1; cases h2; exact ⟨_, _, rfl⟩
                  · subst h1; obtain ⟨b, c, _, rfl⟩ := h2; exact ⟨_, _, rfl⟩
                simp only [doC] at h
                split at h
                · rename_i tk off l qq sv k1 k2
                  obtain ⟨b, cc', e1, e2⟩ := opd_rel hs hp k1
                  have hsr := opd_rel hs hq k2
                  split at h
                  · rename_i m hm
                    obtain ⟨yb, yc, e3⟩ := hlen hm hsr
                    have hmin : (bif Nat.ble m l then m else l) = Nat.min m l := by
                      cases hb : Nat.ble m l
                      · have : l ≤ m := by
                          by_cases hh : m ≤ l
                          · rw [Nat.ble_eq_true_of_le hh] at hb; cases hb
                          · omega
                        simp only [cond_false]; exact (Nat.min_eq_right this).symm
                      · simp only [cond_true]; exact (Nat.min_eq_left (Nat.le_of_ble_eq_true hb)).symm
                    rw [hmin] at h
                    split at h
                    · rename_i vs k hvs hk
                      simp only [blkAt] at hk
                      split at hk
                      · rename_i k' hg
                        cases hk
                        split at h
                        · rename_i st2 hst
                          cases h
                          obtain ⟨hvl, xs, hvr, hv3⟩ := elems_of H hvs hsr
                          obtain ⟨w', s1, s2, s3, s4⟩ := store_ok (P := P) H hg hst hvr e1
                          have hfc : (Builtin.firstCells ee.size (Nat.min m l) (a.eval y)).run P w = .ok xs.toArray w := by
                            rcases hv3 with ⟨h0, rfl, h5⟩ | ⟨yb', yo, ym, ycap, h5, h6, h7⟩
                            · rw [h5]; simp [Builtin.firstCells]
                            · rw [h5]
                              exact run_firstCells_some (P := P) w ee.size (Nat.min m l) _ ym ycap xs (by rw [rels_length hvr, hvl]) h7
                          refine ⟨[tk], ⟨τ, w', .int .i64 (Nat.min m l : Nat), Tau.le.refl τ, rfl, .inl (lift_v rfl ?_), s2, s3, s4⟩, fun hh => by rcases hh with hh | hh <;> cases hh⟩
                          rw [h4, e2]
                          have hl2 : (Builtin.lenOf (a.eval y)).run P w = .ok m w := by rw [e3]; rfl
                          simp [Builtin.copy_, h3, hok.run, hd, hl2, hok'.sz, hfc, s1, goInt]
                        · cases h
                      · cases hk
                    · cases h
                  · cases h
                · rename_i sv k1 k2
                  have e1 : a.eval x = .slice none 0 0 := opd_rel hs hp k1
                  have hsr := opd_rel hs hq k2
                  split at h
                  · rename_i m hm
                    cases h
                    obtain ⟨yb, yc, e3⟩ := hlen hm hsr
                    refine ⟨[], ⟨τ, w, .int .i64 (0 : Nat), Tau.le.refl τ, rfl, .inl (lift_v rfl ?_), H, rfl, Mv.refl st⟩, fun _ => rfl⟩
                    rw [h4, e1, e3]
                    have hfc : (Builtin.firstCells ee.size 0 (.slice yb m yc)).run P w = .ok #[] w := by
                      cases yb <;> simp [Builtin.firstCells, loadCells, loadCellsFrom]
                    simp [Builtin.copy_, h3, hok.run, hd, Builtin.lenOf, hok'.sz, hfc, goInt]
                  · cases h
                · cases h
              · cases hc
            · cases hc
          · cases hc
        · cases hc
      all_goals
        refine read hc ?_
        simp only [comp] at hc
        (repeat' split at hc) <;> (try (cases hc; done))
        all_goals first
          | (obtain ⟨o, ho, rfl⟩ := one1_some hc; exact h)
          | (cases hc; exact h)
  case unOp uop t x =>
    cases uop <;> (try (cases hc; done))
    obtain ⟨o, ho, rfl⟩ := one1_some hc
    exact read hc h
  case makeFunc fn first caps =>
    cases fn <;> (try (simp [comp] at hc; done))
    have hc0 := hc
    simp only [comp] at hc
    split at hc
    · cases hc; exact read hc0 h
    · cases hc
  case slice t x lo hi mx =>
    cases mx with
    | some m => simp [comp] at hc
    | none =>
      have hc0 := hc
      simp only [comp] at hc
      (repeat' split at hc) <;> (try (cases hc; done))
      cases hq : Nat.blt 0 _ <;> rw [hq] at hc <;> cases hc
      exact read hc0 h
  all_goals
    refine read hc ?_
    simp only [comp] at hc
    (repeat' split at hc)
    all_goals first
      | (cases hc; done)
      | (cases hc; exact h)
      | (obtain ⟨o, ho, rfl⟩ := one1_some hc; exact h)
      | (obtain ⟨o, p, ho, hpp, rfl⟩ := two2_some hc; exact h)
      | (obtain ⟨o, p, q, ho, hpp, hq, rfl⟩ := three3_some hc; exact h)
      | (cases hq : isAggD _ <;> rw [hq] at hc <;> simp only [cond_true, cond_false] at hc <;> first
          | (obtain ⟨o, ho, rfl⟩ := one1_some hc; exact h)
          | (obtain ⟨o, p, ho, hpp, rfl⟩ := two2_some hc; exact h)
          | (cases hc; done))
      | (cases hq : Nat.beq _ 0 <;> rw [hq] at hc <;> simp only [cond_true, cond_false] at hc <;> first
          | (obtain ⟨o, ho, rfl⟩ := one1_some hc; exact h)
          | (cases hc; done))

end
end Go.Cx
