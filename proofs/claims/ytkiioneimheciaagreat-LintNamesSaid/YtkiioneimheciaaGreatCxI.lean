/- The doer is right, part 6: an operation that acts, whichever it is. -/
import Derived.Test.YtkiioneimheciaaGreatCxH
set_option linter.all false
namespace Go.Cx
open Go Go.Sx

section
variable {P : Program} {Y : Tys} {τ : Tau} {K : Nat → Prop} {w0 w : World} {a : Act}

/-- What an operation that acts comes to. -/
def Did (P : Program) (K : Nat → Prop) (w0 : World) (τ : Tau) (st st' : St) (s : Sem Next) (w : World) (v : CV) (nd : List Tk) : Prop :=
  ∃ τ' w' x, τ.le τ' ∧ v.rel τ' x ∧ (s.run P w = .ok (.value x) w' ∨ (s.run P w = .ok .skip w' ∧ x = undef)) ∧ Hp.ok K w0 τ' st'.h w' ∧ st'.sl = st.sl ∧ Mv st st' nd

theorem Did.still {st : St} {s : Sem Next} {v : CV} {x : Value} (H : Hp.ok K w0 τ st.h w) (hr : v.rel τ x) (h : s.run P w = .ok (.value x) w) : Did P K w0 τ st st s w v [] :=
  ⟨τ, w, x, Tau.le.refl τ, hr, .inl h, H, rfl, Mv.refl st⟩

theorem undef_rel : CV.rel τ undefC undef := ⟨[], rfl, rfl⟩

theorem lift_v {o : Oper} {s : Sem Value} {x : Value} {w' : World} (h1 : semV a.eval o = some s) (h2 : s.run P w = .ok x w') : (execOp a.eval o).run P w = .ok (.value x) w' := by
  rw [semV_exec h1]; simp [h2]
theorem lift_u {o : Oper} {s : Sem Unit} {w' : World} (h1 : semU a.eval o = some s) (h2 : s.run P w = .ok () w') : (execOp a.eval o).run P w = .ok .skip w' := by
  rw [semU_exec h1]; simp [h2]

theorem zeros_size (z : Array Value) (n : Nat) : (Builtin.zeroCells z n).size = n * z.size := by simp [Builtin.zeroCells]

theorem app_ok (hY : TysOk P Y) {st st' : St} (H : Hp.ok K w0 τ st.h w) {t ty el : TypeId} {e ee : TE} (he : lk Y.T t = some e) (hd : e.d = .slice el) (hee : lk Y.T el = some ee) (hz : 0 < ee.size) {z : CV} (hzc : zeroC ee = some z) (hzl : z.cells.length = ee.size)
    {u1 u2 v : CV} {x y : Value} (hx : u1.rel τ x) (hy : u2.rel τ y) (h : appC st el ee.size ee.bytes u1 u2 = some (v, st')) :
    ∃ τ' w' r nd, τ.le τ' ∧ v.rel τ' r ∧ (Builtin.append_ #[t, t] ty #[x, y]).run P w = .ok r w' ∧ Hp.ok K w0 τ' st'.h w' ∧ st'.sl = st.sl ∧ Mv st st' nd := by
  have hdep : (4294967296 : Nat) < 2 ^ depth := by decide
  have hok := Tab.get_ok hY.tab he
  have hok' := Tab.get_ok hY.tab hee
  have hu : P.underlying t = some (.slice el) := by rw [hok.und, hd]
  obtain ⟨i, hi, his, hib, hiz⟩ := hok'.info
  have hzsz : ee.zero.cells.size = ee.size := by
    rw [← hzl, ← Array.length_toList, rels_length (cells_rel (τ := τ) (ofVal_rel 9 hzc))]
  have new : ∀ {st1 : St} {cells : T CV} {xo xn : List Value} {need cap : Nat}, Hp.ok K w0 τ st1.h w → (∀ (i : Nat) (v : CV), i < need * ee.size → cells.get (at_ i) = some v → ∃ x, (xo ++ xn)[i]? = some x ∧ v.rel τ x) → (xo ++ xn).length = need * ee.size → need * ee.size < 2 ^ depth →
      newC st1 (.cells ⟨cells, need * ee.size, el, ee.size, none⟩) (.slc · 0 need 0) = some (v, st') →
      ∃ τ', τ.le τ' ∧ v.rel τ' (.slice (some ⟨w.heap.size, 0, none⟩) need (grownCap w need cap el)) ∧ Hp.ok K w0 τ' st'.h (w.drew.alloc (.cells (xo.toArray ++ xn.toArray ++ Builtin.zeroCells ee.zero.cells (grownCap w need cap el - need)) el)) ∧ st'.sl = st1.sl ∧ Mv st1 st' [] := by
    intro st1 cells xo xn need cap H1 hgt hl hs h
    have hcap : need ≤ grownCap w need cap el := by unfold grownCap Question.cut; exact Nat.le_add_right _ _
    have hle : τ.le (τ.more st1.h.next w.heap.size (grownCap w need cap el)) := fun s p e => by
      simp only [Tau.more]; rw [if_neg]
      · exact e
      · intro hh; have := H1.dom s p e; rw [hh] at this; omega
    have hob : Ob.ok (τ.more st1.h.next w.heap.size (grownCap w need cap el)) (w.drew.alloc (.cells (xo.toArray ++ xn.toArray ++ Builtin.zeroCells ee.zero.cells (grownCap w need cap el - need)) el)) w.heap.size (grownCap w need cap el) (.cells ⟨cells, need * ee.size, el, ee.size, none⟩) := by
      refine newBlk_okG (xs := xo ++ xn) (extra := (Builtin.zeroCells ee.zero.cells (grownCap w need cap el - need)).toList) (fun i v hi hv => ?_) hl ?_ ?_ (fun n hn => by cases hn) hs
      · obtain ⟨x, hx, hr⟩ := hgt i v hi hv
        exact ⟨x, hx, hr.mono hle⟩
      · show ((w.drew.heap.push _))[w.heap.size]? = _
        rw [show w.drew.heap = w.heap from rfl, Array.getElem?_push, if_pos rfl]
        congr 2
        apply Array.ext'; simp
      · rw [List.length_append, hl, Array.length_toList, zeros_size, hzsz, ← Nat.add_mul]
        congr 1; omega
    obtain ⟨g1, g2, g3, g4, g5, g6⟩ := newC_ok (w1 := w.drew) H1 rfl rfl rfl rfl h hob
    exact ⟨_, g1, by rw [g5]; exact ⟨_, _, g6, by rw [Nat.sub_zero]⟩, g2, g3, g4⟩
  unfold appC at h
  split at h
  · cases h
  · rename_i hs0
    -- nothing is appended
    have hy0 : ∃ b m, y = .slice b 0 m := by
      cases u2 <;> simp [slen] at hs0
      · cases hy; exact ⟨_, _, rfl⟩
      · subst hs0; obtain ⟨b, c, _, rfl⟩ := hy; exact ⟨_, _, rfl⟩
    obtain ⟨yb, ym, rfl⟩ := hy0
    have hfc : ∀ w, (Builtin.firstCells ee.size 0 (.slice yb 0 ym)).run P w = .ok #[] w := fun w => by
      cases yb <;> simp [Builtin.firstCells, loadCells, loadCellsFrom]
    split at h
    · cases h; cases hx
      refine ⟨τ, w, .slice none 0 0, [], Tau.le.refl τ, rfl, ?_, H, rfl, Mv.refl st⟩
      simp [Builtin.append_, hok.run, hd, hok'.sz, Builtin.lenOf, hfc]
    · rename_i tk o l q
      split at h
      · rename_i k hk
        simp only [blkAt] at hk
        split at hk
        · rename_i k' hg
          cases hk
          cases hc : (Nat.beq k.esz ee.size && Nat.ble ((q + l) * ee.size) k.len)
          · rw [hc] at h; cases h
          · rw [hc] at h; cases h
            simp only [Bool.and_eq_true] at hc
            have c1 := Nat.eq_of_beq_eq_true hc.1
            have c2 := Nat.le_of_ble_eq_true hc.2
            have hx' := hx
            obtain ⟨b, c, h1, rfl⟩ := hx
            obtain ⟨b', c', h5, h6, ⟨arr, a1, a2, a3, a4, a5⟩, h8⟩ := H.live tk _ hg
            rw [h1] at h5; cases h5
            have hcap : q + l ≤ c := Nat.le_of_mul_le_mul_right (by rw [← c1, ← a4, c1]; omega) hz
            refine ⟨τ, w, _, [], Tau.le.refl τ, hx', ?_, H, rfl, Mv.refl st⟩
            have : l ≤ c - q := by omega
            simp [Builtin.append_, hok.run, hd, hok'.sz, Builtin.lenOf, hfc, this, storeCells]
        · cases hk
      · cases h
    · cases h
  · rename_i n hsn
    split at h
    · cases h
    · rename_i news hnews
      obtain ⟨hnl, xn, hnr, hny⟩ := elems_of H hnews hy
      have hylen : ∃ yb yc, y = .slice (some yb) (n + 1) yc ∧ ∀ (j : Nat) (v : Value), xn[j]? = some v → w.cell? (yb.add j) = some v := by
        rcases hny with ⟨h0, _⟩ | ⟨b, o, m, cap, rfl, hm, hcell⟩
        · omega
        · cases u2 <;> simp [slen] at hsn
          subst hsn
          obtain ⟨b', c', _, he'⟩ := hy
          cases he'
          exact ⟨_, _, rfl, hcell⟩
      obtain ⟨yb, yc, rfl, hcell⟩ := hylen
      cases hpl : news.all CV.plain
      · rw [hpl] at h; cases h
      · rw [hpl] at h
        simp only [cond_true] at h
        have hxl : xn.length = (n + 1) * i.size := by rw [rels_length hnr, hnl, his]
        split at h
        · cases hx
          cases hc : (Nat.ble (n + 1) 9223372036854775807 && Nat.ble ((n + 1) * ee.bytes) 140737488355328 && Nat.ble ((n + 1) * ee.size) 4294967296)
          · rw [hc] at h; cases h
          · rw [hc] at h
            simp only [cond_true] at h
            simp only [Bool.and_eq_true] at hc
            have c1 := Nat.le_of_ble_eq_true hc.1.1
            have c2 := Nat.le_of_ble_eq_true hc.1.2
            have c3 := Nat.le_of_ble_eq_true hc.2
            have hsm : news.length < 2 ^ depth := by rw [hnl]; omega
            have hrun := run_append_nil (P := P) w t ty el i ee.zero hu hi hiz yb (n + 1) yc xn hxl hcell (by omega) (by omega) (by rw [hib]; omega)
            obtain ⟨τ', g1, g2, g3, g4, g5⟩ := new (st1 := st) (cells := layT 0 news .nil) (xo := []) (xn := xn) (cap := 0) H (fun i' v' hi' hv' => by
              rw [layT_get news 0 .nil i' (by rw [hnl]; omega) (by omega), if_pos (by rw [hnl]; omega)] at hv'
              obtain ⟨x', hx', hr'⟩ := rels_get hnr (by simpa using hv')
              exact ⟨x', by simpa using hx', hr'⟩) (by simpa [rels_length hnr] using hnl) (by omega) h
            refine ⟨τ', _, _, [], g1, g2, hrun, ?_, g4, g5⟩
            simpa using g3
        · rename_i tk o l q
          split at h
          · rename_i k hk
            simp only [blkAt] at hk
            split at hk
            · rename_i k' hg
              cases hk
              cases hc : (Nat.beq k.esz ee.size && Nat.ble ((q + l) * ee.size) k.len)
              · rw [hc] at h; cases h
              · rw [hc] at h
                simp only [cond_true] at h
                simp only [Bool.and_eq_true] at hc
                have c1 := Nat.eq_of_beq_eq_true hc.1
                have c2 := Nat.le_of_ble_eq_true hc.2
                obtain ⟨b, c, h1, rfl⟩ := hx
                have hlive := H.live tk _ hg
                obtain ⟨b', c', h5, h6, hkok⟩ := hlive
                rw [h1] at h5; cases h5
                obtain ⟨⟨arr, a1, a2, a3, a4, a5⟩, h8⟩ := hkok
                have hcap : q + l ≤ c := Nat.le_of_mul_le_mul_right (by rw [← c1, ← a4, c1]; omega) hz
                cases hin : (Nat.ble ((q + l + (n + 1)) * ee.size) k.len && Nat.ble (o + (l + (n + 1)) * ee.size) k.len)
                · rw [hin] at h
                  simp only [cond_false] at h
                  cases hb : (Nat.ble (l + (n + 1)) 9223372036854775807 && Nat.ble ((l + (n + 1)) * ee.bytes) 140737488355328 && Nat.ble ((l + (n + 1)) * ee.size) 4294967296)
                  · rw [hb] at h; cases h
                  · rw [hb] at h
                    simp only [cond_true] at h
                    simp only [Bool.and_eq_true] at hb
                    have b1 := Nat.le_of_ble_eq_true hb.1.1
                    have b2 := Nat.le_of_ble_eq_true hb.1.2
                    have b3 := Nat.le_of_ble_eq_true hb.2
                    cases ho0 : Nat.beq o 0
                    · rw [ho0] at h; cases h
                    · rw [ho0] at h
                      simp only [cond_true] at h
                      have q1 := Nat.eq_of_beq_eq_true ho0
                      subst q1
                      -- what lies there already
                      have hlk : l * ee.size ≤ k.len := Nat.le_trans (Nat.mul_le_mul_right _ (by omega)) c2
                      have hxl0 : (arr.toList.take (l * ee.size)).length = l * ee.size := by rw [List.length_take, Array.length_toList]; omega
                      obtain ⟨xo, hxoe⟩ : ∃ xo, xo = arr.toList.take (l * ee.size) := ⟨_, rfl⟩
                      rw [← hxoe] at hxl0
                      have hxog : ∀ j, j < l * ee.size → xo[j]? = arr[j]? := fun j hj => by rw [hxoe, List.getElem?_take, if_pos hj]; simp
                      have hxol : xo.length = l * i.size := by rw [hxl0, his]
                      have hocell' : ∀ j v, xo[j]? = some v → w.cell? (Addr.add ⟨b, 0, none⟩ j) = some v := fun j v hj => by
                        rw [add_plain, Nat.zero_add]
                        have hjl : j < l * ee.size := by rw [← hxl0]; exact (List.getElem?_eq_some_iff.1 hj).1
                        rw [hxog j hjl] at hj
                        simp only [World.cell?, a1]; simpa using hj
                      have hll : (xo ++ xn).length = (l + (n + 1)) * ee.size := by rw [List.length_append, hxl0, rels_length hnr, hnl, ← Nat.add_mul]
                      have hgt : ∀ (i' : Nat) (v' : CV), i' < (l + (n + 1)) * ee.size → (layT (l * ee.size) news k.cells).get (at_ i') = some v' → ∃ x, (xo ++ xn)[i']? = some x ∧ v'.rel τ x := fun i' v' hi' hv' => by
                        have hmul : (l + (n + 1)) * ee.size = l * ee.size + (n + 1) * ee.size := Nat.add_mul _ _ _
                        rw [layT_get news _ k.cells i' (by rw [hnl]; omega) (by omega)] at hv'
                        by_cases hin : l * ee.size ≤ i'
                        · rw [if_pos ⟨hin, by rw [hnl]; omega⟩] at hv'
                          obtain ⟨x', hx', hr'⟩ := rels_get hnr hv'
                          exact ⟨x', by rw [List.getElem?_append_right (by omega), hxl0]; exact hx', hr'⟩
                        · rw [if_neg (by omega)] at hv'
                          obtain ⟨x', hx', hr'⟩ := a2 i' v' (by omega) hv'
                          exact ⟨x', by rw [List.getElem?_append_left (by omega), hxog i' (by omega)]; exact hx', hr'⟩
                      have hgrow := fun (hg' : c - q < l + (n + 1)) => run_append_grow (P := P) w t ty el i ee.zero hu hi hiz ⟨b, 0, none⟩ l (c - q) xo hxol hocell' yb (n + 1) yc xn hxl hcell hg' (by omega) (by rw [hib]; exact growslice_fits (by omega) b2)
                      split at h
                      · rename_i cn hcn
                        cases hlt : Nat.blt cn (q + l + (n + 1))
                        · rw [hlt] at h; cases h
                        · rw [hlt] at h
                          simp only [cond_true] at h
                          have hlt' : cn < q + l + (n + 1) := by simpa using hlt
                          obtain ⟨e1, e2⟩ := a5 cn hcn
                          subst e1
                          obtain ⟨τ', g1, g2, g3, g4, g5⟩ := new (st1 := st) (xo := xo) (xn := xn) (cap := c - q) H hgt hll (by omega) h
                          exact ⟨τ', _, _, [], g1, g2, hgrow (by omega), g3, g4, g5⟩
                      · rename_i hcn
                        cases hq : (Nat.beq q 0 && Nat.beq (l * ee.size) k.len && Nat.beq k.elem el)
                        · rw [hq] at h; cases h
                        · rw [hq] at h
                          simp only [cond_true] at h
                          simp only [Bool.and_eq_true] at hq
                          have q2 := Nat.eq_of_beq_eq_true hq.1.1
                          have q3 := Nat.eq_of_beq_eq_true hq.1.2
                          have q4 := Nat.eq_of_beq_eq_true hq.2
                          subst q2
                          simp only [Nat.sub_zero] at hgrow ⊢
                          -- without the old block
                          have Hd : Hp.ok K w0 τ ⟨T.put none tk st.h.at_, st.h.next⟩ w := by
                            refine ⟨H.toOld, H.dom, fun u qq e => ?_, fun u v' qq q' x' c1' c2' hne e1 e2 k1 k2 => ?_⟩
                            · simp only [T.get_put] at e
                              split at e
                              · cases e
                              · exact H.live u qq e
                            · simp only [T.get_put] at e1 e2
                              split at e1
                              · cases e1
                              · split at e2
                                · cases e2
                                · exact H.inj u v' qq q' x' c1' c2' hne e1 e2 k1 k2
                          have hmv : Mv st { st with h := ⟨T.put none tk st.h.at_, st.h.next⟩, dirty := tk :: st.dirty } [tk] := ⟨rfl, fun p o' hp ho => by
                            simp only [T.get_put]; rw [if_neg (by simpa using hp)]; exact ho⟩
                          by_cases hroom : l + (n + 1) ≤ c
                          · -- in its place
                            have hsz : arr.size = c * ee.size := by rw [a4, c1]
                            have hfit : l * ee.size + xn.length ≤ arr.size := by
                              rw [hxl, his, hsz, ← Nat.add_mul]; exact Nat.mul_le_mul_right _ hroom
                            obtain ⟨w', s1, s2, s3, s4, s5, s6, s7⟩ := stores_run (P := P) (l * ee.size) xn (plains_one hpl hnr) arr a1 hfit
                            have hf := run_firstCells_some (P := P) w i.size (n + 1) yb (n + 1) yc xn hxl hcell
                            rw [his] at hf
                            have hrun : (Builtin.append_ #[t, t] ty #[.slice (some ⟨b, 0, none⟩) l c, .slice (some yb) (n + 1) yc]).run P w = .ok (.slice (some ⟨b, 0, none⟩) (l + (n + 1)) c) w' := by
                              have hroom' : l + (n + 1) ≤ c := hroom
                              simp [Builtin.append_, hok.run, hd, hok'.sz, Builtin.lenOf, hroom', hf, add_plain, s1]
                            rw [newC_eq] at h
                            simp only [Option.some.injEq, Prod.mk.injEq] at h
                            obtain ⟨rfl, rfl⟩ := h
                            have hne : ∀ u p, τ u = some p → u ≠ st.h.next := fun u p e hh => by have := H.dom u p e; rw [hh] at this; omega
                            have hle : τ.le (τ.more st.h.next b c) := fun u p e => by
                              simp only [Tau.more]; rw [if_neg (hne u p e)]; exact e
                            have hget : ∀ i', (setRange arr.toList (l * ee.size) xn)[i']? = if l * ee.size ≤ i' ∧ i' < l * ee.size + xn.length then xn[i' - l * ee.size]? else arr[i']? := fun i' => by
                              rw [setRange_get xn arr.toList _ i' (by simp; omega)]; simp
                            have hok2 : Ob.ok (τ.more st.h.next b c) w' b c (.cells ⟨layT (l * ee.size) news k.cells, (l + (n + 1)) * ee.size, el, ee.size, none⟩) := by
                              have hmul : (l + (n + 1)) * ee.size = l * ee.size + (n + 1) * ee.size := Nat.add_mul _ _ _
                              refine ⟨⟨_, by rw [s2, q4], fun i' v' hi' hv' => ?_, ?_, ?_, fun n' hn' => by cases hn'⟩, by show (l + (n + 1)) * ee.size < 2 ^ depth; omega⟩
                              · have hi' : i' < (l + (n + 1)) * ee.size := hi'
                                simp only at hv'
                                obtain ⟨x', hx', hr'⟩ := hgt i' v' hi' hv'
                                simp only [List.getElem?_toArray, hget]
                                refine ⟨x', ?_, hr'.mono hle⟩
                                by_cases hin : l * ee.size ≤ i'
                                · rw [if_pos ⟨hin, by rw [rels_length hnr, hnl]; omega⟩]
                                  rw [List.getElem?_append_right (by omega), hxl0] at hx'; exact hx'
                                · rw [if_neg (by omega)]
                                  rw [List.getElem?_append_left (by omega), hxog i' (by omega)] at hx'; exact hx'
                              · show (l + (n + 1)) * ee.size ≤ _
                                simp [setRange_length, hsz]; exact Nat.mul_le_mul_right _ hroom
                              · simp [setRange_length, hsz]
                            refine ⟨τ.more st.h.next b c, w', _, [tk], hle, ⟨b, c, by simp [Tau.more], by rw [Nat.sub_zero]⟩, hrun, ⟨⟨by rw [s4]; exact H.size, H.kin, fun x' hx' => by rw [s3 x' (fun e => h6 (e ▸ hx'))]; exact H.same x' hx', s5.trans H.os, s6.trans H.tape, s7.trans H.output⟩, fun u p e => ?_, fun u qq e => ?_, fun u v' qq q' x' c1' c2' hne' e1 e2 k1 k2 => ?_⟩, rfl, ?_⟩
                            · simp only [Tau.more] at e
                              simp only [num_inc]
                              split at e
                              · rename_i hh; subst hh; omega
                              · have := H.dom u p e; omega
                            · simp only [T.get_put] at e
                              split at e
                              · rename_i hh; subst hh; cases e
                                exact ⟨b, c, by simp [Tau.more], h6, hok2⟩
                              · split at e
                                · cases e
                                · rename_i hut
                                  obtain ⟨x', c1', k1, k2, k3⟩ := H.live u qq e
                                  refine ⟨x', c1', hle _ _ k1, k2, (k3.mono hle).of_same (s3 x' fun e' => ?_)⟩
                                  subst e'
                                  exact H.inj u tk qq _ x' c1' c hut e hg k1 h1
                            · simp only [T.get_put] at e1 e2
                              split at e1
                              · rename_i hh; subst hh
                                split at e2
                                · rename_i hh; exact hne' hh.symm
                                · split at e2
                                  · cases e2
                                  · rename_i hvt
                                    obtain ⟨x2, c3, k3, k4, k5⟩ := H.live v' _ e2
                                    rw [hle _ _ k3] at k2; cases k2
                                    simp only [Tau.more, if_true] at k1; cases k1
                                    exact H.inj v' tk _ _ b _ _ hvt e2 hg k3 h1
                              · split at e1
                                · cases e1
                                · rename_i hut
                                  obtain ⟨x1, c4, k6, k7, k8⟩ := H.live u _ e1
                                  rw [hle _ _ k6] at k1; cases k1
                                  split at e2
                                  · rename_i hh; subst hh
                                    simp only [Tau.more, if_true] at k2; cases k2
                                    exact H.inj u tk _ _ b _ _ hut e1 hg k6 h1
                                  · split at e2
                                    · cases e2
                                    · rename_i hvt
                                      obtain ⟨x2, c3, k3, k4, k5⟩ := H.live v' _ e2
                                      rw [hle _ _ k3] at k2; cases k2
                                      exact H.inj u v' _ _ _ _ _ hne' e1 e2 k6 k3
                            · refine ⟨rfl, fun p o' hp ho => ?_⟩
                              simp only [T.get_put]
                              obtain ⟨x', c1', k1, _, _⟩ := H.live p o' ho
                              rw [if_neg (hne p _ k1), if_neg (by simpa using hp)]
                              exact ho
                          · obtain ⟨τ', g1, g2, g3, g4, g5⟩ := new (st1 := { st with h := ⟨T.put none tk st.h.at_, st.h.next⟩, dirty := tk :: st.dirty }) (xo := xo) (xn := xn) (cap := c) Hd hgt hll (by omega) h
                            exact ⟨τ', _, _, _, g1, g2, hgrow (by omega), g3, g4, hmv.trans g5⟩
                · rw [hin] at h
                  simp only [cond_true] at h
                  simp only [Bool.and_eq_true] at hin
                  have i1 := Nat.le_of_ble_eq_true hin.1
                  have i2 := Nat.le_of_ble_eq_true hin.2
                  split at h
                  · rename_i st2 hst
                    simp only [Option.some.injEq, Prod.mk.injEq] at h
                    obtain ⟨rfl, rfl⟩ := h
                    obtain ⟨w', s1, s2, s3, s4⟩ := store_ok (P := P) H hg hst hnr h1
                    have hf := run_firstCells_some (P := P) w i.size (n + 1) yb (n + 1) yc xn hxl hcell
                    rw [his] at hf
                    have hcap2 : q + l + (n + 1) ≤ c := Nat.le_of_mul_le_mul_right (by rw [← c1, ← a4, c1]; omega) hz
                    refine ⟨τ, w', _, [tk], Tau.le.refl τ, ⟨b, c, h1, rfl⟩, ?_, s2, s3, s4⟩
                    have hroom' : l + (n + 1) ≤ c - q := by omega
                    simp [Builtin.append_, hok.run, hd, hok'.sz, Builtin.lenOf, hroom', hf, add_plain, s1]
                  · cases h
            · cases hk
          · cases h
        · cases h
      

end
end Go.Cx
