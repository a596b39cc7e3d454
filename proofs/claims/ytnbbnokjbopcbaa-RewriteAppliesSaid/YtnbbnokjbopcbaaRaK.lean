/- The law's own function answers true, whatever rewrites, filters and header it is given. -/
import Derived.Test.YtnbbnokjbopcbaaRaJ
set_option linter.all false
namespace Go.Proofs.Ytnbbnokjbopcbaa
open Go Go.Sx

theorem rw_row (xs : List Rw) : ∀ r ∈ xs.map Rw.cells, r.length = 3 ∧ ∀ u ∈ r, u.oneCell' = true := by
  intro r hr
  obtain ⟨x, _, rfl⟩ := List.mem_map.1 hr
  refine ⟨rfl, fun u hu => ?_⟩
  simp only [Rw.cells, List.mem_cons, List.not_mem_nil, or_false] at hu
  rcases hu with rfl | rfl | rfl <;> rfl

abbrev Own (base : Nat) (u : World) (v : Value) (l : Nat) (ys : List Rw) : Prop := u.ownsRow base 37 3 v l (ys.map Rw.cells).flatten

theorem own_weak {base base' : Nat} {u : World} {e : TypeId} {sz : Nat} {v : Value} {n : Nat} {xs : List Value} (h : u.ownsRow base e sz v n xs) (hb : base' ≤ base) : u.ownsRow base' e sz v n xs :=
  ⟨h.1, h.2.imp id fun ⟨g, cap, cur, h1, h2, r⟩ => ⟨g, cap, cur, h1, Nat.le_trans hb h2, r⟩⟩

/-- What holds at every point: the own rows, and what was there is there. -/
structure LS (w : World) (ρ : List Nat) (vs : List Value) (l : Nat) (ys : List Rw) (u : World) : Prop where
  fr : Fr [] w u
  owns : ∀ v ∈ vs, Own w.heap.size u v l ys
  new : ∀ x ∈ ρ, w.heap.size ≤ x
  apart : ∀ v ∈ vs, ∀ g, v.ownBlock = some g → g ∉ ρ

theorem LS.fin {w : World} {ρ : List Nat} {vs : List Value} {l : Nat} {ys : List Rw} {u u' : World} {hp : Heap} (h : LS w ρ vs l ys u) (k : wFin hp ρ u u') : LS w ρ vs l ys u' :=
  ⟨fr_fin k h.fr h.new, fun v hv => (Fr.of_fin k).row (h.owns v hv) (h.apart v hv), h.new, h.apart⟩
theorem LS.call {w : World} {ρ : List Nat} {vs : List Value} {l : Nat} {ys : List Rw} {u u' : World} (h : LS w ρ vs l ys u) (k : Fr [] u u') : LS w ρ vs l ys u' :=
  ⟨h.fr.trans k (by simp), fun v hv => k.row (h.owns v hv) (by simp), h.new, h.apart⟩
theorem LS.tok {w : World} {ρ : List Nat} {vs : List Value} {l : Nat} {ys : List Rw} {u : World} (h : LS w ρ vs l ys u) {b : Nat} (hb : wNew u b) : LS w (ρ ++ [b]) vs l ys u :=
  ⟨h.fr, h.owns, fun x hx => by
    rcases List.mem_append.1 hx with hx | hx
    · exact h.new x hx
    · simp only [List.mem_singleton] at hx; subst hx
      exact Nat.le_trans h.fr.size hb, fun v hv g hg hm => by
    rcases List.mem_append.1 hm with hm | hm
    · exact h.apart v hv g hg hm
    · simp only [List.mem_singleton] at hm; subst hm
      have := ((h.owns v hv).lt g hg).2
      unfold wNew at hb; omega⟩
theorem LS.rws {w : World} {ρ : List Nat} {vs : List Value} {l : Nat} {ys : List Rw} {u : World} (h : LS w ρ vs l ys u) {a : Option Addr} {c : Nat} (hv : Value.slice a l c ∈ vs) (hl : ys.length = l) (few : l * 32 ≤ 140737488355328) : RwsAt u a l ys := by
  obtain ⟨a', c', he, h1, _⟩ := rows_of_own (fun r hr => (rw_row ys r hr).1) (by simpa using hl) (h.owns _ hv)
  cases he
  exact ⟨h1, few⟩

theorem flat_set {sz : Nat} : ∀ (rows : List (List Value)), (∀ r ∈ rows, r.length = sz) → ∀ (i k : Nat) (r : List Value) (u : Value), rows[i]? = some r → k < sz → rows.flatten.set (i * sz + k) u = (rows.set i (r.set k u)).flatten
  | [], _, i, k, r, u, h, _ => by simp at h
  | r0 :: rows, hl, 0, k, r, u, h, hk => by
    simp at h; subst h
    have hr := hl r0 (by simp)
    simp only [List.flatten_cons, Nat.zero_mul, Nat.zero_add, List.set_cons_zero]
    rw [List.set_append_left _ _ (by omega)]
  | r0 :: rows, hl, i + 1, k, r, u, h, hk => by
    have hr := hl r0 (by simp)
    simp only [List.flatten_cons, List.set_cons_succ]
    have e : (i + 1) * sz + k - sz = i * sz + k := by rw [Nat.add_mul]; omega
    rw [List.set_append_right _ _ (by rw [hr, Nat.add_mul]; omega), hr, e, flat_set rows (fun r hr => hl r (by simp [hr])) i k r u (by simpa using h) hk]

theorem rows_set {ys : List Rw} {i k : Nat} {x x' : Rw} {u : Value} (hx : ys[i]? = some x) (hk : k < 3) (hc : x.cells.set k u = x'.cells) : (ys.map Rw.cells).flatten.set (i * 3 + k) u = ((ys.set i x').map Rw.cells).flatten := by
  rw [flat_set (ys.map Rw.cells) (fun r hr => (rw_row ys r hr).1) i k x.cells u (by rw [List.getElem?_map, hx]; rfl) hk, hc, List.map_set]

/-- A copy of rows behind nothing, in its own block. -/
theorem copied {w : World} {ρ : List Nat} {vs : List Value} {l : Nat} {ys zs : List Rw} {u wc wd : World} {hp hp' : Heap} (h : LS w ρ vs l ys wc) (hf : wFin hp ρ u wc) (few : l * 32 ≤ 140737488355328)
    (hf1 : wFin hp' ρ (wc.alloc (.cells #[] 37 (0, 0))) wd) {a : Option Addr} {c : Nat} (hz : LS w ρ vs l ys wd → RwsAt wd a l zs) (hn : a = none → l = 0 ∧ c = 0) (hv : zs = ys) :
    LS w ρ vs l ys wd ∧ ∃ a' c' w', wRun Try.prog (wAppend #[22, 22] 22 #[.slice (some ⟨wc.heap.size, 0, none⟩) 0 0, .slice a l c]) wd (.slice a' l c') w' ∧ wKeep ρ wd w' ∧ LS w ρ (.slice a' l c' :: vs) l ys w' := by
  obtain ⟨i, z, ty⟩ := rewrites_ty
  have h1 : LS w ρ vs l ys wd := (h.call (Fr.of_alloc wc _)).fin hf1
  have hlt : ∀ x ∈ ρ, x < wc.heap.size := hf.lt
  have hg : wd.heap[wc.heap.size]? = some (.cells #[] 37 (0, 0)) := (Fr.of_fin hf1).block (heap_alloc_new wc _) fun hm => absurd (hlt _ hm) (by omega)
  subst hv
  obtain ⟨v', w', h2, h3, h4⟩ := copy_run (ty' := 22) ty hg (Nat.le_refl _) (c := c) (hz h1).rows (rw_row _) hn few (by omega)
  obtain ⟨a', c', rfl, h5, h6⟩ := rows_of_own (fun r hr => (rw_row zs r hr).1) (by simpa using (hz h1).len.symm) h3
  refine ⟨h1, a', c', w', h2, h4.keep fun x hx => ⟨hf1.lt x hx, by have := hlt x hx; simp only [List.mem_singleton]; omega⟩, ?_, ?_, h.new, ?_⟩
  · exact h1.fr.trans h4 fun x hx hlt' => by
      simp only [List.mem_singleton] at hx; subst hx
      have := h.fr.size; omega
  · intro v hv
    cases hv with
    | head => exact own_weak h3 h.fr.size
    | tail _ hv =>
      refine h4.row (h1.owns v hv) fun k hk => ?_
      have := ((h.owns v hv).lt k hk).2
      simp only [List.mem_singleton]; omega
  · intro v hv g hg'
    cases hv with
    | head =>
      have h7 := (h3.lt g hg').1
      intro hm
      have := hlt g hm; omega
    | tail _ hv => exact h.apart v hv g hg'

theorem own_nil {base : Nat} {u : World} {a : Option Addr} {l c : Nat} {ys : List Rw} (h : Own base u (.slice a l c) l ys) : a = none → l = 0 ∧ c = 0 := by
  rcases h.2 with ⟨h1, h2⟩ | ⟨g, cap, cur, h1, _⟩
  · cases h1; exact fun _ => ⟨rfl, rfl⟩
  · cases h1; exact fun h => (by cases h)

theorem law_ok {a a2 : Option Addr} {l c l2 c2 : Nat} {dest : Bool} {h : Hd} {at_ : Int} {xs : List Rw} {fs : List Fl} {w : World} (hxs : RwsAt w a l xs) (hn : a = none → l = 0 ∧ c = 0) (hfs : FiltersAt w a2 l2 fs) (hh : h.In) :
    Ans 3 [.slice a l c, .slice a2 l2 c2, .bool dest, h.val, vi64 at_] w (.bool true) := by
  obtain ⟨ti, tz, ty⟩ := rewrites_ty
  refine of_law a l c a2 l2 c2 dest h.s h.d h.p h.x h.y at_ held0 ?_
  intro b hb _ wc hf
  have few := hxs.few
  have hlx := hxs.len
  have L0 : LS w [b] [] l xs w := ⟨Fr.refl _ _, by simp, by simpa using hb, by simp⟩
  have L1 := L0.fin hf
  refine ⟨_, _, _, _, build_run ty wc, keep_of hf (Fr.of_alloc _ _), fun wd hf1 => ?_⟩
  obtain ⟨_, a6, c6, w6, hrun, hkeep, L2⟩ := copied L1 hf few hf1 (fun L => hxs.fr L.fr) hn rfl
  refine ⟨a6, l, c6, w6, hrun, hkeep, fun vs u m => ∃ (i : Int) (ys : List Rw), vs = [vi64 i] ∧ 0 ≤ i ∧ i ≤ 2 ∧ ys.length = l ∧ LS w [b] [.slice a6 l c6] l ys u ∧ m = (2 - i).toNat, fun we hf2 => ⟨2, 0, xs, rfl, by omega, by omega, hlx.symm, L2.fin hf2, rfl⟩, ?_⟩
  clear hrun hkeep L2
  rintro m wb i hwb ⟨i', ys, hv, hi0, hi2, hyl, L, hm⟩
  simp only [List.cons.injEq, Value.int.injEq, true_and, and_true] at hv
  subst hv
  refine ⟨fun hlt => ?_, fun hlt w1 hf => ⟨rfl, (L.fin hf).fr⟩⟩
  simp only [wLt, decide_eq_true_eq] at hlt
  intro wc hf
  have M1 := L.fin hf
  refine ⟨_, _, _, _, build_run ty wc, keep_of hf (Fr.of_alloc _ _), fun wd hf1 => ?_⟩
  have nil6 := own_nil (M1.owns (.slice a6 l c6) (by simp))
  obtain ⟨_, a8, c8, w8, hrun, hkeep, M2⟩ := copied M1 hf few hf1 (fun L => L.rws (a := a6) (c := c6) (by simp) hyl few) nil6 rfl
  refine ⟨a8, l, c8, w8, hrun, hkeep, fun we hf2 => ?_⟩
  clear hrun hkeep
  have R6 : ∀ {ρ : List Nat} {u : World}, LS w ρ [.slice a8 l c8, .slice a6 l c6] l ys u → RwsAt u a6 l ys := fun L => L.rws (c := c6) (by simp) hyl few
  have R8 : ∀ {ρ : List Nat} {u : World}, LS w ρ [.slice a8 l c8, .slice a6 l c6] l ys u → RwsAt u a8 l ys := fun L => L.rws (c := c8) (by simp) hyl few
  have M3 := M2.fin hf2
  refine (rfirst_ok (c := c6) (c2 := c2) (dest := dest) (R6 M3) (hfs.fr M3.fr) hh).mono ?_
  rintro e1 u1 ⟨he1, hk1⟩
  have M4 := M3.call hk1
  refine ⟨_, _, he1, keep_of hf2 hk1, fun wf hf3 => ?_⟩
  have M5 := M4.fin hf3
  refine (xrfirst_ok (c := c8) (c2 := c2) (dest := dest) (R8 M5) (hfs.fr M5.fr) hh).mono ?_
  rintro e2 u2 ⟨he2, hk2⟩
  have M6 := M5.call hk2
  refine ⟨_, _, he2, keep_of hf3 hk2, fun wg hf4 => ?_⟩
  have M7 := M6.fin hf4
  refine (rapply_ok (c := c6) (c2 := c2) (dest := dest) (R6 M7) (hfs.fr M7.fr) hh).mono ?_
  rintro e3 u3 ⟨he3, hk3⟩
  have M8 := M7.call hk3
  refine ⟨_, _, _, _, _, _, he3, keep_of hf4 hk3, fun b1 hb1 _ wh hf5 => ?_⟩
  have M9 := (M8.tok hb1).fin hf5
  refine (xrapply_ok (c := c8) (c2 := c2) (dest := dest) (R8 M9) (hfs.fr M9.fr) hh).mono ?_
  rintro e4 u4 ⟨he4, hk4⟩
  have M10 := M9.call hk4
  refine ⟨_, _, _, _, _, _, he4, keep_of hf5 hk4, fun b2 hb2 _ wi hf6 => ?_⟩
  have M11 := (M10.tok hb2).fin hf6
  refine (rcheck_ok (c := c6) (c2 := c2) (R6 M11) (hfs.fr M11.fr)).mono ?_
  rintro e5 u5 ⟨he5, hk5⟩
  have M12 := M11.call hk5
  refine ⟨_, he5, keep_of hf6 hk5, fun wj hf7 => ?_⟩
  have M13 := M12.fin hf7
  refine (xrcheck_ok (c := c8) (c2 := c2) (R8 M13) (hfs.fr M13.fr)).mono ?_
  rintro e6 u6 ⟨he6, hk6⟩
  have M14 := M13.call hk6
  have nn : ∀ {k : Int} {p : Prop}, wNe k k = true → p := fun h => by simp [wNe] at h
  refine ⟨_, he6, keep_of hf7 hk6, fun h => nn h, fun _ => ⟨fun h => nn h, fun _ => ⟨fun h => nn h, fun _ wk hf8 => ?_⟩⟩⟩
  have M15 := M14.fin hf8
  refine (same_ok (h := applyF ys fs dest h)).mono ?_
  rintro e7 u7 ⟨he7, hk7⟩
  have M16 := M15.call hk7
  refine ⟨_, he7, keep_of hf8 hk7, fun h => by simp [wNot] at h, fun _ => ⟨fun h => nn h, fun _ => ?_⟩⟩
  refine ⟨fun vs u m => ∃ k : Nat, vs = [vi64 k] ∧ k ≤ l ∧ LS w ([b] ++ [b1] ++ [b2]) [.slice a8 l c8, .slice a6 l c6] l ys u ∧ m = l - k, fun wl hf9 => ⟨l, 0, rfl, by omega, M16.fin hf9, rfl⟩, ?_⟩
  clear he1 he2 he3 he4 he5 he6 he7
  rintro m1 wz k0 hwz ⟨k, hv, hkl, N, hm1⟩
  simp only [List.cons.injEq, Value.int.injEq, true_and, and_true] at hv
  subst hv
  refine ⟨fun hlt1 => ?_, fun hlt1 => ?_⟩
  · simp only [wLt, wInt, decide_eq_true_eq] at hlt1
    have hky : k < ys.length := by omega
    have hy := List.getElem?_eq_getElem hky
    generalize ys[k] = y at hy
    obtain ⟨g6, o6, ha6, hl6, hc6⟩ := (R6 N).get hy
    obtain ⟨g8, o8, ha8, hl8, hc8⟩ := (R8 N).get hy
    have p6 := N.apart (.slice a6 l c6) (by simp) g6 (by rw [ha6]; rfl)
    have p8 := N.apart (.slice a8 l c8) (by simp) g8 (by rw [ha8]; rfl)
    refine ⟨g6, o6, ha6, ⟨by omega, by omega⟩, p6, y.dest, y.nm, y.to, ⟨hc6 0 _ rfl, hc6 1 _ rfl, hc6 2 _ rfl, trivial⟩, g8, o8, ha8, ⟨by omega, by omega⟩, p8, y.dest, y.nm, y.to, ⟨hc8 0 _ rfl, hc8 1 _ rfl, hc8 2 _ rfl, trivial⟩, false, fun _ _ => rwNe_run, fun h => (by cases h), fun _ => ⟨(k : Int) + 1, wi64 (n := (k : Int) + 1) (by omega), ⟨rfl, rfl⟩, fun wl hf9 => ⟨l - (k + 1), ?_, k + 1, by simp, by omega, N.fin hf9, rfl⟩⟩⟩
    show Nat.succ _ ≤ m1
    omega
  · have fin : ∀ {ρ : List Nat} {vs : List Value} {zs : List Rw} {u : World}, zs.length = l → LS w ρ vs l zs u → (Value.slice a6 l c6) ∈ vs → b ∈ ρ → ∃ m', Nat.le (Nat.succ m') m ∧ ∃ (i' : Int) (ys : List Rw), [vi64 (i + 1)] = [vi64 i'] ∧ 0 ≤ i' ∧ i' ≤ 2 ∧ ys.length = l ∧ LS w [b] [.slice a6 l c6] l ys u ∧ m' = (2 - i').toNat := by
      intro ρ vs zs u hz LL hv hbρ
      refine ⟨(2 - (i + 1)).toNat, ?_, i + 1, zs, rfl, by omega, by omega, hz, ⟨LL.fr, fun v hv' => ?_, fun x hx => ?_, fun v hv' g hg hm => ?_⟩, rfl⟩
      · show Nat.succ _ ≤ m
        omega
      · simp only [List.mem_singleton] at hv'; subst hv'; exact LL.owns _ hv
      · simp only [List.mem_singleton] at hx; subst hx; exact LL.new _ hbρ
      · simp only [List.mem_singleton] at hv' hm; subst hv' hm; exact LL.apart _ hv g hg hbρ
    have hi3 : wWrap .i64 (wPlus i 1) (i + 1) := wi64 (n := i + 1) (by omega)
    refine ⟨fun hg0 => ⟨fun hg1 => ?_, fun hg1 => ⟨i + 1, hi3, ⟨rfl, rfl⟩, fun wl hf9 => fin hyl (N.fin hf9) (by simp) (by simp)⟩⟩, fun hg0 => ⟨i + 1, hi3, ⟨rfl, rfl⟩, fun wl hf9 => fin hyl (N.fin hf9) (by simp) (by simp)⟩⟩
    simp only [wGe, wLt, wInt, decide_eq_true_eq] at hg0 hg1
    obtain ⟨k, rfl⟩ := Int.eq_ofNat_of_zero_le hg0
    have hky : k < ys.length := by omega
    have hy := List.getElem?_eq_getElem hky
    generalize ys[k] = y at hy
    have own6 := N.owns (.slice a6 l c6) (by simp)
    obtain ⟨g, hag⟩ : ∃ g, a6 = some (ad g 0) := by
      rcases own6.2 with ⟨h1, h2⟩ | ⟨g, cap, cur, h1, _⟩
      · omega
      · cases h1; exact ⟨g, rfl⟩
    subst hag
    have p6 := N.apart (.slice (some (ad g 0)) l c6) (by simp) g rfl
    have get : ∀ {ρ : List Nat} {vs : List Value} {zs : List Rw} {u : World} {z : Rw}, LS w ρ vs l zs u → (Value.slice (some (ad g 0)) l c6) ∈ vs → zs[k]? = some z → zs.length = l → ∀ j v, z.cells[j]? = some v → wCell u g (0 + k * 3 + j) v := by
      intro ρ vs zs u z L hv hz hzl j v hj
      obtain ⟨g', o', ha', _, hc'⟩ := (L.rws hv hzl few).get hz
      cases ha'
      exact hc' j v hj
    refine ⟨g, 0, rfl, ⟨by omega, by omega⟩, p6, y.dest, get N (by simp) hy hyl 0 _ rfl, g, 0, rfl, ⟨by omega, by omega⟩, fun wl hf9 => ?_⟩
    have N1 := N.fin hf9
    have o1 := N1.owns (.slice (some (ad g 0)) l c6) (by simp)
    obtain ⟨s1, s2⟩ := o1.stored (k * 3) (.bool (!y.dest))
    have hrow : (ys.map Rw.cells).flatten.set (k * 3 + 0) (.bool (!y.dest)) = ((ys.set k { y with dest := !y.dest }).map Rw.cells).flatten := rows_set hy (by decide) rfl
    rw [Nat.add_zero] at hrow
    rw [hrow] at s1
    have lt1 := (o1.lt g rfl).1
    have N2 : LS w ([b] ++ [b1] ++ [b2]) [.slice (some (ad g 0)) l c6] l (ys.set k { y with dest := !y.dest }) (wl.setCell ⟨g, k * 3, none⟩ (.bool (!y.dest))) :=
      ⟨N1.fr.trans (Fr.of_grown s2) fun x hx _ => by simp at hx; subst hx; omega, fun v hv => by simp only [List.mem_singleton] at hv; subst hv; exact s1, N1.new, fun v hv g' hg' => N1.apart v (by simp only [List.mem_singleton] at hv; subst hv; simp) g' hg'⟩
    have e0 : 0 + (k : Int).toNat * 3 + 0 = k * 3 := by simp
    refine ⟨wl.setCell ⟨g, k * 3, none⟩ (.bool (!y.dest)), ?_, (Fr.of_grown s2).keep fun x hx => ⟨hf9.lt x hx, fun hm => ?_⟩, g, 0, rfl, ⟨by omega, by omega⟩, p6, y.to, get (z := { y with dest := !y.dest }) N2 (by simp) (by simp [hky]) (by simpa using hyl) 2 _ rfl, IntKind.u32.wrap (y.to + 1), rfl, g, 0, rfl, ⟨by omega, by omega⟩, fun wm hf10 => ?_⟩
    · have := store_run (t := 4) o1 (j := k * 3) (by omega) (u := .bool (!y.dest)) rfl (sizeBool _) rfl
      simpa [wAdd, wMul, wNot] using this
    · simp at hm; subst hm; exact p6 hx
    have N3 := N2.fin hf10
    have o2 := N3.owns (.slice (some (ad g 0)) l c6) (by simp)
    obtain ⟨s3, s4⟩ := o2.stored (k * 3 + 2) (vu32 (IntKind.u32.wrap (y.to + 1)))
    rw [rows_set (x := { y with dest := !y.dest }) (x' := { y with dest := !y.dest, to := IntKind.u32.wrap (y.to + 1) }) (by simp [hky]) (by decide) rfl] at s3
    have N4 : LS w ([b] ++ [b1] ++ [b2]) [.slice (some (ad g 0)) l c6] l ((ys.set k { y with dest := !y.dest }).set k { y with dest := !y.dest, to := IntKind.u32.wrap (y.to + 1) }) (wm.setCell ⟨g, k * 3 + 2, none⟩ (vu32 (IntKind.u32.wrap (y.to + 1)))) :=
      ⟨N3.fr.trans (Fr.of_grown s4) fun x hx _ => by simp at hx; subst hx; omega, fun v hv => by simp only [List.mem_singleton] at hv; subst hv; exact s3, N3.new, fun v hv g' hg' => N3.apart v hv g' hg'⟩
    refine ⟨wm.setCell ⟨g, k * 3 + 2, none⟩ (vu32 (IntKind.u32.wrap (y.to + 1))), ?_, (Fr.of_grown s4).keep fun x hx => ⟨hf10.lt x hx, fun hm => ?_⟩, i + 1, hi3, ⟨rfl, rfl⟩, fun wn hf11 => fin (by simpa using hyl) (N4.fin hf11) (by simp) (by simp)⟩
    · have := store_run (t := 25) o2 (j := k * 3 + 2) (by omega) (u := vu32 (IntKind.u32.wrap (y.to + 1))) rfl (sizeAddr _) rfl
      simpa [wAdd, wMul] using this
    · simp at hm; subst hm; exact p6 hx

end Go.Proofs.Ytnbbnokjbopcbaa
