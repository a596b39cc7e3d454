/- The arguments, read: rows of rewrites, of filters, of rules. -/
import Derived.Test.YtnbbnokjbopcbaaRaK
import Derived.Deep.Slices
import Derived.ChangeArms
import Derived.SizedLaws
set_option linter.all false
namespace Go.Proofs.Ytnbbnokjbopcbaa
open Go Go.Sx Go.ChangeShapes Go.WideShapes

section
variable {H : Type} {enc : TypeId × Value → H} {w : World}

abbrev Rd (enc : TypeId × Value → H) (w : World) (n : Nat) (t : TypeId) (cs : List Value) (y : DataW H × List MemPlace) : Prop := DataW.trod enc Try.prog w 0 (fun _ => true) true n t cs = some y
abbrev Wt (t : TypeId) (d : DataW H) : Prop := (d.weights Try.prog t).all (· ≤ reachBytes) = true

theorem choose_list {α : Type} {P : Nat → α → Prop} : ∀ (n : Nat), (∀ i, i < n → ∃ x, P i x) → ∃ xs : List α, xs.length = n ∧ ∀ i x, xs[i]? = some x → P i x
  | 0, _ => ⟨[], rfl, fun i x h => by simp at h⟩
  | n + 1, h => by
    obtain ⟨xs, h1, h2⟩ := choose_list n fun i hi => h i (by omega)
    obtain ⟨x, hx⟩ := h n (by omega)
    refine ⟨xs ++ [x], by simp [h1], fun i y hy => ?_⟩
    rcases Nat.lt_or_ge i xs.length with hi | hi
    · rw [List.getElem?_append_left hi] at hy; exact h2 i y hy
    · rw [List.getElem?_append_right hi] at hy
      have : i - xs.length = 0 := by
        rcases Nat.eq_zero_or_pos (i - xs.length) with h0 | h0
        · exact h0
        · rw [List.getElem?_eq_none (by simp; omega)] at hy; cases hy
      rw [this] at hy
      simp at hy; subst hy
      have : i = n := by omega
      subst this; exact hx

theorem wt_all {t : TypeId} : ∀ {ds : List (DataW H)}, (DataW.weightsAll Try.prog t ds).all (· ≤ reachBytes) = true → ∀ d ∈ ds, Wt t d
  | [], _, d, hd => by cases hd
  | d0 :: r, h, d, hd => by
    rw [DataW.weightsAll, List.all_append, Bool.and_eq_true] at h
    cases hd with
    | head => exact h.1
    | tail _ hd => exact wt_all h.2 d hd

/-- A slice, read: its elements, each with its cells. -/
theorem open_rows {t e : TypeId} {fuel : Nat} {v : Value} {x : DataW H × List MemPlace} (ht : Try.prog.underlying t = some (.slice e)) (h : Rd enc w fuel t [v] x) (hw : Wt t x.1) :
    v = .slice none 0 0 ∨ ∃ a len cap, v = .slice (some a) len cap ∧ len * Try.prog.bytesOf e ≤ reachBytes ∧
      ∀ i, i < len → ∃ n cs y, cs.length = Try.prog.cellsOf e ∧ Rd enc w n e cs y ∧ Wt e y.1 ∧ (0 < cs.length → ∃ b o, some a = some (ad b o) ∧ b < w.heap.size ∧ ∀ k u, cs[k]? = some u → wCell w b (o + i * Try.prog.cellsOf e + k) u) := by
  rcases Deep.open_slice ht h with ⟨h1, _⟩ | ⟨a, len, cap, m, n, D, Pl, h1, _, h2, _, hm, rfl, hx⟩
  · exact .inl (by simpa using h1)
  right
  refine ⟨a, len, cap, by simpa using h1, ?_, fun i hi => ?_⟩
  · have : (((List.range len).map D).length + ((List.range (m - len)).map fun j => D (len + j)).length) * Try.prog.bytesOf e ∈ (DataW.slice ((List.range len).map D) ((List.range (m - len)).map fun j => D (len + j)) : DataW H).weights Try.prog t := by
      rw [DataW.weights, ht]; exact List.mem_cons_self
    have h3 := List.all_eq_true.1 hw _ this
    simp only [List.length_map, List.length_range, decide_eq_true_eq] at h3
    exact Nat.le_trans (Nat.mul_le_mul_right _ (by omega)) h3
  · have him : i < m := by rw [hm]; simp; omega
    obtain ⟨cs, h4, h5⟩ := hx i him
    obtain ⟨h6, h7, h8⟩ := World.cells?_some h4
    refine ⟨n, cs, (D i, Pl i), h7, h5, ?_, fun hpos => ?_⟩
    · have hall : (DataW.weightsAll Try.prog e ((List.range len).map D)).all (· ≤ reachBytes) = true := by
        have h9 : ((DataW.slice ((List.range len).map D) ((List.range (m - len)).map fun j => D (len + j)) : DataW H).weights Try.prog t).all (· ≤ reachBytes) = true := hw
        rw [DataW.weights, ht] at h9
        simp only [List.all_cons, List.all_append, Bool.and_eq_true] at h9
        exact h9.2.1
      exact wt_all hall _ (List.mem_map.2 ⟨i, List.mem_range.2 hi, rfl⟩)
    · have hc : ∀ k u, cs[k]? = some u → w.cell? ((a.add (i * Try.prog.cellsOf e)).add k) = some u := fun k u hk => by
        rw [h8 k (by have := (List.getElem?_eq_some_iff.1 hk).1; omega)]; exact hk
      obtain ⟨cs0, h40, _⟩ := hx 0 (by omega)
      obtain ⟨_, h70, h80⟩ := World.cells?_some h40
      have hp0 : 0 < cs0.length := by omega
      have h00 := h80 0 (by omega)
      rw [List.getElem?_eq_getElem hp0, Nat.zero_mul] at h00
      obtain ⟨b, o, sp⟩ := a
      have hsp : sp = none := by simpa [Addr.add] using World.cell?_spot h00
      subst hsp
      have h0 := hc 0 cs[0] (List.getElem?_eq_getElem hpos)
      have e2 : ∀ k, ((⟨b, o, none⟩ : Addr).add (i * Try.prog.cellsOf e)).add k = ⟨b, o + i * Try.prog.cellsOf e + k, none⟩ := fun k => by rw [Addr.add_lit, Addr.add_lit]
      refine ⟨b, o, rfl, ?_, fun k u hk => ?_⟩
      · rw [e2] at h0; exact World.block_lt_of_cell? w _ h0
      · have := hc k u hk; rw [e2] at this; exact this

theorem rd_bool {n : Nat} {c : Value} {y : DataW H × List MemPlace} (h : Rd enc w n 4 [c] y) : ∃ b, c = .bool b := by
  obtain ⟨b, h1, _⟩ := DataW.trod_bool Try.underlying4 h
  exact ⟨b, by simpa using h1⟩
theorem rd_str {n : Nat} {c : Value} {y : DataW H × List MemPlace} (h : Rd enc w n 9 [c] y) : ∃ b, c = .string b := by
  obtain ⟨b, h1, _⟩ := DataW.trod_string Try.underlying9 h
  exact ⟨b, by simpa using h1⟩
theorem rd_int {n : Nat} {t : TypeId} {k : IntKind} {c : Value} {y : DataW H × List MemPlace} (ht : Try.prog.underlying t = some (.int k)) (h : Rd enc w n t [c] y) : ∃ z, c = .int k z ∧ k.min ≤ z ∧ z ≤ k.max := by
  obtain ⟨b, h1, _, h2⟩ := DataW.trod_int ht h
  refine ⟨b, by simpa using h1, ?_⟩
  simpa [Lit.wf] using h2
theorem u32_in {z : Int} (h : IntKind.u32.min ≤ z ∧ z ≤ IntKind.u32.max) : 0 ≤ z ∧ z < 4294967296 := by
  simp [IntKind.min, IntKind.max, IntKind.bits, IntKind.signed] at h; omega
theorem u16_in {z : Int} (h : IntKind.u16.min ≤ z ∧ z ≤ IntKind.u16.max) : 0 ≤ z ∧ z < 65536 := by
  simp [IntKind.min, IntKind.max, IntKind.bits, IntKind.signed] at h; omega
theorem u8_in {z : Int} (h : IntKind.u8.min ≤ z ∧ z ≤ IntKind.u8.max) : 0 ≤ z ∧ z < 256 := by
  simp [IntKind.min, IntKind.max, IntKind.bits, IntKind.signed] at h; omega

theorem c_bool : Try.prog.cellsOf 4 = 1 := by kernel_rfl
theorem c_str : Try.prog.cellsOf 9 = 1 := by kernel_rfl
theorem c_int : Try.prog.cellsOf 3 = 1 := by kernel_rfl
theorem c_addr : Try.prog.cellsOf 25 = 1 := by kernel_rfl
theorem c_u32 : Try.prog.cellsOf 24 = 1 := by kernel_rfl
theorem c_u16 : Try.prog.cellsOf 26 = 1 := by kernel_rfl
theorem c_u8 : Try.prog.cellsOf 5 = 1 := by kernel_rfl
theorem c_rules : Try.prog.cellsOf 40 = 1 := by kernel_rfl
theorem c_pfx : Try.prog.cellsOf 53 = 2 := by kernel_rfl
theorem c_spn : Try.prog.cellsOf 55 = 2 := by kernel_rfl
theorem c_rul : Try.prog.cellsOf 57 = 10 := by kernel_rfl
theorem c_rw : Try.prog.cellsOf 37 = 3 := by kernel_rfl
theorem c_flt : Try.prog.cellsOf 42 = 2 := by kernel_rfl
theorem b_rul : Try.prog.bytesOf 57 = 64 := by kernel_rfl
theorem b_rw : Try.prog.bytesOf 37 = 32 := by kernel_rfl
theorem b_flt : Try.prog.bytesOf 42 = 40 := by kernel_rfl

theorem some_of_len {α : Type} {xs : List α} {n i : Nat} (h : xs.length = n) (hi : i < n) : ∃ x, xs[i]? = some x := ⟨xs[i], List.getElem?_eq_getElem (by omega)⟩

theorem rd_rewrite {n : Nat} {cs : List Value} {y : DataW H × List MemPlace} (h : Rd enc w n 37 cs y) : ∃ x : Rw, cs = x.cells := by
  obtain ⟨xs, k, _, _, hl, hn, hf⟩ := DataW.trod_struct Try.underlying37 h
  rw [c_rw] at hl
  match cs, hl with
  | [c0, c1, c2], _ =>
    obtain ⟨y0, h0⟩ := some_of_len (i := 0) hn (by decide)
    obtain ⟨y1, h1⟩ := some_of_len (i := 1) hn (by decide)
    obtain ⟨y2, h2⟩ := some_of_len (i := 2) hn (by decide)
    have f0 := hf 0 _ rfl
    have f1 := hf 1 _ rfl
    have f2 := hf 2 _ rfl
    simp only [c_bool, c_str, c_addr, h0, h1, h2] at f0 f1 f2
    obtain ⟨b, rfl⟩ := rd_bool (y := y0) f0
    obtain ⟨s, rfl⟩ := rd_str (y := y1) f1
    obtain ⟨z, rfl, _⟩ := rd_int (y := y2) Try.underlying25 f2
    exact ⟨⟨b, s, z⟩, rfl⟩

theorem rd_prefix {n : Nat} {c0 c1 : Value} {y : DataW H × List MemPlace} (h : Rd enc w n 53 [c0, c1] y) : ∃ a b : Int, c0 = vu32 a ∧ c1 = vi64 b ∧ 0 ≤ a ∧ a < 4294967296 := by
  obtain ⟨xs, k, _, _, hl, hn, hf⟩ := DataW.trod_struct Try.underlying53 h
  obtain ⟨y0, h0⟩ := some_of_len (i := 0) hn (by decide)
  obtain ⟨y1, h1⟩ := some_of_len (i := 1) hn (by decide)
  have f0 := hf 0 _ rfl
  have f1 := hf 1 _ rfl
  simp only [c_addr, c_int, h0, h1] at f0 f1
  obtain ⟨a, rfl, ha⟩ := rd_int (y := y0) Try.underlying25 f0
  obtain ⟨b, rfl, _⟩ := rd_int (y := y1) Try.underlying3 f1
  exact ⟨a, b, rfl, rfl, u32_in ha⟩
theorem rd_span {n : Nat} {c0 c1 : Value} {y : DataW H × List MemPlace} (h : Rd enc w n 55 [c0, c1] y) : ∃ a b : Int, c0 = vu32 a ∧ c1 = vu32 b := by
  obtain ⟨xs, k, _, _, hl, hn, hf⟩ := DataW.trod_struct Try.underlying55 h
  obtain ⟨y0, h0⟩ := some_of_len (i := 0) hn (by decide)
  obtain ⟨y1, h1⟩ := some_of_len (i := 1) hn (by decide)
  have f0 := hf 0 _ rfl
  have f1 := hf 1 _ rfl
  simp only [c_u32, h0, h1] at f0 f1
  obtain ⟨a, rfl, _⟩ := rd_int (y := y0) Try.underlying24 f0
  obtain ⟨b, rfl, _⟩ := rd_int (y := y1) Try.underlying24 f1
  exact ⟨a, b, rfl, rfl⟩

theorem rd_rule {n : Nat} {cs : List Value} {y : DataW H × List MemPlace} (h : Rd enc w n 57 cs y) : ∃ x : Ru, cs = x.cells ∧ x.In := by
  obtain ⟨xs, k, _, _, hl, hn, hf⟩ := DataW.trod_struct Try.underlying57 h
  rw [c_rul] at hl
  match cs, hl with
  | [c0, c1, c2, c3, c4, c5, c6, c7, c8, c9], _ =>
    obtain ⟨y0, h0⟩ := some_of_len (i := 0) hn (by decide)
    obtain ⟨y1, h1⟩ := some_of_len (i := 1) hn (by decide)
    obtain ⟨y2, h2⟩ := some_of_len (i := 2) hn (by decide)
    obtain ⟨y3, h3⟩ := some_of_len (i := 3) hn (by decide)
    obtain ⟨y4, h4⟩ := some_of_len (i := 4) hn (by decide)
    obtain ⟨y5, h5⟩ := some_of_len (i := 5) hn (by decide)
    have f0 := hf 0 _ rfl
    have f1 := hf 1 _ rfl
    have f2 := hf 2 _ rfl
    have f3 := hf 3 _ rfl
    have f4 := hf 4 _ rfl
    have f5 := hf 5 _ rfl
    simp only [c_bool, c_int, c_pfx, c_spn, h0, h1, h2, h3, h4, h5] at f0 f1 f2 f3 f4 f5
    obtain ⟨b, rfl⟩ := rd_bool (y := y0) f0
    obtain ⟨p, rfl, _⟩ := rd_int (y := y1) Try.underlying3 f1
    obtain ⟨sa, sn, rfl, rfl, g1⟩ := rd_prefix (y := y2) f2
    obtain ⟨da, dn, rfl, rfl, g2⟩ := rd_prefix (y := y3) f3
    obtain ⟨s1, s2, rfl, rfl⟩ := rd_span (y := y4) f4
    obtain ⟨d1, d2, rfl, rfl⟩ := rd_span (y := y5) f5
    exact ⟨⟨b, p, sa, sn, da, dn, s1, s2, d1, d2⟩, rfl, ⟨g1, g2⟩⟩

theorem reach_le : reachBytes ≤ 140737488355328 := by decide

theorem rd_rewrites {n : Nat} {v : Value} {y : DataW H × List MemPlace} (h : Rd enc w n 22 [v] y) (hw : Wt 22 y.1) : ∃ a l c xs, v = .slice a l c ∧ RwsAt w a l xs ∧ (a = none → l = 0 ∧ c = 0) := by
  rcases open_rows Try.underlying22 h hw with rfl | ⟨a, len, cap, rfl, h1, h2⟩
  · exact ⟨none, 0, 0, [], rfl, ⟨⟨rfl, fun i r h => by simp at h⟩, by decide⟩, fun _ => ⟨rfl, rfl⟩⟩
  · rw [b_rw] at h1
    obtain ⟨xs, hl, hx⟩ := choose_list (P := fun i (x : Rw) => ∃ b o, some a = some (ad b o) ∧ b < w.heap.size ∧ ∀ k u, x.cells[k]? = some u → wCell w b (o + i * 3 + k) u) len fun i hi => by
      obtain ⟨n, cs, y, h3, h4, _, h5⟩ := h2 i hi
      obtain ⟨x, rfl⟩ := rd_rewrite h4
      rw [c_rw] at h5
      exact ⟨x, h5 (Nat.zero_lt_succ _)⟩
    refine ⟨some a, len, cap, xs, rfl, ⟨⟨by simp [hl], fun i r hr => ?_⟩, Nat.le_trans h1 reach_le⟩, fun h => (by cases h)⟩
    rw [List.getElem?_map] at hr
    obtain ⟨x, hx1, rfl⟩ := Option.map_eq_some_iff.1 hr
    exact hx i x hx1

theorem rd_rules {n : Nat} {v : Value} {y : DataW H × List MemPlace} (h : Rd enc w n 40 [v] y) (hw : Wt 40 y.1) : ∃ a l c xs, v = .slice a l c ∧ RulesAt w a l xs := by
  rcases open_rows Try.underlying40 h hw with rfl | ⟨a, len, cap, rfl, h1, h2⟩
  · exact ⟨none, 0, 0, [], rfl, RulesAt.none _⟩
  · rw [b_rul] at h1
    obtain ⟨xs, hl, hx⟩ := choose_list (P := fun i (x : Ru) => x.In ∧ ∃ b o, some a = some (ad b o) ∧ b < w.heap.size ∧ ∀ k u, x.cells[k]? = some u → wCell w b (o + i * 10 + k) u) len fun i hi => by
      obtain ⟨n, cs, y, h3, h4, _, h5⟩ := h2 i hi
      obtain ⟨x, rfl, hin⟩ := rd_rule h4
      rw [c_rul] at h5
      exact ⟨x, hin, h5 (Nat.zero_lt_succ _)⟩
    refine ⟨some a, len, cap, xs, rfl, ⟨⟨by simp [hl], fun i r hr => ?_⟩, fun r hr => ?_, Nat.le_trans h1 reach_le⟩⟩
    · rw [List.getElem?_map] at hr
      obtain ⟨x, hx1, rfl⟩ := Option.map_eq_some_iff.1 hr
      exact (hx i x hx1).2
    · obtain ⟨i, hi⟩ := List.getElem?_of_mem hr
      exact (hx i r hi).1

theorem rd_filter {n : Nat} {cs : List Value} {y : DataW H × List MemPlace} (h : Rd enc w n 42 cs y) (hw : Wt 42 y.1) : ∃ f : Fl, cs = f.cells ∧ RulesAt w f.a f.l f.rules := by
  obtain ⟨xs, k, _, hx, hl, hn, hf⟩ := DataW.trod_struct Try.underlying42 h
  rw [c_flt] at hl
  match cs, hl with
  | [c0, c1], _ =>
    obtain ⟨y0, h0⟩ := some_of_len (i := 0) hn (by decide)
    obtain ⟨y1, h1⟩ := some_of_len (i := 1) hn (by decide)
    have f0 := hf 0 _ rfl
    have f1 := hf 1 _ rfl
    simp only [c_str, c_rules, h0, h1] at f0 f1
    obtain ⟨s, rfl⟩ := rd_str (y := y0) f0
    have hxs : xs = [y0, y1] := by
      match xs, hn, h0, h1 with
      | [a, b], _, h0, h1 => simp at h0 h1; rw [h0, h1]
    rw [hxs] at hx
    have hw1 : Wt 40 y1.1 := by
      have h9 : (y.1.weights Try.prog 42).all (· ≤ reachBytes) = true := hw
      rw [hx] at h9
      rw [DataW.weights, Try.underlying42] at h9
      simp only [List.map_cons, List.map_nil, DataW.weightsEach, List.all_append, Bool.and_eq_true, List.append_nil] at h9
      exact h9.2
    obtain ⟨a, l, c, rs, rfl, hr⟩ := rd_rules (y := y1) f1 hw1
    exact ⟨⟨s, a, l, c, rs⟩, rfl, hr⟩

theorem rd_filters {n : Nat} {v : Value} {y : DataW H × List MemPlace} (h : Rd enc w n 23 [v] y) (hw : Wt 23 y.1) : ∃ a l c xs, v = .slice a l c ∧ FiltersAt w a l xs := by
  rcases open_rows Try.underlying23 h hw with rfl | ⟨a, len, cap, rfl, h1, h2⟩
  · exact ⟨none, 0, 0, [], rfl, ⟨⟨rfl, fun i r h => by simp at h⟩, fun f hf => (by cases hf), by decide⟩⟩
  · rw [b_flt] at h1
    obtain ⟨xs, hl, hx⟩ := choose_list (P := fun i (f : Fl) => RulesAt w f.a f.l f.rules ∧ ∃ b o, some a = some (ad b o) ∧ b < w.heap.size ∧ ∀ k u, f.cells[k]? = some u → wCell w b (o + i * 2 + k) u) len fun i hi => by
      obtain ⟨n, cs, y, h3, h4, hwy, h5⟩ := h2 i hi
      obtain ⟨f, rfl, hin⟩ := rd_filter h4 hwy
      rw [c_flt] at h5
      exact ⟨f, hin, h5 (Nat.zero_lt_succ _)⟩
    refine ⟨some a, len, cap, xs, rfl, ⟨⟨by simp [hl], fun i r hr => ?_⟩, fun r hr => ?_, Nat.le_trans h1 reach_le⟩⟩
    · rw [List.getElem?_map] at hr
      obtain ⟨x, hx1, rfl⟩ := Option.map_eq_some_iff.1 hr
      exact (hx i x hx1).2
    · obtain ⟨i, hi⟩ := List.getElem?_of_mem hr
      exact (hx i r hi).1

theorem rd_header {n : Nat} {cs : List Value} {y : DataW H × List MemPlace} (h : Rd enc w n 28 cs y) : ∃ x : Hd, cs = x.cells ∧ x.In := by
  obtain ⟨xs, k, _, _, hl, hn, hf⟩ := DataW.trod_struct Try.underlying28 h
  have c_hd : Try.prog.cellsOf 28 = 5 := by kernel_rfl
  rw [c_hd] at hl
  match cs, hl with
  | [c0, c1, c2, c3, c4], _ =>
    obtain ⟨y0, h0⟩ := some_of_len (i := 0) hn (by decide)
    obtain ⟨y1, h1⟩ := some_of_len (i := 1) hn (by decide)
    obtain ⟨y2, h2⟩ := some_of_len (i := 2) hn (by decide)
    obtain ⟨y3, h3⟩ := some_of_len (i := 3) hn (by decide)
    obtain ⟨y4, h4⟩ := some_of_len (i := 4) hn (by decide)
    have f0 := hf 0 _ rfl
    have f1 := hf 1 _ rfl
    have f2 := hf 2 _ rfl
    have f3 := hf 3 _ rfl
    have f4 := hf 4 _ rfl
    simp only [c_addr, c_u8, c_u16, h0, h1, h2, h3, h4] at f0 f1 f2 f3 f4
    obtain ⟨a0, rfl, g0⟩ := rd_int (y := y0) Try.underlying25 f0
    obtain ⟨a1, rfl, g1⟩ := rd_int (y := y1) Try.underlying25 f1
    obtain ⟨a2, rfl, g2⟩ := rd_int (y := y2) Try.underlying5 f2
    obtain ⟨a3, rfl, g3⟩ := rd_int (y := y3) Try.underlying26 f3
    obtain ⟨a4, rfl, g4⟩ := rd_int (y := y4) Try.underlying26 f4
    exact ⟨⟨a0, a1, a2, a3, a4⟩, rfl, ⟨u32_in g0, u32_in g1, u8_in g2, u16_in g3, u16_in g4⟩⟩

end
end Go.Proofs.Ytnbbnokjbopcbaa
