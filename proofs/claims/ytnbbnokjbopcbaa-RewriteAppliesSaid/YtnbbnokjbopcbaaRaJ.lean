/- What comes of a header, both sides; headers are the same; rewrites are the same; a cell is written. -/
import Derived.Test.YtnbbnokjbopcbaaRaI
import Derived.Laws.StructEq
set_option linter.all false
namespace Go.Proofs.Ytnbbnokjbopcbaa
open Go Go.Sx

def putH (dest : Bool) (h : Hd) (to : Int) : Hd := if dest = true then { h with d := to } else { h with s := to }
def applyF (xs : List Rw) (fs : List Fl) (dest : Bool) (h : Hd) : Hd :=
  if rcheckF xs fs = 0 then ((xs.find? (fitF fs dest h)).map fun x => putH dest h x.to).getD h else ⟨0, 0, 0, 0, 0⟩

theorem applyF_bad {xs : List Rw} {fs : List Fl} {dest : Bool} {h : Hd} (hz : rcheckF xs fs ≠ 0) : applyF xs fs dest h = ⟨0, 0, 0, 0, 0⟩ := by rw [applyF, if_neg hz]
theorem applyF_none {xs : List Rw} {fs : List Fl} {dest : Bool} {h : Hd} (hz : rcheckF xs fs = 0) (hn : ∀ x ∈ xs, fitF fs dest h x = false) : applyF xs fs dest h = h := by
  have : xs.find? (fitF fs dest h) = none := List.find?_eq_none.2 fun x hx => by rw [hn x hx]; simp
  rw [applyF, if_pos hz, this]; rfl
theorem applyF_some {xs : List Rw} {fs : List Fl} {dest : Bool} {h : Hd} (hz : rcheckF xs fs = 0) {i : Nat} {x : Rw} (h1 : fst1 (fitF fs dest h) xs = i) (h2 : xs[i]? = some x) : applyF xs fs dest h = putH dest h x.to := by
  rw [applyF, if_pos hz, fst1_find h1 h2]; rfl

theorem rapply_ok {a a2 : Option Addr} {l c l2 c2 : Nat} {dest : Bool} {h : Hd} {xs : List Rw} {fs : List Fl} {w : World} (hxs : RwsAt w a l xs) (hfs : FiltersAt w a2 l2 fs) (hh : h.In) :
    Ans 6 [.slice a l c, .slice a2 l2 c2, .bool dest, h.val] w (.tuple #[(applyF xs fs dest h).val, vi64 (rcheckF xs fs)]) := by
  refine of_rapply a l c a2 l2 c2 dest h.s h.d h.p h.x h.y held0 ?_
  intro b hb _ b2 hb2 _ wc hf
  have hnew : ∀ x ∈ [b, b2], w.heap.size ≤ x := by simpa using ⟨hb, hb2⟩
  have hfr0 := fr_fin hf (Fr.refl _ _) hnew
  have hl := hxs.len
  refine (rfirst_ok (dest := dest) (hxs.fr hfr0) (hfs.fr hfr0) hh).mono ?_
  rintro e w' ⟨he, hk⟩
  have hfr' := hfr0.trans hk (by simp)
  refine ⟨_, _, he, keep_of hf hk, fun hz w1 hf1 => ⟨?_, fr_fin hf1 hfr' hnew⟩, fun hz => ?_⟩
  · simp only [wNe, bne_iff_ne] at hz
    rw [applyF_bad hz]
  simp only [wNe, bne_eq_false_iff_eq] at hz
  rw [firstF, if_pos hz]
  rcases fst1_cases (fitF fs dest h) xs with ⟨h1, h2⟩ | ⟨i, x, h1, h2, h3⟩
  · rw [h1]
    refine ⟨fun _ w1 hf1 => ⟨by rw [applyF_none hz h2, hz], fr_fin hf1 hfr' hnew⟩, fun hg => by simp [wLt] at hg⟩
  · rw [h1, applyF_some hz h1 h2, hz]
    have hil : i < xs.length := (List.getElem?_eq_some_iff.1 h2).1
    refine ⟨fun hg => by simp only [wLt, decide_eq_true_eq] at hg; omega, fun _ => ?_⟩
    obtain ⟨b3, o, ha, hbl, hcs⟩ := (hxs.fr hfr').get h2
    obtain ⟨b4, o4, ha4, hbl4, _⟩ := hxs.get h2
    have hbb : b3 < w.heap.size := by rw [ha] at ha4; cases ha4; exact hbl4
    refine ⟨fun hd => ⟨b3, o, ha, ⟨by omega, by omega⟩, not_mem_new hnew hbb, x.to, hcs 2 _ rfl, fun w1 hf1 => ⟨by rw [putH, if_pos hd], fr_fin hf1 hfr' hnew⟩⟩,
      fun hd => ⟨b3, o, ha, ⟨by omega, by omega⟩, not_mem_new hnew hbb, x.to, hcs 2 _ rfl, fun w1 hf1 => ⟨by rw [putH, if_neg (by rw [hd]; simp)], fr_fin hf1 hfr' hnew⟩⟩⟩

theorem xrapply_ok {a a2 : Option Addr} {l c l2 c2 : Nat} {dest : Bool} {h : Hd} {xs : List Rw} {fs : List Fl} {w : World} (hxs : RwsAt w a l xs) (hfs : FiltersAt w a2 l2 fs) (hh : h.In) :
    Ans 7 [.slice a l c, .slice a2 l2 c2, .bool dest, h.val] w (.tuple #[(applyF xs fs dest h).val, vi64 (rcheckF xs fs)]) := by
  refine of_xrapply a l c a2 l2 c2 dest h.s h.d h.p h.x h.y held0 ?_
  intro b hb _ b2 hb2 _ wc hf
  have hnew : ∀ x ∈ [b, b2], w.heap.size ≤ x := by simpa using ⟨hb, hb2⟩
  have hfr0 := fr_fin hf (Fr.refl _ _) hnew
  have hl := hxs.len
  refine (xrfirst_ok (dest := dest) (hxs.fr hfr0) (hfs.fr hfr0) hh).mono ?_
  rintro e w' ⟨he, hk⟩
  have hfr' := hfr0.trans hk (by simp)
  refine ⟨_, _, he, keep_of hf hk, fun hz w1 hf1 => ⟨?_, fr_fin hf1 hfr' hnew⟩, fun hz => ?_⟩
  · simp only [wNe, bne_iff_ne] at hz
    rw [applyF_bad hz]
  simp only [wNe, bne_eq_false_iff_eq] at hz
  rw [firstF, if_pos hz]
  rcases fst1_cases (fitF fs dest h) xs with ⟨h1, h2⟩ | ⟨i, x, h1, h2, h3⟩
  · rw [h1]
    refine ⟨fun hg => by simp [wGe] at hg, fun _ => ⟨fun hg => by simp [wGe] at hg, fun _ w1 hf1 => ⟨by rw [applyF_none hz h2, hz], fr_fin hf1 hfr' hnew⟩⟩⟩
  · rw [h1, applyF_some hz h1 h2, hz]
    have hil : i < xs.length := (List.getElem?_eq_some_iff.1 h2).1
    have hge : wGe (i : Int) 0 = true := by simp [wGe]
    obtain ⟨b3, o, ha, hbl, hcs⟩ := (hxs.fr hfr').get h2
    obtain ⟨b4, o4, ha4, hbl4, _⟩ := hxs.get h2
    have hbb : b3 < w.heap.size := by rw [ha] at ha4; cases ha4; exact hbl4
    refine ⟨fun _ => ⟨fun hd => ?_, fun hd => ?_⟩, fun hg => by rw [hge] at hg; cases hg⟩
    · subst hd
      refine ⟨b3, o, ha, ⟨by omega, by omega⟩, not_mem_new hnew hbb, x.to, hcs 2 _ rfl, fun _ => ⟨fun hno => (by cases hno), fun _ w1 hf1 => ⟨by rw [putH, if_pos rfl], fr_fin hf1 hfr' hnew⟩⟩, fun hg => by rw [hge] at hg; cases hg⟩
    · subst hd
      refine ⟨fun _ => ⟨fun _ => ⟨b3, o, ha, ⟨by omega, by omega⟩, not_mem_new hnew hbb, x.to, hcs 2 _ rfl, fun w1 hf1 => ⟨by rw [putH, if_neg (by simp)], fr_fin hf1 hfr' hnew⟩⟩, fun hno => (by cases hno)⟩, fun hg => by rw [hge] at hg; cases hg⟩

theorem same_ok {h : Hd} {w : World} : Ans 10 [h.val, h.val] w (.bool true) := by
  refine of_same h.s h.d h.p h.x h.y h.s h.d h.p h.x h.y held0 ?_
  intro b hb _ b2 hb2 _
  have hnew : ∀ x ∈ [b, b2], w.heap.size ≤ x := by simpa using ⟨hb, hb2⟩
  have hr : ∀ n : Int, wEq n n = true := fun n => by simp [wEq]
  have fls : ∀ {n : Int} {p : Prop}, wEq n n = false → p := fun h => by rw [hr] at h; cases h
  exact ⟨fun _ => ⟨fun _ => ⟨fun _ => ⟨fun _ w1 hf => ⟨by rw [hr], fr_fin hf (Fr.refl _ _) hnew⟩, fls⟩, fls⟩, fls⟩, fls⟩

theorem rwEq_run (d : Nat) (r : Rw) (w : World) : (Op.equalIn (d + 2) 37 (.agg #[.bool r.dest, .string r.nm, vu32 r.to]) (.agg #[.bool r.dest, .string r.nm, vu32 r.to])).run Try.prog w = .ok true w := by
  rw [run_equalIn_struct (P := Try.prog) w (d + 1) 37 _ _ (by kernel_rfl) Try.stoodInHeld37]
  have hf : Try.prog.fieldsOf 37 = match Try.prog.underlying 37 with | some (.struct fs) => fs | _ => #[] := rfl
  rw [hf, Try.underlying37]
  have h1 := fun (x y : Bool) (w : World) => run_equalIn_bool (P := Try.prog) w d 4 x y Try.underlying4
  have h2 := fun (x y : ByteArray) (w : World) => run_equalIn_string (P := Try.prog) w d 9 x y Try.underlying9
  have h3 := fun (x y : Int) (w : World) => run_equalIn_int (P := Try.prog) w d 25 .u32 .u32 x y Try.underlying25
  simp only [Op.eqFields]
  simp [part, Try.isAgg4, Try.isAgg9, Try.isAgg25, h1, h2, h3]

theorem rwNe_run {x y : Operand} {r : Rw} {w : World} : wRun Try.prog (wBin .neq 37 x y (.agg #[.bool r.dest, .string r.nm, vu32 r.to]) (.agg #[.bool r.dest, .string r.nm, vu32 r.to])) w (.bool false) w := by
  show (wBin _ _ _ _ _ _).run _ _ = _
  simp only [wBin, Sem.run_bind, run_eqGuard_agg w _ _ _ _ _ _ Try.eqGuardType37, Result.andThen_ok, run_neq_struct]
  rw [rwEq_run 9998 r w]; rfl

theorem sizeBool (w : World) : (sizeOf 4).run Try.prog w = .ok 1 w := by rw [Try.sizeOf4]
theorem sizeAddr (w : World) : (sizeOf 25).run Try.prog w = .ok 1 w := by rw [Try.sizeOf25]

/-- A cell of an own row is written. -/
theorem store_run {t : TypeId} {w : World} {base : Nat} {e : TypeId} {sz n g cap : Nat} {ys : List Value} (h : w.ownsRow base e sz (.slice (some ⟨g, 0, none⟩) n cap) n ys) {j : Nat} (hj : j < n * sz) {u : Value} (hu : u.oneCell' = true) (hs : (sizeOf t).run Try.prog w = .ok 1 w) (hc : u.cells = #[u]) :
    wRun Try.prog (wStore t (.pointer (some ⟨g, j, none⟩)) u) w () (w.setCell ⟨g, j, none⟩ u) := by
  show (wStore _ _ _).run _ _ = _
  have h1 := h.cellAt j hj
  have hlen : j < ys.length := by rw [h.1]; exact hj
  rw [List.getElem?_eq_getElem hlen] at h1
  have h2 := h.frozenAt j
  have h3 := run_store Try.prog w ⟨g, j, none⟩ u .plain hu
  rw [h1, h2] at h3
  simp only [wStore, Instr.storeAt, Instr.sureAddr, storeVar, Sem.run_bind, Sem.run_pure, Result.andThen_ok, hs, hc]
  simp only [Bool.false_eq_true, if_false] at h3
  simp [storeCells, Addr.add_lit, h3]

end Go.Proofs.Ytnbbnokjbopcbaa
