/- LintNames: the law's function, which takes nothing, returns true. No condition. -/
import Derived.Test.YtkiioneimheciaaGreatRows
import Derived.Test.YtkiioneimheciaaGreatLitA
import Derived.Test.YtkiioneimheciaaGreatCxP
import Derived.WalkKit
import Derived.ProofKit
import Derived.OpenShut
import Derived.Carry
import Derived.SizedLaws
set_option linter.all false
namespace Go.Proofs.YtkiioneimheciaaGreat
open Go Go.Sx Go.Cx Go.ChangeShapes Go.WideShapes Go.ChangeAt Go.RowKit

theorem ownsNone : ownKnob Tryz.prog.godebug = none := by kernel_rfl
theorem laidOut : laidOutB Tryz.prog = true := by kernel_rfl

def yes (r : Option (CV × Cx.St)) : Bool := match r with
  | some (.bool b, _) => b
  | _ => false
theorem yes_some {r : Option (CV × Cx.St)} (h : yes r = true) : ∃ st, r = some (.bool true, st) := by
  unfold yes at h
  split at h
  · rename_i b st; subst h; exact ⟨st, rfl⟩
  · cases h

def hasFn (r : Option CFn) : Bool := match r with
  | some _ => true
  | none => false
theorem fn_of {r : Option CFn} (h : hasFn r = true) : ∃ fn, r = some fn := by
  cases r with
  | some fn => exact ⟨fn, rfl⟩
  | none => cases h

theorem names_run : yes (callFR litC.get ext 100000 9 []) = true := by kernel_rfl
theorem names_fn : hasFn (litC.get (at_ 9)) = true := by kernel_rfl

theorem names_ok (w : World) : Calls Tryz.prog 9 #[] w fun e w' => e = .returned (.bool true) ∧ Old (· < w.heap.size) w w' := by
  obtain ⟨st, h⟩ := yes_some names_run
  rw [callFR_eq] at h
  obtain ⟨fn, hf⟩ := fn_of names_fn
  refine (callF_ok env_lit hf (vs := []) (xs := []) (by simp [CV.rels]) h w).mono fun e w' he => ?_
  obtain ⟨τ, x, rfl, hx, ho⟩ := he
  cases hx
  exact ⟨rfl, ho⟩

theorem below_old {w w' : World} (h : Old (· < w.heap.size) w w') : Below w.heap.size w w' := ⟨h.os, h.tape, h.output, h.size, fun k hk => h.same k hk⟩

set_option maxRecDepth 100000 in
theorem lifted (os : Os) (started : os.Started) (H : Type) (enc : TypeId × Value → H) :
    ReturnsInHanded {} Tryz.checked os 9 .any (Rows.lintNamesSpec.pre6 enc Tryz.prog Tryz.f9 Rows.lintNamesRow.domain false) (Rows.lintNamesSpec.post enc Tryz.prog Tryz.f9 false true false false) := by
  refine returnsInHanded_of_change_sized (C := Tryz.checked) ownsNone started (by kernel_rfl) Tryz.func9
    (ChangeSpec.witness6 (enc := enc) (C := Tryz.checked) false ⟨#[], #[], []⟩ 8 (by kernel_rfl) (by kernel_rfl) (by kernel_rfl) (by kernel_rfl)) ?_
  intro W base args ds gs before hval0 hW hcnd hsz _
  have hW' := hW
  obtain ⟨p, q, hA0, hV, rfl, hfz, hnd⟩ := hW
  have hA : DataW.TrodAll enc Tryz.prog W 0 (fun _ => true) true Tryz.f9.params.toList args.toList ds p := hA0
  rw [Tryz.params9] at hA
  obtain ⟨hargs, rfl, rfl⟩ := trodAll_nil hA
  obtain rfl : args = #[] := by cases args; simp_all
  obtain ⟨rfl, rfl⟩ := trodVars_none hV
  have back : ∀ W', Below W.heap.size W W' → DataW.TrodAll enc Tryz.prog W' 0 (fun b => decide (b < W.heap.size)) true [] [] [] [] := fun W' hb => trodAll_mk0
  simp only [List.append_nil] at hW'
  refine (names_ok W).mono fun e W' ⟨he, hfr⟩ => ?_
  subst he
  have hb := below_old hfr
  exact ⟨_, rfl, ⟨_, _, _, [], _, [], hW', trodAll_mk1 (shut_bool Tryz.underlying4 _), back W' hb, rfl, hb.frame _, fun h => by cases h⟩⟩

theorem proved : Rows.LintNamesSaid :=
  OpenClaim.holds_of_wide 9 Tryz.f9 rfl rfl rfl rfl rfl rfl rfl ⟨rfl, rfl, rfl, rfl, rfl⟩ rfl rfl rfl rfl rfl (by kernel_rfl) Tryz.func9 (by kernel_rfl)
    (of_decide_eq_true (by kernel_rfl)) (by unfold Func.isWrapper; first | (rw [if_pos (by decide +kernel)]; kernel_rfl) | (rw [if_neg (by decide +kernel)]; exact ⟨rfl, rfl⟩))
    (fun os started H enc _ => lifted os started H enc)

end Go.Proofs.YtkiioneimheciaaGreat
#print axioms Go.Proofs.YtkiioneimheciaaGreat.proved
