/-
  No cell of these rows narrows 'for every input' (looked for: loops, veiled, ifaces, maps, wideKeys, modest, calm, conditions, laid).
  DERIVED. THE GIVEN ROWS OF THIS SEAT. 8 by the template 'for every input the law returns true; each argument reads behind the call as it read before'; 0 by the template 'total and deterministic' (their statements: YtkiioneimheciaaGreatTotals.lean).
  GIVEN WITH THE SEED: the statements are not yours to turn. If you find one false, say at which input.
  Laid BY PROGRAM, IN A SANDBOX (cutbox-rows.mjs): the forced cells as the released guide's own fill.sh prints them over the translation 3f705a4db905ed65… (all of the seat's roots in one cut). By AI agents, Wed Nov 11 2026. No macro, syntax, notation, axiom, sorry.
-/
import Derived.Test.YtkiioneimheciaaGreatChecked
import GoSem.Claim
import GoSem.ClaimJoined
import GoSem.ClaimMapViews
import Derived.JoinedTies
import Derived.KernelRfl
namespace Go.Proofs.YtkiioneimheciaaGreat
/- THE CELL 'sum', in the pinned program and in every row, IS THE sha256 OF THE DUMP (.gsa) THAT YtkiioneimheciaaGreatProg.lean LOADS. Nothing in Lean hashes anything: it is a label: what it is worth is what the hold of that sum in a sandbox is worth. -/
noncomputable def Tryz.pinned : Pinned := { name := "ytkiioneimheciaagreat", sum := "3f705a4db905ed65053db6031775639de6f1628fe6fd9376e2a6eff72e884525", checked := Tryz.checked }
namespace Rows
def none {H : Type} : Left H := { results := [], args := [] }

/-- 'waymarklaw30.LintRewrites': WHATEVER THE INPUT: true; the input reads as it did. -/
def lintRewritesSpec : ChangeSpec := { name := "lintRewrites", fn := fun _ => fun
  | [d1, d2] => { results := [.lit (.bool true)], args := [d1, d2] }
  | _ => none }
def lintRewritesRow : OpenClaim := { program := "ytkiioneimheciaagreat", sum := "3f705a4db905ed65053db6031775639de6f1628fe6fd9376e2a6eff72e884525", func := "waymark/waymarklaw30.LintRewrites", spec := "lintRewrites", unfollowed := true, recurses := true, plainKeys := false, apart := false }
def LintRewritesSaid : Prop := lintRewritesRow.holds Tryz.pinned (OpenSpec.ofChange lintRewritesSpec)

/-- ITS FALSE NEIGHBOUR: 'it returns false'. Refute it at one input. -/
def lintRewritesWrong : ChangeSpec := { name := "lintRewrites", fn := fun _ => fun
  | [d1, d2] => { results := [.lit (.bool false)], args := [d1, d2] }
  | _ => none }
def LintRewritesWrongFalsely : Prop := lintRewritesRow.holds Tryz.pinned (OpenSpec.ofChange lintRewritesWrong)

/-- 'waymarklaw30.LintLists': WHATEVER THE INPUT: true; the input reads as it did. -/
def lintListsSpec : ChangeSpec := { name := "lintLists", fn := fun _ => fun
  | [d1, d2, d3] => { results := [.lit (.bool true)], args := [d1, d2, d3] }
  | _ => none }
def lintListsRow : OpenClaim := { program := "ytkiioneimheciaagreat", sum := "3f705a4db905ed65053db6031775639de6f1628fe6fd9376e2a6eff72e884525", func := "waymark/waymarklaw30.LintLists", spec := "lintLists", unfollowed := true, recurses := true, plainKeys := false, apart := false }
def LintListsSaid : Prop := lintListsRow.holds Tryz.pinned (OpenSpec.ofChange lintListsSpec)

/-- ITS FALSE NEIGHBOUR: 'it returns false'. Refute it at one input. -/
def lintListsWrong : ChangeSpec := { name := "lintLists", fn := fun _ => fun
  | [d1, d2, d3] => { results := [.lit (.bool false)], args := [d1, d2, d3] }
  | _ => none }
def LintListsWrongFalsely : Prop := lintListsRow.holds Tryz.pinned (OpenSpec.ofChange lintListsWrong)

/-- 'waymarklaw30.LintWithout': WHATEVER THE INPUT: true; the input reads as it did. -/
def lintWithoutSpec : ChangeSpec := { name := "lintWithout", fn := fun _ => fun
  | [d1, d2, d3, d4] => { results := [.lit (.bool true)], args := [d1, d2, d3, d4] }
  | _ => none }
def lintWithoutRow : OpenClaim := { program := "ytkiioneimheciaagreat", sum := "3f705a4db905ed65053db6031775639de6f1628fe6fd9376e2a6eff72e884525", func := "waymark/waymarklaw30.LintWithout", spec := "lintWithout", unfollowed := true, recurses := true, plainKeys := false, apart := false }
def LintWithoutSaid : Prop := lintWithoutRow.holds Tryz.pinned (OpenSpec.ofChange lintWithoutSpec)

/-- ITS FALSE NEIGHBOUR: 'it returns false'. Refute it at one input. -/
def lintWithoutWrong : ChangeSpec := { name := "lintWithout", fn := fun _ => fun
  | [d1, d2, d3, d4] => { results := [.lit (.bool false)], args := [d1, d2, d3, d4] }
  | _ => none }
def LintWithoutWrongFalsely : Prop := lintWithoutRow.holds Tryz.pinned (OpenSpec.ofChange lintWithoutWrong)

/-- 'waymarklaw30.LintRules': WHATEVER THE INPUT: true; the input reads as it did. -/
def lintRulesSpec : ChangeSpec := { name := "lintRules", fn := fun _ => fun
  | [d] => { results := [.lit (.bool true)], args := [d] }
  | _ => none }
def lintRulesRow : OpenClaim := { program := "ytkiioneimheciaagreat", sum := "3f705a4db905ed65053db6031775639de6f1628fe6fd9376e2a6eff72e884525", func := "waymark/waymarklaw30.LintRules", spec := "lintRules", unfollowed := true, recurses := true, plainKeys := false, apart := false }
def LintRulesSaid : Prop := lintRulesRow.holds Tryz.pinned (OpenSpec.ofChange lintRulesSpec)

/-- ITS FALSE NEIGHBOUR: 'it returns false'. Refute it at one input. -/
def lintRulesWrong : ChangeSpec := { name := "lintRules", fn := fun _ => fun
  | [d] => { results := [.lit (.bool false)], args := [d] }
  | _ => none }
def LintRulesWrongFalsely : Prop := lintRulesRow.holds Tryz.pinned (OpenSpec.ofChange lintRulesWrong)

/-- 'waymarklaw30.LintParts': WHATEVER THE INPUT: true; the input reads as it did. -/
def lintPartsSpec : ChangeSpec := { name := "lintParts", fn := fun _ => fun
  | [d1, d2, d3, d4, d5] => { results := [.lit (.bool true)], args := [d1, d2, d3, d4, d5] }
  | _ => none }
def lintPartsRow : OpenClaim := { program := "ytkiioneimheciaagreat", sum := "3f705a4db905ed65053db6031775639de6f1628fe6fd9376e2a6eff72e884525", func := "waymark/waymarklaw30.LintParts", spec := "lintParts", unfollowed := true, recurses := true, plainKeys := false, apart := false }
def LintPartsSaid : Prop := lintPartsRow.holds Tryz.pinned (OpenSpec.ofChange lintPartsSpec)

/-- ITS FALSE NEIGHBOUR: 'it returns false'. Refute it at one input. -/
def lintPartsWrong : ChangeSpec := { name := "lintParts", fn := fun _ => fun
  | [d1, d2, d3, d4, d5] => { results := [.lit (.bool false)], args := [d1, d2, d3, d4, d5] }
  | _ => none }
def LintPartsWrongFalsely : Prop := lintPartsRow.holds Tryz.pinned (OpenSpec.ofChange lintPartsWrong)

/-- 'waymarklaw30.LintFinds': WHATEVER THE INPUT: true; the input reads as it did. -/
def lintFindsSpec : ChangeSpec := { name := "lintFinds", fn := fun _ => fun
  | [d] => { results := [.lit (.bool true)], args := [d] }
  | _ => none }
def lintFindsRow : OpenClaim := { program := "ytkiioneimheciaagreat", sum := "3f705a4db905ed65053db6031775639de6f1628fe6fd9376e2a6eff72e884525", func := "waymark/waymarklaw30.LintFinds", spec := "lintFinds", unfollowed := true, recurses := true, plainKeys := false, apart := false }
def LintFindsSaid : Prop := lintFindsRow.holds Tryz.pinned (OpenSpec.ofChange lintFindsSpec)

/-- ITS FALSE NEIGHBOUR: 'it returns false'. Refute it at one input. -/
def lintFindsWrong : ChangeSpec := { name := "lintFinds", fn := fun _ => fun
  | [d] => { results := [.lit (.bool false)], args := [d] }
  | _ => none }
def LintFindsWrongFalsely : Prop := lintFindsRow.holds Tryz.pinned (OpenSpec.ofChange lintFindsWrong)

/-- 'waymarklaw30.LintNames': WHATEVER THE INPUT: true; the input reads as it did. -/
def lintNamesSpec : ChangeSpec := { name := "lintNames", fn := fun _ => fun
  | [] => { results := [.lit (.bool true)], args := [] }
  | _ => none }
def lintNamesRow : OpenClaim := { program := "ytkiioneimheciaagreat", sum := "3f705a4db905ed65053db6031775639de6f1628fe6fd9376e2a6eff72e884525", func := "waymark/waymarklaw30.LintNames", spec := "lintNames", unfollowed := true, recurses := true, plainKeys := false, apart := false }
def LintNamesSaid : Prop := lintNamesRow.holds Tryz.pinned (OpenSpec.ofChange lintNamesSpec)

/-- ITS FALSE NEIGHBOUR: 'it returns false'. Refute it at one input. -/
def lintNamesWrong : ChangeSpec := { name := "lintNames", fn := fun _ => fun
  | [] => { results := [.lit (.bool false)], args := [] }
  | _ => none }
def LintNamesWrongFalsely : Prop := lintNamesRow.holds Tryz.pinned (OpenSpec.ofChange lintNamesWrong)

/-- 'waymarklaw30.LintClauses': WHATEVER THE INPUT: true; the input reads as it did. -/
def lintClausesSpec : ChangeSpec := { name := "lintClauses", fn := fun _ => fun
  | [d1, d2, d3] => { results := [.lit (.bool true)], args := [d1, d2, d3] }
  | _ => none }
def lintClausesRow : OpenClaim := { program := "ytkiioneimheciaagreat", sum := "3f705a4db905ed65053db6031775639de6f1628fe6fd9376e2a6eff72e884525", func := "waymark/waymarklaw30.LintClauses", spec := "lintClauses", unfollowed := true, recurses := true, plainKeys := false, apart := false }
def LintClausesSaid : Prop := lintClausesRow.holds Tryz.pinned (OpenSpec.ofChange lintClausesSpec)

/-- ITS FALSE NEIGHBOUR: 'it returns false'. Refute it at one input. -/
def lintClausesWrong : ChangeSpec := { name := "lintClauses", fn := fun _ => fun
  | [d1, d2, d3] => { results := [.lit (.bool false)], args := [d1, d2, d3] }
  | _ => none }
def LintClausesWrongFalsely : Prop := lintClausesRow.holds Tryz.pinned (OpenSpec.ofChange lintClausesWrong)

/- THE SECOND FORM. 'bulk': how many values and letters a reading holds, each counted each time it is reached (what is shared counts as often as it is met; a slice's spare places count too). A statement '..UptoSaid' is the law's where the arguments, and the package variables that the reading takes, are together of bulk at most 1048576: NARROWER than '..Said'. Prove '..Said' where nothing that the law and all that it calls make is longer than what came in: it says more and counts as full. Else prove '..UptoSaid'. A law counts once. -/
mutual
def uptoBulk {H : Type} : DataW H → Nat
  | .lit (.string bytes) => bytes.length + 1
  | .lit _ => 1
  | .nil => 1
  | .ptr d => uptoBulk d + 1
  | .slice elems spare => uptoBulkAll elems + uptoBulkAll spare + 1
  | .agg parts => uptoBulkAll parts + 1
  | .iface _ d => uptoBulk d + 1
  | .map entries => uptoBulkEntries entries + 1
  | .held _ => 1
def uptoBulkAll {H : Type} : List (DataW H) → Nat
  | [] => 0
  | d :: r => uptoBulk d + uptoBulkAll r
def uptoBulkEntries {H : Type} : List (Lit × DataW H) → Nat
  | [] => 0
  | x :: r => uptoBulkEntry x + uptoBulkEntries r
def uptoBulkEntry {H : Type} : Lit × DataW H → Nat
  | (.string bytes, d) => bytes.length + uptoBulk d + 1
  | (_, d) => uptoBulk d + 1
 end
def uptoSmall : (H : Type) → List (DataW H) → Bool := fun _ ds => decide (uptoBulkAll ds ≤ 1048576)
def OpenSpec.upto (s : _root_.Go.ChangeSpec) : _root_.Go.OpenSpec := { _root_.Go.OpenSpec.ofChange s with cond := some uptoSmall }

/-- 'waymarklaw30.LintRewrites', WHERE WHAT IT READS IS OF BULK AT MOST 1048576: true; the input reads as it did. -/
def lintRewritesUptoRow : OpenClaim := { program := "ytkiioneimheciaagreat", sum := "3f705a4db905ed65053db6031775639de6f1628fe6fd9376e2a6eff72e884525", func := "waymark/waymarklaw30.LintRewrites", spec := "lintRewrites", unfollowed := true, recurses := true, plainKeys := false, apart := false, narrowed := true }
def LintRewritesUptoSaid : Prop := lintRewritesUptoRow.holds Tryz.pinned (OpenSpec.upto lintRewritesSpec)

/-- 'waymarklaw30.LintLists', WHERE WHAT IT READS IS OF BULK AT MOST 1048576: true; the input reads as it did. -/
def lintListsUptoRow : OpenClaim := { program := "ytkiioneimheciaagreat", sum := "3f705a4db905ed65053db6031775639de6f1628fe6fd9376e2a6eff72e884525", func := "waymark/waymarklaw30.LintLists", spec := "lintLists", unfollowed := true, recurses := true, plainKeys := false, apart := false, narrowed := true }
def LintListsUptoSaid : Prop := lintListsUptoRow.holds Tryz.pinned (OpenSpec.upto lintListsSpec)

/-- 'waymarklaw30.LintWithout', WHERE WHAT IT READS IS OF BULK AT MOST 1048576: true; the input reads as it did. -/
def lintWithoutUptoRow : OpenClaim := { program := "ytkiioneimheciaagreat", sum := "3f705a4db905ed65053db6031775639de6f1628fe6fd9376e2a6eff72e884525", func := "waymark/waymarklaw30.LintWithout", spec := "lintWithout", unfollowed := true, recurses := true, plainKeys := false, apart := false, narrowed := true }
def LintWithoutUptoSaid : Prop := lintWithoutUptoRow.holds Tryz.pinned (OpenSpec.upto lintWithoutSpec)

/-- 'waymarklaw30.LintRules', WHERE WHAT IT READS IS OF BULK AT MOST 1048576: true; the input reads as it did. -/
def lintRulesUptoRow : OpenClaim := { program := "ytkiioneimheciaagreat", sum := "3f705a4db905ed65053db6031775639de6f1628fe6fd9376e2a6eff72e884525", func := "waymark/waymarklaw30.LintRules", spec := "lintRules", unfollowed := true, recurses := true, plainKeys := false, apart := false, narrowed := true }
def LintRulesUptoSaid : Prop := lintRulesUptoRow.holds Tryz.pinned (OpenSpec.upto lintRulesSpec)

/-- 'waymarklaw30.LintParts', WHERE WHAT IT READS IS OF BULK AT MOST 1048576: true; the input reads as it did. -/
def lintPartsUptoRow : OpenClaim := { program := "ytkiioneimheciaagreat", sum := "3f705a4db905ed65053db6031775639de6f1628fe6fd9376e2a6eff72e884525", func := "waymark/waymarklaw30.LintParts", spec := "lintParts", unfollowed := true, recurses := true, plainKeys := false, apart := false, narrowed := true }
def LintPartsUptoSaid : Prop := lintPartsUptoRow.holds Tryz.pinned (OpenSpec.upto lintPartsSpec)

/-- 'waymarklaw30.LintFinds', WHERE WHAT IT READS IS OF BULK AT MOST 1048576: true; the input reads as it did. -/
def lintFindsUptoRow : OpenClaim := { program := "ytkiioneimheciaagreat", sum := "3f705a4db905ed65053db6031775639de6f1628fe6fd9376e2a6eff72e884525", func := "waymark/waymarklaw30.LintFinds", spec := "lintFinds", unfollowed := true, recurses := true, plainKeys := false, apart := false, narrowed := true }
def LintFindsUptoSaid : Prop := lintFindsUptoRow.holds Tryz.pinned (OpenSpec.upto lintFindsSpec)

/-- 'waymarklaw30.LintNames', WHERE WHAT IT READS IS OF BULK AT MOST 1048576: true; the input reads as it did. -/
def lintNamesUptoRow : OpenClaim := { program := "ytkiioneimheciaagreat", sum := "3f705a4db905ed65053db6031775639de6f1628fe6fd9376e2a6eff72e884525", func := "waymark/waymarklaw30.LintNames", spec := "lintNames", unfollowed := true, recurses := true, plainKeys := false, apart := false, narrowed := true }
def LintNamesUptoSaid : Prop := lintNamesUptoRow.holds Tryz.pinned (OpenSpec.upto lintNamesSpec)

/-- 'waymarklaw30.LintClauses', WHERE WHAT IT READS IS OF BULK AT MOST 1048576: true; the input reads as it did. -/
def lintClausesUptoRow : OpenClaim := { program := "ytkiioneimheciaagreat", sum := "3f705a4db905ed65053db6031775639de6f1628fe6fd9376e2a6eff72e884525", func := "waymark/waymarklaw30.LintClauses", spec := "lintClauses", unfollowed := true, recurses := true, plainKeys := false, apart := false, narrowed := true }
def LintClausesUptoSaid : Prop := lintClausesUptoRow.holds Tryz.pinned (OpenSpec.upto lintClausesSpec)

end Rows
end Go.Proofs.YtkiioneimheciaaGreat
