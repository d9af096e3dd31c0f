/-
  GraphNames.
  Conditions: none.
-/
import Derived.Test.YtmokkonnilmdfaaKN12
import Derived.Test.YtmokkonnilmdfaaRows
import Derived.Test.YtmokkonnilmdfaaChecked
import Derived.WalkKit
import Derived.ProofKit
import Derived.OpenShut
set_option linter.unusedVariables false
set_option maxRecDepth 100000
namespace Go.Proofs.Ytmokkonnilmdfaa
open Go.Sy Go.RowKit Go.ChangeShapes Go.WideShapes Go.ChangeAt
theorem own : ownKnob Try.prog.godebug = none := by kernel_rfl
theorem names_lifted (os : Os) (started : os.Started) (H : Type) (enc : TypeId × Value → H) :
    ReturnsInHanded {} Try.checked os 7 .any (Rows.graphNamesSpec.pre6 enc Try.prog Try.f7 Rows.graphNamesRow.domain false) (Rows.graphNamesSpec.post enc Try.prog Try.f7 false true false false) := by
  haveI : GoodTab Try.checked.prog tab := goodTab
  refine law_row (T := tab) own started (by kernel_rfl) Try.func7 (ChangeSpec.witness6 (enc := enc) (C := Try.checked) false ⟨#[], #[], []⟩ 8 (by kernel_rfl) (by kernel_rfl) (by kernel_rfl) (by kernel_rfl)) (by kernel_rfl) (by kernel_rfl) rfl rfl Try.underlying4 ?_ (shs := []) (by kernel_rfl) ?_
  · intro ds hl
    match ds, hl with
    | [], _ => rfl
  · intro Ds hwf
    obtain rfl := hwf
    exact ⟨_, _, (callG_ok (T := tab) follows (envOf_good _ _ _) (names_run)).2, rfl⟩
/-- The statement. -/
theorem names_proved : Rows.GraphNamesSaid :=
  OpenClaim.holds_of_wide 7 Try.f7 rfl rfl rfl rfl rfl rfl rfl ⟨rfl, rfl, rfl, rfl, rfl⟩ rfl rfl rfl rfl rfl (by kernel_rfl) Try.func7 (by kernel_rfl)
    (of_decide_eq_true (by kernel_rfl)) (by unfold Func.isWrapper; first | (rw [if_pos (by decide +kernel)]; kernel_rfl) | (rw [if_neg (by decide +kernel)]; exact ⟨rfl, rfl⟩))
    (fun os started H enc _ => names_lifted os started H enc)
end Go.Proofs.Ytmokkonnilmdfaa
