/-
  SieveNames.
  Conditions: none.
-/
import Derived.Test.YtepphklolhddhaaKN24
import Derived.Test.YtepphklolhddhaaRows
import Derived.Test.YtepphklolhddhaaChecked
import Derived.WalkKit
import Derived.ProofKit
import Derived.OpenShut
set_option linter.unusedVariables false
set_option maxRecDepth 100000
namespace Go.Proofs.Ytepphklolhddhaa
open Go.Sy Go.RowKit Go.ChangeShapes Go.WideShapes Go.ChangeAt
theorem own : ownKnob Try.prog.godebug = none := by kernel_rfl
theorem known_lifted (os : Os) (started : os.Started) (H : Type) (enc : TypeId × Value → H) :
    ReturnsInHanded {} Try.checked os 4 .any (Rows.sieveNamesSpec.pre6 enc Try.prog Try.f4 Rows.sieveNamesRow.domain false) (Rows.sieveNamesSpec.post enc Try.prog Try.f4 false true false false) := by
  haveI : GoodTab Try.checked.prog tab := goodTab
  refine law_row (T := tab) own started (by kernel_rfl) Try.func4 (ChangeSpec.witness6 (enc := enc) (C := Try.checked) false ⟨#[], #[], []⟩ 8 (by kernel_rfl) (by kernel_rfl) (by kernel_rfl) (by kernel_rfl)) (by kernel_rfl) (by kernel_rfl) rfl rfl Try.underlying4 ?_ (shs := []) (by kernel_rfl) ?_
  · intro ds hl
    match ds, hl with
    | [], _ => rfl
  · intro Ds hwf
    obtain rfl := hwf
    exact ⟨_, _, (callG_ok (T := tab) follows (envOf_good _ _ _) (known_run)).2, rfl⟩
/-- The statement. -/
theorem known_proved : Rows.SieveNamesSaid :=
  OpenClaim.holds_of_wide 4 Try.f4 rfl rfl rfl rfl rfl rfl rfl ⟨rfl, rfl, rfl, rfl, rfl⟩ rfl rfl rfl rfl rfl (by kernel_rfl) Try.func4 (by kernel_rfl)
    (of_decide_eq_true (by kernel_rfl)) (by unfold Func.isWrapper; first | (rw [if_pos (by decide +kernel)]; kernel_rfl) | (rw [if_neg (by decide +kernel)]; exact ⟨rfl, rfl⟩))
    (fun os started H enc _ => known_lifted os started H enc)
end Go.Proofs.Ytepphklolhddhaa
