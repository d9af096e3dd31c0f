/-
  HailKnown.
  Conditions: none.
-/
import Derived.Test.YtdfdjikkgmclfaaKN16
import Derived.Test.YtdfdjikkgmclfaaRows
import Derived.Test.YtdfdjikkgmclfaaChecked
import Derived.WalkKit
import Derived.ProofKit
import Derived.OpenShut
set_option linter.unusedVariables false
set_option maxRecDepth 100000
namespace Go.Proofs.Ytdfdjikkgmclfaa
open Go.Sy Go.RowKit Go.ChangeShapes Go.WideShapes Go.ChangeAt
theorem own : ownKnob Try.prog.godebug = none := by kernel_rfl
theorem known_lifted (os : Os) (started : os.Started) (H : Type) (enc : TypeId × Value → H) :
    ReturnsInHanded {} Try.checked os 6 .any (Rows.hailKnownSpec.pre6 enc Try.prog Try.f6 Rows.hailKnownRow.domain false) (Rows.hailKnownSpec.post enc Try.prog Try.f6 false true false false) := by
  haveI : GoodTab Try.checked.prog tab := goodTab
  refine law_row (T := tab) own started (by kernel_rfl) Try.func6 (ChangeSpec.witness6 (enc := enc) (C := Try.checked) false ⟨#[], #[], []⟩ 8 (by kernel_rfl) (by kernel_rfl) (by kernel_rfl) (by kernel_rfl)) (by kernel_rfl) (by kernel_rfl) rfl rfl Try.underlying4 ?_ (shs := []) (by kernel_rfl) ?_
  · intro ds hl
    match ds, hl with
    | [], _ => rfl
  · intro Ds hwf
    obtain rfl := hwf
    exact ⟨_, _, (callG_ok (T := tab) follows (envOf_good _ _ _) (known_run)).2, rfl⟩
/-- The statement. -/
theorem known_proved : Rows.HailKnownSaid :=
  OpenClaim.holds_of_wide 6 Try.f6 rfl rfl rfl rfl rfl rfl rfl ⟨rfl, rfl, rfl, rfl, rfl⟩ rfl rfl rfl rfl rfl (by kernel_rfl) Try.func6 (by kernel_rfl)
    (of_decide_eq_true (by kernel_rfl)) (by unfold Func.isWrapper; first | (rw [if_pos (by decide +kernel)]; kernel_rfl) | (rw [if_neg (by decide +kernel)]; exact ⟨rfl, rfl⟩))
    (fun os started H enc _ => known_lifted os started H enc)
end Go.Proofs.Ytdfdjikkgmclfaa
