/-
  RuleDoes.
  Conditions: none.
-/
import Derived.Test.YtkcadajkgeakhaaD08
import Derived.Test.YtkcadajkgeakhaaRows
import Derived.Test.YtkcadajkgeakhaaChecked
import Derived.WalkKit
import Derived.ProofKit
import Derived.OpenShut
set_option linter.unusedVariables false
set_option maxRecDepth 100000
namespace Go.Proofs.Ytkcadajkgeakhaa
open Go.Sy Go.RowKit Go.ChangeShapes Go.WideShapes Go.ChangeAt
theorem own : ownKnob Try.prog.godebug = none := by kernel_rfl
theorem ruleDoes_lifted (os : Os) (started : os.Started) (H : Type) (enc : TypeId × Value → H) :
    ReturnsInHanded {} Try.checked os 3 .any (Rows.ruleDoesSpec.pre6 enc Try.prog Try.f3 Rows.ruleDoesRow.domain false) (Rows.ruleDoesSpec.post enc Try.prog Try.f3 false true false false) := by
  haveI : GoodTab Try.checked.prog tab := goodTab
  refine law_row (T := tab) own started (by kernel_rfl) Try.func3 (ChangeSpec.witness6 (enc := enc) (C := Try.checked) false ⟨#[], #[.agg #[.int .i64 0, .int .i64 0, .int .i64 0, .int .i64 0, .int .i64 0, .int .i64 0, .int .u8 0, .int .u8 0, .int .u8 0, .int .u8 0, .int .u8 0, .int .u8 0, .slice none 0 0], .agg #[.int .u8 0, .int .u8 0, .int .u8 0]], []⟩ 8 (by kernel_rfl) (by kernel_rfl) (by kernel_rfl) (by kernel_rfl)) (by kernel_rfl) (by kernel_rfl) rfl rfl Try.underlying4 ?_ (shs := [(.agg [(.int .i64), (.int .i64), (.int .i64), (.int .i64), (.int .i64), (.int .i64), (.int .u8), (.int .u8), (.int .u8), (.int .u8), (.int .u8), (.int .u8), (.list (.agg [.int .i64, .int .i64, .int .i64, .int .i64]))]), (.agg [(.int .u8), (.int .u8), (.int .u8)])]) (by kernel_rfl) ?_
  · intro ds hl
    match ds, hl with
    | [_, _], _ => rfl
  · intro Ds hwf
    obtain ⟨d0, _, rfl, w0, ⟨d1, _, rfl, w1, rfl⟩⟩ := hwf
    exact ⟨_, _, (callG_ok (T := tab) follows (envOf_good _ _ _) (ruleDoes_run ((d0.at 0).int) ((d0.at 1).int) ((d0.at 2).int) ((d0.at 3).int) ((d0.at 4).int) ((d0.at 5).int) ((d0.at 6).int) ((d0.at 7).int) ((d0.at 8).int) ((d0.at 9).int) ((d0.at 10).int) ((d0.at 11).int) ((d0.at 12).nl) ((d0.at 12).xs) ((d1.at 0).int) ((d1.at 1).int) ((d1.at 2).int))).2, rfl⟩
/-- The statement. -/
theorem ruleDoes_proved : Rows.RuleDoesSaid :=
  OpenClaim.holds_of_wide 3 Try.f3 rfl rfl rfl rfl rfl rfl rfl ⟨rfl, rfl, rfl, rfl, rfl⟩ rfl rfl rfl rfl rfl (by kernel_rfl) Try.func3 (by kernel_rfl)
    (of_decide_eq_true (by kernel_rfl)) (by unfold Func.isWrapper; first | (rw [if_pos (by decide +kernel)]; kernel_rfl) | (rw [if_neg (by decide +kernel)]; exact ⟨rfl, rfl⟩))
    (fun os started H enc _ => ruleDoes_lifted os started H enc)
end Go.Proofs.Ytkcadajkgeakhaa
