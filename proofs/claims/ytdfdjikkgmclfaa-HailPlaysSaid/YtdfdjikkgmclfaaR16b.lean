/-
  HailPlays.
  Conditions: none.
-/
import Derived.Test.YtdfdjikkgmclfaaK16
import Derived.Test.YtdfdjikkgmclfaaRows
import Derived.Test.YtdfdjikkgmclfaaChecked
import Derived.WalkKit
import Derived.ProofKit
import Derived.OpenShut
set_option linter.unusedVariables false
set_option maxRecDepth 100000
namespace Go.Proofs.Ytdfdjikkgmclfaa
open Go.Sy Go.RowKit Go.ChangeShapes Go.WideShapes Go.ChangeAt
theorem own : ownKnob Try.prog.godebug = none := by kernel_rfl
theorem plays_lifted (os : Os) (started : os.Started) (H : Type) (enc : TypeId × Value → H) :
    ReturnsInHanded {} Try.checked os 5 .any (Rows.hailPlaysSpec.pre6 enc Try.prog Try.f5 Rows.hailPlaysRow.domain false) (Rows.hailPlaysSpec.post enc Try.prog Try.f5 false true false false) := by
  haveI : GoodTab Try.checked.prog tab := goodTab
  refine law_row (T := tab) own started (by kernel_rfl) Try.func5 (ChangeSpec.witness6 (enc := enc) (C := Try.checked) false ⟨#[], #[.agg #[.int .i64 0, .int .i64 0], .agg #[.int .i64 0, .int .i64 0], .slice none 0 0], []⟩ 8 (by kernel_rfl) (by kernel_rfl) (by kernel_rfl) (by kernel_rfl)) (by kernel_rfl) (by kernel_rfl) rfl rfl Try.underlying4 ?_ (shs := [(.agg [(.int .i64), (.int .i64)]), (.agg [(.int .i64), (.int .i64)]), (.list (.agg [.int .i64, .int .i64, .int .i64, .int .i64, .int .i64, .int .i64, .int .i64, .int .i64, .int .i64, .int .i64, .list (.int .u8)]))]) (by kernel_rfl) ?_
  · intro ds hl
    match ds, hl with
    | [_, _, _], _ => rfl
  · intro Ds hwf
    obtain ⟨d0, _, rfl, w0, ⟨d1, _, rfl, w1, ⟨d2, _, rfl, w2, rfl⟩⟩⟩ := hwf
    exact ⟨_, _, (callG_ok (T := tab) follows (envOf_good _ _ _) (plays_run ((d0.at 0).int) ((d0.at 1).int) ((d1.at 0).int) ((d1.at 1).int) ((d2).nl) ((d2).xs))).2, rfl⟩
/-- The statement. -/
theorem plays_proved : Rows.HailPlaysSaid :=
  OpenClaim.holds_of_wide 5 Try.f5 rfl rfl rfl rfl rfl rfl rfl ⟨rfl, rfl, rfl, rfl, rfl⟩ rfl rfl rfl rfl rfl (by kernel_rfl) Try.func5 (by kernel_rfl)
    (of_decide_eq_true (by kernel_rfl)) (by unfold Func.isWrapper; first | (rw [if_pos (by decide +kernel)]; kernel_rfl) | (rw [if_neg (by decide +kernel)]; exact ⟨rfl, rfl⟩))
    (fun os started H enc _ => plays_lifted os started H enc)
end Go.Proofs.Ytdfdjikkgmclfaa
