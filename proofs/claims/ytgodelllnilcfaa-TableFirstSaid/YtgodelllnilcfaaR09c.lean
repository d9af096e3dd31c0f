/-
  TableFirst.
  Conditions: none.
-/
import Derived.Test.YtgodelllnilcfaaTG09
import Derived.Test.YtgodelllnilcfaaRows
import Derived.Test.YtgodelllnilcfaaChecked
import Derived.WalkKit
import Derived.ProofKit
import Derived.OpenShut
set_option linter.unusedVariables false
set_option maxRecDepth 100000
namespace Go.Proofs.Ytgodelllnilcfaa
open Go.Sy Go.RowKit Go.ChangeShapes Go.WideShapes Go.ChangeAt
theorem own : ownKnob Try.prog.godebug = none := by kernel_rfl
theorem tfirst_lifted (os : Os) (started : os.Started) (H : Type) (enc : TypeId × Value → H) :
    ReturnsInHanded {} Try.checked os 3 .any (Rows.tableFirstSpec.pre6 enc Try.prog Try.f3 Rows.tableFirstRow.domain false) (Rows.tableFirstSpec.post enc Try.prog Try.f3 false true false false) := by
  haveI : GoodTab Try.checked.prog tab := goodTab
  refine law_row (T := tab) own started (by kernel_rfl) Try.func3 (ChangeSpec.witness6 (enc := enc) (C := Try.checked) false ⟨#[], #[.slice none 0 0, .slice none 0 0, .agg #[.int .u8 0, .int .u8 0, .int .u8 0]], []⟩ 8 (by kernel_rfl) (by kernel_rfl) (by kernel_rfl) (by kernel_rfl)) (by kernel_rfl) (by kernel_rfl) rfl rfl Try.underlying4 ?_ (shs := [(.list (.agg [.int .i64, .int .i64, .int .i64, .int .i64, .int .i64, .int .i64, .int .u8, .int .u8, .int .u8, .int .u8, .int .u8, .int .u8, .list (.agg [.int .i64, .int .i64, .int .i64, .int .i64])])), (.list .bool), (.agg [(.int .u8), (.int .u8), (.int .u8)])]) (by kernel_rfl) ?_
  · intro ds hl
    match ds, hl with
    | [_, _, _], _ => rfl
  · intro Ds hwf
    obtain ⟨d0, _, rfl, w0, ⟨d1, _, rfl, w1, ⟨d2, _, rfl, w2, rfl⟩⟩⟩ := hwf
    exact ⟨_, _, (callG_ok (T := tab) follows (envOf_good _ _ _) (tfirst_run ((d0).nl) ((d0).xs) ((d1).nl) ((d1).xs) ((d2.at 0).int) ((d2.at 1).int) ((d2.at 2).int))).2, rfl⟩
/-- The statement. -/
theorem tfirst_proved : Rows.TableFirstSaid :=
  OpenClaim.holds_of_wide 3 Try.f3 rfl rfl rfl rfl rfl rfl rfl ⟨rfl, rfl, rfl, rfl, rfl⟩ rfl rfl rfl rfl rfl (by kernel_rfl) Try.func3 (by kernel_rfl)
    (of_decide_eq_true (by kernel_rfl)) (by unfold Func.isWrapper; first | (rw [if_pos (by decide +kernel)]; kernel_rfl) | (rw [if_neg (by decide +kernel)]; exact ⟨rfl, rfl⟩))
    (fun os started H enc _ => tfirst_lifted os started H enc)
end Go.Proofs.Ytgodelllnilcfaa
