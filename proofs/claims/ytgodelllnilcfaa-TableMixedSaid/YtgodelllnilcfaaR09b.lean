/-
  TableMixed.
  Conditions: none.
-/
import Derived.Test.YtgodelllnilcfaaMZ09
import Derived.Test.YtgodelllnilcfaaRows
import Derived.Test.YtgodelllnilcfaaChecked
import Derived.WalkKit
import Derived.ProofKit
import Derived.OpenShut
set_option linter.unusedVariables false
set_option maxRecDepth 100000
namespace Go.Proofs.Ytgodelllnilcfaa
open Go.Sy Go.RowKit Go.ChangeShapes Go.WideShapes Go.ChangeAt
theorem own : ownKnob Try.prog.godebug = none := by kernel_rfl
theorem tmixed_lifted (os : Os) (started : os.Started) (H : Type) (enc : TypeId × Value → H) :
    ReturnsInHanded {} Try.checked os 7 .any (Rows.tableMixedSpec.pre6 enc Try.prog Try.f7 Rows.tableMixedRow.domain false) (Rows.tableMixedSpec.post enc Try.prog Try.f7 false true false false) := by
  haveI : GoodTab Try.checked.prog tab := goodTab
  refine law_row (T := tab) own started (by kernel_rfl) Try.func7 (ChangeSpec.witness6 (enc := enc) (C := Try.checked) false ⟨#[], #[.slice none 0 0, .int .i64 0, .int .i64 0], []⟩ 8 (by kernel_rfl) (by kernel_rfl) (by kernel_rfl) (by kernel_rfl)) (by kernel_rfl) (by kernel_rfl) rfl rfl Try.underlying4 ?_ (shs := [(.list (.agg [.int .i64, .int .i64, .int .i64, .int .i64, .int .i64, .int .i64, .int .u8, .int .u8, .int .u8, .int .u8, .int .u8, .int .u8, .list (.agg [.int .i64, .int .i64, .int .i64, .int .i64])])), (.int .i64), (.int .i64)]) (by kernel_rfl) ?_
  · intro ds hl
    match ds, hl with
    | [_, _, _], _ => rfl
  · intro Ds hwf
    obtain ⟨d0, _, rfl, w0, ⟨d1, _, rfl, w1, ⟨d2, _, rfl, w2, rfl⟩⟩⟩ := hwf
    exact ⟨_, _, (callG_ok (T := tab) follows (envOf_good _ _ _) (tmixed_run ((d0).nl) ((d0).xs) ((d1).int) ((d2).int))).2, rfl⟩
/-- The statement. -/
theorem tmixed_proved : Rows.TableMixedSaid :=
  OpenClaim.holds_of_wide 7 Try.f7 rfl rfl rfl rfl rfl rfl rfl ⟨rfl, rfl, rfl, rfl, rfl⟩ rfl rfl rfl rfl rfl (by kernel_rfl) Try.func7 (by kernel_rfl)
    (of_decide_eq_true (by kernel_rfl)) (by unfold Func.isWrapper; first | (rw [if_pos (by decide +kernel)]; kernel_rfl) | (rw [if_neg (by decide +kernel)]; exact ⟨rfl, rfl⟩))
    (fun os started H enc _ => tmixed_lifted os started H enc)
end Go.Proofs.Ytgodelllnilcfaa
