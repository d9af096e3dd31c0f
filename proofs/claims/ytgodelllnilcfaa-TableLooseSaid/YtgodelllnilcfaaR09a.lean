/-
  TableLoose.
  Conditions: none.
-/
import Derived.Test.YtgodelllnilcfaaX09
import Derived.Test.YtgodelllnilcfaaRows
import Derived.Test.YtgodelllnilcfaaChecked
import Derived.WalkKit
import Derived.ProofKit
import Derived.OpenShut
set_option linter.unusedVariables false
set_option maxRecDepth 100000
namespace Go.Proofs.Ytgodelllnilcfaa
open Go.Sy Go.RowKit Go.ChangeShapes Go.WideShapes Go.ChangeAt
theorem own : ownKnob Try.prog.godebug = none := by kernel_rfl
theorem tloose_lifted (os : Os) (started : os.Started) (H : Type) (enc : TypeId × Value → H) :
    ReturnsInHanded {} Try.checked os 6 .any (Rows.tableLooseSpec.pre6 enc Try.prog Try.f6 Rows.tableLooseRow.domain false) (Rows.tableLooseSpec.post enc Try.prog Try.f6 false true false false) := by
  haveI : GoodTab Try.checked.prog tab := goodTab
  refine law_row (T := tab) own started (by kernel_rfl) Try.func6 (ChangeSpec.witness6 (enc := enc) (C := Try.checked) false ⟨#[], #[.slice none 0 0, .agg #[.int .i64 0, .int .i64 0, .int .u8 0, .int .u8 0, .int .u8 0, .int .u8 0, .int .u8 0, .int .u8 0]], []⟩ 8 (by kernel_rfl) (by kernel_rfl) (by kernel_rfl) (by kernel_rfl)) (by kernel_rfl) (by kernel_rfl) rfl rfl Try.underlying4 ?_ (shs := [(.list (.agg [.int .i64, .int .i64, .int .i64, .int .i64, .int .i64, .int .i64, .int .u8, .int .u8, .int .u8, .int .u8, .int .u8, .int .u8, .list (.agg [.int .i64, .int .i64, .int .i64, .int .i64])])), (.agg [(.int .i64), (.int .i64), (.int .u8), (.int .u8), (.int .u8), (.int .u8), (.int .u8), (.int .u8)])]) (by kernel_rfl) ?_
  · intro ds hl
    match ds, hl with
    | [_, _], _ => rfl
  · intro Ds hwf
    obtain ⟨d0, _, rfl, w0, ⟨d1, _, rfl, w1, rfl⟩⟩ := hwf
    exact ⟨_, _, (callG_ok (T := tab) follows (envOf_good _ _ _) (tloose_run ((d0).nl) ((d0).xs) ((d1.at 0).int) ((d1.at 1).int) ((d1.at 2).int) ((d1.at 3).int) ((d1.at 4).int) ((d1.at 5).int) ((d1.at 6).int) ((d1.at 7).int))).2, rfl⟩
/-- The statement. -/
theorem tloose_proved : Rows.TableLooseSaid :=
  OpenClaim.holds_of_wide 6 Try.f6 rfl rfl rfl rfl rfl rfl rfl ⟨rfl, rfl, rfl, rfl, rfl⟩ rfl rfl rfl rfl rfl (by kernel_rfl) Try.func6 (by kernel_rfl)
    (of_decide_eq_true (by kernel_rfl)) (by unfold Func.isWrapper; first | (rw [if_pos (by decide +kernel)]; kernel_rfl) | (rw [if_neg (by decide +kernel)]; exact ⟨rfl, rfl⟩))
    (fun os started H enc _ => tloose_lifted os started H enc)
end Go.Proofs.Ytgodelllnilcfaa
