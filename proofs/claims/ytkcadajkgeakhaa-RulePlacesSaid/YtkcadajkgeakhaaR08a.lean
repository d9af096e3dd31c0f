/-
  RulePlaces returns true, whatever the three rules.
  Conditions: none.
-/
import Derived.Test.YtkcadajkgeakhaaP08
import Derived.Test.YtkcadajkgeakhaaRows
import Derived.Test.YtkcadajkgeakhaaChecked
import Derived.WalkKit
import Derived.ProofKit
import Derived.OpenShut
set_option linter.unusedVariables false
set_option maxRecDepth 100000
namespace Go.Proofs.Ytkcadajkgeakhaa
open Go.Sy Go.RowKit Go.ChangeShapes Go.WideShapes Go.ChangeAt
theorem own : ownKnob Try.prog.godebug = none := by kernel_rfl
theorem rulePlaces_lifted (os : Os) (started : os.Started) (H : Type) (enc : TypeId × Value → H) :
    ReturnsInHanded {} Try.checked os 4 .any (Rows.rulePlacesSpec.pre6 enc Try.prog Try.f4 Rows.rulePlacesRow.domain false) (Rows.rulePlacesSpec.post enc Try.prog Try.f4 false true false false) := by
  haveI : GoodTab Try.checked.prog tab := goodTab
  refine law_row (T := tab) own started (by kernel_rfl) Try.func4 (ChangeSpec.witness6 (enc := enc) (C := Try.checked) false ⟨#[], #[.agg #[.int .i64 0, .int .i64 0, .int .i64 0, .int .i64 0, .int .i64 0, .int .i64 0, .int .u8 0, .int .u8 0, .int .u8 0, .int .u8 0, .int .u8 0, .int .u8 0, .slice none 0 0, .int .i64 0, .int .i64 0, .int .i64 0, .int .i64 0, .int .i64 0, .int .i64 0, .int .u8 0, .int .u8 0, .int .u8 0, .int .u8 0, .int .u8 0, .int .u8 0, .slice none 0 0, .int .i64 0, .int .i64 0, .int .i64 0, .int .i64 0, .int .i64 0, .int .i64 0, .int .u8 0, .int .u8 0, .int .u8 0, .int .u8 0, .int .u8 0, .int .u8 0, .slice none 0 0]], []⟩ 8 (by kernel_rfl) (by kernel_rfl) (by kernel_rfl) (by kernel_rfl)) (by kernel_rfl) (by kernel_rfl) rfl rfl Try.underlying4 ?_ (shs := [(.agg [(.int .i64), (.int .i64), (.int .i64), (.int .i64), (.int .i64), (.int .i64), (.int .u8), (.int .u8), (.int .u8), (.int .u8), (.int .u8), (.int .u8), (.list (.agg [.int .i64, .int .i64, .int .i64, .int .i64])), (.int .i64), (.int .i64), (.int .i64), (.int .i64), (.int .i64), (.int .i64), (.int .u8), (.int .u8), (.int .u8), (.int .u8), (.int .u8), (.int .u8), (.list (.agg [.int .i64, .int .i64, .int .i64, .int .i64])), (.int .i64), (.int .i64), (.int .i64), (.int .i64), (.int .i64), (.int .i64), (.int .u8), (.int .u8), (.int .u8), (.int .u8), (.int .u8), (.int .u8), (.list (.agg [.int .i64, .int .i64, .int .i64, .int .i64]))])]) (by kernel_rfl) ?_
  · intro ds hl
    match ds, hl with
    | [_], _ => rfl
  · intro Ds hwf
    obtain ⟨d0, _, rfl, w0, rfl⟩ := hwf
    exact ⟨_, _, (callG_ok (T := tab) follows (envOf_good _ _ _) (rulePlaces_run ((d0.at 0).int) ((d0.at 1).int) ((d0.at 2).int) ((d0.at 3).int) ((d0.at 4).int) ((d0.at 5).int) ((d0.at 6).int) ((d0.at 7).int) ((d0.at 8).int) ((d0.at 9).int) ((d0.at 10).int) ((d0.at 11).int) ((d0.at 12).nl) ((d0.at 12).xs) ((d0.at 13).int) ((d0.at 14).int) ((d0.at 15).int) ((d0.at 16).int) ((d0.at 17).int) ((d0.at 18).int) ((d0.at 19).int) ((d0.at 20).int) ((d0.at 21).int) ((d0.at 22).int) ((d0.at 23).int) ((d0.at 24).int) ((d0.at 25).nl) ((d0.at 25).xs) ((d0.at 26).int) ((d0.at 27).int) ((d0.at 28).int) ((d0.at 29).int) ((d0.at 30).int) ((d0.at 31).int) ((d0.at 32).int) ((d0.at 33).int) ((d0.at 34).int) ((d0.at 35).int) ((d0.at 36).int) ((d0.at 37).int) ((d0.at 38).nl) ((d0.at 38).xs))).2, rfl⟩
/-- The statement. -/
theorem rulePlaces_proved : Rows.RulePlacesSaid :=
  OpenClaim.holds_of_wide 4 Try.f4 rfl rfl rfl rfl rfl rfl rfl ⟨rfl, rfl, rfl, rfl, rfl⟩ rfl rfl rfl rfl rfl (by kernel_rfl) Try.func4 (by kernel_rfl)
    (of_decide_eq_true (by kernel_rfl)) (by unfold Func.isWrapper; first | (rw [if_pos (by decide +kernel)]; kernel_rfl) | (rw [if_neg (by decide +kernel)]; exact ⟨rfl, rfl⟩))
    (fun os started H enc _ => rulePlaces_lifted os started H enc)
end Go.Proofs.Ytkcadajkgeakhaa
