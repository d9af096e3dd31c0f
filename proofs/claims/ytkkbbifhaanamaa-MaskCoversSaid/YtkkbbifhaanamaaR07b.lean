/-
  MaskCovers returns true, whatever the masks, the version, the port and the header.
  Conditions: none.
-/
import Derived.Test.YtkkbbifhaanamaaK07
import Derived.Test.YtkkbbifhaanamaaRows
import Derived.Test.YtkkbbifhaanamaaChecked
import Derived.WalkKit
import Derived.ProofKit
import Derived.OpenShut
set_option linter.unusedVariables false
set_option maxRecDepth 100000
namespace Go.Proofs.Ytkkbbifhaanamaa
open Go.Sy Go.RowKit Go.ChangeShapes Go.WideShapes Go.ChangeAt
theorem own : ownKnob Try.prog.godebug = none := by kernel_rfl
theorem maskCovers_lifted (os : Os) (started : os.Started) (H : Type) (enc : TypeId × Value → H) :
    ReturnsInHanded {} Try.checked os 7 .any (Rows.maskCoversSpec.pre6 enc Try.prog Try.f7 Rows.maskCoversRow.domain false) (Rows.maskCoversSpec.post enc Try.prog Try.f7 false true false false) := by
  haveI : GoodTab Try.checked.prog tab := goodTab
  refine law_row (T := tab) own started (by kernel_rfl) Try.func7 (ChangeSpec.witness6 (enc := enc) (C := Try.checked) false ⟨#[], #[.agg #[.int .i64 0, .int .i64 0, .int .u8 0, .int .u8 0, .int .u8 0, .int .u8 0, .int .u8 0, .int .u8 0, .int .i64 0, .int .i64 0, .int .u8 0, .int .u8 0, .int .u8 0, .int .u8 0, .int .u8 0, .int .u8 0], .agg #[.int .i64 0, .int .i64 0], .agg #[.int .u8 0, .int .u8 0, .int .u8 0]], []⟩ 8 (by kernel_rfl) (by kernel_rfl) (by kernel_rfl) (by kernel_rfl)) (by kernel_rfl) (by kernel_rfl) rfl rfl Try.underlying4 ?_ (shs := [(.agg [(.int .i64), (.int .i64), (.int .u8), (.int .u8), (.int .u8), (.int .u8), (.int .u8), (.int .u8), (.int .i64), (.int .i64), (.int .u8), (.int .u8), (.int .u8), (.int .u8), (.int .u8), (.int .u8)]), (.agg [(.int .i64), (.int .i64)]), (.agg [(.int .u8), (.int .u8), (.int .u8)])]) (by kernel_rfl) ?_
  · intro ds hl
    match ds, hl with
    | [_, _, _], _ => rfl
  · intro Ds hwf
    obtain ⟨_, _, rfl, ⟨_, rfl, ⟨_, _, rfl, ⟨v, rfl, v_lo, v_hi⟩, ⟨_, _, rfl, ⟨p, rfl, p_lo, p_hi⟩, ⟨_, _, rfl, ⟨b0, rfl, b0_lo, b0_hi⟩, ⟨_, _, rfl, ⟨b1, rfl, b1_lo, b1_hi⟩, ⟨_, _, rfl, ⟨b2, rfl, b2_lo, b2_hi⟩, ⟨_, _, rfl, ⟨i0, rfl, i0_lo, i0_hi⟩, ⟨_, _, rfl, ⟨i1, rfl, i1_lo, i1_hi⟩, ⟨_, _, rfl, ⟨i2, rfl, i2_lo, i2_hi⟩, ⟨_, _, rfl, ⟨v', rfl, v'_lo, v'_hi⟩, ⟨_, _, rfl, ⟨p', rfl, p'_lo, p'_hi⟩, ⟨_, _, rfl, ⟨c0, rfl, c0_lo, c0_hi⟩, ⟨_, _, rfl, ⟨c1, rfl, c1_lo, c1_hi⟩, ⟨_, _, rfl, ⟨c2, rfl, c2_lo, c2_hi⟩, ⟨_, _, rfl, ⟨j0, rfl, j0_lo, j0_hi⟩, ⟨_, _, rfl, ⟨j1, rfl, j1_lo, j1_hi⟩, ⟨_, _, rfl, ⟨j2, rfl, j2_lo, j2_hi⟩, rfl⟩⟩⟩⟩⟩⟩⟩⟩⟩⟩⟩⟩⟩⟩⟩⟩⟩, ⟨_, _, rfl, ⟨_, rfl, ⟨_, _, rfl, ⟨ver, rfl, ver_lo, ver_hi⟩, ⟨_, _, rfl, ⟨port, rfl, port_lo, port_hi⟩, rfl⟩⟩⟩, ⟨_, _, rfl, ⟨_, rfl, ⟨_, _, rfl, ⟨h0, rfl, h0_lo, h0_hi⟩, ⟨_, _, rfl, ⟨h1, rfl, h1_lo, h1_hi⟩, ⟨_, _, rfl, ⟨h2, rfl, h2_lo, h2_hi⟩, rfl⟩⟩⟩⟩, rfl⟩⟩⟩ := hwf
    exact ⟨_, _, (callG_ok (T := tab) follows (envOf_good _ _ _) (maskCovers_run v p b0 b1 b2 i0 i1 i2 v' p' c0 c1 c2 j0 j1 j2 ver port h0 h1 h2 v_lo v_hi p_lo p_hi)).2, rfl⟩
/-- The statement. -/
theorem maskCovers_proved : Rows.MaskCoversSaid :=
  OpenClaim.holds_of_wide 7 Try.f7 rfl rfl rfl rfl rfl rfl rfl ⟨rfl, rfl, rfl, rfl, rfl⟩ rfl rfl rfl rfl rfl (by kernel_rfl) Try.func7 (by kernel_rfl)
    (of_decide_eq_true (by kernel_rfl)) (by unfold Func.isWrapper; first | (rw [if_pos (by decide +kernel)]; kernel_rfl) | (rw [if_neg (by decide +kernel)]; exact ⟨rfl, rfl⟩))
    (fun os started H enc _ => maskCovers_lifted os started H enc)
end Go.Proofs.Ytkkbbifhaanamaa
