/-
  MaskFits, MaskMeets and MaskOnly return true, whatever the masks, versions, ports, headers, fields and bytes.
  Conditions: none.
-/
import Derived.Test.YtkkbbifhaanamaaMask
import Derived.Test.YtkkbbifhaanamaaRows
import Derived.Test.YtkkbbifhaanamaaChecked
import Derived.WalkKit
import Derived.ProofKit
import Derived.OpenShut
set_option linter.unusedVariables false
namespace Go.Proofs.Ytkkbbifhaanamaa
open Go.Sx Go.RowKit Go.ChangeShapes Go.WideShapes Go.ChangeAt
theorem own : ownKnob Try.prog.godebug = none := by kernel_rfl
set_option maxRecDepth 100000 in
set_option maxRecDepth 100000 in
theorem maskFits_lifted (os : Os) (started : os.Started) (H : Type) (enc : TypeId × Value → H) :
    ReturnsInHanded {} Try.checked os 3 .any (Rows.maskFitsSpec.pre6 enc Try.prog Try.f3 Rows.maskFitsRow.domain false) (Rows.maskFitsSpec.post enc Try.prog Try.f3 false true false false) := by
  refine row_of own started (by kernel_rfl) Try.func3 (ChangeSpec.witness6 (enc := enc) (C := Try.checked) false ⟨#[], #[.agg #[.int .i64 0, .int .i64 0, .int .u8 0, .int .u8 0, .int .u8 0, .int .u8 0, .int .u8 0, .int .u8 0], .agg #[.int .i64 0, .int .i64 0], .agg #[.int .u8 0, .int .u8 0, .int .u8 0]], []⟩ 8 (by kernel_rfl) (by kernel_rfl) (by kernel_rfl) (by kernel_rfl)) (by kernel_rfl) (by kernel_rfl) rfl rfl Try.underlying4 ?_ ?_
  · intro ds hl
    match ds, hl with
    | [_, _, _], _ => rfl
  · intro W base args ds ps hsz hval _ _
    obtain ⟨v0_, v1_, v2_, rfl⟩ : ∃ v0_ v1_ v2_, args = #[v0_, v1_, v2_] := by
      have h : args.toList.length = 3 := by simpa using hsz
      obtain ⟨l⟩ := args
      match l, h with
      | [v0_, v1_, v2_], _ => exact ⟨v0_, v1_, v2_, rfl⟩
    obtain ⟨s0, rfl, k0⟩ := open_kinds (P := Try.prog) (t := 25) (ks := [some .i64, some .i64, some .u8, some .u8, some .u8, some .u8, some .u8, some .u8]) (by kernel_rfl) (hval 0 25 _ rfl rfl)
    obtain ⟨x0_0, _, rfl, wx0_0, ⟨x0_1, _, rfl, wx0_1, ⟨x0_2, _, rfl, wx0_2, ⟨x0_3, _, rfl, wx0_3, ⟨x0_4, _, rfl, wx0_4, ⟨x0_5, _, rfl, wx0_5, ⟨x0_6, _, rfl, wx0_6, ⟨x0_7, _, rfl, wx0_7, rfl⟩⟩⟩⟩⟩⟩⟩⟩ := k0
    obtain ⟨s1, rfl, k1⟩ := open_kinds (P := Try.prog) (t := 26) (ks := [some .i64, some .i64]) (by kernel_rfl) (hval 1 26 _ rfl rfl)
    obtain ⟨x1_0, _, rfl, wx1_0, ⟨x1_1, _, rfl, wx1_1, rfl⟩⟩ := k1
    obtain ⟨s2, rfl, k2⟩ := open_kinds (P := Try.prog) (t := 23) (ks := [some .u8, some .u8, some .u8]) (by kernel_rfl) (hval 2 23 _ rfl rfl)
    obtain ⟨x2_0, _, rfl, wx2_0, ⟨x2_1, _, rfl, wx2_1, ⟨x2_2, _, rfl, wx2_2, rfl⟩⟩⟩ := k2
    exact (calls_of_gives follows (good_specsOf _) (maskFits_gives x0_0 x0_1 x0_2 x0_3 x0_4 x0_5 x0_6 x0_7 x1_0 x1_1 x2_0 x2_1 x2_2) W).2
/-- The statement. -/
theorem maskFits_proved : Rows.MaskFitsSaid :=
  OpenClaim.holds_of_wide 3 Try.f3 rfl rfl rfl rfl rfl rfl rfl ⟨rfl, rfl, rfl, rfl, rfl⟩ rfl rfl rfl rfl rfl (by kernel_rfl) Try.func3 (by kernel_rfl)
    (of_decide_eq_true (by kernel_rfl)) (by unfold Func.isWrapper; first | (rw [if_pos (by decide +kernel)]; kernel_rfl) | (rw [if_neg (by decide +kernel)]; exact ⟨rfl, rfl⟩))
    (fun os started H enc _ => maskFits_lifted os started H enc)
set_option maxRecDepth 100000 in
theorem maskMeets_lifted (os : Os) (started : os.Started) (H : Type) (enc : TypeId × Value → H) :
    ReturnsInHanded {} Try.checked os 4 .any (Rows.maskMeetsSpec.pre6 enc Try.prog Try.f4 Rows.maskMeetsRow.domain false) (Rows.maskMeetsSpec.post enc Try.prog Try.f4 false true false false) := by
  refine row_of own started (by kernel_rfl) Try.func4 (ChangeSpec.witness6 (enc := enc) (C := Try.checked) false ⟨#[], #[.agg #[.int .i64 0, .int .i64 0, .int .u8 0, .int .u8 0, .int .u8 0, .int .u8 0, .int .u8 0, .int .u8 0], .agg #[.int .i64 0, .int .i64 0, .int .u8 0, .int .u8 0, .int .u8 0, .int .u8 0, .int .u8 0, .int .u8 0]], []⟩ 8 (by kernel_rfl) (by kernel_rfl) (by kernel_rfl) (by kernel_rfl)) (by kernel_rfl) (by kernel_rfl) rfl rfl Try.underlying4 ?_ ?_
  · intro ds hl
    match ds, hl with
    | [_, _], _ => rfl
  · intro W base args ds ps hsz hval _ _
    obtain ⟨v0_, v1_, rfl⟩ : ∃ v0_ v1_, args = #[v0_, v1_] := by
      have h : args.toList.length = 2 := by simpa using hsz
      obtain ⟨l⟩ := args
      match l, h with
      | [v0_, v1_], _ => exact ⟨v0_, v1_, rfl⟩
    obtain ⟨s0, rfl, k0⟩ := open_kinds (P := Try.prog) (t := 25) (ks := [some .i64, some .i64, some .u8, some .u8, some .u8, some .u8, some .u8, some .u8]) (by kernel_rfl) (hval 0 25 _ rfl rfl)
    obtain ⟨x0_0, _, rfl, wx0_0, ⟨x0_1, _, rfl, wx0_1, ⟨x0_2, _, rfl, wx0_2, ⟨x0_3, _, rfl, wx0_3, ⟨x0_4, _, rfl, wx0_4, ⟨x0_5, _, rfl, wx0_5, ⟨x0_6, _, rfl, wx0_6, ⟨x0_7, _, rfl, wx0_7, rfl⟩⟩⟩⟩⟩⟩⟩⟩ := k0
    obtain ⟨s1, rfl, k1⟩ := open_kinds (P := Try.prog) (t := 25) (ks := [some .i64, some .i64, some .u8, some .u8, some .u8, some .u8, some .u8, some .u8]) (by kernel_rfl) (hval 1 25 _ rfl rfl)
    obtain ⟨x1_0, _, rfl, wx1_0, ⟨x1_1, _, rfl, wx1_1, ⟨x1_2, _, rfl, wx1_2, ⟨x1_3, _, rfl, wx1_3, ⟨x1_4, _, rfl, wx1_4, ⟨x1_5, _, rfl, wx1_5, ⟨x1_6, _, rfl, wx1_6, ⟨x1_7, _, rfl, wx1_7, rfl⟩⟩⟩⟩⟩⟩⟩⟩ := k1
    exact (calls_of_gives follows (good_specsOf _) (maskMeets_gives x0_0 x0_1 x0_2 x0_3 x0_4 x0_5 x0_6 x0_7 x1_0 x1_1 x1_2 x1_3 x1_4 x1_5 x1_6 x1_7) W).2
/-- The statement. -/
theorem maskMeets_proved : Rows.MaskMeetsSaid :=
  OpenClaim.holds_of_wide 4 Try.f4 rfl rfl rfl rfl rfl rfl rfl ⟨rfl, rfl, rfl, rfl, rfl⟩ rfl rfl rfl rfl rfl (by kernel_rfl) Try.func4 (by kernel_rfl)
    (of_decide_eq_true (by kernel_rfl)) (by unfold Func.isWrapper; first | (rw [if_pos (by decide +kernel)]; kernel_rfl) | (rw [if_neg (by decide +kernel)]; exact ⟨rfl, rfl⟩))
    (fun os started H enc _ => maskMeets_lifted os started H enc)
set_option maxRecDepth 100000 in
theorem maskOnly_lifted (os : Os) (started : os.Started) (H : Type) (enc : TypeId × Value → H) :
    ReturnsInHanded {} Try.checked os 5 .any (Rows.maskOnlySpec.pre6 enc Try.prog Try.f5 Rows.maskOnlyRow.domain false) (Rows.maskOnlySpec.post enc Try.prog Try.f5 false true false false) := by
  refine row_of own started (by kernel_rfl) Try.func5 (ChangeSpec.witness6 (enc := enc) (C := Try.checked) false ⟨#[], #[.agg #[.int .i64 0, .int .i64 0, .int .u8 0, .int .u8 0, .int .u8 0, .int .u8 0, .int .u8 0, .int .u8 0], .int .i64 0, .agg #[.int .u8 0, .int .u8 0]], []⟩ 8 (by kernel_rfl) (by kernel_rfl) (by kernel_rfl) (by kernel_rfl)) (by kernel_rfl) (by kernel_rfl) rfl rfl Try.underlying4 ?_ ?_
  · intro ds hl
    match ds, hl with
    | [_, _, _], _ => rfl
  · intro W base args ds ps hsz hval _ _
    obtain ⟨v0_, v1_, v2_, rfl⟩ : ∃ v0_ v1_ v2_, args = #[v0_, v1_, v2_] := by
      have h : args.toList.length = 3 := by simpa using hsz
      obtain ⟨l⟩ := args
      match l, h with
      | [v0_, v1_, v2_], _ => exact ⟨v0_, v1_, v2_, rfl⟩
    obtain ⟨s0, rfl, k0⟩ := open_kinds (P := Try.prog) (t := 25) (ks := [some .i64, some .i64, some .u8, some .u8, some .u8, some .u8, some .u8, some .u8]) (by kernel_rfl) (hval 0 25 _ rfl rfl)
    obtain ⟨x0_0, _, rfl, wx0_0, ⟨x0_1, _, rfl, wx0_1, ⟨x0_2, _, rfl, wx0_2, ⟨x0_3, _, rfl, wx0_3, ⟨x0_4, _, rfl, wx0_4, ⟨x0_5, _, rfl, wx0_5, ⟨x0_6, _, rfl, wx0_6, ⟨x0_7, _, rfl, wx0_7, rfl⟩⟩⟩⟩⟩⟩⟩⟩ := k0
    obtain ⟨x1_0, rfl, wx1_0⟩ := open_one (k := .i64) Try.underlying3 (hval 1 3 _ rfl rfl)
    obtain ⟨s2, rfl, k2⟩ := open_kinds (P := Try.prog) (t := 34) (ks := [some .u8, some .u8]) (by kernel_rfl) (hval 2 34 _ rfl rfl)
    obtain ⟨x2_0, _, rfl, wx2_0, ⟨x2_1, _, rfl, wx2_1, rfl⟩⟩ := k2
    exact (calls_of_gives follows (good_specsOf _) (maskOnly_gives x0_0 x0_1 x0_2 x0_3 x0_4 x0_5 x0_6 x0_7 x1_0 x2_0 x2_1) W).2
/-- The statement. -/
theorem maskOnly_proved : Rows.MaskOnlySaid :=
  OpenClaim.holds_of_wide 5 Try.f5 rfl rfl rfl rfl rfl rfl rfl ⟨rfl, rfl, rfl, rfl, rfl⟩ rfl rfl rfl rfl rfl (by kernel_rfl) Try.func5 (by kernel_rfl)
    (of_decide_eq_true (by kernel_rfl)) (by unfold Func.isWrapper; first | (rw [if_pos (by decide +kernel)]; kernel_rfl) | (rw [if_neg (by decide +kernel)]; exact ⟨rfl, rfl⟩))
    (fun os started H enc _ => maskOnly_lifted os started H enc)
end Go.Proofs.Ytkkbbifhaanamaa
