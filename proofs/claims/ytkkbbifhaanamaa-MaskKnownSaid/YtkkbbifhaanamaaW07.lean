/-
  Functions of the program, by their runs.
  No statement of the seat is proved here. Conditions: none.
-/
import Derived.Test.YtkkbbifhaanamaaY25
import Derived.Test.YtkkbbifhaanamaaTab07
import Derived.Test.YtkkbbifhaanamaaYBits
import Derived.Test.YtkkbbifhaanamaaM07
set_option linter.unusedSimpArgs false
set_option linter.unusedVariables false
set_option maxRecDepth 100000
namespace Go.Proofs.Ytkkbbifhaanamaa
open Go.Sy Go.RowKit
theorem works_run : (callG tab (envOf (P := Try.prog) [only_pc, ronly_pc, meet_pc, rmeet_pc, cov_pc, rcov_pc, fits_pc, rfits_pc, either_pc, mof_pc] [] []) 20 12 13 [] []).run = some ((.sb true : SV), []) := by kernel_rfl
def works_spec : PSpec := ⟨[], fun
  | [] => some (true, .sb true)
  | _ => none⟩
noncomputable def works_pc : PC Try.prog := PC.run follows (envOf_good _ _ _) 20 12 13 works_spec (by
  intro ds pre r h hp
  unfold works_spec at h
  simp only at h
  split at h
  · simp only [Option.some.injEq, Prod.mk.injEq] at h
    obtain ⟨hq, rfl⟩ := h
    exact ⟨_, works_run, rfl⟩
  · cases h) (enters_of Try.func13 rfl (by kernel_rfl))
theorem any_tree  : callG tab (envOf (P := Try.prog) [] [] []) 20 12 9 [] [] =
    (Tree.ret ((SV.agg [(SV.si IntKind.i64 ((0 : Int))), (SV.si IntKind.i64 ((-1 : Int))), (SV.si IntKind.u8 ((0 : Int))), (SV.si IntKind.u8 ((0 : Int))), (SV.si IntKind.u8 ((0 : Int))), (SV.si IntKind.u8 ((0 : Int))), (SV.si IntKind.u8 ((0 : Int))), (SV.si IntKind.u8 ((0 : Int)))]), [])) := by kernel_rfl
theorem any_run  : (callG tab (envOf (P := Try.prog) [] [] []) 20 12 9 [] []).run = some ((.agg [.si .i64 0, .si .i64 (-1), .si .u8 0, .si .u8 0, .si .u8 0, .si .u8 0, .si .u8 0, .si .u8 0] : SV), []) := by
  rw [any_tree]
  rfl
def any_spec : PSpec := ⟨[], fun
  | [] => some (true, .agg [.si .i64 0, .si .i64 (-1), .si .u8 0, .si .u8 0, .si .u8 0, .si .u8 0, .si .u8 0, .si .u8 0])
  | _ => none⟩
noncomputable def any_pc : PC Try.prog := PC.run follows (envOf_good _ _ _) 20 12 9 any_spec (by
  intro ds pre r h hp
  unfold any_spec at h
  simp only at h
  split at h
  · simp only [Option.some.injEq, Prod.mk.injEq] at h
    obtain ⟨hq, rfl⟩ := h
    exact ⟨_, any_run, rfl⟩
  · cases h) (enters_of Try.func9 rfl (by kernel_rfl))
end Go.Proofs.Ytkkbbifhaanamaa
