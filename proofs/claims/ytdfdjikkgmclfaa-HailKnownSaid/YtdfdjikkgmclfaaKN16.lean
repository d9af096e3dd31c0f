/-
  Functions of the program, by their runs.
  No statement of the seat is proved here. Conditions: none.
-/
import Derived.Test.YtdfdjikkgmclfaaY25
import Derived.Test.YtdfdjikkgmclfaaTab16
import Derived.Test.YtdfdjikkgmclfaaK16
set_option linter.unusedSimpArgs false
set_option linter.unusedVariables false
set_option maxRecDepth 100000
namespace Go.Proofs.Ytdfdjikkgmclfaa
open Go.Sy Go.RowKit
theorem known_run : (callG tab (envOf (P := Try.prog) [works_pc, plays_pc, check_pc] [] []) 200 12 6 [] []).run = some ((.sb true : SV), []) := by kernel_rfl
def known_spec : PSpec := ⟨[], fun
  | [] => some (true, .sb true)
  | _ => none⟩
noncomputable def known_pc : PC Try.prog := PC.run follows (envOf_good _ _ _) 200 12 6 known_spec (by
  intro ds pre r h hp
  unfold known_spec at h
  simp only at h
  split at h
  · simp only [Option.some.injEq, Prod.mk.injEq] at h
    obtain ⟨hq, rfl⟩ := h
    exact ⟨_, known_run, rfl⟩
  · cases h) (enters_of Try.func6 rfl (by kernel_rfl))
end Go.Proofs.Ytdfdjikkgmclfaa
