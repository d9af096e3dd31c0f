/-
  Functions of the program, by their runs.
  No statement of the seat is proved here. Conditions: none.
-/
import Derived.Test.YtepphklolhddhaaY25
import Derived.Test.YtepphklolhddhaaTab24
import Derived.Test.YtepphklolhddhaaK24
set_option linter.unusedSimpArgs false
set_option linter.unusedVariables false
set_option maxRecDepth 100000
namespace Go.Proofs.Ytepphklolhddhaa
open Go.Sy Go.RowKit
theorem works_run : (callG tab (envOf (P := Try.prog) [within_pc, kids_pc, placed_pc, may_pc, it_pc, behind_pc, any_pc, either_pc, meet_pc, covers_pc, check_pc, most_pc] [rules_ct] []) 300 20 11 [] []).run = some ((.sb true : SV), []) := by kernel_rfl
def works_spec : PSpec := ⟨[], fun
  | [] => some (true, .sb true)
  | _ => none⟩
noncomputable def works_pc : PC Try.prog := PC.run follows (envOf_good _ _ _) 300 20 11 works_spec (by
  intro ds pre r h hp
  unfold works_spec at h
  simp only at h
  split at h
  · simp only [Option.some.injEq, Prod.mk.injEq] at h
    obtain ⟨hq, rfl⟩ := h
    exact ⟨_, works_run, rfl⟩
  · cases h) (enters_of Try.func11 rfl (by kernel_rfl))
theorem known_run : (callG tab (envOf (P := Try.prog) [within_pc, kids_pc, placed_pc, may_pc, it_pc, behind_pc, any_pc, either_pc, meet_pc, covers_pc, check_pc, most_pc, works_pc] [rules_ct] []) 300 20 4 [] []).run = some ((.sb true : SV), []) := by kernel_rfl
def known_spec : PSpec := ⟨[], fun
  | [] => some (true, .sb true)
  | _ => none⟩
noncomputable def known_pc : PC Try.prog := PC.run follows (envOf_good _ _ _) 300 20 4 known_spec (by
  intro ds pre r h hp
  unfold known_spec at h
  simp only at h
  split at h
  · simp only [Option.some.injEq, Prod.mk.injEq] at h
    obtain ⟨hq, rfl⟩ := h
    exact ⟨_, known_run, rfl⟩
  · cases h) (enters_of Try.func4 rfl (by kernel_rfl))
end Go.Proofs.Ytepphklolhddhaa
