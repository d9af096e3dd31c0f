/-
  Functions of the program, by their runs.
  No statement of the seat is proved here. Conditions: none.
-/
import Derived.Test.YtmokkonnilmdfaaY25
import Derived.Test.YtmokkonnilmdfaaTab12
import Derived.Test.YtmokkonnilmdfaaCT12
set_option linter.unusedSimpArgs false
set_option linter.unusedVariables false
set_option maxRecDepth 100000
namespace Go.Proofs.Ytmokkonnilmdfaa
open Go.Sy Go.RowKit
theorem works_run : (callG tab (envOf (P := Try.prog) [] [sides_ct, ports_ct, reach_ct] []) 300 20 13 [] []).run = some ((.sb true : SV), []) := by kernel_rfl
def works_spec : PSpec := ⟨[], fun
  | [] => some (true, .sb true)
  | _ => none⟩
noncomputable def works_pc : PC Try.prog := PC.run follows (envOf_good _ _ _) 300 20 13 works_spec (by
  intro ds pre r h hp
  unfold works_spec at h
  simp only at h
  split at h
  · simp only [Option.some.injEq, Prod.mk.injEq] at h
    obtain ⟨hq, rfl⟩ := h
    exact ⟨_, works_run, rfl⟩
  · cases h) (enters_of (c := codeOf Try.f13) Try.func13 (by kernel_rfl) (by kernel_rfl))
theorem names_run : (callG tab (envOf (P := Try.prog) [works_pc] [sides_ct, ports_ct, reach_ct] []) 300 20 7 [] []).run = some ((.sb true : SV), []) := by kernel_rfl
def names_spec : PSpec := ⟨[], fun
  | [] => some (true, .sb true)
  | _ => none⟩
noncomputable def names_pc : PC Try.prog := PC.run follows (envOf_good _ _ _) 300 20 7 names_spec (by
  intro ds pre r h hp
  unfold names_spec at h
  simp only at h
  split at h
  · simp only [Option.some.injEq, Prod.mk.injEq] at h
    obtain ⟨hq, rfl⟩ := h
    exact ⟨_, names_run, rfl⟩
  · cases h) (enters_of (c := codeOf Try.f7) Try.func7 (by kernel_rfl) (by kernel_rfl))
end Go.Proofs.Ytmokkonnilmdfaa
