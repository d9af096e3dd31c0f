/-
  Functions of the program, by their runs.
  No statement of the seat is proved here. Conditions: none.
-/
import Derived.Test.YtgodelllnilcfaaY25
import Derived.Test.YtgodelllnilcfaaTab09
import Derived.Test.YtgodelllnilcfaaM09
import Derived.Test.YtgodelllnilcfaaIS09
set_option linter.unusedSimpArgs false
set_option linter.unusedVariables false
set_option maxRecDepth 100000
namespace Go.Proofs.Ytgodelllnilcfaa
open Go.Sy Go.RowKit
theorem works_run : (callG tab (envOf (P := Try.prog) [within_pc, anym_pc, covers_pc, fits_pc, cmpi_pc] [insert_ct] []) 300 20 8 [] []).run = some ((.sb true : SV), []) := by kernel_rfl
def works_spec : PSpec := ⟨[], fun
  | [] => some (true, .sb true)
  | _ => none⟩
noncomputable def works_pc : PC Try.prog := PC.run follows (envOf_good _ _ _) 300 20 8 works_spec (by
  intro ds pre r h hp
  unfold works_spec at h
  simp only at h
  split at h
  · simp only [Option.some.injEq, Prod.mk.injEq] at h
    obtain ⟨hq, rfl⟩ := h
    exact ⟨_, works_run, rfl⟩
  · cases h) (enters_of (c := codeOf Try.f8) Try.func8 (by kernel_rfl) (by kernel_rfl))
end Go.Proofs.Ytgodelllnilcfaa
