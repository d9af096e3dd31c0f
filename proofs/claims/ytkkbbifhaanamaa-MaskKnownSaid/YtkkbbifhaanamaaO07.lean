/-
  Functions of the program, by their runs.
  No statement of the seat is proved here. Conditions: none.
-/
import Derived.Test.YtkkbbifhaanamaaY25
import Derived.Test.YtkkbbifhaanamaaTab07
import Derived.Test.YtkkbbifhaanamaaYBits
import Derived.Test.YtkkbbifhaanamaaM07
import Derived.Test.YtkkbbifhaanamaaW07
import Derived.Test.YtkkbbifhaanamaaN07
set_option linter.unusedSimpArgs false
set_option linter.unusedVariables false
set_option maxRecDepth 100000
namespace Go.Proofs.Ytkkbbifhaanamaa
open Go.Sy Go.RowKit
theorem maskKnown_run : (callG tab (envOf (P := Try.prog) [maskFits_pc, maskMeets_pc, maskOnly_pc, works_pc] [] []) 20 12 8 [] []).run = some ((.sb true : SV), []) := by kernel_rfl
def maskKnown_spec : PSpec := ⟨[], fun
  | [] => some (true, .sb true)
  | _ => none⟩
noncomputable def maskKnown_pc : PC Try.prog := PC.run follows (envOf_good _ _ _) 20 12 8 maskKnown_spec (by
  intro ds pre r h hp
  unfold maskKnown_spec at h
  simp only at h
  split at h
  · simp only [Option.some.injEq, Prod.mk.injEq] at h
    obtain ⟨hq, rfl⟩ := h
    exact ⟨_, maskKnown_run, rfl⟩
  · cases h) (enters_of Try.func8 rfl (by kernel_rfl))
end Go.Proofs.Ytkkbbifhaanamaa
