/-
  Functions of the program, by their runs.
  No statement of the seat is proved here. Conditions: none.
-/
import Derived.Test.YtkkbbifhaanamaaY25
import Derived.Test.YtkkbbifhaanamaaTab07
import Derived.Test.YtkkbbifhaanamaaYBits
import Derived.Test.YtkkbbifhaanamaaM07
import Derived.Test.YtkkbbifhaanamaaW07
set_option linter.unusedSimpArgs false
set_option linter.unusedVariables false
set_option maxRecDepth 100000
namespace Go.Proofs.Ytkkbbifhaanamaa
open Go.Sy Go.RowKit
theorem maskFits_tree (v p b0 b1 b2 i0 i1 i2 ver port h0 h1 h2 : Int) : callG tab (envOf (P := Try.prog) [works_pc, any_pc, only_pc, ronly_pc, meet_pc, rmeet_pc, cov_pc, rcov_pc, fits_pc, rfits_pc, either_pc, mof_pc] [] []) 20 12 3 [SV.agg [SV.si IntKind.i64 v, SV.si IntKind.i64 p, SV.si IntKind.u8 b0, SV.si IntKind.u8 b1, SV.si IntKind.u8 b2, SV.si IntKind.u8 i0, SV.si IntKind.u8 i1, SV.si IntKind.u8 i2], SV.agg [SV.si IntKind.i64 ver, SV.si IntKind.i64 port], SV.agg [SV.si IntKind.u8 h0, SV.si IntKind.u8 h1, SV.si IntKind.u8 h2]] [] =
    (Tree.need (true) (Tree.ite ((0 : Int) == (0 : Int) && ((-1 : Int) == (-1 : Int) && ((0 : Int) == (0 : Int) && ((0 : Int) == (0 : Int) && ((0 : Int) == (0 : Int) && true)) && ((0 : Int) == (0 : Int) && ((0 : Int) == (0 : Int) && ((0 : Int) == (0 : Int) && true)) && true)))) (Tree.need (true) (Tree.need (true) (Tree.ite (fitsB v p b0 b1 b2 i0 i1 i2 ver port h0 h1 h2 == fitsB v p b0 b1 b2 i0 i1 i2 ver port h0 h1 h2) (Tree.need (true) (Tree.ret ((SV.sb (true)), []))) (Tree.ret ((SV.sb (false)), []))))) (Tree.ret ((SV.sb (false)), [])))) := by kernel_rfl
theorem maskFits_run (v p b0 b1 b2 i0 i1 i2 ver port h0 h1 h2 : Int) : (callG tab (envOf (P := Try.prog) [works_pc, any_pc, only_pc, ronly_pc, meet_pc, rmeet_pc, cov_pc, rcov_pc, fits_pc, rfits_pc, either_pc, mof_pc] [] []) 20 12 3 [SV.agg [SV.si IntKind.i64 v, SV.si IntKind.i64 p, SV.si IntKind.u8 b0, SV.si IntKind.u8 b1, SV.si IntKind.u8 b2, SV.si IntKind.u8 i0, SV.si IntKind.u8 i1, SV.si IntKind.u8 i2], SV.agg [SV.si IntKind.i64 ver, SV.si IntKind.i64 port], SV.agg [SV.si IntKind.u8 h0, SV.si IntKind.u8 h1, SV.si IntKind.u8 h2]] []).run = some ((.sb true : SV), []) := by
  rw [maskFits_tree]
  simp [Tree.run_ret', Tree.run_need', Tree.run_ite']
def maskFits_spec : PSpec := ⟨[(.agg [(.int .i64), (.int .i64), (.int .u8), (.int .u8), (.int .u8), (.int .u8), (.int .u8), (.int .u8)]), (.agg [(.int .i64), (.int .i64)]), (.agg [(.int .u8), (.int .u8), (.int .u8)])], fun
  | [.a [.i v, .i p, .i b0, .i b1, .i b2, .i i0, .i i1, .i i2], .a [.i ver, .i port], .a [.i h0, .i h1, .i h2]] => some (true, .sb true)
  | _ => none⟩
noncomputable def maskFits_pc : PC Try.prog := PC.run follows (envOf_good _ _ _) 20 12 3 maskFits_spec (by
  intro ds pre r h hp
  unfold maskFits_spec at h
  simp only at h
  split at h
  · simp only [Option.some.injEq, Prod.mk.injEq] at h
    obtain ⟨hq, rfl⟩ := h
    exact ⟨_, maskFits_run _ _ _ _ _ _ _ _ _ _ _ _ _, rfl⟩
  · cases h) (enters_of Try.func3 rfl (by kernel_rfl))
theorem maskMeets_tree (v p b0 b1 b2 i0 i1 i2 v' p' c0 c1 c2 j0 j1 j2 : Int) : callG tab (envOf (P := Try.prog) [works_pc, any_pc, only_pc, ronly_pc, meet_pc, rmeet_pc, cov_pc, rcov_pc, fits_pc, rfits_pc, either_pc, mof_pc] [] []) 20 12 4 [SV.agg [SV.si IntKind.i64 v, SV.si IntKind.i64 p, SV.si IntKind.u8 b0, SV.si IntKind.u8 b1, SV.si IntKind.u8 b2, SV.si IntKind.u8 i0, SV.si IntKind.u8 i1, SV.si IntKind.u8 i2], SV.agg [SV.si IntKind.i64 v', SV.si IntKind.i64 p', SV.si IntKind.u8 c0, SV.si IntKind.u8 c1, SV.si IntKind.u8 c2, SV.si IntKind.u8 j0, SV.si IntKind.u8 j1, SV.si IntKind.u8 j2]] [] =
    (Tree.need (true) (Tree.need (true) (Tree.ite (sel (meetOk v p b0 b1 b2 i0 i1 i2 v' p' c0 c1 c2 j0 j1 j2) (eitherN v v' (0 : Int)) == sel (meetOk v p b0 b1 b2 i0 i1 i2 v' p' c0 c1 c2 j0 j1 j2) (eitherN v v' (0 : Int)) && (sel (meetOk v p b0 b1 b2 i0 i1 i2 v' p' c0 c1 c2 j0 j1 j2) (eitherN p p' (-1 : Int)) == sel (meetOk v p b0 b1 b2 i0 i1 i2 v' p' c0 c1 c2 j0 j1 j2) (eitherN p p' (-1 : Int)) && (sel (meetOk v p b0 b1 b2 i0 i1 i2 v' p' c0 c1 c2 j0 j1 j2) (bits BinOp.or IntKind.u8 b0 c0) == sel (meetOk v p b0 b1 b2 i0 i1 i2 v' p' c0 c1 c2 j0 j1 j2) (bits BinOp.or IntKind.u8 b0 c0) && (sel (meetOk v p b0 b1 b2 i0 i1 i2 v' p' c0 c1 c2 j0 j1 j2) (bits BinOp.or IntKind.u8 b1 c1) == sel (meetOk v p b0 b1 b2 i0 i1 i2 v' p' c0 c1 c2 j0 j1 j2) (bits BinOp.or IntKind.u8 b1 c1) && (sel (meetOk v p b0 b1 b2 i0 i1 i2 v' p' c0 c1 c2 j0 j1 j2) (bits BinOp.or IntKind.u8 b2 c2) == sel (meetOk v p b0 b1 b2 i0 i1 i2 v' p' c0 c1 c2 j0 j1 j2) (bits BinOp.or IntKind.u8 b2 c2) && true)) && (sel (meetOk v p b0 b1 b2 i0 i1 i2 v' p' c0 c1 c2 j0 j1 j2) (orM b0 i0 c0 j0) == sel (meetOk v p b0 b1 b2 i0 i1 i2 v' p' c0 c1 c2 j0 j1 j2) (orM b0 i0 c0 j0) && (sel (meetOk v p b0 b1 b2 i0 i1 i2 v' p' c0 c1 c2 j0 j1 j2) (orM b1 i1 c1 j1) == sel (meetOk v p b0 b1 b2 i0 i1 i2 v' p' c0 c1 c2 j0 j1 j2) (orM b1 i1 c1 j1) && (sel (meetOk v p b0 b1 b2 i0 i1 i2 v' p' c0 c1 c2 j0 j1 j2) (orM b2 i2 c2 j2) == sel (meetOk v p b0 b1 b2 i0 i1 i2 v' p' c0 c1 c2 j0 j1 j2) (orM b2 i2 c2 j2) && true)) && true)))) (Tree.ite (meetOk v p b0 b1 b2 i0 i1 i2 v' p' c0 c1 c2 j0 j1 j2 == meetOk v p b0 b1 b2 i0 i1 i2 v' p' c0 c1 c2 j0 j1 j2) (Tree.need (true) (Tree.need (true) (Tree.ite (covB v p b0 b1 b2 i0 i1 i2 v' p' c0 c1 c2 j0 j1 j2 == covB v p b0 b1 b2 i0 i1 i2 v' p' c0 c1 c2 j0 j1 j2) (Tree.need (true) (Tree.ret ((SV.sb (true)), []))) (Tree.ret ((SV.sb (false)), []))))) (Tree.ret ((SV.sb (false)), []))) (Tree.ret ((SV.sb (false)), []))))) := by kernel_rfl
theorem maskMeets_run (v p b0 b1 b2 i0 i1 i2 v' p' c0 c1 c2 j0 j1 j2 : Int) : (callG tab (envOf (P := Try.prog) [works_pc, any_pc, only_pc, ronly_pc, meet_pc, rmeet_pc, cov_pc, rcov_pc, fits_pc, rfits_pc, either_pc, mof_pc] [] []) 20 12 4 [SV.agg [SV.si IntKind.i64 v, SV.si IntKind.i64 p, SV.si IntKind.u8 b0, SV.si IntKind.u8 b1, SV.si IntKind.u8 b2, SV.si IntKind.u8 i0, SV.si IntKind.u8 i1, SV.si IntKind.u8 i2], SV.agg [SV.si IntKind.i64 v', SV.si IntKind.i64 p', SV.si IntKind.u8 c0, SV.si IntKind.u8 c1, SV.si IntKind.u8 c2, SV.si IntKind.u8 j0, SV.si IntKind.u8 j1, SV.si IntKind.u8 j2]] []).run = some ((.sb true : SV), []) := by
  rw [maskMeets_tree]
  simp [Tree.run_ret', Tree.run_need', Tree.run_ite']
def maskMeets_spec : PSpec := ⟨[(.agg [(.int .i64), (.int .i64), (.int .u8), (.int .u8), (.int .u8), (.int .u8), (.int .u8), (.int .u8)]), (.agg [(.int .i64), (.int .i64), (.int .u8), (.int .u8), (.int .u8), (.int .u8), (.int .u8), (.int .u8)])], fun
  | [.a [.i v, .i p, .i b0, .i b1, .i b2, .i i0, .i i1, .i i2], .a [.i v', .i p', .i c0, .i c1, .i c2, .i j0, .i j1, .i j2]] => some (true, .sb true)
  | _ => none⟩
noncomputable def maskMeets_pc : PC Try.prog := PC.run follows (envOf_good _ _ _) 20 12 4 maskMeets_spec (by
  intro ds pre r h hp
  unfold maskMeets_spec at h
  simp only at h
  split at h
  · simp only [Option.some.injEq, Prod.mk.injEq] at h
    obtain ⟨hq, rfl⟩ := h
    exact ⟨_, maskMeets_run _ _ _ _ _ _ _ _ _ _ _ _ _ _ _ _, rfl⟩
  · cases h) (enters_of Try.func4 rfl (by kernel_rfl))
theorem maskOnly_tree (v p b0 b1 b2 i0 i1 i2 field x y : Int) : callG tab (envOf (P := Try.prog) [works_pc, any_pc, only_pc, ronly_pc, meet_pc, rmeet_pc, cov_pc, rcov_pc, fits_pc, rfits_pc, either_pc, mof_pc] [] []) 20 12 5 [SV.agg [SV.si IntKind.i64 v, SV.si IntKind.i64 p, SV.si IntKind.u8 b0, SV.si IntKind.u8 b1, SV.si IntKind.u8 b2, SV.si IntKind.u8 i0, SV.si IntKind.u8 i1, SV.si IntKind.u8 i2], SV.si IntKind.i64 field, SV.agg [SV.si IntKind.u8 x, SV.si IntKind.u8 y]] [] =
    (Tree.need (true) (Tree.need (true) (Tree.ite (sel (onlyOk v p b0 b1 b2 i0 i1 i2 field x y) v == sel (onlyOk v p b0 b1 b2 i0 i1 i2 field x y) v && (sel (onlyOk v p b0 b1 b2 i0 i1 i2 field x y) p == sel (onlyOk v p b0 b1 b2 i0 i1 i2 field x y) p && (sel (onlyOk v p b0 b1 b2 i0 i1 i2 field x y) (bits BinOp.or IntKind.u8 b0 (at3 (0 : Int) field x)) == sel (onlyOk v p b0 b1 b2 i0 i1 i2 field x y) (bits BinOp.or IntKind.u8 b0 (at3 (0 : Int) field x)) && (sel (onlyOk v p b0 b1 b2 i0 i1 i2 field x y) (bits BinOp.or IntKind.u8 b1 (at3 (1 : Int) field x)) == sel (onlyOk v p b0 b1 b2 i0 i1 i2 field x y) (bits BinOp.or IntKind.u8 b1 (at3 (1 : Int) field x)) && (sel (onlyOk v p b0 b1 b2 i0 i1 i2 field x y) (bits BinOp.or IntKind.u8 b2 (at3 (2 : Int) field x)) == sel (onlyOk v p b0 b1 b2 i0 i1 i2 field x y) (bits BinOp.or IntKind.u8 b2 (at3 (2 : Int) field x)) && true)) && (sel (onlyOk v p b0 b1 b2 i0 i1 i2 field x y) (orM b0 i0 (at3 (0 : Int) field x) (at3 (0 : Int) field y)) == sel (onlyOk v p b0 b1 b2 i0 i1 i2 field x y) (orM b0 i0 (at3 (0 : Int) field x) (at3 (0 : Int) field y)) && (sel (onlyOk v p b0 b1 b2 i0 i1 i2 field x y) (orM b1 i1 (at3 (1 : Int) field x) (at3 (1 : Int) field y)) == sel (onlyOk v p b0 b1 b2 i0 i1 i2 field x y) (orM b1 i1 (at3 (1 : Int) field x) (at3 (1 : Int) field y)) && (sel (onlyOk v p b0 b1 b2 i0 i1 i2 field x y) (orM b2 i2 (at3 (2 : Int) field x) (at3 (2 : Int) field y)) == sel (onlyOk v p b0 b1 b2 i0 i1 i2 field x y) (orM b2 i2 (at3 (2 : Int) field x) (at3 (2 : Int) field y)) && true)) && true)))) (Tree.ite (onlyOk v p b0 b1 b2 i0 i1 i2 field x y == onlyOk v p b0 b1 b2 i0 i1 i2 field x y) (Tree.need (true) (Tree.ret ((SV.sb (true)), []))) (Tree.ret ((SV.sb (false)), []))) (Tree.ret ((SV.sb (false)), []))))) := by kernel_rfl
theorem maskOnly_run (v p b0 b1 b2 i0 i1 i2 field x y : Int) : (callG tab (envOf (P := Try.prog) [works_pc, any_pc, only_pc, ronly_pc, meet_pc, rmeet_pc, cov_pc, rcov_pc, fits_pc, rfits_pc, either_pc, mof_pc] [] []) 20 12 5 [SV.agg [SV.si IntKind.i64 v, SV.si IntKind.i64 p, SV.si IntKind.u8 b0, SV.si IntKind.u8 b1, SV.si IntKind.u8 b2, SV.si IntKind.u8 i0, SV.si IntKind.u8 i1, SV.si IntKind.u8 i2], SV.si IntKind.i64 field, SV.agg [SV.si IntKind.u8 x, SV.si IntKind.u8 y]] []).run = some ((.sb true : SV), []) := by
  rw [maskOnly_tree]
  simp [Tree.run_ret', Tree.run_need', Tree.run_ite']
def maskOnly_spec : PSpec := ⟨[(.agg [(.int .i64), (.int .i64), (.int .u8), (.int .u8), (.int .u8), (.int .u8), (.int .u8), (.int .u8)]), (.int .i64), (.agg [(.int .u8), (.int .u8)])], fun
  | [.a [.i v, .i p, .i b0, .i b1, .i b2, .i i0, .i i1, .i i2], .i field, .a [.i x, .i y]] => some (true, .sb true)
  | _ => none⟩
noncomputable def maskOnly_pc : PC Try.prog := PC.run follows (envOf_good _ _ _) 20 12 5 maskOnly_spec (by
  intro ds pre r h hp
  unfold maskOnly_spec at h
  simp only at h
  split at h
  · simp only [Option.some.injEq, Prod.mk.injEq] at h
    obtain ⟨hq, rfl⟩ := h
    exact ⟨_, maskOnly_run _ _ _ _ _ _ _ _ _ _ _, rfl⟩
  · cases h) (enters_of Try.func5 rfl (by kernel_rfl))
end Go.Proofs.Ytkkbbifhaanamaa
