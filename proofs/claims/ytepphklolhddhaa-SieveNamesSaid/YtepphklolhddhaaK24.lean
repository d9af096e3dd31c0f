/-
  Functions of the program, by their runs.
  No statement of the seat is proved here. Conditions: none.
-/
import Derived.Test.YtepphklolhddhaaY25
import Derived.Test.YtepphklolhddhaaTab24
import Derived.Test.YtepphklolhddhaaM24
set_option linter.unusedSimpArgs false
set_option linter.unusedVariables false
set_option maxRecDepth 100000
namespace Go.Proofs.Ytepphklolhddhaa
open Go.Sy Go.RowKit
def check_d0_0 : D := .l false [.a [.i 3, .i 0, .i 0, .i 1, .i 255, .i 5], .a [.i 7, .i 0, .i 0, .i 2, .i 0, .i 0], .a [.i 9, .i 0, .i 1, .i 0, .i 0, .i 0], .a [.i 6, .i 0, .i 0, .i 2, .i 0, .i 7], .a [.i 7, .i 0, .i 0, .i 1, .i 0, .i 0], .a [.i 9, .i 3, .i 4, .i 0, .i 0, .i 0], .a [.i 8, .i 2, .i 5, .i 0, .i 0, .i 0]]
theorem check_run0 : (callG tab (envOf (P := Try.prog) [within_pc, kids_pc, placed_pc, may_pc, it_pc, behind_pc, any_pc, either_pc, meet_pc, covers_pc] [] []) 300 20 15 [enc (.list (.agg [.int .i64, .int .i64, .int .i64, .int .i64, .int .i64, .int .i64])) check_d0_0] []).run = some (((SV.si IntKind.i64 ((0 : Int))) : SV), []) := by kernel_rfl
def check_d1_0 : D := .l false [.a [.i 1, .i 0, .i 0, .i 0, .i 0, .i 0]]
theorem check_run1 : (callG tab (envOf (P := Try.prog) [within_pc, kids_pc, placed_pc, may_pc, it_pc, behind_pc, any_pc, either_pc, meet_pc, covers_pc] [] []) 300 20 15 [enc (.list (.agg [.int .i64, .int .i64, .int .i64, .int .i64, .int .i64, .int .i64])) check_d1_0] []).run = some (((SV.si IntKind.i64 ((0 : Int))) : SV), []) := by kernel_rfl
def check_d2_0 : D := .l true []
theorem check_run2 : (callG tab (envOf (P := Try.prog) [within_pc, kids_pc, placed_pc, may_pc, it_pc, behind_pc, any_pc, either_pc, meet_pc, covers_pc] [] []) 300 20 15 [enc (.list (.agg [.int .i64, .int .i64, .int .i64, .int .i64, .int .i64, .int .i64])) check_d2_0] []).run = some (((SV.si IntKind.i64 ((2 : Int))) : SV), []) := by kernel_rfl
def check_d3_0 : D := .l false [.a [.i 3, .i 0, .i 0, .i 0, .i 1, .i 1], .a [.i 3, .i 0, .i 0, .i 0, .i 2, .i 2], .a [.i 8, .i 0, .i 1, .i 0, .i 0, .i 0], .a [.i 3, .i 0, .i 0, .i 0, .i 4, .i 4], .a [.i 8, .i 2, .i 3, .i 0, .i 0, .i 0], .a [.i 3, .i 0, .i 0, .i 0, .i 8, .i 8], .a [.i 8, .i 4, .i 5, .i 0, .i 0, .i 0], .a [.i 3, .i 0, .i 0, .i 0, .i 16, .i 16], .a [.i 8, .i 6, .i 7, .i 0, .i 0, .i 0], .a [.i 3, .i 0, .i 0, .i 0, .i 32, .i 32], .a [.i 8, .i 8, .i 9, .i 0, .i 0, .i 0], .a [.i 3, .i 0, .i 0, .i 0, .i 64, .i 64], .a [.i 8, .i 10, .i 11, .i 0, .i 0, .i 0], .a [.i 3, .i 0, .i 0, .i 0, .i 128, .i 128], .a [.i 8, .i 12, .i 13, .i 0, .i 0, .i 0], .a [.i 3, .i 0, .i 0, .i 1, .i 1, .i 1], .a [.i 8, .i 14, .i 15, .i 0, .i 0, .i 0], .a [.i 3, .i 0, .i 0, .i 1, .i 2, .i 2], .a [.i 8, .i 16, .i 17, .i 0, .i 0, .i 0], .a [.i 3, .i 0, .i 0, .i 1, .i 4, .i 4], .a [.i 8, .i 18, .i 19, .i 0, .i 0, .i 0], .a [.i 3, .i 0, .i 0, .i 1, .i 8, .i 8], .a [.i 8, .i 20, .i 21, .i 0, .i 0, .i 0], .a [.i 3, .i 0, .i 0, .i 1, .i 16, .i 16], .a [.i 8, .i 22, .i 23, .i 0, .i 0, .i 0], .a [.i 3, .i 0, .i 0, .i 1, .i 32, .i 32], .a [.i 8, .i 24, .i 25, .i 0, .i 0, .i 0], .a [.i 3, .i 0, .i 0, .i 1, .i 64, .i 64], .a [.i 8, .i 26, .i 27, .i 0, .i 0, .i 0], .a [.i 3, .i 0, .i 0, .i 1, .i 128, .i 128], .a [.i 8, .i 28, .i 29, .i 0, .i 0, .i 0], .a [.i 3, .i 0, .i 0, .i 2, .i 1, .i 1], .a [.i 8, .i 30, .i 31, .i 0, .i 0, .i 0], .a [.i 3, .i 0, .i 0, .i 2, .i 2, .i 2], .a [.i 8, .i 32, .i 33, .i 0, .i 0, .i 0], .a [.i 3, .i 0, .i 0, .i 2, .i 4, .i 4], .a [.i 8, .i 34, .i 35, .i 0, .i 0, .i 0], .a [.i 3, .i 0, .i 0, .i 2, .i 8, .i 8], .a [.i 8, .i 36, .i 37, .i 0, .i 0, .i 0], .a [.i 3, .i 0, .i 0, .i 2, .i 16, .i 16], .a [.i 8, .i 38, .i 39, .i 0, .i 0, .i 0], .a [.i 3, .i 0, .i 0, .i 2, .i 32, .i 32], .a [.i 8, .i 40, .i 41, .i 0, .i 0, .i 0], .a [.i 3, .i 0, .i 0, .i 2, .i 64, .i 64], .a [.i 8, .i 42, .i 43, .i 0, .i 0, .i 0], .a [.i 3, .i 0, .i 0, .i 2, .i 128, .i 128], .a [.i 8, .i 44, .i 45, .i 0, .i 0, .i 0]]
theorem check_run3 : (callG tab (envOf (P := Try.prog) [within_pc, kids_pc, placed_pc, may_pc, it_pc, behind_pc, any_pc, either_pc, meet_pc, covers_pc] [] []) 300 20 15 [enc (.list (.agg [.int .i64, .int .i64, .int .i64, .int .i64, .int .i64, .int .i64])) check_d3_0] []).run = some (((SV.si IntKind.i64 ((220 : Int))) : SV), []) := by kernel_rfl
def check_d4_0 : D := .l false [.a [.i 7, .i 0, .i 0, .i 0, .i 0, .i 0], .a [.i 7, .i 0, .i 0, .i 1, .i 0, .i 0], .a [.i 8, .i 0, .i 1, .i 0, .i 0, .i 0], .a [.i 7, .i 0, .i 0, .i 2, .i 0, .i 0], .a [.i 8, .i 2, .i 3, .i 0, .i 0, .i 0], .a [.i 7, .i 0, .i 0, .i 3, .i 0, .i 0], .a [.i 8, .i 4, .i 5, .i 0, .i 0, .i 0], .a [.i 7, .i 0, .i 0, .i 4, .i 0, .i 0], .a [.i 8, .i 6, .i 7, .i 0, .i 0, .i 0]]
theorem check_run4 : (callG tab (envOf (P := Try.prog) [within_pc, kids_pc, placed_pc, may_pc, it_pc, behind_pc, any_pc, either_pc, meet_pc, covers_pc] [] []) 300 20 15 [enc (.list (.agg [.int .i64, .int .i64, .int .i64, .int .i64, .int .i64, .int .i64])) check_d4_0] []).run = some (((SV.si IntKind.i64 ((0 : Int))) : SV), []) := by kernel_rfl
def check_d5_0 : D := .l false [.a [.i 5, .i 0, .i 0, .i 2, .i 0, .i 0], .a [.i 10, .i 0, .i 0, .i 0, .i 0, .i 0], .a [.i 7, .i 0, .i 0, .i 3, .i 0, .i 0], .a [.i 9, .i 1, .i 2, .i 0, .i 0, .i 0]]
theorem check_run5 : (callG tab (envOf (P := Try.prog) [within_pc, kids_pc, placed_pc, may_pc, it_pc, behind_pc, any_pc, either_pc, meet_pc, covers_pc] [] []) 300 20 15 [enc (.list (.agg [.int .i64, .int .i64, .int .i64, .int .i64, .int .i64, .int .i64])) check_d5_0] []).run = some (((SV.si IntKind.i64 ((0 : Int))) : SV), []) := by kernel_rfl
def check_d6_0 : D := .l false [.a [.i 6, .i 0, .i 0, .i 0, .i 0, .i 4], .a [.i 3, .i 0, .i 0, .i 0, .i 255, .i 4], .a [.i 9, .i 0, .i 1, .i 0, .i 0, .i 0], .a [.i 7, .i 0, .i 0, .i 1, .i 0, .i 0], .a [.i 9, .i 2, .i 3, .i 0, .i 0, .i 0]]
theorem check_run6 : (callG tab (envOf (P := Try.prog) [within_pc, kids_pc, placed_pc, may_pc, it_pc, behind_pc, any_pc, either_pc, meet_pc, covers_pc] [] []) 300 20 15 [enc (.list (.agg [.int .i64, .int .i64, .int .i64, .int .i64, .int .i64, .int .i64])) check_d6_0] []).run = some (((SV.si IntKind.i64 ((0 : Int))) : SV), []) := by kernel_rfl
def check_d7_0 : D := .l false [.a [.i 6, .i 0, .i 0, .i 0, .i 0, .i 4], .a [.i 3, .i 0, .i 0, .i 0, .i 255, .i 5], .a [.i 9, .i 0, .i 1, .i 0, .i 0, .i 0], .a [.i 7, .i 0, .i 0, .i 1, .i 0, .i 0], .a [.i 9, .i 2, .i 3, .i 0, .i 0, .i 0]]
theorem check_run7 : (callG tab (envOf (P := Try.prog) [within_pc, kids_pc, placed_pc, may_pc, it_pc, behind_pc, any_pc, either_pc, meet_pc, covers_pc] [] []) 300 20 15 [enc (.list (.agg [.int .i64, .int .i64, .int .i64, .int .i64, .int .i64, .int .i64])) check_d7_0] []).run = some (((SV.si IntKind.i64 ((0 : Int))) : SV), []) := by kernel_rfl
def check_d8_0 : D := .l false [.a [.i 4, .i 0, .i 0, .i 5, .i 0, .i 0], .a [.i 7, .i 0, .i 0, .i 1, .i 0, .i 0], .a [.i 9, .i 0, .i 1, .i 0, .i 0, .i 0]]
theorem check_run8 : (callG tab (envOf (P := Try.prog) [within_pc, kids_pc, placed_pc, may_pc, it_pc, behind_pc, any_pc, either_pc, meet_pc, covers_pc] [] []) 300 20 15 [enc (.list (.agg [.int .i64, .int .i64, .int .i64, .int .i64, .int .i64, .int .i64])) check_d8_0] []).run = some (((SV.si IntKind.i64 ((0 : Int))) : SV), []) := by kernel_rfl
def check_spec : PSpec := ⟨[(.list (.agg [.int .i64, .int .i64, .int .i64, .int .i64, .int .i64, .int .i64]))], fun ds =>
  match D.beqL ds [check_d0_0] with
  | true => some (true, (SV.si IntKind.i64 ((0 : Int))))
  | false =>
  match D.beqL ds [check_d1_0] with
  | true => some (true, (SV.si IntKind.i64 ((0 : Int))))
  | false =>
  match D.beqL ds [check_d2_0] with
  | true => some (true, (SV.si IntKind.i64 ((2 : Int))))
  | false =>
  match D.beqL ds [check_d3_0] with
  | true => some (true, (SV.si IntKind.i64 ((220 : Int))))
  | false =>
  match D.beqL ds [check_d4_0] with
  | true => some (true, (SV.si IntKind.i64 ((0 : Int))))
  | false =>
  match D.beqL ds [check_d5_0] with
  | true => some (true, (SV.si IntKind.i64 ((0 : Int))))
  | false =>
  match D.beqL ds [check_d6_0] with
  | true => some (true, (SV.si IntKind.i64 ((0 : Int))))
  | false =>
  match D.beqL ds [check_d7_0] with
  | true => some (true, (SV.si IntKind.i64 ((0 : Int))))
  | false =>
  match D.beqL ds [check_d8_0] with
  | true => some (true, (SV.si IntKind.i64 ((0 : Int))))
  | false => none⟩
noncomputable def check_pc : PC Try.prog := PC.run2 (T := tab) follows 300 20 15 check_spec (by
  intro ds pre r h hp
  unfold check_spec at h
  simp only at h
  split at h
  · rename_i hb
    have hds := D.beqL_eq hb
    subst hds
    simp only [Option.some.injEq, Prod.mk.injEq] at h
    obtain ⟨_, rfl⟩ := h
    exact ⟨_, _, envOf_good _ _ _, check_run0, rfl⟩
  split at h
  · rename_i hb
    have hds := D.beqL_eq hb
    subst hds
    simp only [Option.some.injEq, Prod.mk.injEq] at h
    obtain ⟨_, rfl⟩ := h
    exact ⟨_, _, envOf_good _ _ _, check_run1, rfl⟩
  split at h
  · rename_i hb
    have hds := D.beqL_eq hb
    subst hds
    simp only [Option.some.injEq, Prod.mk.injEq] at h
    obtain ⟨_, rfl⟩ := h
    exact ⟨_, _, envOf_good _ _ _, check_run2, rfl⟩
  split at h
  · rename_i hb
    have hds := D.beqL_eq hb
    subst hds
    simp only [Option.some.injEq, Prod.mk.injEq] at h
    obtain ⟨_, rfl⟩ := h
    exact ⟨_, _, envOf_good _ _ _, check_run3, rfl⟩
  split at h
  · rename_i hb
    have hds := D.beqL_eq hb
    subst hds
    simp only [Option.some.injEq, Prod.mk.injEq] at h
    obtain ⟨_, rfl⟩ := h
    exact ⟨_, _, envOf_good _ _ _, check_run4, rfl⟩
  split at h
  · rename_i hb
    have hds := D.beqL_eq hb
    subst hds
    simp only [Option.some.injEq, Prod.mk.injEq] at h
    obtain ⟨_, rfl⟩ := h
    exact ⟨_, _, envOf_good _ _ _, check_run5, rfl⟩
  split at h
  · rename_i hb
    have hds := D.beqL_eq hb
    subst hds
    simp only [Option.some.injEq, Prod.mk.injEq] at h
    obtain ⟨_, rfl⟩ := h
    exact ⟨_, _, envOf_good _ _ _, check_run6, rfl⟩
  split at h
  · rename_i hb
    have hds := D.beqL_eq hb
    subst hds
    simp only [Option.some.injEq, Prod.mk.injEq] at h
    obtain ⟨_, rfl⟩ := h
    exact ⟨_, _, envOf_good _ _ _, check_run7, rfl⟩
  split at h
  · rename_i hb
    have hds := D.beqL_eq hb
    subst hds
    simp only [Option.some.injEq, Prod.mk.injEq] at h
    obtain ⟨_, rfl⟩ := h
    exact ⟨_, _, envOf_good _ _ _, check_run8, rfl⟩
  cases h) (enters_of Try.func15 rfl (by kernel_rfl))
def rules_d0_0 : D := .l false [.a [.i 3, .i 0, .i 0, .i 1, .i 255, .i 5], .a [.i 7, .i 0, .i 0, .i 2, .i 0, .i 0], .a [.i 9, .i 0, .i 1, .i 0, .i 0, .i 0], .a [.i 6, .i 0, .i 0, .i 2, .i 0, .i 7], .a [.i 7, .i 0, .i 0, .i 1, .i 0, .i 0], .a [.i 9, .i 3, .i 4, .i 0, .i 0, .i 0], .a [.i 8, .i 2, .i 5, .i 0, .i 0, .i 0]]
def rules_d0_1 : D := .i 1
def rules_d0_2 : D := .i 3
theorem rules_run0 : (callG tab (envOf (P := Try.prog) [within_pc, kids_pc, placed_pc, may_pc, it_pc, behind_pc, any_pc, either_pc, meet_pc, covers_pc, check_pc] [] []) 300 20 6 [enc (.list (.agg [.int .i64, .int .i64, .int .i64, .int .i64, .int .i64, .int .i64])) rules_d0_0, enc (.int .i64) rules_d0_1, enc (.int .i64) rules_d0_2] []).run = some (((SV.tup [(SV.own 0), (SV.si IntKind.i64 ((0 : Int)))]) : SV), [(Option.some (Blk.mk (Con.rows (Sh.agg [(Sh.int IntKind.i64), (Sh.int IntKind.i64), (Sh.int IntKind.i64), (Sh.int IntKind.i64), (Sh.int IntKind.i64), (Sh.int IntKind.i64), (Sh.int IntKind.u8), (Sh.int IntKind.u8), (Sh.int IntKind.u8), (Sh.int IntKind.u8), (Sh.int IntKind.u8), (Sh.int IntKind.u8), (Sh.list (Sh.agg [(Sh.int IntKind.i64), (Sh.int IntKind.i64), (Sh.int IntKind.i64), (Sh.int IntKind.i64)]))]) (false) [(D.a [(D.i ((1 : Int))), (D.i ((2 : Int))), (D.i ((0 : Int))), (D.i ((0 : Int))), (D.i ((3 : Int))), (D.i ((-1 : Int))), (D.i ((0 : Int))), (D.i ((255 : Int))), (D.i ((0 : Int))), (D.i ((0 : Int))), (D.i ((5 : Int))), (D.i ((0 : Int))), (D.l (false && false) [(D.a [(D.i ((2 : Int))), (D.i ((-1 : Int))), (D.i ((-1 : Int))), (D.i ((-1 : Int)))]), (D.a [(D.i ((1 : Int))), (D.i ((-1 : Int))), (D.i ((-1 : Int))), (D.i ((7 : Int)))])])]), (D.a [(D.i ((1 : Int))), (D.i ((1 : Int))), (D.i ((0 : Int))), (D.i ((0 : Int))), (D.i ((3 : Int))), (D.i ((-1 : Int))), (D.i ((0 : Int))), (D.i ((0 : Int))), (D.i ((0 : Int))), (D.i ((0 : Int))), (D.i ((0 : Int))), (D.i ((0 : Int))), (D.l (false && false) [(D.a [(D.i ((1 : Int))), (D.i ((-1 : Int))), (D.i ((-1 : Int))), (D.i ((7 : Int)))])])])]) 36 (false)))]) := by kernel_rfl
def rules_d1_0 : D := .l false [.a [.i 1, .i 0, .i 0, .i 0, .i 0, .i 0]]
def rules_d1_1 : D := .i 1
def rules_d1_2 : D := .i 1
theorem rules_run1 : (callG tab (envOf (P := Try.prog) [within_pc, kids_pc, placed_pc, may_pc, it_pc, behind_pc, any_pc, either_pc, meet_pc, covers_pc, check_pc] [] []) 300 20 6 [enc (.list (.agg [.int .i64, .int .i64, .int .i64, .int .i64, .int .i64, .int .i64])) rules_d1_0, enc (.int .i64) rules_d1_1, enc (.int .i64) rules_d1_2] []).run = some (((SV.tup [(SV.own 0), (SV.si IntKind.i64 ((0 : Int)))]) : SV), [(Option.some (Blk.mk (Con.rows (Sh.agg [(Sh.int IntKind.i64), (Sh.int IntKind.i64), (Sh.int IntKind.i64), (Sh.int IntKind.i64), (Sh.int IntKind.i64), (Sh.int IntKind.i64), (Sh.int IntKind.u8), (Sh.int IntKind.u8), (Sh.int IntKind.u8), (Sh.int IntKind.u8), (Sh.int IntKind.u8), (Sh.int IntKind.u8), (Sh.list (Sh.agg [(Sh.int IntKind.i64), (Sh.int IntKind.i64), (Sh.int IntKind.i64), (Sh.int IntKind.i64)]))]) (false) []) 36 (false)))]) := by kernel_rfl
def rules_d2_0 : D := .l false [.a [.i 3, .i 0, .i 0, .i 1, .i 255, .i 5], .a [.i 7, .i 0, .i 0, .i 2, .i 0, .i 0], .a [.i 9, .i 0, .i 1, .i 0, .i 0, .i 0], .a [.i 6, .i 0, .i 0, .i 2, .i 0, .i 7], .a [.i 7, .i 0, .i 0, .i 1, .i 0, .i 0], .a [.i 9, .i 3, .i 4, .i 0, .i 0, .i 0], .a [.i 8, .i 2, .i 5, .i 0, .i 0, .i 0]]
def rules_d2_1 : D := .i 7
def rules_d2_2 : D := .i 1
theorem rules_run2 : (callG tab (envOf (P := Try.prog) [within_pc, kids_pc, placed_pc, may_pc, it_pc, behind_pc, any_pc, either_pc, meet_pc, covers_pc, check_pc] [] []) 300 20 6 [enc (.list (.agg [.int .i64, .int .i64, .int .i64, .int .i64, .int .i64, .int .i64])) rules_d2_0, enc (.int .i64) rules_d2_1, enc (.int .i64) rules_d2_2] []).run = some (((SV.tup [(SV.val (Value.slice none (nat_lit 0) (nat_lit 0))), (SV.si IntKind.i64 ((9 : Int)))]) : SV), []) := by kernel_rfl
def rules_d3_0 : D := .l false [.a [.i 3, .i 0, .i 0, .i 1, .i 255, .i 5], .a [.i 7, .i 0, .i 0, .i 2, .i 0, .i 0], .a [.i 9, .i 0, .i 1, .i 0, .i 0, .i 0], .a [.i 6, .i 0, .i 0, .i 2, .i 0, .i 7], .a [.i 7, .i 0, .i 0, .i 1, .i 0, .i 0], .a [.i 9, .i 3, .i 4, .i 0, .i 0, .i 0], .a [.i 8, .i 2, .i 5, .i 0, .i 0, .i 0]]
def rules_d3_1 : D := .i 1
def rules_d3_2 : D := .i 0
theorem rules_run3 : (callG tab (envOf (P := Try.prog) [within_pc, kids_pc, placed_pc, may_pc, it_pc, behind_pc, any_pc, either_pc, meet_pc, covers_pc, check_pc] [] []) 300 20 6 [enc (.list (.agg [.int .i64, .int .i64, .int .i64, .int .i64, .int .i64, .int .i64])) rules_d3_0, enc (.int .i64) rules_d3_1, enc (.int .i64) rules_d3_2] []).run = some (((SV.tup [(SV.val (Value.slice none (nat_lit 0) (nat_lit 0))), (SV.si IntKind.i64 ((9 : Int)))]) : SV), []) := by kernel_rfl
def rules_d4_0 : D := .l false [.a [.i 3, .i 0, .i 0, .i 1, .i 255, .i 5], .a [.i 7, .i 0, .i 0, .i 2, .i 0, .i 0], .a [.i 9, .i 0, .i 1, .i 0, .i 0, .i 0], .a [.i 6, .i 0, .i 0, .i 2, .i 0, .i 7], .a [.i 7, .i 0, .i 0, .i 1, .i 0, .i 0], .a [.i 9, .i 3, .i 4, .i 0, .i 0, .i 0], .a [.i 8, .i 2, .i 5, .i 0, .i 0, .i 0]]
def rules_d4_1 : D := .i 1
def rules_d4_2 : D := .i 1
theorem rules_run4 : (callG tab (envOf (P := Try.prog) [within_pc, kids_pc, placed_pc, may_pc, it_pc, behind_pc, any_pc, either_pc, meet_pc, covers_pc, check_pc] [] []) 300 20 6 [enc (.list (.agg [.int .i64, .int .i64, .int .i64, .int .i64, .int .i64, .int .i64])) rules_d4_0, enc (.int .i64) rules_d4_1, enc (.int .i64) rules_d4_2] []).run = some (((SV.tup [(SV.own 0), (SV.si IntKind.i64 ((0 : Int)))]) : SV), [(Option.some (Blk.mk (Con.rows (Sh.agg [(Sh.int IntKind.i64), (Sh.int IntKind.i64), (Sh.int IntKind.i64), (Sh.int IntKind.i64), (Sh.int IntKind.i64), (Sh.int IntKind.i64), (Sh.int IntKind.u8), (Sh.int IntKind.u8), (Sh.int IntKind.u8), (Sh.int IntKind.u8), (Sh.int IntKind.u8), (Sh.int IntKind.u8), (Sh.list (Sh.agg [(Sh.int IntKind.i64), (Sh.int IntKind.i64), (Sh.int IntKind.i64), (Sh.int IntKind.i64)]))]) (false) [(D.a [(D.i ((1 : Int))), (D.i ((2 : Int))), (D.i ((0 : Int))), (D.i ((0 : Int))), (D.i ((1 : Int))), (D.i ((-1 : Int))), (D.i ((0 : Int))), (D.i ((255 : Int))), (D.i ((0 : Int))), (D.i ((0 : Int))), (D.i ((5 : Int))), (D.i ((0 : Int))), (D.l (false && false) [(D.a [(D.i ((2 : Int))), (D.i ((-1 : Int))), (D.i ((-1 : Int))), (D.i ((-1 : Int)))]), (D.a [(D.i ((1 : Int))), (D.i ((-1 : Int))), (D.i ((-1 : Int))), (D.i ((7 : Int)))])])]), (D.a [(D.i ((1 : Int))), (D.i ((1 : Int))), (D.i ((0 : Int))), (D.i ((0 : Int))), (D.i ((1 : Int))), (D.i ((-1 : Int))), (D.i ((0 : Int))), (D.i ((0 : Int))), (D.i ((0 : Int))), (D.i ((0 : Int))), (D.i ((0 : Int))), (D.i ((0 : Int))), (D.l (false && false) [(D.a [(D.i ((1 : Int))), (D.i ((-1 : Int))), (D.i ((-1 : Int))), (D.i ((7 : Int)))])])])]) 36 (false)))]) := by kernel_rfl
def rules_d5_0 : D := .l false [.a [.i 3, .i 0, .i 0, .i 1, .i 255, .i 5], .a [.i 7, .i 0, .i 0, .i 2, .i 0, .i 0], .a [.i 9, .i 0, .i 1, .i 0, .i 0, .i 0], .a [.i 6, .i 0, .i 0, .i 2, .i 0, .i 7], .a [.i 7, .i 0, .i 0, .i 1, .i 0, .i 0], .a [.i 9, .i 3, .i 4, .i 0, .i 0, .i 0], .a [.i 8, .i 2, .i 5, .i 0, .i 0, .i 0]]
def rules_d5_1 : D := .i 2
def rules_d5_2 : D := .i 1
theorem rules_run5 : (callG tab (envOf (P := Try.prog) [within_pc, kids_pc, placed_pc, may_pc, it_pc, behind_pc, any_pc, either_pc, meet_pc, covers_pc, check_pc] [] []) 300 20 6 [enc (.list (.agg [.int .i64, .int .i64, .int .i64, .int .i64, .int .i64, .int .i64])) rules_d5_0, enc (.int .i64) rules_d5_1, enc (.int .i64) rules_d5_2] []).run = some (((SV.tup [(SV.own 0), (SV.si IntKind.i64 ((0 : Int)))]) : SV), [(Option.some (Blk.mk (Con.rows (Sh.agg [(Sh.int IntKind.i64), (Sh.int IntKind.i64), (Sh.int IntKind.i64), (Sh.int IntKind.i64), (Sh.int IntKind.i64), (Sh.int IntKind.i64), (Sh.int IntKind.u8), (Sh.int IntKind.u8), (Sh.int IntKind.u8), (Sh.int IntKind.u8), (Sh.int IntKind.u8), (Sh.int IntKind.u8), (Sh.list (Sh.agg [(Sh.int IntKind.i64), (Sh.int IntKind.i64), (Sh.int IntKind.i64), (Sh.int IntKind.i64)]))]) (false) [(D.a [(D.i ((1 : Int))), (D.i ((2 : Int))), (D.i ((0 : Int))), (D.i ((0 : Int))), (D.i ((1 : Int))), (D.i ((-1 : Int))), (D.i ((0 : Int))), (D.i ((255 : Int))), (D.i ((0 : Int))), (D.i ((0 : Int))), (D.i ((5 : Int))), (D.i ((0 : Int))), (D.l (false && false) [(D.a [(D.i ((2 : Int))), (D.i ((-1 : Int))), (D.i ((-1 : Int))), (D.i ((-1 : Int)))]), (D.a [(D.i ((1 : Int))), (D.i ((-1 : Int))), (D.i ((-1 : Int))), (D.i ((7 : Int)))])])]), (D.a [(D.i ((1 : Int))), (D.i ((1 : Int))), (D.i ((0 : Int))), (D.i ((0 : Int))), (D.i ((1 : Int))), (D.i ((-1 : Int))), (D.i ((0 : Int))), (D.i ((0 : Int))), (D.i ((0 : Int))), (D.i ((0 : Int))), (D.i ((0 : Int))), (D.i ((0 : Int))), (D.l (false && false) [(D.a [(D.i ((1 : Int))), (D.i ((-1 : Int))), (D.i ((-1 : Int))), (D.i ((7 : Int)))])])])]) 36 (false)))]) := by kernel_rfl
def rules_d6_0 : D := .l false [.a [.i 3, .i 0, .i 0, .i 1, .i 255, .i 5], .a [.i 7, .i 0, .i 0, .i 2, .i 0, .i 0], .a [.i 9, .i 0, .i 1, .i 0, .i 0, .i 0], .a [.i 6, .i 0, .i 0, .i 2, .i 0, .i 7], .a [.i 7, .i 0, .i 0, .i 1, .i 0, .i 0], .a [.i 9, .i 3, .i 4, .i 0, .i 0, .i 0], .a [.i 8, .i 2, .i 5, .i 0, .i 0, .i 0]]
def rules_d6_1 : D := .i 3
def rules_d6_2 : D := .i 1
theorem rules_run6 : (callG tab (envOf (P := Try.prog) [within_pc, kids_pc, placed_pc, may_pc, it_pc, behind_pc, any_pc, either_pc, meet_pc, covers_pc, check_pc] [] []) 300 20 6 [enc (.list (.agg [.int .i64, .int .i64, .int .i64, .int .i64, .int .i64, .int .i64])) rules_d6_0, enc (.int .i64) rules_d6_1, enc (.int .i64) rules_d6_2] []).run = some (((SV.tup [(SV.own 0), (SV.si IntKind.i64 ((0 : Int)))]) : SV), [(Option.some (Blk.mk (Con.rows (Sh.agg [(Sh.int IntKind.i64), (Sh.int IntKind.i64), (Sh.int IntKind.i64), (Sh.int IntKind.i64), (Sh.int IntKind.i64), (Sh.int IntKind.i64), (Sh.int IntKind.u8), (Sh.int IntKind.u8), (Sh.int IntKind.u8), (Sh.int IntKind.u8), (Sh.int IntKind.u8), (Sh.int IntKind.u8), (Sh.list (Sh.agg [(Sh.int IntKind.i64), (Sh.int IntKind.i64), (Sh.int IntKind.i64), (Sh.int IntKind.i64)]))]) (false) [(D.a [(D.i ((1 : Int))), (D.i ((2 : Int))), (D.i ((0 : Int))), (D.i ((0 : Int))), (D.i ((1 : Int))), (D.i ((-1 : Int))), (D.i ((0 : Int))), (D.i ((255 : Int))), (D.i ((0 : Int))), (D.i ((0 : Int))), (D.i ((5 : Int))), (D.i ((0 : Int))), (D.l (false && false) [(D.a [(D.i ((2 : Int))), (D.i ((-1 : Int))), (D.i ((-1 : Int))), (D.i ((-1 : Int)))]), (D.a [(D.i ((1 : Int))), (D.i ((-1 : Int))), (D.i ((-1 : Int))), (D.i ((7 : Int)))])])]), (D.a [(D.i ((1 : Int))), (D.i ((1 : Int))), (D.i ((0 : Int))), (D.i ((0 : Int))), (D.i ((1 : Int))), (D.i ((-1 : Int))), (D.i ((0 : Int))), (D.i ((0 : Int))), (D.i ((0 : Int))), (D.i ((0 : Int))), (D.i ((0 : Int))), (D.i ((0 : Int))), (D.l (false && false) [(D.a [(D.i ((1 : Int))), (D.i ((-1 : Int))), (D.i ((-1 : Int))), (D.i ((7 : Int)))])])])]) 36 (false)))]) := by kernel_rfl
def rules_d7_0 : D := .l false [.a [.i 3, .i 0, .i 0, .i 1, .i 255, .i 5], .a [.i 7, .i 0, .i 0, .i 2, .i 0, .i 0], .a [.i 9, .i 0, .i 1, .i 0, .i 0, .i 0], .a [.i 6, .i 0, .i 0, .i 2, .i 0, .i 7], .a [.i 7, .i 0, .i 0, .i 1, .i 0, .i 0], .a [.i 9, .i 3, .i 4, .i 0, .i 0, .i 0], .a [.i 8, .i 2, .i 5, .i 0, .i 0, .i 0]]
def rules_d7_1 : D := .i 4
def rules_d7_2 : D := .i 1
theorem rules_run7 : (callG tab (envOf (P := Try.prog) [within_pc, kids_pc, placed_pc, may_pc, it_pc, behind_pc, any_pc, either_pc, meet_pc, covers_pc, check_pc] [] []) 300 20 6 [enc (.list (.agg [.int .i64, .int .i64, .int .i64, .int .i64, .int .i64, .int .i64])) rules_d7_0, enc (.int .i64) rules_d7_1, enc (.int .i64) rules_d7_2] []).run = some (((SV.tup [(SV.own 0), (SV.si IntKind.i64 ((0 : Int)))]) : SV), [(Option.some (Blk.mk (Con.rows (Sh.agg [(Sh.int IntKind.i64), (Sh.int IntKind.i64), (Sh.int IntKind.i64), (Sh.int IntKind.i64), (Sh.int IntKind.i64), (Sh.int IntKind.i64), (Sh.int IntKind.u8), (Sh.int IntKind.u8), (Sh.int IntKind.u8), (Sh.int IntKind.u8), (Sh.int IntKind.u8), (Sh.int IntKind.u8), (Sh.list (Sh.agg [(Sh.int IntKind.i64), (Sh.int IntKind.i64), (Sh.int IntKind.i64), (Sh.int IntKind.i64)]))]) (false) [(D.a [(D.i ((1 : Int))), (D.i ((2 : Int))), (D.i ((0 : Int))), (D.i ((0 : Int))), (D.i ((1 : Int))), (D.i ((-1 : Int))), (D.i ((0 : Int))), (D.i ((255 : Int))), (D.i ((0 : Int))), (D.i ((0 : Int))), (D.i ((5 : Int))), (D.i ((0 : Int))), (D.l (false && false) [(D.a [(D.i ((2 : Int))), (D.i ((-1 : Int))), (D.i ((-1 : Int))), (D.i ((-1 : Int)))]), (D.a [(D.i ((1 : Int))), (D.i ((-1 : Int))), (D.i ((-1 : Int))), (D.i ((7 : Int)))])])]), (D.a [(D.i ((1 : Int))), (D.i ((1 : Int))), (D.i ((0 : Int))), (D.i ((0 : Int))), (D.i ((1 : Int))), (D.i ((-1 : Int))), (D.i ((0 : Int))), (D.i ((0 : Int))), (D.i ((0 : Int))), (D.i ((0 : Int))), (D.i ((0 : Int))), (D.i ((0 : Int))), (D.l (false && false) [(D.a [(D.i ((1 : Int))), (D.i ((-1 : Int))), (D.i ((-1 : Int))), (D.i ((7 : Int)))])])])]) 36 (false)))]) := by kernel_rfl
def rules_d8_0 : D := .l false [.a [.i 3, .i 0, .i 0, .i 1, .i 255, .i 5], .a [.i 7, .i 0, .i 0, .i 2, .i 0, .i 0], .a [.i 9, .i 0, .i 1, .i 0, .i 0, .i 0], .a [.i 6, .i 0, .i 0, .i 2, .i 0, .i 7], .a [.i 7, .i 0, .i 0, .i 1, .i 0, .i 0], .a [.i 9, .i 3, .i 4, .i 0, .i 0, .i 0], .a [.i 8, .i 2, .i 5, .i 0, .i 0, .i 0]]
def rules_d8_1 : D := .i 5
def rules_d8_2 : D := .i 1
theorem rules_run8 : (callG tab (envOf (P := Try.prog) [within_pc, kids_pc, placed_pc, may_pc, it_pc, behind_pc, any_pc, either_pc, meet_pc, covers_pc, check_pc] [] []) 300 20 6 [enc (.list (.agg [.int .i64, .int .i64, .int .i64, .int .i64, .int .i64, .int .i64])) rules_d8_0, enc (.int .i64) rules_d8_1, enc (.int .i64) rules_d8_2] []).run = some (((SV.tup [(SV.own 0), (SV.si IntKind.i64 ((0 : Int)))]) : SV), [(Option.some (Blk.mk (Con.rows (Sh.agg [(Sh.int IntKind.i64), (Sh.int IntKind.i64), (Sh.int IntKind.i64), (Sh.int IntKind.i64), (Sh.int IntKind.i64), (Sh.int IntKind.i64), (Sh.int IntKind.u8), (Sh.int IntKind.u8), (Sh.int IntKind.u8), (Sh.int IntKind.u8), (Sh.int IntKind.u8), (Sh.int IntKind.u8), (Sh.list (Sh.agg [(Sh.int IntKind.i64), (Sh.int IntKind.i64), (Sh.int IntKind.i64), (Sh.int IntKind.i64)]))]) (false) [(D.a [(D.i ((1 : Int))), (D.i ((2 : Int))), (D.i ((0 : Int))), (D.i ((0 : Int))), (D.i ((1 : Int))), (D.i ((-1 : Int))), (D.i ((0 : Int))), (D.i ((255 : Int))), (D.i ((0 : Int))), (D.i ((0 : Int))), (D.i ((5 : Int))), (D.i ((0 : Int))), (D.l (false && false) [(D.a [(D.i ((2 : Int))), (D.i ((-1 : Int))), (D.i ((-1 : Int))), (D.i ((-1 : Int)))]), (D.a [(D.i ((1 : Int))), (D.i ((-1 : Int))), (D.i ((-1 : Int))), (D.i ((7 : Int)))])])]), (D.a [(D.i ((1 : Int))), (D.i ((1 : Int))), (D.i ((0 : Int))), (D.i ((0 : Int))), (D.i ((1 : Int))), (D.i ((-1 : Int))), (D.i ((0 : Int))), (D.i ((0 : Int))), (D.i ((0 : Int))), (D.i ((0 : Int))), (D.i ((0 : Int))), (D.i ((0 : Int))), (D.l (false && false) [(D.a [(D.i ((1 : Int))), (D.i ((-1 : Int))), (D.i ((-1 : Int))), (D.i ((7 : Int)))])])])]) 36 (false)))]) := by kernel_rfl
def rules_d9_0 : D := .l false [.a [.i 3, .i 0, .i 0, .i 1, .i 255, .i 5], .a [.i 7, .i 0, .i 0, .i 2, .i 0, .i 0], .a [.i 9, .i 0, .i 1, .i 0, .i 0, .i 0], .a [.i 6, .i 0, .i 0, .i 2, .i 0, .i 7], .a [.i 7, .i 0, .i 0, .i 1, .i 0, .i 0], .a [.i 9, .i 3, .i 4, .i 0, .i 0, .i 0], .a [.i 8, .i 2, .i 5, .i 0, .i 0, .i 0]]
def rules_d9_1 : D := .i 6
def rules_d9_2 : D := .i 1
theorem rules_run9 : (callG tab (envOf (P := Try.prog) [within_pc, kids_pc, placed_pc, may_pc, it_pc, behind_pc, any_pc, either_pc, meet_pc, covers_pc, check_pc] [] []) 300 20 6 [enc (.list (.agg [.int .i64, .int .i64, .int .i64, .int .i64, .int .i64, .int .i64])) rules_d9_0, enc (.int .i64) rules_d9_1, enc (.int .i64) rules_d9_2] []).run = some (((SV.tup [(SV.own 0), (SV.si IntKind.i64 ((0 : Int)))]) : SV), [(Option.some (Blk.mk (Con.rows (Sh.agg [(Sh.int IntKind.i64), (Sh.int IntKind.i64), (Sh.int IntKind.i64), (Sh.int IntKind.i64), (Sh.int IntKind.i64), (Sh.int IntKind.i64), (Sh.int IntKind.u8), (Sh.int IntKind.u8), (Sh.int IntKind.u8), (Sh.int IntKind.u8), (Sh.int IntKind.u8), (Sh.int IntKind.u8), (Sh.list (Sh.agg [(Sh.int IntKind.i64), (Sh.int IntKind.i64), (Sh.int IntKind.i64), (Sh.int IntKind.i64)]))]) (false) [(D.a [(D.i ((1 : Int))), (D.i ((2 : Int))), (D.i ((0 : Int))), (D.i ((0 : Int))), (D.i ((1 : Int))), (D.i ((-1 : Int))), (D.i ((0 : Int))), (D.i ((255 : Int))), (D.i ((0 : Int))), (D.i ((0 : Int))), (D.i ((5 : Int))), (D.i ((0 : Int))), (D.l (false && false) [(D.a [(D.i ((2 : Int))), (D.i ((-1 : Int))), (D.i ((-1 : Int))), (D.i ((-1 : Int)))]), (D.a [(D.i ((1 : Int))), (D.i ((-1 : Int))), (D.i ((-1 : Int))), (D.i ((7 : Int)))])])]), (D.a [(D.i ((1 : Int))), (D.i ((1 : Int))), (D.i ((0 : Int))), (D.i ((0 : Int))), (D.i ((1 : Int))), (D.i ((-1 : Int))), (D.i ((0 : Int))), (D.i ((0 : Int))), (D.i ((0 : Int))), (D.i ((0 : Int))), (D.i ((0 : Int))), (D.i ((0 : Int))), (D.l (false && false) [(D.a [(D.i ((1 : Int))), (D.i ((-1 : Int))), (D.i ((-1 : Int))), (D.i ((7 : Int)))])])])]) 36 (false)))]) := by kernel_rfl
def rules_d10_0 : D := .l false [.a [.i 3, .i 0, .i 0, .i 0, .i 1, .i 1], .a [.i 3, .i 0, .i 0, .i 0, .i 2, .i 2], .a [.i 8, .i 0, .i 1, .i 0, .i 0, .i 0], .a [.i 3, .i 0, .i 0, .i 0, .i 4, .i 4], .a [.i 8, .i 2, .i 3, .i 0, .i 0, .i 0], .a [.i 3, .i 0, .i 0, .i 0, .i 8, .i 8], .a [.i 8, .i 4, .i 5, .i 0, .i 0, .i 0], .a [.i 3, .i 0, .i 0, .i 0, .i 16, .i 16], .a [.i 8, .i 6, .i 7, .i 0, .i 0, .i 0], .a [.i 3, .i 0, .i 0, .i 0, .i 32, .i 32], .a [.i 8, .i 8, .i 9, .i 0, .i 0, .i 0], .a [.i 3, .i 0, .i 0, .i 0, .i 64, .i 64], .a [.i 8, .i 10, .i 11, .i 0, .i 0, .i 0], .a [.i 3, .i 0, .i 0, .i 0, .i 128, .i 128], .a [.i 8, .i 12, .i 13, .i 0, .i 0, .i 0], .a [.i 3, .i 0, .i 0, .i 1, .i 1, .i 1], .a [.i 8, .i 14, .i 15, .i 0, .i 0, .i 0], .a [.i 3, .i 0, .i 0, .i 1, .i 2, .i 2], .a [.i 8, .i 16, .i 17, .i 0, .i 0, .i 0], .a [.i 3, .i 0, .i 0, .i 1, .i 4, .i 4], .a [.i 8, .i 18, .i 19, .i 0, .i 0, .i 0], .a [.i 3, .i 0, .i 0, .i 1, .i 8, .i 8], .a [.i 8, .i 20, .i 21, .i 0, .i 0, .i 0], .a [.i 3, .i 0, .i 0, .i 1, .i 16, .i 16], .a [.i 8, .i 22, .i 23, .i 0, .i 0, .i 0], .a [.i 3, .i 0, .i 0, .i 1, .i 32, .i 32], .a [.i 8, .i 24, .i 25, .i 0, .i 0, .i 0], .a [.i 3, .i 0, .i 0, .i 1, .i 64, .i 64], .a [.i 8, .i 26, .i 27, .i 0, .i 0, .i 0], .a [.i 3, .i 0, .i 0, .i 1, .i 128, .i 128], .a [.i 8, .i 28, .i 29, .i 0, .i 0, .i 0], .a [.i 3, .i 0, .i 0, .i 2, .i 1, .i 1], .a [.i 8, .i 30, .i 31, .i 0, .i 0, .i 0], .a [.i 3, .i 0, .i 0, .i 2, .i 2, .i 2], .a [.i 8, .i 32, .i 33, .i 0, .i 0, .i 0], .a [.i 3, .i 0, .i 0, .i 2, .i 4, .i 4], .a [.i 8, .i 34, .i 35, .i 0, .i 0, .i 0], .a [.i 3, .i 0, .i 0, .i 2, .i 8, .i 8], .a [.i 8, .i 36, .i 37, .i 0, .i 0, .i 0], .a [.i 3, .i 0, .i 0, .i 2, .i 16, .i 16], .a [.i 8, .i 38, .i 39, .i 0, .i 0, .i 0], .a [.i 3, .i 0, .i 0, .i 2, .i 32, .i 32], .a [.i 8, .i 40, .i 41, .i 0, .i 0, .i 0], .a [.i 3, .i 0, .i 0, .i 2, .i 64, .i 64], .a [.i 8, .i 42, .i 43, .i 0, .i 0, .i 0], .a [.i 3, .i 0, .i 0, .i 2, .i 128, .i 128], .a [.i 8, .i 44, .i 45, .i 0, .i 0, .i 0]]
def rules_d10_1 : D := .i 1
def rules_d10_2 : D := .i 1
theorem rules_run10 : (callG tab (envOf (P := Try.prog) [within_pc, kids_pc, placed_pc, may_pc, it_pc, behind_pc, any_pc, either_pc, meet_pc, covers_pc, check_pc] [] []) 300 20 6 [enc (.list (.agg [.int .i64, .int .i64, .int .i64, .int .i64, .int .i64, .int .i64])) rules_d10_0, enc (.int .i64) rules_d10_1, enc (.int .i64) rules_d10_2] []).run = some (((SV.tup [(SV.val (Value.slice none (nat_lit 0) (nat_lit 0))), (SV.si IntKind.i64 ((220 : Int)))]) : SV), []) := by kernel_rfl
def rules_d11_0 : D := .l false [.a [.i 7, .i 0, .i 0, .i 0, .i 0, .i 0], .a [.i 7, .i 0, .i 0, .i 1, .i 0, .i 0], .a [.i 8, .i 0, .i 1, .i 0, .i 0, .i 0], .a [.i 7, .i 0, .i 0, .i 2, .i 0, .i 0], .a [.i 8, .i 2, .i 3, .i 0, .i 0, .i 0], .a [.i 7, .i 0, .i 0, .i 3, .i 0, .i 0], .a [.i 8, .i 4, .i 5, .i 0, .i 0, .i 0], .a [.i 7, .i 0, .i 0, .i 4, .i 0, .i 0], .a [.i 8, .i 6, .i 7, .i 0, .i 0, .i 0]]
def rules_d11_1 : D := .i 6
def rules_d11_2 : D := .i 200
theorem rules_run11 : (callG tab (envOf (P := Try.prog) [within_pc, kids_pc, placed_pc, may_pc, it_pc, behind_pc, any_pc, either_pc, meet_pc, covers_pc, check_pc] [] []) 300 20 6 [enc (.list (.agg [.int .i64, .int .i64, .int .i64, .int .i64, .int .i64, .int .i64])) rules_d11_0, enc (.int .i64) rules_d11_1, enc (.int .i64) rules_d11_2] []).run = some (((SV.tup [(SV.own 0), (SV.si IntKind.i64 ((0 : Int)))]) : SV), [(Option.some (Blk.mk (Con.rows (Sh.agg [(Sh.int IntKind.i64), (Sh.int IntKind.i64), (Sh.int IntKind.i64), (Sh.int IntKind.i64), (Sh.int IntKind.i64), (Sh.int IntKind.i64), (Sh.int IntKind.u8), (Sh.int IntKind.u8), (Sh.int IntKind.u8), (Sh.int IntKind.u8), (Sh.int IntKind.u8), (Sh.int IntKind.u8), (Sh.list (Sh.agg [(Sh.int IntKind.i64), (Sh.int IntKind.i64), (Sh.int IntKind.i64), (Sh.int IntKind.i64)]))]) (false) [(D.a [(D.i ((1 : Int))), (D.i ((1 : Int))), (D.i ((0 : Int))), (D.i ((0 : Int))), (D.i ((200 : Int))), (D.i ((-1 : Int))), (D.i ((0 : Int))), (D.i ((0 : Int))), (D.i ((0 : Int))), (D.i ((0 : Int))), (D.i ((0 : Int))), (D.i ((0 : Int))), (D.l (false && false) [(D.a [(D.i ((0 : Int))), (D.i ((-1 : Int))), (D.i ((-1 : Int))), (D.i ((-1 : Int)))]), (D.a [(D.i ((1 : Int))), (D.i ((-1 : Int))), (D.i ((-1 : Int))), (D.i ((-1 : Int)))]), (D.a [(D.i ((2 : Int))), (D.i ((-1 : Int))), (D.i ((-1 : Int))), (D.i ((-1 : Int)))]), (D.a [(D.i ((3 : Int))), (D.i ((-1 : Int))), (D.i ((-1 : Int))), (D.i ((-1 : Int)))]), (D.a [(D.i ((4 : Int))), (D.i ((-1 : Int))), (D.i ((-1 : Int))), (D.i ((-1 : Int)))])])])]) 36 (false)))]) := by kernel_rfl
def rules_d12_0 : D := .l false [.a [.i 7, .i 0, .i 0, .i 0, .i 0, .i 0], .a [.i 7, .i 0, .i 0, .i 1, .i 0, .i 0], .a [.i 8, .i 0, .i 1, .i 0, .i 0, .i 0], .a [.i 7, .i 0, .i 0, .i 2, .i 0, .i 0], .a [.i 8, .i 2, .i 3, .i 0, .i 0, .i 0], .a [.i 7, .i 0, .i 0, .i 3, .i 0, .i 0], .a [.i 8, .i 4, .i 5, .i 0, .i 0, .i 0], .a [.i 7, .i 0, .i 0, .i 4, .i 0, .i 0], .a [.i 8, .i 6, .i 7, .i 0, .i 0, .i 0]]
def rules_d12_1 : D := .i 0
def rules_d12_2 : D := .i 1
theorem rules_run12 : (callG tab (envOf (P := Try.prog) [within_pc, kids_pc, placed_pc, may_pc, it_pc, behind_pc, any_pc, either_pc, meet_pc, covers_pc, check_pc] [] []) 300 20 6 [enc (.list (.agg [.int .i64, .int .i64, .int .i64, .int .i64, .int .i64, .int .i64])) rules_d12_0, enc (.int .i64) rules_d12_1, enc (.int .i64) rules_d12_2] []).run = some (((SV.tup [(SV.val (Value.slice none (nat_lit 0) (nat_lit 0))), (SV.si IntKind.i64 ((9 : Int)))]) : SV), []) := by kernel_rfl
def rules_d13_0 : D := .l false [.a [.i 7, .i 0, .i 0, .i 0, .i 0, .i 0], .a [.i 7, .i 0, .i 0, .i 1, .i 0, .i 0], .a [.i 8, .i 0, .i 1, .i 0, .i 0, .i 0], .a [.i 7, .i 0, .i 0, .i 2, .i 0, .i 0], .a [.i 8, .i 2, .i 3, .i 0, .i 0, .i 0], .a [.i 7, .i 0, .i 0, .i 3, .i 0, .i 0], .a [.i 8, .i 4, .i 5, .i 0, .i 0, .i 0], .a [.i 7, .i 0, .i 0, .i 4, .i 0, .i 0], .a [.i 8, .i 6, .i 7, .i 0, .i 0, .i 0]]
def rules_d13_1 : D := .i 1
def rules_d13_2 : D := .i 201
theorem rules_run13 : (callG tab (envOf (P := Try.prog) [within_pc, kids_pc, placed_pc, may_pc, it_pc, behind_pc, any_pc, either_pc, meet_pc, covers_pc, check_pc] [] []) 300 20 6 [enc (.list (.agg [.int .i64, .int .i64, .int .i64, .int .i64, .int .i64, .int .i64])) rules_d13_0, enc (.int .i64) rules_d13_1, enc (.int .i64) rules_d13_2] []).run = some (((SV.tup [(SV.val (Value.slice none (nat_lit 0) (nat_lit 0))), (SV.si IntKind.i64 ((9 : Int)))]) : SV), []) := by kernel_rfl
def rules_d14_0 : D := .l true []
def rules_d14_1 : D := .i 1
def rules_d14_2 : D := .i 1
theorem rules_run14 : (callG tab (envOf (P := Try.prog) [within_pc, kids_pc, placed_pc, may_pc, it_pc, behind_pc, any_pc, either_pc, meet_pc, covers_pc, check_pc] [] []) 300 20 6 [enc (.list (.agg [.int .i64, .int .i64, .int .i64, .int .i64, .int .i64, .int .i64])) rules_d14_0, enc (.int .i64) rules_d14_1, enc (.int .i64) rules_d14_2] []).run = some (((SV.tup [(SV.val (Value.slice none (nat_lit 0) (nat_lit 0))), (SV.si IntKind.i64 ((2 : Int)))]) : SV), []) := by kernel_rfl
def rules_d15_0 : D := .l false [.a [.i 5, .i 0, .i 0, .i 2, .i 0, .i 0], .a [.i 10, .i 0, .i 0, .i 0, .i 0, .i 0], .a [.i 7, .i 0, .i 0, .i 3, .i 0, .i 0], .a [.i 9, .i 1, .i 2, .i 0, .i 0, .i 0]]
def rules_d15_1 : D := .i 4
def rules_d15_2 : D := .i 9
theorem rules_run15 : (callG tab (envOf (P := Try.prog) [within_pc, kids_pc, placed_pc, may_pc, it_pc, behind_pc, any_pc, either_pc, meet_pc, covers_pc, check_pc] [] []) 300 20 6 [enc (.list (.agg [.int .i64, .int .i64, .int .i64, .int .i64, .int .i64, .int .i64])) rules_d15_0, enc (.int .i64) rules_d15_1, enc (.int .i64) rules_d15_2] []).run = some (((SV.tup [(SV.own 0), (SV.si IntKind.i64 ((0 : Int)))]) : SV), [(Option.some (Blk.mk (Con.rows (Sh.agg [(Sh.int IntKind.i64), (Sh.int IntKind.i64), (Sh.int IntKind.i64), (Sh.int IntKind.i64), (Sh.int IntKind.i64), (Sh.int IntKind.i64), (Sh.int IntKind.u8), (Sh.int IntKind.u8), (Sh.int IntKind.u8), (Sh.int IntKind.u8), (Sh.int IntKind.u8), (Sh.int IntKind.u8), (Sh.list (Sh.agg [(Sh.int IntKind.i64), (Sh.int IntKind.i64), (Sh.int IntKind.i64), (Sh.int IntKind.i64)]))]) (false) [(D.a [(D.i ((1 : Int))), (D.i ((2 : Int))), (D.i ((0 : Int))), (D.i ((0 : Int))), (D.i ((9 : Int))), (D.i ((2 : Int))), (D.i ((0 : Int))), (D.i ((0 : Int))), (D.i ((0 : Int))), (D.i ((0 : Int))), (D.i ((0 : Int))), (D.i ((0 : Int))), (D.l (true) [])]), (D.a [(D.i ((1 : Int))), (D.i ((1 : Int))), (D.i ((0 : Int))), (D.i ((0 : Int))), (D.i ((9 : Int))), (D.i ((-1 : Int))), (D.i ((0 : Int))), (D.i ((0 : Int))), (D.i ((0 : Int))), (D.i ((0 : Int))), (D.i ((0 : Int))), (D.i ((0 : Int))), (D.l (false && false) [(D.a [(D.i ((3 : Int))), (D.i ((-1 : Int))), (D.i ((-1 : Int))), (D.i ((-1 : Int)))])])])]) 36 (false)))]) := by kernel_rfl
def rules_d16_0 : D := .l false [.a [.i 6, .i 0, .i 0, .i 0, .i 0, .i 4], .a [.i 3, .i 0, .i 0, .i 0, .i 255, .i 4], .a [.i 9, .i 0, .i 1, .i 0, .i 0, .i 0], .a [.i 7, .i 0, .i 0, .i 1, .i 0, .i 0], .a [.i 9, .i 2, .i 3, .i 0, .i 0, .i 0]]
def rules_d16_1 : D := .i 1
def rules_d16_2 : D := .i 1
theorem rules_run16 : (callG tab (envOf (P := Try.prog) [within_pc, kids_pc, placed_pc, may_pc, it_pc, behind_pc, any_pc, either_pc, meet_pc, covers_pc, check_pc] [] []) 300 20 6 [enc (.list (.agg [.int .i64, .int .i64, .int .i64, .int .i64, .int .i64, .int .i64])) rules_d16_0, enc (.int .i64) rules_d16_1, enc (.int .i64) rules_d16_2] []).run = some (((SV.tup [(SV.own 0), (SV.si IntKind.i64 ((0 : Int)))]) : SV), [(Option.some (Blk.mk (Con.rows (Sh.agg [(Sh.int IntKind.i64), (Sh.int IntKind.i64), (Sh.int IntKind.i64), (Sh.int IntKind.i64), (Sh.int IntKind.i64), (Sh.int IntKind.i64), (Sh.int IntKind.u8), (Sh.int IntKind.u8), (Sh.int IntKind.u8), (Sh.int IntKind.u8), (Sh.int IntKind.u8), (Sh.int IntKind.u8), (Sh.list (Sh.agg [(Sh.int IntKind.i64), (Sh.int IntKind.i64), (Sh.int IntKind.i64), (Sh.int IntKind.i64)]))]) (false) [(D.a [(D.i ((1 : Int))), (D.i ((1 : Int))), (D.i ((0 : Int))), (D.i ((0 : Int))), (D.i ((1 : Int))), (D.i ((-1 : Int))), (D.i ((0 : Int))), (D.i ((0 : Int))), (D.i ((0 : Int))), (D.i ((0 : Int))), (D.i ((0 : Int))), (D.i ((0 : Int))), (D.l (false && false) [(D.a [(D.i ((1 : Int))), (D.i ((4 : Int))), (D.i ((-1 : Int))), (D.i ((-1 : Int)))])])])]) 36 (false)))]) := by kernel_rfl
def rules_d17_0 : D := .l false [.a [.i 6, .i 0, .i 0, .i 0, .i 0, .i 4], .a [.i 3, .i 0, .i 0, .i 0, .i 255, .i 5], .a [.i 9, .i 0, .i 1, .i 0, .i 0, .i 0], .a [.i 7, .i 0, .i 0, .i 1, .i 0, .i 0], .a [.i 9, .i 2, .i 3, .i 0, .i 0, .i 0]]
def rules_d17_1 : D := .i 1
def rules_d17_2 : D := .i 1
theorem rules_run17 : (callG tab (envOf (P := Try.prog) [within_pc, kids_pc, placed_pc, may_pc, it_pc, behind_pc, any_pc, either_pc, meet_pc, covers_pc, check_pc] [] []) 300 20 6 [enc (.list (.agg [.int .i64, .int .i64, .int .i64, .int .i64, .int .i64, .int .i64])) rules_d17_0, enc (.int .i64) rules_d17_1, enc (.int .i64) rules_d17_2] []).run = some (((SV.tup [(SV.own 0), (SV.si IntKind.i64 ((0 : Int)))]) : SV), [(Option.some (Blk.mk (Con.rows (Sh.agg [(Sh.int IntKind.i64), (Sh.int IntKind.i64), (Sh.int IntKind.i64), (Sh.int IntKind.i64), (Sh.int IntKind.i64), (Sh.int IntKind.i64), (Sh.int IntKind.u8), (Sh.int IntKind.u8), (Sh.int IntKind.u8), (Sh.int IntKind.u8), (Sh.int IntKind.u8), (Sh.int IntKind.u8), (Sh.list (Sh.agg [(Sh.int IntKind.i64), (Sh.int IntKind.i64), (Sh.int IntKind.i64), (Sh.int IntKind.i64)]))]) (false) []) 36 (false)))]) := by kernel_rfl
def rules_d18_0 : D := .l false [.a [.i 4, .i 0, .i 0, .i 5, .i 0, .i 0], .a [.i 7, .i 0, .i 0, .i 1, .i 0, .i 0], .a [.i 9, .i 0, .i 1, .i 0, .i 0, .i 0]]
def rules_d18_1 : D := .i 5
def rules_d18_2 : D := .i 1
theorem rules_run18 : (callG tab (envOf (P := Try.prog) [within_pc, kids_pc, placed_pc, may_pc, it_pc, behind_pc, any_pc, either_pc, meet_pc, covers_pc, check_pc] [] []) 300 20 6 [enc (.list (.agg [.int .i64, .int .i64, .int .i64, .int .i64, .int .i64, .int .i64])) rules_d18_0, enc (.int .i64) rules_d18_1, enc (.int .i64) rules_d18_2] []).run = some (((SV.tup [(SV.own 0), (SV.si IntKind.i64 ((0 : Int)))]) : SV), [(Option.some (Blk.mk (Con.rows (Sh.agg [(Sh.int IntKind.i64), (Sh.int IntKind.i64), (Sh.int IntKind.i64), (Sh.int IntKind.i64), (Sh.int IntKind.i64), (Sh.int IntKind.i64), (Sh.int IntKind.u8), (Sh.int IntKind.u8), (Sh.int IntKind.u8), (Sh.int IntKind.u8), (Sh.int IntKind.u8), (Sh.int IntKind.u8), (Sh.list (Sh.agg [(Sh.int IntKind.i64), (Sh.int IntKind.i64), (Sh.int IntKind.i64), (Sh.int IntKind.i64)]))]) (false) [(D.a [(D.i ((1 : Int))), (D.i ((1 : Int))), (D.i ((0 : Int))), (D.i ((0 : Int))), (D.i ((1 : Int))), (D.i ((-1 : Int))), (D.i ((0 : Int))), (D.i ((0 : Int))), (D.i ((0 : Int))), (D.i ((0 : Int))), (D.i ((0 : Int))), (D.i ((0 : Int))), (D.l (false && false) [(D.a [(D.i ((1 : Int))), (D.i ((-1 : Int))), (D.i ((-1 : Int))), (D.i ((-1 : Int)))])])])]) 36 (false)))]) := by kernel_rfl
def rules_d19_0 : D := .l false [.a [.i 4, .i 0, .i 0, .i 5, .i 0, .i 0], .a [.i 7, .i 0, .i 0, .i 1, .i 0, .i 0], .a [.i 9, .i 0, .i 1, .i 0, .i 0, .i 0]]
def rules_d19_1 : D := .i 4
def rules_d19_2 : D := .i 1
theorem rules_run19 : (callG tab (envOf (P := Try.prog) [within_pc, kids_pc, placed_pc, may_pc, it_pc, behind_pc, any_pc, either_pc, meet_pc, covers_pc, check_pc] [] []) 300 20 6 [enc (.list (.agg [.int .i64, .int .i64, .int .i64, .int .i64, .int .i64, .int .i64])) rules_d19_0, enc (.int .i64) rules_d19_1, enc (.int .i64) rules_d19_2] []).run = some (((SV.tup [(SV.own 0), (SV.si IntKind.i64 ((0 : Int)))]) : SV), [(Option.some (Blk.mk (Con.rows (Sh.agg [(Sh.int IntKind.i64), (Sh.int IntKind.i64), (Sh.int IntKind.i64), (Sh.int IntKind.i64), (Sh.int IntKind.i64), (Sh.int IntKind.i64), (Sh.int IntKind.u8), (Sh.int IntKind.u8), (Sh.int IntKind.u8), (Sh.int IntKind.u8), (Sh.int IntKind.u8), (Sh.int IntKind.u8), (Sh.list (Sh.agg [(Sh.int IntKind.i64), (Sh.int IntKind.i64), (Sh.int IntKind.i64), (Sh.int IntKind.i64)]))]) (false) []) 36 (false)))]) := by kernel_rfl
def rules_tr : List D → Option (Tree (SV × Hp)) := fun ds =>
  match D.beqL ds [rules_d0_0, rules_d0_1, rules_d0_2] with
  | true => some (.ret ((SV.tup [(SV.own 0), (SV.si IntKind.i64 ((0 : Int)))]), [(Option.some (Blk.mk (Con.rows (Sh.agg [(Sh.int IntKind.i64), (Sh.int IntKind.i64), (Sh.int IntKind.i64), (Sh.int IntKind.i64), (Sh.int IntKind.i64), (Sh.int IntKind.i64), (Sh.int IntKind.u8), (Sh.int IntKind.u8), (Sh.int IntKind.u8), (Sh.int IntKind.u8), (Sh.int IntKind.u8), (Sh.int IntKind.u8), (Sh.list (Sh.agg [(Sh.int IntKind.i64), (Sh.int IntKind.i64), (Sh.int IntKind.i64), (Sh.int IntKind.i64)]))]) (false) [(D.a [(D.i ((1 : Int))), (D.i ((2 : Int))), (D.i ((0 : Int))), (D.i ((0 : Int))), (D.i ((3 : Int))), (D.i ((-1 : Int))), (D.i ((0 : Int))), (D.i ((255 : Int))), (D.i ((0 : Int))), (D.i ((0 : Int))), (D.i ((5 : Int))), (D.i ((0 : Int))), (D.l (false && false) [(D.a [(D.i ((2 : Int))), (D.i ((-1 : Int))), (D.i ((-1 : Int))), (D.i ((-1 : Int)))]), (D.a [(D.i ((1 : Int))), (D.i ((-1 : Int))), (D.i ((-1 : Int))), (D.i ((7 : Int)))])])]), (D.a [(D.i ((1 : Int))), (D.i ((1 : Int))), (D.i ((0 : Int))), (D.i ((0 : Int))), (D.i ((3 : Int))), (D.i ((-1 : Int))), (D.i ((0 : Int))), (D.i ((0 : Int))), (D.i ((0 : Int))), (D.i ((0 : Int))), (D.i ((0 : Int))), (D.i ((0 : Int))), (D.l (false && false) [(D.a [(D.i ((1 : Int))), (D.i ((-1 : Int))), (D.i ((-1 : Int))), (D.i ((7 : Int)))])])])]) 36 (false)))]))
  | false =>
  match D.beqL ds [rules_d1_0, rules_d1_1, rules_d1_2] with
  | true => some (.ret ((SV.tup [(SV.own 0), (SV.si IntKind.i64 ((0 : Int)))]), [(Option.some (Blk.mk (Con.rows (Sh.agg [(Sh.int IntKind.i64), (Sh.int IntKind.i64), (Sh.int IntKind.i64), (Sh.int IntKind.i64), (Sh.int IntKind.i64), (Sh.int IntKind.i64), (Sh.int IntKind.u8), (Sh.int IntKind.u8), (Sh.int IntKind.u8), (Sh.int IntKind.u8), (Sh.int IntKind.u8), (Sh.int IntKind.u8), (Sh.list (Sh.agg [(Sh.int IntKind.i64), (Sh.int IntKind.i64), (Sh.int IntKind.i64), (Sh.int IntKind.i64)]))]) (false) []) 36 (false)))]))
  | false =>
  match D.beqL ds [rules_d2_0, rules_d2_1, rules_d2_2] with
  | true => some (.ret ((SV.tup [(SV.val (Value.slice none (nat_lit 0) (nat_lit 0))), (SV.si IntKind.i64 ((9 : Int)))]), []))
  | false =>
  match D.beqL ds [rules_d3_0, rules_d3_1, rules_d3_2] with
  | true => some (.ret ((SV.tup [(SV.val (Value.slice none (nat_lit 0) (nat_lit 0))), (SV.si IntKind.i64 ((9 : Int)))]), []))
  | false =>
  match D.beqL ds [rules_d4_0, rules_d4_1, rules_d4_2] with
  | true => some (.ret ((SV.tup [(SV.own 0), (SV.si IntKind.i64 ((0 : Int)))]), [(Option.some (Blk.mk (Con.rows (Sh.agg [(Sh.int IntKind.i64), (Sh.int IntKind.i64), (Sh.int IntKind.i64), (Sh.int IntKind.i64), (Sh.int IntKind.i64), (Sh.int IntKind.i64), (Sh.int IntKind.u8), (Sh.int IntKind.u8), (Sh.int IntKind.u8), (Sh.int IntKind.u8), (Sh.int IntKind.u8), (Sh.int IntKind.u8), (Sh.list (Sh.agg [(Sh.int IntKind.i64), (Sh.int IntKind.i64), (Sh.int IntKind.i64), (Sh.int IntKind.i64)]))]) (false) [(D.a [(D.i ((1 : Int))), (D.i ((2 : Int))), (D.i ((0 : Int))), (D.i ((0 : Int))), (D.i ((1 : Int))), (D.i ((-1 : Int))), (D.i ((0 : Int))), (D.i ((255 : Int))), (D.i ((0 : Int))), (D.i ((0 : Int))), (D.i ((5 : Int))), (D.i ((0 : Int))), (D.l (false && false) [(D.a [(D.i ((2 : Int))), (D.i ((-1 : Int))), (D.i ((-1 : Int))), (D.i ((-1 : Int)))]), (D.a [(D.i ((1 : Int))), (D.i ((-1 : Int))), (D.i ((-1 : Int))), (D.i ((7 : Int)))])])]), (D.a [(D.i ((1 : Int))), (D.i ((1 : Int))), (D.i ((0 : Int))), (D.i ((0 : Int))), (D.i ((1 : Int))), (D.i ((-1 : Int))), (D.i ((0 : Int))), (D.i ((0 : Int))), (D.i ((0 : Int))), (D.i ((0 : Int))), (D.i ((0 : Int))), (D.i ((0 : Int))), (D.l (false && false) [(D.a [(D.i ((1 : Int))), (D.i ((-1 : Int))), (D.i ((-1 : Int))), (D.i ((7 : Int)))])])])]) 36 (false)))]))
  | false =>
  match D.beqL ds [rules_d5_0, rules_d5_1, rules_d5_2] with
  | true => some (.ret ((SV.tup [(SV.own 0), (SV.si IntKind.i64 ((0 : Int)))]), [(Option.some (Blk.mk (Con.rows (Sh.agg [(Sh.int IntKind.i64), (Sh.int IntKind.i64), (Sh.int IntKind.i64), (Sh.int IntKind.i64), (Sh.int IntKind.i64), (Sh.int IntKind.i64), (Sh.int IntKind.u8), (Sh.int IntKind.u8), (Sh.int IntKind.u8), (Sh.int IntKind.u8), (Sh.int IntKind.u8), (Sh.int IntKind.u8), (Sh.list (Sh.agg [(Sh.int IntKind.i64), (Sh.int IntKind.i64), (Sh.int IntKind.i64), (Sh.int IntKind.i64)]))]) (false) [(D.a [(D.i ((1 : Int))), (D.i ((2 : Int))), (D.i ((0 : Int))), (D.i ((0 : Int))), (D.i ((1 : Int))), (D.i ((-1 : Int))), (D.i ((0 : Int))), (D.i ((255 : Int))), (D.i ((0 : Int))), (D.i ((0 : Int))), (D.i ((5 : Int))), (D.i ((0 : Int))), (D.l (false && false) [(D.a [(D.i ((2 : Int))), (D.i ((-1 : Int))), (D.i ((-1 : Int))), (D.i ((-1 : Int)))]), (D.a [(D.i ((1 : Int))), (D.i ((-1 : Int))), (D.i ((-1 : Int))), (D.i ((7 : Int)))])])]), (D.a [(D.i ((1 : Int))), (D.i ((1 : Int))), (D.i ((0 : Int))), (D.i ((0 : Int))), (D.i ((1 : Int))), (D.i ((-1 : Int))), (D.i ((0 : Int))), (D.i ((0 : Int))), (D.i ((0 : Int))), (D.i ((0 : Int))), (D.i ((0 : Int))), (D.i ((0 : Int))), (D.l (false && false) [(D.a [(D.i ((1 : Int))), (D.i ((-1 : Int))), (D.i ((-1 : Int))), (D.i ((7 : Int)))])])])]) 36 (false)))]))
  | false =>
  match D.beqL ds [rules_d6_0, rules_d6_1, rules_d6_2] with
  | true => some (.ret ((SV.tup [(SV.own 0), (SV.si IntKind.i64 ((0 : Int)))]), [(Option.some (Blk.mk (Con.rows (Sh.agg [(Sh.int IntKind.i64), (Sh.int IntKind.i64), (Sh.int IntKind.i64), (Sh.int IntKind.i64), (Sh.int IntKind.i64), (Sh.int IntKind.i64), (Sh.int IntKind.u8), (Sh.int IntKind.u8), (Sh.int IntKind.u8), (Sh.int IntKind.u8), (Sh.int IntKind.u8), (Sh.int IntKind.u8), (Sh.list (Sh.agg [(Sh.int IntKind.i64), (Sh.int IntKind.i64), (Sh.int IntKind.i64), (Sh.int IntKind.i64)]))]) (false) [(D.a [(D.i ((1 : Int))), (D.i ((2 : Int))), (D.i ((0 : Int))), (D.i ((0 : Int))), (D.i ((1 : Int))), (D.i ((-1 : Int))), (D.i ((0 : Int))), (D.i ((255 : Int))), (D.i ((0 : Int))), (D.i ((0 : Int))), (D.i ((5 : Int))), (D.i ((0 : Int))), (D.l (false && false) [(D.a [(D.i ((2 : Int))), (D.i ((-1 : Int))), (D.i ((-1 : Int))), (D.i ((-1 : Int)))]), (D.a [(D.i ((1 : Int))), (D.i ((-1 : Int))), (D.i ((-1 : Int))), (D.i ((7 : Int)))])])]), (D.a [(D.i ((1 : Int))), (D.i ((1 : Int))), (D.i ((0 : Int))), (D.i ((0 : Int))), (D.i ((1 : Int))), (D.i ((-1 : Int))), (D.i ((0 : Int))), (D.i ((0 : Int))), (D.i ((0 : Int))), (D.i ((0 : Int))), (D.i ((0 : Int))), (D.i ((0 : Int))), (D.l (false && false) [(D.a [(D.i ((1 : Int))), (D.i ((-1 : Int))), (D.i ((-1 : Int))), (D.i ((7 : Int)))])])])]) 36 (false)))]))
  | false =>
  match D.beqL ds [rules_d7_0, rules_d7_1, rules_d7_2] with
  | true => some (.ret ((SV.tup [(SV.own 0), (SV.si IntKind.i64 ((0 : Int)))]), [(Option.some (Blk.mk (Con.rows (Sh.agg [(Sh.int IntKind.i64), (Sh.int IntKind.i64), (Sh.int IntKind.i64), (Sh.int IntKind.i64), (Sh.int IntKind.i64), (Sh.int IntKind.i64), (Sh.int IntKind.u8), (Sh.int IntKind.u8), (Sh.int IntKind.u8), (Sh.int IntKind.u8), (Sh.int IntKind.u8), (Sh.int IntKind.u8), (Sh.list (Sh.agg [(Sh.int IntKind.i64), (Sh.int IntKind.i64), (Sh.int IntKind.i64), (Sh.int IntKind.i64)]))]) (false) [(D.a [(D.i ((1 : Int))), (D.i ((2 : Int))), (D.i ((0 : Int))), (D.i ((0 : Int))), (D.i ((1 : Int))), (D.i ((-1 : Int))), (D.i ((0 : Int))), (D.i ((255 : Int))), (D.i ((0 : Int))), (D.i ((0 : Int))), (D.i ((5 : Int))), (D.i ((0 : Int))), (D.l (false && false) [(D.a [(D.i ((2 : Int))), (D.i ((-1 : Int))), (D.i ((-1 : Int))), (D.i ((-1 : Int)))]), (D.a [(D.i ((1 : Int))), (D.i ((-1 : Int))), (D.i ((-1 : Int))), (D.i ((7 : Int)))])])]), (D.a [(D.i ((1 : Int))), (D.i ((1 : Int))), (D.i ((0 : Int))), (D.i ((0 : Int))), (D.i ((1 : Int))), (D.i ((-1 : Int))), (D.i ((0 : Int))), (D.i ((0 : Int))), (D.i ((0 : Int))), (D.i ((0 : Int))), (D.i ((0 : Int))), (D.i ((0 : Int))), (D.l (false && false) [(D.a [(D.i ((1 : Int))), (D.i ((-1 : Int))), (D.i ((-1 : Int))), (D.i ((7 : Int)))])])])]) 36 (false)))]))
  | false =>
  match D.beqL ds [rules_d8_0, rules_d8_1, rules_d8_2] with
  | true => some (.ret ((SV.tup [(SV.own 0), (SV.si IntKind.i64 ((0 : Int)))]), [(Option.some (Blk.mk (Con.rows (Sh.agg [(Sh.int IntKind.i64), (Sh.int IntKind.i64), (Sh.int IntKind.i64), (Sh.int IntKind.i64), (Sh.int IntKind.i64), (Sh.int IntKind.i64), (Sh.int IntKind.u8), (Sh.int IntKind.u8), (Sh.int IntKind.u8), (Sh.int IntKind.u8), (Sh.int IntKind.u8), (Sh.int IntKind.u8), (Sh.list (Sh.agg [(Sh.int IntKind.i64), (Sh.int IntKind.i64), (Sh.int IntKind.i64), (Sh.int IntKind.i64)]))]) (false) [(D.a [(D.i ((1 : Int))), (D.i ((2 : Int))), (D.i ((0 : Int))), (D.i ((0 : Int))), (D.i ((1 : Int))), (D.i ((-1 : Int))), (D.i ((0 : Int))), (D.i ((255 : Int))), (D.i ((0 : Int))), (D.i ((0 : Int))), (D.i ((5 : Int))), (D.i ((0 : Int))), (D.l (false && false) [(D.a [(D.i ((2 : Int))), (D.i ((-1 : Int))), (D.i ((-1 : Int))), (D.i ((-1 : Int)))]), (D.a [(D.i ((1 : Int))), (D.i ((-1 : Int))), (D.i ((-1 : Int))), (D.i ((7 : Int)))])])]), (D.a [(D.i ((1 : Int))), (D.i ((1 : Int))), (D.i ((0 : Int))), (D.i ((0 : Int))), (D.i ((1 : Int))), (D.i ((-1 : Int))), (D.i ((0 : Int))), (D.i ((0 : Int))), (D.i ((0 : Int))), (D.i ((0 : Int))), (D.i ((0 : Int))), (D.i ((0 : Int))), (D.l (false && false) [(D.a [(D.i ((1 : Int))), (D.i ((-1 : Int))), (D.i ((-1 : Int))), (D.i ((7 : Int)))])])])]) 36 (false)))]))
  | false =>
  match D.beqL ds [rules_d9_0, rules_d9_1, rules_d9_2] with
  | true => some (.ret ((SV.tup [(SV.own 0), (SV.si IntKind.i64 ((0 : Int)))]), [(Option.some (Blk.mk (Con.rows (Sh.agg [(Sh.int IntKind.i64), (Sh.int IntKind.i64), (Sh.int IntKind.i64), (Sh.int IntKind.i64), (Sh.int IntKind.i64), (Sh.int IntKind.i64), (Sh.int IntKind.u8), (Sh.int IntKind.u8), (Sh.int IntKind.u8), (Sh.int IntKind.u8), (Sh.int IntKind.u8), (Sh.int IntKind.u8), (Sh.list (Sh.agg [(Sh.int IntKind.i64), (Sh.int IntKind.i64), (Sh.int IntKind.i64), (Sh.int IntKind.i64)]))]) (false) [(D.a [(D.i ((1 : Int))), (D.i ((2 : Int))), (D.i ((0 : Int))), (D.i ((0 : Int))), (D.i ((1 : Int))), (D.i ((-1 : Int))), (D.i ((0 : Int))), (D.i ((255 : Int))), (D.i ((0 : Int))), (D.i ((0 : Int))), (D.i ((5 : Int))), (D.i ((0 : Int))), (D.l (false && false) [(D.a [(D.i ((2 : Int))), (D.i ((-1 : Int))), (D.i ((-1 : Int))), (D.i ((-1 : Int)))]), (D.a [(D.i ((1 : Int))), (D.i ((-1 : Int))), (D.i ((-1 : Int))), (D.i ((7 : Int)))])])]), (D.a [(D.i ((1 : Int))), (D.i ((1 : Int))), (D.i ((0 : Int))), (D.i ((0 : Int))), (D.i ((1 : Int))), (D.i ((-1 : Int))), (D.i ((0 : Int))), (D.i ((0 : Int))), (D.i ((0 : Int))), (D.i ((0 : Int))), (D.i ((0 : Int))), (D.i ((0 : Int))), (D.l (false && false) [(D.a [(D.i ((1 : Int))), (D.i ((-1 : Int))), (D.i ((-1 : Int))), (D.i ((7 : Int)))])])])]) 36 (false)))]))
  | false =>
  match D.beqL ds [rules_d10_0, rules_d10_1, rules_d10_2] with
  | true => some (.ret ((SV.tup [(SV.val (Value.slice none (nat_lit 0) (nat_lit 0))), (SV.si IntKind.i64 ((220 : Int)))]), []))
  | false =>
  match D.beqL ds [rules_d11_0, rules_d11_1, rules_d11_2] with
  | true => some (.ret ((SV.tup [(SV.own 0), (SV.si IntKind.i64 ((0 : Int)))]), [(Option.some (Blk.mk (Con.rows (Sh.agg [(Sh.int IntKind.i64), (Sh.int IntKind.i64), (Sh.int IntKind.i64), (Sh.int IntKind.i64), (Sh.int IntKind.i64), (Sh.int IntKind.i64), (Sh.int IntKind.u8), (Sh.int IntKind.u8), (Sh.int IntKind.u8), (Sh.int IntKind.u8), (Sh.int IntKind.u8), (Sh.int IntKind.u8), (Sh.list (Sh.agg [(Sh.int IntKind.i64), (Sh.int IntKind.i64), (Sh.int IntKind.i64), (Sh.int IntKind.i64)]))]) (false) [(D.a [(D.i ((1 : Int))), (D.i ((1 : Int))), (D.i ((0 : Int))), (D.i ((0 : Int))), (D.i ((200 : Int))), (D.i ((-1 : Int))), (D.i ((0 : Int))), (D.i ((0 : Int))), (D.i ((0 : Int))), (D.i ((0 : Int))), (D.i ((0 : Int))), (D.i ((0 : Int))), (D.l (false && false) [(D.a [(D.i ((0 : Int))), (D.i ((-1 : Int))), (D.i ((-1 : Int))), (D.i ((-1 : Int)))]), (D.a [(D.i ((1 : Int))), (D.i ((-1 : Int))), (D.i ((-1 : Int))), (D.i ((-1 : Int)))]), (D.a [(D.i ((2 : Int))), (D.i ((-1 : Int))), (D.i ((-1 : Int))), (D.i ((-1 : Int)))]), (D.a [(D.i ((3 : Int))), (D.i ((-1 : Int))), (D.i ((-1 : Int))), (D.i ((-1 : Int)))]), (D.a [(D.i ((4 : Int))), (D.i ((-1 : Int))), (D.i ((-1 : Int))), (D.i ((-1 : Int)))])])])]) 36 (false)))]))
  | false =>
  match D.beqL ds [rules_d12_0, rules_d12_1, rules_d12_2] with
  | true => some (.ret ((SV.tup [(SV.val (Value.slice none (nat_lit 0) (nat_lit 0))), (SV.si IntKind.i64 ((9 : Int)))]), []))
  | false =>
  match D.beqL ds [rules_d13_0, rules_d13_1, rules_d13_2] with
  | true => some (.ret ((SV.tup [(SV.val (Value.slice none (nat_lit 0) (nat_lit 0))), (SV.si IntKind.i64 ((9 : Int)))]), []))
  | false =>
  match D.beqL ds [rules_d14_0, rules_d14_1, rules_d14_2] with
  | true => some (.ret ((SV.tup [(SV.val (Value.slice none (nat_lit 0) (nat_lit 0))), (SV.si IntKind.i64 ((2 : Int)))]), []))
  | false =>
  match D.beqL ds [rules_d15_0, rules_d15_1, rules_d15_2] with
  | true => some (.ret ((SV.tup [(SV.own 0), (SV.si IntKind.i64 ((0 : Int)))]), [(Option.some (Blk.mk (Con.rows (Sh.agg [(Sh.int IntKind.i64), (Sh.int IntKind.i64), (Sh.int IntKind.i64), (Sh.int IntKind.i64), (Sh.int IntKind.i64), (Sh.int IntKind.i64), (Sh.int IntKind.u8), (Sh.int IntKind.u8), (Sh.int IntKind.u8), (Sh.int IntKind.u8), (Sh.int IntKind.u8), (Sh.int IntKind.u8), (Sh.list (Sh.agg [(Sh.int IntKind.i64), (Sh.int IntKind.i64), (Sh.int IntKind.i64), (Sh.int IntKind.i64)]))]) (false) [(D.a [(D.i ((1 : Int))), (D.i ((2 : Int))), (D.i ((0 : Int))), (D.i ((0 : Int))), (D.i ((9 : Int))), (D.i ((2 : Int))), (D.i ((0 : Int))), (D.i ((0 : Int))), (D.i ((0 : Int))), (D.i ((0 : Int))), (D.i ((0 : Int))), (D.i ((0 : Int))), (D.l (true) [])]), (D.a [(D.i ((1 : Int))), (D.i ((1 : Int))), (D.i ((0 : Int))), (D.i ((0 : Int))), (D.i ((9 : Int))), (D.i ((-1 : Int))), (D.i ((0 : Int))), (D.i ((0 : Int))), (D.i ((0 : Int))), (D.i ((0 : Int))), (D.i ((0 : Int))), (D.i ((0 : Int))), (D.l (false && false) [(D.a [(D.i ((3 : Int))), (D.i ((-1 : Int))), (D.i ((-1 : Int))), (D.i ((-1 : Int)))])])])]) 36 (false)))]))
  | false =>
  match D.beqL ds [rules_d16_0, rules_d16_1, rules_d16_2] with
  | true => some (.ret ((SV.tup [(SV.own 0), (SV.si IntKind.i64 ((0 : Int)))]), [(Option.some (Blk.mk (Con.rows (Sh.agg [(Sh.int IntKind.i64), (Sh.int IntKind.i64), (Sh.int IntKind.i64), (Sh.int IntKind.i64), (Sh.int IntKind.i64), (Sh.int IntKind.i64), (Sh.int IntKind.u8), (Sh.int IntKind.u8), (Sh.int IntKind.u8), (Sh.int IntKind.u8), (Sh.int IntKind.u8), (Sh.int IntKind.u8), (Sh.list (Sh.agg [(Sh.int IntKind.i64), (Sh.int IntKind.i64), (Sh.int IntKind.i64), (Sh.int IntKind.i64)]))]) (false) [(D.a [(D.i ((1 : Int))), (D.i ((1 : Int))), (D.i ((0 : Int))), (D.i ((0 : Int))), (D.i ((1 : Int))), (D.i ((-1 : Int))), (D.i ((0 : Int))), (D.i ((0 : Int))), (D.i ((0 : Int))), (D.i ((0 : Int))), (D.i ((0 : Int))), (D.i ((0 : Int))), (D.l (false && false) [(D.a [(D.i ((1 : Int))), (D.i ((4 : Int))), (D.i ((-1 : Int))), (D.i ((-1 : Int)))])])])]) 36 (false)))]))
  | false =>
  match D.beqL ds [rules_d17_0, rules_d17_1, rules_d17_2] with
  | true => some (.ret ((SV.tup [(SV.own 0), (SV.si IntKind.i64 ((0 : Int)))]), [(Option.some (Blk.mk (Con.rows (Sh.agg [(Sh.int IntKind.i64), (Sh.int IntKind.i64), (Sh.int IntKind.i64), (Sh.int IntKind.i64), (Sh.int IntKind.i64), (Sh.int IntKind.i64), (Sh.int IntKind.u8), (Sh.int IntKind.u8), (Sh.int IntKind.u8), (Sh.int IntKind.u8), (Sh.int IntKind.u8), (Sh.int IntKind.u8), (Sh.list (Sh.agg [(Sh.int IntKind.i64), (Sh.int IntKind.i64), (Sh.int IntKind.i64), (Sh.int IntKind.i64)]))]) (false) []) 36 (false)))]))
  | false =>
  match D.beqL ds [rules_d18_0, rules_d18_1, rules_d18_2] with
  | true => some (.ret ((SV.tup [(SV.own 0), (SV.si IntKind.i64 ((0 : Int)))]), [(Option.some (Blk.mk (Con.rows (Sh.agg [(Sh.int IntKind.i64), (Sh.int IntKind.i64), (Sh.int IntKind.i64), (Sh.int IntKind.i64), (Sh.int IntKind.i64), (Sh.int IntKind.i64), (Sh.int IntKind.u8), (Sh.int IntKind.u8), (Sh.int IntKind.u8), (Sh.int IntKind.u8), (Sh.int IntKind.u8), (Sh.int IntKind.u8), (Sh.list (Sh.agg [(Sh.int IntKind.i64), (Sh.int IntKind.i64), (Sh.int IntKind.i64), (Sh.int IntKind.i64)]))]) (false) [(D.a [(D.i ((1 : Int))), (D.i ((1 : Int))), (D.i ((0 : Int))), (D.i ((0 : Int))), (D.i ((1 : Int))), (D.i ((-1 : Int))), (D.i ((0 : Int))), (D.i ((0 : Int))), (D.i ((0 : Int))), (D.i ((0 : Int))), (D.i ((0 : Int))), (D.i ((0 : Int))), (D.l (false && false) [(D.a [(D.i ((1 : Int))), (D.i ((-1 : Int))), (D.i ((-1 : Int))), (D.i ((-1 : Int)))])])])]) 36 (false)))]))
  | false =>
  match D.beqL ds [rules_d19_0, rules_d19_1, rules_d19_2] with
  | true => some (.ret ((SV.tup [(SV.own 0), (SV.si IntKind.i64 ((0 : Int)))]), [(Option.some (Blk.mk (Con.rows (Sh.agg [(Sh.int IntKind.i64), (Sh.int IntKind.i64), (Sh.int IntKind.i64), (Sh.int IntKind.i64), (Sh.int IntKind.i64), (Sh.int IntKind.i64), (Sh.int IntKind.u8), (Sh.int IntKind.u8), (Sh.int IntKind.u8), (Sh.int IntKind.u8), (Sh.int IntKind.u8), (Sh.int IntKind.u8), (Sh.list (Sh.agg [(Sh.int IntKind.i64), (Sh.int IntKind.i64), (Sh.int IntKind.i64), (Sh.int IntKind.i64)]))]) (false) []) 36 (false)))]))
  | false => none
noncomputable def rules_ct : Ct Try.prog := Ct.runF (T := tab) follows 300 20 6 [.d (.list (.agg [.int .i64, .int .i64, .int .i64, .int .i64, .int .i64, .int .i64])), .d (.int .i64), .d (.int .i64)] rules_tr (by
  intro ds t r H' h hr
  unfold rules_tr at h
  split at h
  · rename_i hb
    have hds := D.beqL_eq hb
    subst hds
    simp only [Option.some.injEq] at h
    subst h
    simp only [Tree.run, Option.some.injEq, Prod.mk.injEq] at hr
    obtain ⟨rfl, rfl⟩ := hr
    exact ⟨_, _, _, envOf_good _ _ _, rules_run0, rfl, rfl⟩
  split at h
  · rename_i hb
    have hds := D.beqL_eq hb
    subst hds
    simp only [Option.some.injEq] at h
    subst h
    simp only [Tree.run, Option.some.injEq, Prod.mk.injEq] at hr
    obtain ⟨rfl, rfl⟩ := hr
    exact ⟨_, _, _, envOf_good _ _ _, rules_run1, rfl, rfl⟩
  split at h
  · rename_i hb
    have hds := D.beqL_eq hb
    subst hds
    simp only [Option.some.injEq] at h
    subst h
    simp only [Tree.run, Option.some.injEq, Prod.mk.injEq] at hr
    obtain ⟨rfl, rfl⟩ := hr
    exact ⟨_, _, _, envOf_good _ _ _, rules_run2, rfl, rfl⟩
  split at h
  · rename_i hb
    have hds := D.beqL_eq hb
    subst hds
    simp only [Option.some.injEq] at h
    subst h
    simp only [Tree.run, Option.some.injEq, Prod.mk.injEq] at hr
    obtain ⟨rfl, rfl⟩ := hr
    exact ⟨_, _, _, envOf_good _ _ _, rules_run3, rfl, rfl⟩
  split at h
  · rename_i hb
    have hds := D.beqL_eq hb
    subst hds
    simp only [Option.some.injEq] at h
    subst h
    simp only [Tree.run, Option.some.injEq, Prod.mk.injEq] at hr
    obtain ⟨rfl, rfl⟩ := hr
    exact ⟨_, _, _, envOf_good _ _ _, rules_run4, rfl, rfl⟩
  split at h
  · rename_i hb
    have hds := D.beqL_eq hb
    subst hds
    simp only [Option.some.injEq] at h
    subst h
    simp only [Tree.run, Option.some.injEq, Prod.mk.injEq] at hr
    obtain ⟨rfl, rfl⟩ := hr
    exact ⟨_, _, _, envOf_good _ _ _, rules_run5, rfl, rfl⟩
  split at h
  · rename_i hb
    have hds := D.beqL_eq hb
    subst hds
    simp only [Option.some.injEq] at h
    subst h
    simp only [Tree.run, Option.some.injEq, Prod.mk.injEq] at hr
    obtain ⟨rfl, rfl⟩ := hr
    exact ⟨_, _, _, envOf_good _ _ _, rules_run6, rfl, rfl⟩
  split at h
  · rename_i hb
    have hds := D.beqL_eq hb
    subst hds
    simp only [Option.some.injEq] at h
    subst h
    simp only [Tree.run, Option.some.injEq, Prod.mk.injEq] at hr
    obtain ⟨rfl, rfl⟩ := hr
    exact ⟨_, _, _, envOf_good _ _ _, rules_run7, rfl, rfl⟩
  split at h
  · rename_i hb
    have hds := D.beqL_eq hb
    subst hds
    simp only [Option.some.injEq] at h
    subst h
    simp only [Tree.run, Option.some.injEq, Prod.mk.injEq] at hr
    obtain ⟨rfl, rfl⟩ := hr
    exact ⟨_, _, _, envOf_good _ _ _, rules_run8, rfl, rfl⟩
  split at h
  · rename_i hb
    have hds := D.beqL_eq hb
    subst hds
    simp only [Option.some.injEq] at h
    subst h
    simp only [Tree.run, Option.some.injEq, Prod.mk.injEq] at hr
    obtain ⟨rfl, rfl⟩ := hr
    exact ⟨_, _, _, envOf_good _ _ _, rules_run9, rfl, rfl⟩
  split at h
  · rename_i hb
    have hds := D.beqL_eq hb
    subst hds
    simp only [Option.some.injEq] at h
    subst h
    simp only [Tree.run, Option.some.injEq, Prod.mk.injEq] at hr
    obtain ⟨rfl, rfl⟩ := hr
    exact ⟨_, _, _, envOf_good _ _ _, rules_run10, rfl, rfl⟩
  split at h
  · rename_i hb
    have hds := D.beqL_eq hb
    subst hds
    simp only [Option.some.injEq] at h
    subst h
    simp only [Tree.run, Option.some.injEq, Prod.mk.injEq] at hr
    obtain ⟨rfl, rfl⟩ := hr
    exact ⟨_, _, _, envOf_good _ _ _, rules_run11, rfl, rfl⟩
  split at h
  · rename_i hb
    have hds := D.beqL_eq hb
    subst hds
    simp only [Option.some.injEq] at h
    subst h
    simp only [Tree.run, Option.some.injEq, Prod.mk.injEq] at hr
    obtain ⟨rfl, rfl⟩ := hr
    exact ⟨_, _, _, envOf_good _ _ _, rules_run12, rfl, rfl⟩
  split at h
  · rename_i hb
    have hds := D.beqL_eq hb
    subst hds
    simp only [Option.some.injEq] at h
    subst h
    simp only [Tree.run, Option.some.injEq, Prod.mk.injEq] at hr
    obtain ⟨rfl, rfl⟩ := hr
    exact ⟨_, _, _, envOf_good _ _ _, rules_run13, rfl, rfl⟩
  split at h
  · rename_i hb
    have hds := D.beqL_eq hb
    subst hds
    simp only [Option.some.injEq] at h
    subst h
    simp only [Tree.run, Option.some.injEq, Prod.mk.injEq] at hr
    obtain ⟨rfl, rfl⟩ := hr
    exact ⟨_, _, _, envOf_good _ _ _, rules_run14, rfl, rfl⟩
  split at h
  · rename_i hb
    have hds := D.beqL_eq hb
    subst hds
    simp only [Option.some.injEq] at h
    subst h
    simp only [Tree.run, Option.some.injEq, Prod.mk.injEq] at hr
    obtain ⟨rfl, rfl⟩ := hr
    exact ⟨_, _, _, envOf_good _ _ _, rules_run15, rfl, rfl⟩
  split at h
  · rename_i hb
    have hds := D.beqL_eq hb
    subst hds
    simp only [Option.some.injEq] at h
    subst h
    simp only [Tree.run, Option.some.injEq, Prod.mk.injEq] at hr
    obtain ⟨rfl, rfl⟩ := hr
    exact ⟨_, _, _, envOf_good _ _ _, rules_run16, rfl, rfl⟩
  split at h
  · rename_i hb
    have hds := D.beqL_eq hb
    subst hds
    simp only [Option.some.injEq] at h
    subst h
    simp only [Tree.run, Option.some.injEq, Prod.mk.injEq] at hr
    obtain ⟨rfl, rfl⟩ := hr
    exact ⟨_, _, _, envOf_good _ _ _, rules_run17, rfl, rfl⟩
  split at h
  · rename_i hb
    have hds := D.beqL_eq hb
    subst hds
    simp only [Option.some.injEq] at h
    subst h
    simp only [Tree.run, Option.some.injEq, Prod.mk.injEq] at hr
    obtain ⟨rfl, rfl⟩ := hr
    exact ⟨_, _, _, envOf_good _ _ _, rules_run18, rfl, rfl⟩
  split at h
  · rename_i hb
    have hds := D.beqL_eq hb
    subst hds
    simp only [Option.some.injEq] at h
    subst h
    simp only [Tree.run, Option.some.injEq, Prod.mk.injEq] at hr
    obtain ⟨rfl, rfl⟩ := hr
    exact ⟨_, _, _, envOf_good _ _ _, rules_run19, rfl, rfl⟩
  cases h) (enters_of Try.func6 rfl (by kernel_rfl))
def most_d0_0 : D := .l false [.a [.i 3, .i 0, .i 0, .i 1, .i 255, .i 5], .a [.i 7, .i 0, .i 0, .i 2, .i 0, .i 0], .a [.i 9, .i 0, .i 1, .i 0, .i 0, .i 0], .a [.i 6, .i 0, .i 0, .i 2, .i 0, .i 7], .a [.i 7, .i 0, .i 0, .i 1, .i 0, .i 0], .a [.i 9, .i 3, .i 4, .i 0, .i 0, .i 0], .a [.i 8, .i 2, .i 5, .i 0, .i 0, .i 0]]
theorem most_run0 : (callG tab (envOf (P := Try.prog) [within_pc, kids_pc, placed_pc, may_pc, it_pc, behind_pc, any_pc, either_pc, meet_pc, covers_pc, check_pc] [rules_ct] []) 300 20 8 [enc (.list (.agg [.int .i64, .int .i64, .int .i64, .int .i64, .int .i64, .int .i64])) most_d0_0] []).run = some (((SV.tup [(SV.si IntKind.i64 ((2 : Int))), (SV.si IntKind.i64 ((0 : Int)))]) : SV), []) := by kernel_rfl
def most_d1_0 : D := .l true []
theorem most_run1 : (callG tab (envOf (P := Try.prog) [within_pc, kids_pc, placed_pc, may_pc, it_pc, behind_pc, any_pc, either_pc, meet_pc, covers_pc, check_pc] [rules_ct] []) 300 20 8 [enc (.list (.agg [.int .i64, .int .i64, .int .i64, .int .i64, .int .i64, .int .i64])) most_d1_0] []).run = some (((SV.tup [(SV.si IntKind.i64 ((0 : Int))), (SV.si IntKind.i64 ((2 : Int)))]) : SV), []) := by kernel_rfl
def most_spec : PSpec := ⟨[(.list (.agg [.int .i64, .int .i64, .int .i64, .int .i64, .int .i64, .int .i64]))], fun ds =>
  match D.beqL ds [most_d0_0] with
  | true => some (true, (SV.tup [(SV.si IntKind.i64 ((2 : Int))), (SV.si IntKind.i64 ((0 : Int)))]))
  | false =>
  match D.beqL ds [most_d1_0] with
  | true => some (true, (SV.tup [(SV.si IntKind.i64 ((0 : Int))), (SV.si IntKind.i64 ((2 : Int)))]))
  | false => none⟩
noncomputable def most_pc : PC Try.prog := PC.run2 (T := tab) follows 300 20 8 most_spec (by
  intro ds pre r h hp
  unfold most_spec at h
  simp only at h
  split at h
  · rename_i hb
    have hds := D.beqL_eq hb
    subst hds
    simp only [Option.some.injEq, Prod.mk.injEq] at h
    obtain ⟨_, rfl⟩ := h
    exact ⟨_, _, envOf_good _ _ _, most_run0, rfl⟩
  split at h
  · rename_i hb
    have hds := D.beqL_eq hb
    subst hds
    simp only [Option.some.injEq, Prod.mk.injEq] at h
    obtain ⟨_, rfl⟩ := h
    exact ⟨_, _, envOf_good _ _ _, most_run1, rfl⟩
  cases h) (enters_of Try.func8 rfl (by kernel_rfl))
end Go.Proofs.Ytepphklolhddhaa
