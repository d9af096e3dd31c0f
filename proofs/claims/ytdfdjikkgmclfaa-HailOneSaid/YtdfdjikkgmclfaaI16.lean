/-
  Functions of the program, by their runs.
  No statement of the seat is proved here. Conditions: none.
-/
import Derived.Test.YtdfdjikkgmclfaaY25
import Derived.Test.YtdfdjikkgmclfaaTab16
import Derived.Test.YtdfdjikkgmclfaaH16
set_option linter.unusedSimpArgs false
set_option linter.unusedVariables false
set_option maxRecDepth 100000
namespace Go.Proofs.Ytdfdjikkgmclfaa
open Go.Sy Go.RowKit
def sameB (kd to fr hp ep bo sq ak kd2 to2 fr2 hp2 ep2 bo2 sq2 ak2 : Int) (b b2 : List D) : Bool := kd == kd2 && (to == to2 && (fr == fr2 && (hp == hp2 && (ep == ep2 && (bo == bo2 && (sq == sq2 && (ak == ak2 && bytesD b == bytesD b2)))))))
def bringI (i n : Int) : Int := bif decide (Int.tmod i n < 0) then IntKind.wrap .i64 (Int.tmod i n + n) else Int.tmod i n
theorem bring_tree (i n : Int) : callG tab (envOf (P := Try.prog) [] [] []) 20 12 9 [SV.si IntKind.i64 i, SV.si IntKind.i64 n] [] =
    (Tree.need (!n == (0 : Int)) (Tree.ite (decide (Int.tmod i n < (0 : Int))) (Tree.ret ((SV.si IntKind.i64 (IntKind.wrap IntKind.i64 (Int.tmod i n + n))), [])) (Tree.ret ((SV.si IntKind.i64 (Int.tmod i n)), [])))) := by kernel_rfl
theorem bring_run (i n : Int) (hpre : (!n == 0) = true) : (callG tab (envOf (P := Try.prog) [] [] []) 20 12 9 [SV.si IntKind.i64 i, SV.si IntKind.i64 n] []).run = some ((.si .i64 (bringI i n) : SV), []) := by
  rw [bring_tree]
  simp only [Tree.run_ret', Tree.run_need', Tree.run_ite']
  rw [hpre]
  simp only [cond_true, bringI]
  cases decide (Int.tmod i n < 0) <;> rfl
def bring_spec : PSpec := ⟨[(.int .i64), (.int .i64)], fun
  | [.i i, .i n] => some (!n == 0, .si .i64 (bringI i n))
  | _ => none⟩
noncomputable def bring_pc : PC Try.prog := PC.run2 (T := tab) follows 20 12 9 bring_spec (by
  intro ds pre r h hp
  unfold bring_spec at h
  simp only at h
  split at h
  · rename_i i n
    simp only [Option.some.injEq, Prod.mk.injEq] at h
    obtain ⟨hq, rfl⟩ := h
    exact ⟨_, _, envOf_good _ _ _, bring_run i n (hq.trans hp), rfl⟩
  · cases h) (enters_of Try.func9 rfl (by kernel_rfl))
theorem same_tree (kd to fr hp ep bo sq ak : Int) (bb_nl : Bool) (bb : List D) (kd2 to2 fr2 hp2 ep2 bo2 sq2 ak2 : Int) (bb2_nl : Bool) (bb2 : List D) : callG tab (envOf (P := Try.prog) [] [] []) 20 12 27 [SV.agg [SV.si IntKind.i64 kd, SV.si IntKind.i64 to, SV.si IntKind.i64 fr, SV.si IntKind.i64 hp, SV.si IntKind.i64 ep, SV.si IntKind.i64 bo, SV.si IntKind.i64 sq, SV.si IntKind.i64 ak, SV.lst (.int .u8) bb_nl bb], SV.agg [SV.si IntKind.i64 kd2, SV.si IntKind.i64 to2, SV.si IntKind.i64 fr2, SV.si IntKind.i64 hp2, SV.si IntKind.i64 ep2, SV.si IntKind.i64 bo2, SV.si IntKind.i64 sq2, SV.si IntKind.i64 ak2, SV.lst (.int .u8) bb2_nl bb2]] [] =
    (Tree.ite (kd == kd2) (Tree.ite (to == to2) (Tree.ite (fr == fr2) (Tree.ite (hp == hp2) (Tree.ite (ep == ep2) (Tree.ite (bo == bo2) (Tree.ite (sq == sq2) (Tree.ite (ak == ak2) (Tree.ret ((SV.sb (List.map (fun d => UInt8.ofNat (Int.toNat (D.int d))) bb == List.map (fun d => UInt8.ofNat (Int.toNat (D.int d))) bb2)), [])) (Tree.ret ((SV.sb (false)), []))) (Tree.ret ((SV.sb (false)), []))) (Tree.ret ((SV.sb (false)), []))) (Tree.ret ((SV.sb (false)), []))) (Tree.ret ((SV.sb (false)), []))) (Tree.ret ((SV.sb (false)), []))) (Tree.ret ((SV.sb (false)), []))) (Tree.ret ((SV.sb (false)), []))) := by kernel_rfl
theorem same_run (kd to fr hp ep bo sq ak : Int) (bb_nl : Bool) (bb : List D) (kd2 to2 fr2 hp2 ep2 bo2 sq2 ak2 : Int) (bb2_nl : Bool) (bb2 : List D) : (callG tab (envOf (P := Try.prog) [] [] []) 20 12 27 [SV.agg [SV.si IntKind.i64 kd, SV.si IntKind.i64 to, SV.si IntKind.i64 fr, SV.si IntKind.i64 hp, SV.si IntKind.i64 ep, SV.si IntKind.i64 bo, SV.si IntKind.i64 sq, SV.si IntKind.i64 ak, SV.lst (.int .u8) bb_nl bb], SV.agg [SV.si IntKind.i64 kd2, SV.si IntKind.i64 to2, SV.si IntKind.i64 fr2, SV.si IntKind.i64 hp2, SV.si IntKind.i64 ep2, SV.si IntKind.i64 bo2, SV.si IntKind.i64 sq2, SV.si IntKind.i64 ak2, SV.lst (.int .u8) bb2_nl bb2]] []).run = some ((.sb (sameB kd to fr hp ep bo sq ak kd2 to2 fr2 hp2 ep2 bo2 sq2 ak2 bb bb2) : SV), []) := by
  rw [same_tree]
  simp only [Tree.run_ret', Tree.run_need', Tree.run_ite']
  simp only [sameB]
  cases kd == kd2 <;> cases to == to2 <;> cases fr == fr2 <;> cases hp == hp2 <;> cases ep == ep2 <;> cases bo == bo2 <;> cases sq == sq2 <;> cases ak == ak2 <;> rfl
def same_spec : PSpec := ⟨[(.agg [(.int .i64), (.int .i64), (.int .i64), (.int .i64), (.int .i64), (.int .i64), (.int .i64), (.int .i64), (.list (.int .u8))]), (.agg [(.int .i64), (.int .i64), (.int .i64), (.int .i64), (.int .i64), (.int .i64), (.int .i64), (.int .i64), (.list (.int .u8))])], fun
  | [.a [.i kd, .i to, .i fr, .i hp, .i ep, .i bo, .i sq, .i ak, .l bb_nl bb], .a [.i kd2, .i to2, .i fr2, .i hp2, .i ep2, .i bo2, .i sq2, .i ak2, .l bb2_nl bb2]] => some (true, .sb (sameB kd to fr hp ep bo sq ak kd2 to2 fr2 hp2 ep2 bo2 sq2 ak2 bb bb2))
  | _ => none⟩
noncomputable def same_pc : PC Try.prog := PC.run2 (T := tab) follows 20 12 27 same_spec (by
  intro ds pre r h hp
  unfold same_spec at h
  simp only at h
  split at h
  · rename_i kd to fr hp ep bo sq ak bb_nl bb kd2 to2 fr2 hp2 ep2 bo2 sq2 ak2 bb2_nl bb2
    simp only [Option.some.injEq, Prod.mk.injEq] at h
    obtain ⟨hq, rfl⟩ := h
    exact ⟨_, _, envOf_good _ _ _, same_run kd to fr hp ep bo sq ak bb_nl bb kd2 to2 fr2 hp2 ep2 bo2 sq2 ak2 bb2_nl bb2, rfl⟩
  · cases h) (enters_of Try.func27 rfl (by kernel_rfl))
theorem works_run : (callG tab (envOf (P := Try.prog) [bring_pc, same_pc] [says_ct, rsays_ct, take_ct, rtake_ct, gtake_ct, rgtake_ct] []) 20 12 7 [] []).run = some ((.sb true : SV), []) := by kernel_rfl
def works_spec : PSpec := ⟨[], fun
  | [] => some (true, .sb true)
  | _ => none⟩
noncomputable def works_pc : PC Try.prog := PC.run follows (envOf_good _ _ _) 20 12 7 works_spec (by
  intro ds pre r h hp
  unfold works_spec at h
  simp only at h
  split at h
  · simp only [Option.some.injEq, Prod.mk.injEq] at h
    obtain ⟨hq, rfl⟩ := h
    exact ⟨_, works_run, rfl⟩
  · cases h) (enters_of Try.func7 rfl (by kernel_rfl))
noncomputable def liv0_tm (had epoch boot i b1_0 b1_1 b1_2 b1_3 b2_0 b2_1 b2_2 : Int) : St :=
  ⟨(Tm.at 79 [(0, (Slot.is (SV.si IntKind.i64 (bringI had (9 : Int))))), (1, (Slot.is (SV.si IntKind.i64 (IntKind.wrap IntKind.i64 ((1 : Int) + bringI epoch (9 : Int)))))), (7, (Slot.is (SV.ref 1 0))), (8, (Slot.is (SV.ref 2 0))), (10, (Slot.is (SV.si IntKind.i64 (i))))]), [(Option.some (Blk.mk (Con.cells [(SV.clo (Fn.func 31) [] []), (SV.clo (Fn.func 32) [] []), (SV.val (Value.nilFunc))]) 73 (false))), (Option.some (Blk.mk (Con.cells [(SV.si IntKind.i64 (b1_0)), (SV.si IntKind.i64 (b1_1)), (SV.si IntKind.i64 (b1_2)), (SV.si IntKind.i64 (b1_3)), (SV.ref 0 0)]) 66 (false))), (Option.some (Blk.mk (Con.cells [(SV.si IntKind.i64 (b2_0)), (SV.si IntKind.i64 (b2_1)), (SV.si IntKind.i64 (b2_2))]) 68 (false)))]⟩
def liv0_lp : LP := { base := 3, mv := [], mask := 1411, maskX := 387, nm := 1024, nb := [1, 2], kl := [], klX := [], ow := [] }
noncomputable def liv0_x0 (had epoch boot i b1_0 b1_1 b1_2 b1_3 b2_0 b2_1 b2_2 : Int) : St :=
  ⟨(Tm.at 79 [(0, (Slot.is (SV.si IntKind.i64 (bringI had (9 : Int))))), (1, (Slot.is (SV.si IntKind.i64 (IntKind.wrap IntKind.i64 ((1 : Int) + bringI epoch (9 : Int)))))), (7, (Slot.is (SV.ref 1 0))), (8, (Slot.is (SV.ref 2 0)))]), [(Option.some (Blk.mk (Con.cells [(SV.clo (Fn.func 31) [] []), (SV.clo (Fn.func 32) [] []), (SV.val (Value.nilFunc))]) 73 (false))), (Option.some (Blk.mk (Con.cells [(SV.si IntKind.i64 (b1_0)), (SV.si IntKind.i64 (b1_1)), (SV.si IntKind.i64 (b1_2)), (SV.si IntKind.i64 (b1_3)), (SV.ref 0 0)]) 66 (false))), (Option.some (Blk.mk (Con.cells [(SV.si IntKind.i64 (b2_0)), (SV.si IntKind.i64 (b2_1)), (SV.si IntKind.i64 (b2_2))]) 68 (false)))]⟩
theorem liv0_round (had epoch boot i b1_0 b1_1 b1_2 b1_3 b2_0 b2_1 b2_2 : Int) : roundC (bodyF tab (envOf (P := Try.prog) [bring_pc, same_pc, works_pc] [says_ct, rsays_ct, take_ct, rtake_ct, gtake_ct, rgtake_ct] []) 20 12 4 0 (loopOf (codeOf Try.f4) 0)) liv0_lp (liv0_tm had epoch boot i b1_0 b1_1 b1_2 b1_3 b2_0 b2_1 b2_2) =
    (Tree.ite (decide (i < (2 : Int))) (Tree.need (decide ((0 : Int) ≤ b1_3) && decide (b1_3 < (3 : Int))) (Tree.need (!b2_0 == (0 : Int)) (Tree.ite (!b1_3 == (2 : Int) && (heB b2_0 (sayK b1_3) (sayT b1_0 b1_3) (0 : Int) (sayH b1_3) (sayN b1_3 b1_1) (sayN b1_3 b1_2) (0 : Int) (0 : Int) (0 : Nat) || syB b2_0 b2_1 b2_2 (sayK b1_3) (sayT b1_0 b1_3) (0 : Int) (sayH b1_3) (sayN b1_3 b1_1) (sayN b1_3 b1_2) (0 : Int) (0 : Int) (0 : Nat))) (Tree.ret (Ex.normal, (liv0_tm (had) (epoch) (boot) (IntKind.wrap IntKind.i64 (i + (1 : Int))) (b1_0) (b1_1) (bif hiB b1_0 b1_3 (ansK (heB b2_0 (sayK b1_3) (sayT b1_0 b1_3) (0 : Int) (sayH b1_3) (sayN b1_3 b1_1) (sayN b1_3 b1_2) (0 : Int) (0 : Int) (0 : Nat)) (syB b2_0 b2_1 b2_2 (sayK b1_3) (sayT b1_0 b1_3) (0 : Int) (sayH b1_3) (sayN b1_3 b1_1) (sayN b1_3 b1_2) (0 : Int) (0 : Int) (0 : Nat))) (0 : Int) (ansN (heB b2_0 (sayK b1_3) (sayT b1_0 b1_3) (0 : Int) (sayH b1_3) (sayN b1_3 b1_1) (sayN b1_3 b1_2) (0 : Int) (0 : Int) (0 : Nat) || syB b2_0 b2_1 b2_2 (sayK b1_3) (sayT b1_0 b1_3) (0 : Int) (sayH b1_3) (sayN b1_3 b1_1) (sayN b1_3 b1_2) (0 : Int) (0 : Int) (0 : Nat)) b2_0) (ansN (heB b2_0 (sayK b1_3) (sayT b1_0 b1_3) (0 : Int) (sayH b1_3) (sayN b1_3 b1_1) (sayN b1_3 b1_2) (0 : Int) (0 : Int) (0 : Nat) || syB b2_0 b2_1 b2_2 (sayK b1_3) (sayT b1_0 b1_3) (0 : Int) (sayH b1_3) (sayN b1_3 b1_1) (sayN b1_3 b1_2) (0 : Int) (0 : Int) (0 : Nat)) (12 : Int)) (ansN (syB b2_0 b2_1 b2_2 (sayK b1_3) (sayT b1_0 b1_3) (0 : Int) (sayH b1_3) (sayN b1_3 b1_1) (sayN b1_3 b1_2) (0 : Int) (0 : Int) (0 : Nat)) (sayN b1_3 b1_1)) (ansN (heB b2_0 (sayK b1_3) (sayT b1_0 b1_3) (0 : Int) (sayH b1_3) (sayN b1_3 b1_1) (sayN b1_3 b1_2) (0 : Int) (0 : Int) (0 : Nat)) b2_1) (0 : Int) (0 : Int) (0 : Nat) then ansN (heB b2_0 (sayK b1_3) (sayT b1_0 b1_3) (0 : Int) (sayH b1_3) (sayN b1_3 b1_1) (sayN b1_3 b1_2) (0 : Int) (0 : Int) (0 : Nat)) b2_1 else b1_2) (bif hiB b1_0 b1_3 (ansK (heB b2_0 (sayK b1_3) (sayT b1_0 b1_3) (0 : Int) (sayH b1_3) (sayN b1_3 b1_1) (sayN b1_3 b1_2) (0 : Int) (0 : Int) (0 : Nat)) (syB b2_0 b2_1 b2_2 (sayK b1_3) (sayT b1_0 b1_3) (0 : Int) (sayH b1_3) (sayN b1_3 b1_1) (sayN b1_3 b1_2) (0 : Int) (0 : Int) (0 : Nat))) (0 : Int) (ansN (heB b2_0 (sayK b1_3) (sayT b1_0 b1_3) (0 : Int) (sayH b1_3) (sayN b1_3 b1_1) (sayN b1_3 b1_2) (0 : Int) (0 : Int) (0 : Nat) || syB b2_0 b2_1 b2_2 (sayK b1_3) (sayT b1_0 b1_3) (0 : Int) (sayH b1_3) (sayN b1_3 b1_1) (sayN b1_3 b1_2) (0 : Int) (0 : Int) (0 : Nat)) b2_0) (ansN (heB b2_0 (sayK b1_3) (sayT b1_0 b1_3) (0 : Int) (sayH b1_3) (sayN b1_3 b1_1) (sayN b1_3 b1_2) (0 : Int) (0 : Int) (0 : Nat) || syB b2_0 b2_1 b2_2 (sayK b1_3) (sayT b1_0 b1_3) (0 : Int) (sayH b1_3) (sayN b1_3 b1_1) (sayN b1_3 b1_2) (0 : Int) (0 : Int) (0 : Nat)) (12 : Int)) (ansN (syB b2_0 b2_1 b2_2 (sayK b1_3) (sayT b1_0 b1_3) (0 : Int) (sayH b1_3) (sayN b1_3 b1_1) (sayN b1_3 b1_2) (0 : Int) (0 : Int) (0 : Nat)) (sayN b1_3 b1_1)) (ansN (heB b2_0 (sayK b1_3) (sayT b1_0 b1_3) (0 : Int) (sayH b1_3) (sayN b1_3 b1_1) (sayN b1_3 b1_2) (0 : Int) (0 : Int) (0 : Nat)) b2_1) (0 : Int) (0 : Int) (0 : Nat) then (1 : Int) else bif akB b1_0 b1_1 b1_3 (ansK (heB b2_0 (sayK b1_3) (sayT b1_0 b1_3) (0 : Int) (sayH b1_3) (sayN b1_3 b1_1) (sayN b1_3 b1_2) (0 : Int) (0 : Int) (0 : Nat)) (syB b2_0 b2_1 b2_2 (sayK b1_3) (sayT b1_0 b1_3) (0 : Int) (sayH b1_3) (sayN b1_3 b1_1) (sayN b1_3 b1_2) (0 : Int) (0 : Int) (0 : Nat))) (0 : Int) (ansN (heB b2_0 (sayK b1_3) (sayT b1_0 b1_3) (0 : Int) (sayH b1_3) (sayN b1_3 b1_1) (sayN b1_3 b1_2) (0 : Int) (0 : Int) (0 : Nat) || syB b2_0 b2_1 b2_2 (sayK b1_3) (sayT b1_0 b1_3) (0 : Int) (sayH b1_3) (sayN b1_3 b1_1) (sayN b1_3 b1_2) (0 : Int) (0 : Int) (0 : Nat)) b2_0) (ansN (heB b2_0 (sayK b1_3) (sayT b1_0 b1_3) (0 : Int) (sayH b1_3) (sayN b1_3 b1_1) (sayN b1_3 b1_2) (0 : Int) (0 : Int) (0 : Nat) || syB b2_0 b2_1 b2_2 (sayK b1_3) (sayT b1_0 b1_3) (0 : Int) (sayH b1_3) (sayN b1_3 b1_1) (sayN b1_3 b1_2) (0 : Int) (0 : Int) (0 : Nat)) (12 : Int)) (ansN (syB b2_0 b2_1 b2_2 (sayK b1_3) (sayT b1_0 b1_3) (0 : Int) (sayH b1_3) (sayN b1_3 b1_1) (sayN b1_3 b1_2) (0 : Int) (0 : Int) (0 : Nat)) (sayN b1_3 b1_1)) (ansN (heB b2_0 (sayK b1_3) (sayT b1_0 b1_3) (0 : Int) (sayH b1_3) (sayN b1_3 b1_1) (sayN b1_3 b1_2) (0 : Int) (0 : Int) (0 : Nat)) b2_1) (0 : Int) (0 : Int) (0 : Nat) then (2 : Int) else b1_3) (b2_0) (b2_1) (bif syB b2_0 b2_1 b2_2 (sayK b1_3) (sayT b1_0 b1_3) (0 : Int) (sayH b1_3) (sayN b1_3 b1_1) (sayN b1_3 b1_2) (0 : Int) (0 : Int) (0 : Nat) then sayN b1_3 b1_1 else b2_2)))) (Tree.ret (Ex.normal, (liv0_tm (had) (epoch) (boot) (IntKind.wrap IntKind.i64 (i + (1 : Int))) (b1_0) (b1_1) (b1_2) (b1_3) (b2_0) (b2_1) (bif syB b2_0 b2_1 b2_2 (sayK b1_3) (sayT b1_0 b1_3) (0 : Int) (sayH b1_3) (sayN b1_3 b1_1) (sayN b1_3 b1_2) (0 : Int) (0 : Int) (0 : Nat) then sayN b1_3 b1_1 else b2_2))))))) (Tree.ret ((Ex.exit 0), (liv0_x0 (had) (epoch) (boot) (i) (b1_0) (b1_1) (b1_2) (b1_3) (b2_0) (b2_1) (b2_2))))) := by kernel_rfl
def livC (e g : Int) : Int := bif decide (g ≤ e) then 2 else 1
def livG (e g : Int) : Int := bif decide (g ≤ e) then e else g
noncomputable def liv0_res (had epoch boot : Int) (i b1_0 b1_1 b1_2 b1_3 b2_0 b2_1 b2_2 : Int) : Tree (Ex × St) := .need (decide (i = 0 ∧ b1_0 = 3 ∧ b1_3 = 0 ∧ b2_0 = 3 ∧ 1 ≤ b1_1 ∧ b1_1 ≤ 9 ∧ 0 ≤ b2_1 ∧ b2_1 ≤ 4294967295 ∧ 0 ≤ b2_2 ∧ b2_2 ≤ 9)) (.ret (.exit 0, liv0_x0 had epoch boot 2 3 b1_1 b2_1 (livC b1_1 b2_2) 3 b2_1 (livG b1_1 b2_2)))
theorem liv_1 (had epoch boot : Int) (e c b g : Int) (hb : 0 ≤ b) (hb2 : b ≤ 4294967295) : (roundC (bodyF tab (envOf (P := Try.prog) [bring_pc, same_pc, works_pc] [says_ct, rsays_ct, take_ct, rtake_ct, gtake_ct, rgtake_ct] []) 20 12 4 0 (loopOf (codeOf Try.f4) 0)) liv0_lp (liv0_tm had epoch boot 0 3 e c 0 3 b g)).run = some (.normal, liv0_tm had epoch boot 1 3 e b 1 3 b g) := by
  rw [liv0_round]
  have w1 : IntKind.wrap .i64 1 = 1 := rfl
  have h1 : heB 3 1 3 0 12 0 0 0 0 0 = true := rfl
  have h2 : syB 3 b g 1 3 0 12 0 0 0 0 0 = false := by simp [syB]
  have h3 : hiB 3 0 2 0 3 12 0 b 0 0 0 = true := by simp [hiB, segB_2, hb, hb2]
  simp [Tree.run_ite', Tree.run_ret', Tree.run_need', sayK, sayT, sayH, sayN, ansK, ansN, h1, h2, h3, w1]
theorem liv_2 (had epoch boot : Int) (e b g : Int) (he : 1 ≤ e) (he2 : e ≤ 9) (hb : 0 ≤ b) (hb2 : b ≤ 4294967295) : (roundC (bodyF tab (envOf (P := Try.prog) [bring_pc, same_pc, works_pc] [says_ct, rsays_ct, take_ct, rtake_ct, gtake_ct, rgtake_ct] []) 20 12 4 0 (loopOf (codeOf Try.f4) 0)) liv0_lp (liv0_tm had epoch boot 1 3 e b 1 3 b g)).run = some (.normal, liv0_tm had epoch boot 2 3 e b (livC e g) 3 b (livG e g)) := by
  rw [liv0_round]
  have w1 : IntKind.wrap .i64 2 = 2 := rfl
  have h1 : heB 3 3 3 0 12 e b 0 0 0 = false := by simp [heB]
  have s3 : segB 3 3 0 12 e b 0 0 0 = true := by rw [segB_3]; simp; omega
  have s4 : segB 4 0 3 12 e 0 0 0 0 = true := by rw [segB_4]; simp; omega
  have h2 : syB 3 b g 3 3 0 12 e b 0 0 0 = decide (g ≤ e) := by simp only [syB, s3]; by_cases hg : g ≤ e <;> simp [hg] <;> omega
  have h3 : hiB 3 1 4 0 3 12 e 0 0 0 0 = false := by simp [hiB]
  have h4 : akB 3 e 1 4 0 3 12 e 0 0 0 0 = true := by simp [akB, s4]
  simp only [Tree.run_ite', Tree.run_ret', Tree.run_need', livC, livG]
  cases hg : decide (g ≤ e) <;> simp [sayK, sayT, sayH, sayN, ansK, ansN, h1, h2, h3, h4, w1, hg]
theorem liv_3 (had epoch boot : Int) (e b c g : Int) : (roundC (bodyF tab (envOf (P := Try.prog) [bring_pc, same_pc, works_pc] [says_ct, rsays_ct, take_ct, rtake_ct, gtake_ct, rgtake_ct] []) 20 12 4 0 (loopOf (codeOf Try.f4) 0)) liv0_lp (liv0_tm had epoch boot 2 3 e b c 3 b g)).run = some (.exit 0, liv0_x0 had epoch boot 2 3 e b c 3 b g) := by
  rw [liv0_round, Tree.run_ite']
  rfl
theorem liv0_ok (had epoch boot : Int) (i b1_0 b1_1 b1_2 b1_3 b2_0 b2_1 b2_2 : Int) (ex : Ex) (st' : St) (hrun_ : (liv0_res had epoch boot i b1_0 b1_1 b1_2 b1_3 b2_0 b2_1 b2_2).run = some (ex, st')) : ∃ n, iterC (roundC (bodyF tab (envOf (P := Try.prog) [bring_pc, same_pc, works_pc] [says_ct, rsays_ct, take_ct, rtake_ct, gtake_ct, rgtake_ct] []) 20 12 4 0 (loopOf (codeOf Try.f4) 0)) liv0_lp) n (liv0_tm had epoch boot i b1_0 b1_1 b1_2 b1_3 b2_0 b2_1 b2_2) = some (ex, st') := by
  obtain ⟨hp_, h_⟩ := Tree.run_need hrun_
  simp only [decide_eq_true_eq] at hp_
  obtain ⟨rfl, rfl, rfl, rfl, a1, a2, a3, a4, a5, a6⟩ := hp_
  simp only [Tree.run, Option.some.injEq, Prod.mk.injEq] at h_
  obtain ⟨rfl, rfl⟩ := h_
  exact iterC_step (liv_1 _ _ _ _ _ _ _ a3 a4) (iterC_step (liv_2 _ _ _ _ _ _ a1 a2 a3 a4) (iterC_stop (liv_3 _ _ _ _ _ _ _) (by simp)))
noncomputable def liv0_run (had epoch boot : Int) (st : St) : Tree (Ex × St) := .need (chkSt st (liv0_tm had epoch boot (iOf (slotV st 10)) (iOf (cellV st 1 0)) (iOf (cellV st 1 1)) (iOf (cellV st 1 2)) (iOf (cellV st 1 3)) (iOf (cellV st 2 0)) (iOf (cellV st 2 1)) (iOf (cellV st 2 2)))) (liv0_res had epoch boot (iOf (slotV st 10)) (iOf (cellV st 1 0)) (iOf (cellV st 1 1)) (iOf (cellV st 1 2)) (iOf (cellV st 1 3)) (iOf (cellV st 2 0)) (iOf (cellV st 2 1)) (iOf (cellV st 2 2)))
noncomputable def liv0_lc (had epoch boot : Int) : LC Try.prog := LC.of (T := tab) follows (envOf_good _ _ _) 20 12 4 0 Try.f4 Try.func4 (codeOf Try.f4) (loopOf (codeOf Try.f4) 0) (by kernel_rfl) (by kernel_rfl) liv0_lp (liv0_run had epoch boot)
  (inner_loops (c := codeOf Try.f4) Try.func4 (by kernel_rfl) (by kernel_rfl))
  (by
    intro st ex st' h
    obtain ⟨hc, h⟩ := Tree.run_need h
    have e := chk_iff.1 hc
    have := liv0_ok had epoch boot _ _ _ _ _ _ _ _ ex st' h
    rw [← e] at this
    exact this)
theorem lives_tree (had epoch boot : Int) : callG tab (envOf (P := Try.prog) [bring_pc, same_pc, works_pc] [says_ct, rsays_ct, take_ct, rtake_ct, gtake_ct, rgtake_ct] [(liv0_lc had epoch boot)]) 20 12 4 [SV.si IntKind.i64 had, SV.si IntKind.i64 epoch, SV.si IntKind.i64 boot] [] =
    (Tree.need (!(9 : Int) == (0 : Int)) (Tree.need (!(9 : Int) == (0 : Int)) (Tree.need (!(4294967296 : Int) == (0 : Int)) (Tree.ite (decide (IntKind.wrap IntKind.i64 ((1 : Int) + bringI epoch (9 : Int)) < (1 : Int)) || decide (IntKind.wrap IntKind.i64 ((1 : Int) + bringI epoch (9 : Int)) > (4294967295 : Int))) (Tree.ite (decide (bringI boot (4294967296 : Int) < (0 : Int)) || decide (bringI boot (4294967296 : Int) > (4294967295 : Int))) (Tree.ret ((SV.sb (false)), [])) (Tree.ret ((SV.sb (false)), []))) (Tree.ite (decide (bringI boot (4294967296 : Int) < (0 : Int)) || decide (bringI boot (4294967296 : Int) > (4294967295 : Int))) (Tree.ret ((SV.sb (false)), [])) (Tree.ite (decide (bringI had (9 : Int) > (0 : Int))) (Tree.need (!(3 : Int) == (0 : Int)) (Tree.need (chkSt (liv0_tm had epoch boot (0 : Int) (3 : Int) (IntKind.wrap IntKind.i64 ((1 : Int) + bringI epoch (9 : Int))) (0 : Int) (0 : Int) (3 : Int) (bringI boot (4294967296 : Int)) (bif syB (3 : Int) (bringI boot (4294967296 : Int)) (0 : Int) (3 : Int) (3 : Int) (0 : Int) (0 : Int) (bringI had (9 : Int)) (bringI boot (4294967296 : Int)) (0 : Int) (0 : Int) (0 : Nat) then bringI had (9 : Int) else (0 : Int))) (liv0_tm had epoch boot (0 : Int) (3 : Int) (IntKind.wrap IntKind.i64 ((1 : Int) + bringI epoch (9 : Int))) (0 : Int) (0 : Int) (3 : Int) (bringI boot (4294967296 : Int)) (bif syB (3 : Int) (bringI boot (4294967296 : Int)) (0 : Int) (3 : Int) (3 : Int) (0 : Int) (0 : Int) (bringI had (9 : Int)) (bringI boot (4294967296 : Int)) (0 : Int) (0 : Int) (0 : Nat) then bringI had (9 : Int) else (0 : Int)))) (Tree.need (decide ((0 : Int) = (0 : Int) ∧ (3 : Int) = (3 : Int) ∧ (0 : Int) = (0 : Int) ∧ (3 : Int) = (3 : Int) ∧ (1 : Int) ≤ IntKind.wrap IntKind.i64 ((1 : Int) + bringI epoch (9 : Int)) ∧ IntKind.wrap IntKind.i64 ((1 : Int) + bringI epoch (9 : Int)) ≤ (9 : Int) ∧ (0 : Int) ≤ bringI boot (4294967296 : Int) ∧ bringI boot (4294967296 : Int) ≤ (4294967295 : Int) ∧ ((0 : Int) ≤ bif syB (3 : Int) (bringI boot (4294967296 : Int)) (0 : Int) (3 : Int) (3 : Int) (0 : Int) (0 : Int) (bringI had (9 : Int)) (bringI boot (4294967296 : Int)) (0 : Int) (0 : Int) (0 : Nat) then bringI had (9 : Int) else (0 : Int)) ∧ (bif syB (3 : Int) (bringI boot (4294967296 : Int)) (0 : Int) (3 : Int) (3 : Int) (0 : Int) (0 : Int) (bringI had (9 : Int)) (bringI boot (4294967296 : Int)) (0 : Int) (0 : Int) (0 : Nat) then bringI had (9 : Int) else (0 : Int)) ≤ (9 : Int))) (Tree.ite ((livC (IntKind.wrap IntKind.i64 ((1 : Int) + bringI epoch (9 : Int))) (bif syB (3 : Int) (bringI boot (4294967296 : Int)) (0 : Int) (3 : Int) (3 : Int) (0 : Int) (0 : Int) (bringI had (9 : Int)) (bringI boot (4294967296 : Int)) (0 : Int) (0 : Int) (0 : Nat) then bringI had (9 : Int) else (0 : Int)) == (2 : Int)) == decide (bringI had (9 : Int) ≤ IntKind.wrap IntKind.i64 ((1 : Int) + bringI epoch (9 : Int)))) (Tree.ite ((3 : Int) == (0 : Int)) (Tree.ite ((0 : Int) == pickN true (bringI had (9 : Int)) (IntKind.wrap IntKind.i64 ((1 : Int) + bringI epoch (9 : Int)))) (Tree.need (true) (Tree.ret ((SV.sb (true)), []))) (Tree.ret ((SV.sb (false)), []))) (Tree.ite (livG (IntKind.wrap IntKind.i64 ((1 : Int) + bringI epoch (9 : Int))) (bif syB (3 : Int) (bringI boot (4294967296 : Int)) (0 : Int) (3 : Int) (3 : Int) (0 : Int) (0 : Int) (bringI had (9 : Int)) (bringI boot (4294967296 : Int)) (0 : Int) (0 : Int) (0 : Nat) then bringI had (9 : Int) else (0 : Int)) == pickN true (bringI had (9 : Int)) (IntKind.wrap IntKind.i64 ((1 : Int) + bringI epoch (9 : Int)))) (Tree.need (true) (Tree.ret ((SV.sb (true)), []))) (Tree.ret ((SV.sb (false)), [])))) (Tree.ret ((SV.sb (false)), [])))))) (Tree.need (chkSt (liv0_tm had epoch boot (0 : Int) (3 : Int) (IntKind.wrap IntKind.i64 ((1 : Int) + bringI epoch (9 : Int))) (0 : Int) (0 : Int) (3 : Int) (bringI boot (4294967296 : Int)) (0 : Int)) (liv0_tm had epoch boot (0 : Int) (3 : Int) (IntKind.wrap IntKind.i64 ((1 : Int) + bringI epoch (9 : Int))) (0 : Int) (0 : Int) (3 : Int) (bringI boot (4294967296 : Int)) (0 : Int))) (Tree.need (decide ((0 : Int) = (0 : Int) ∧ (3 : Int) = (3 : Int) ∧ (0 : Int) = (0 : Int) ∧ (3 : Int) = (3 : Int) ∧ (1 : Int) ≤ IntKind.wrap IntKind.i64 ((1 : Int) + bringI epoch (9 : Int)) ∧ IntKind.wrap IntKind.i64 ((1 : Int) + bringI epoch (9 : Int)) ≤ (9 : Int) ∧ (0 : Int) ≤ bringI boot (4294967296 : Int) ∧ bringI boot (4294967296 : Int) ≤ (4294967295 : Int) ∧ (0 : Int) ≤ (0 : Int) ∧ (0 : Int) ≤ (9 : Int))) (Tree.ite ((livC (IntKind.wrap IntKind.i64 ((1 : Int) + bringI epoch (9 : Int))) (0 : Int) == (2 : Int)) == decide (bringI had (9 : Int) ≤ IntKind.wrap IntKind.i64 ((1 : Int) + bringI epoch (9 : Int)))) (Tree.ite ((3 : Int) == (0 : Int)) (Tree.ite ((0 : Int) == pickN true (bringI had (9 : Int)) (IntKind.wrap IntKind.i64 ((1 : Int) + bringI epoch (9 : Int)))) (Tree.need (true) (Tree.ret ((SV.sb (true)), []))) (Tree.ret ((SV.sb (false)), []))) (Tree.ite (livG (IntKind.wrap IntKind.i64 ((1 : Int) + bringI epoch (9 : Int))) (0 : Int) == pickN true (bringI had (9 : Int)) (IntKind.wrap IntKind.i64 ((1 : Int) + bringI epoch (9 : Int)))) (Tree.need (true) (Tree.ret ((SV.sb (true)), []))) (Tree.ret ((SV.sb (false)), [])))) (Tree.ret ((SV.sb (false)), []))))))))))) := by kernel_rfl
theorem bring_range (i : Int) {n : Int} (h0 : 0 < n) (h1 : n ≤ 4294967296) : 0 ≤ bringI i n ∧ bringI i n < n := by
  have a1 : -n < Int.tmod i n := by
    have := Int.lt_tmod_of_pos i h0; omega
  have a2 : Int.tmod i n < n := Int.tmod_lt_of_pos i h0
  unfold bringI
  cases hc : decide (Int.tmod i n < 0) <;> simp only [decide_eq_true_eq, decide_eq_false_iff_not] at hc <;> simp only [cond_true, cond_false]
  · omega
  · rw [wrap64 (by omega) (by omega)]; omega
theorem lives_run (had epoch boot : Int) : (callG tab (envOf (P := Try.prog) [bring_pc, same_pc, works_pc] [says_ct, rsays_ct, take_ct, rtake_ct, gtake_ct, rgtake_ct] [(liv0_lc had epoch boot)]) 20 12 4 [SV.si IntKind.i64 had, SV.si IntKind.i64 epoch, SV.si IntKind.i64 boot] []).run = some ((.sb true : SV), []) := by
  rw [lives_tree]
  obtain ⟨a1, a2⟩ := bring_range had (n := 9) (by omega) (by omega)
  obtain ⟨b1, b2⟩ := bring_range epoch (n := 9) (by omega) (by omega)
  obtain ⟨c1, c2⟩ := bring_range boot (n := 4294967296) (by omega) (by omega)
  have e1 : IntKind.wrap .i64 (1 + bringI epoch 9) = 1 + bringI epoch 9 := wrap64 (by omega) (by omega)
  rw [e1]
  generalize bringI had 9 = hd at *
  generalize bringI boot 4294967296 = bt at *
  generalize hE : 1 + bringI epoch 9 = e at *
  have d1 : (decide (e < 1) || decide (e > 4294967295)) = false := by simp; omega
  have d2 : (decide (bt < 0) || decide (bt > 4294967295)) = false := by simp; omega
  have sy : hd > 0 → syB 3 bt 0 3 3 0 0 hd bt 0 0 0 = true := by
    intro h
    have : segB 3 3 0 0 hd bt 0 0 0 = true := by rw [segB_3]; simp; omega
    simp [syB, this]; omega
  have g1 : ∀ g : Int, 0 ≤ g → g ≤ 9 → decide (True ∧ True ∧ True ∧ True ∧ 1 ≤ e ∧ e ≤ 9 ∧ 0 ≤ bt ∧ bt ≤ 4294967295 ∧ 0 ≤ g ∧ g ≤ 9) = true := by intro g h1 h2; simp; omega
  have g3 : ((3 : Int) == 0) = false := rfl
  have g9 : ((9 : Int) == 0) = false := rfl
  have gb : ((4294967296 : Int) == 0) = false := rfl
  have gl : (livC e hd == 2) = decide (hd ≤ e) := by unfold livC; cases decide (hd ≤ e) <;> rfl
  have gg : livG e hd = pickN true hd e := by
    unfold livG pickN
    by_cases h : hd ≤ e
    · by_cases h2 : e ≤ hd
      · have : hd = e := by omega
        subst this; simp
      · simp [h, h2]
    · have : e ≤ hd := by omega
      simp [h, this]; omega
  simp only [Tree.run_ret', Tree.run_need', Tree.run_ite', d1, d2, chk_self, g3, g9, gb, Bool.not_false, cond_true, cond_false]
  cases hz : decide (hd > 0)
  · have hd0 : hd = 0 := by simp at hz; omega
    subst hd0
    simp only [gl, gg, beq_self_eq_true, cond_true, cond_false]
    rw [g1 0 (by omega) (by omega)]; rfl
  · have hz' : hd > 0 := by simpa using hz
    simp only [sy hz', gl, gg, beq_self_eq_true, cond_true, cond_false]
    rw [g1 hd (by omega) (by omega)]; rfl
end Go.Proofs.Ytdfdjikkgmclfaa
