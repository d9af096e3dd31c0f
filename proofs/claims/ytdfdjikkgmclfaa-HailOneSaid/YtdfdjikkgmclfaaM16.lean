/-
  Functions of the program, by their runs.
  No statement of the seat is proved here. Conditions: none.
-/
import Derived.Test.YtdfdjikkgmclfaaY25
import Derived.Test.YtdfdjikkgmclfaaTab16
set_option linter.unusedSimpArgs false
set_option linter.unusedVariables false
set_option maxRecDepth 100000
namespace Go.Proofs.Ytdfdjikkgmclfaa
open Go.Sy Go.RowKit
set_option maxHeartbeats 4000000
/-- May a segment be? -/
def segB (kd to fr hp ep bo sq ak : Int) (n : Nat) : Bool := decide (0 ≤ to ∧ to ≤ 6 ∧ 0 ≤ fr ∧ fr ≤ 6 ∧ 0 ≤ hp ∧ hp ≤ 12 ∧ 0 ≤ ep ∧ ep ≤ 4294967295 ∧ 0 ≤ bo ∧ bo ≤ 4294967295 ∧ 0 ≤ sq ∧ sq ≤ 65535 ∧ 0 ≤ ak ∧ ak ≤ 65535 ∧ n ≤ 256 ∧
  ((kd = 1 ∧ fr = 0 ∧ 0 < to ∧ ep = 0 ∧ n = 0 ∧ bo = 0 ∧ sq = 0 ∧ ak = 0) ∨ (kd = 2 ∧ to = 0 ∧ 0 < fr ∧ ep = 0 ∧ n = 0 ∧ sq = 0 ∧ ak = 0) ∨ (kd = 3 ∧ fr = 0 ∧ 0 < to ∧ 0 < ep ∧ n = 0 ∧ sq = 0 ∧ ak = 0) ∨
   (kd = 4 ∧ (fr = 0 ∧ 0 < to ∨ to = 0 ∧ 0 < fr) ∧ 0 < ep ∧ n = 0 ∧ bo = 0 ∧ sq = 0) ∨ (kd = 5 ∧ (fr = 0 ∧ 0 < to ∨ to = 0 ∧ 0 < fr) ∧ 0 < ep ∧ 0 < n ∧ bo = 0 ∧ ak = 0)))
theorem cond_bool (a b c : Bool) : (bif a then b else c) = (a && b || !a && c) := by cases a <;> cases b <;> cases c <;> rfl
theorem ite_case {α : Type} {c : Bool} {a b : Tree α} {r : Option α} (h1 : c = true → a.run = r) (h0 : c = false → b.run = r) : (Tree.ite c a b).run = r := by
  rw [Tree.run_ite']
  cases c
  · exact h0 rfl
  · exact h1 rfl
theorem need_case {α : Type} {c : Bool} {a : Tree α} {r : Option α} (h0 : c = true) (h1 : a.run = r) : (Tree.need c a).run = r := by
  rw [Tree.run_need', h0]; exact h1
theorem leaf2 {b : Bool} (h : b = false) : (Tree.ret (SV.si .i64 2, ([] : Hp))).run = some (.si .i64 (bif b then 0 else 2), []) := by rw [h]; rfl
theorem leaf0 {b : Bool} (h : b = true) : (Tree.ret (SV.si .i64 0, ([] : Hp))).run = some (.si .i64 (bif b then 0 else 2), []) := by rw [h]; rfl
def hasI (k : Int) : Int := bif k == 1 then 32 else bif k == 2 then 66 else bif k == 3 then 35 else bif k == 4 then 105 else bif k == 5 then 117 else 0
def hasB (k : Int) : Bool := bif k == 1 then true else bif k == 2 then true else bif k == 3 then true else bif k == 4 then true else k == 5
theorem has_tree (kd : Int) : callG tab (envOf (P := Try.prog) [] [] []) 20 12 37 [SV.si IntKind.i64 kd] [] =
    (Tree.ite (kd == (1 : Int)) (Tree.ret ((SV.tup [(SV.si IntKind.i64 ((32 : Int))), (SV.sb (true))]), [])) (Tree.ite (kd == (2 : Int)) (Tree.ret ((SV.tup [(SV.si IntKind.i64 ((66 : Int))), (SV.sb (true))]), [])) (Tree.ite (kd == (3 : Int)) (Tree.ret ((SV.tup [(SV.si IntKind.i64 ((35 : Int))), (SV.sb (true))]), [])) (Tree.ite (kd == (4 : Int)) (Tree.ret ((SV.tup [(SV.si IntKind.i64 ((105 : Int))), (SV.sb (true))]), [])) (Tree.ite (kd == (5 : Int)) (Tree.ret ((SV.tup [(SV.si IntKind.i64 ((117 : Int))), (SV.sb (true))]), [])) (Tree.ret ((SV.tup [(SV.si IntKind.i64 ((0 : Int))), (SV.sb (false))]), []))))))) := by kernel_rfl
theorem has_run (kd : Int) : (callG tab (envOf (P := Try.prog) [] [] []) 20 12 37 [SV.si IntKind.i64 kd] []).run = some ((.tup [.si .i64 (hasI kd), .sb (hasB kd)] : SV), []) := by
  rw [has_tree]
  simp only [Tree.run_ret', Tree.run_need', Tree.run_ite', hasI, hasB]
  cases kd == 1 <;> cases kd == 2 <;> cases kd == 3 <;> cases kd == 4 <;> cases kd == 5 <;> rfl
def has_spec : PSpec := ⟨[(.int .i64)], fun
  | [.i kd] => some (true, .tup [.si .i64 (hasI kd), .sb (hasB kd)])
  | _ => none⟩
noncomputable def has_pc : PC Try.prog := PC.run2 (T := tab) follows 20 12 37 has_spec (by
  intro ds pre r h hp
  unfold has_spec at h
  simp only at h
  split at h
  · rename_i kd
    simp only [Option.some.injEq, Prod.mk.injEq] at h
    obtain ⟨hq, rfl⟩ := h
    exact ⟨_, _, envOf_good _ _ _, has_run kd, rfl⟩
  · cases h) (enters_of Try.func37 rfl (by kernel_rfl))
theorem not_dec (p : Prop) [Decidable p] : (!decide p) = decide (¬ p) := by simp
theorem and_dec (p q : Prop) [Decidable p] [Decidable q] : (decide p && decide q) = decide (p ∧ q) := by simp
theorem or_dec (p q : Prop) [Decidable p] [Decidable q] : (decide p || decide q) = decide (p ∨ q) := by simp
theorem beq_dec (p q : Prop) [Decidable p] [Decidable q] : (decide p == decide q) = decide (p ↔ q) := by rw [Bool.eq_iff_iff]; simp
theorem beq_true_ (b : Bool) : (b == true) = b := by cases b <;> rfl
theorem int_dec (a b : Int) : (a == b) = decide (a = b) := rfl
theorem has_cases (k : Int) : (k = 1 ∨ k = 2 ∨ k = 3 ∨ k = 4 ∨ k = 5) ∨ (hasI k = 0 ∧ hasB k = false) ∧ k ≠ 1 ∧ k ≠ 2 ∧ k ≠ 3 ∧ k ≠ 4 ∧ k ≠ 5 := by
  by_cases h1 : k = 1; · simp [h1]
  by_cases h2 : k = 2; · simp [h2]
  by_cases h3 : k = 3; · simp [h3]
  by_cases h4 : k = 4; · simp [h4]
  by_cases h5 : k = 5; · simp [h5]
  have b1 : (k == 1) = false := by simpa using h1
  have b2 : (k == 2) = false := by simpa using h2
  have b3 : (k == 3) = false := by simpa using h3
  have b4 : (k == 4) = false := by simpa using h4
  have b5 : (k == 5) = false := by simpa using h5
  exact .inr ⟨⟨by simp only [hasI, b1, b2, b3, b4, b5, cond_false], by simp only [hasB, b1, b2, b3, b4, b5, cond_false]⟩, h1, h2, h3, h4, h5⟩
theorem hasB_dec (k : Int) : hasB k = decide (k = 1 ∨ k = 2 ∨ k = 3 ∨ k = 4 ∨ k = 5) := by
  rcases has_cases k with (rfl | rfl | rfl | rfl | rfl) | ⟨⟨_, e⟩, h1, h2, h3, h4, h5⟩ <;> first | rfl | (rw [e]; symm; simp [h1, h2, h3, h4, h5])
theorem has_1 (k : Int) : (bits BinOp.and IntKind.i64 (hasI k) 1 == 0) = decide (¬ (k = 3 ∨ k = 4 ∨ k = 5)) := by
  rcases has_cases k with (rfl | rfl | rfl | rfl | rfl) | ⟨⟨e, _⟩, h1, h2, h3, h4, h5⟩ <;> first | rfl | (rw [e]; simp [h1, h2, h3, h4, h5]; rfl)
theorem has_2 (k : Int) : (bits BinOp.and IntKind.i64 (hasI k) 2 == 0) = decide (¬ (k = 2 ∨ k = 3)) := by
  rcases has_cases k with (rfl | rfl | rfl | rfl | rfl) | ⟨⟨e, _⟩, h1, h2, h3, h4, h5⟩ <;> first | rfl | (rw [e]; simp [h1, h2, h3, h4, h5]; rfl)
theorem has_4 (k : Int) : (bits BinOp.and IntKind.i64 (hasI k) 4 == 0) = decide (¬ (k = 5)) := by
  rcases has_cases k with (rfl | rfl | rfl | rfl | rfl) | ⟨⟨e, _⟩, h1, h2, h3, h4, h5⟩ <;> first | rfl | (rw [e]; simp [h1, h2, h3, h4, h5]; rfl)
theorem has_8 (k : Int) : (bits BinOp.and IntKind.i64 (hasI k) 8 == 0) = decide (¬ (k = 4)) := by
  rcases has_cases k with (rfl | rfl | rfl | rfl | rfl) | ⟨⟨e, _⟩, h1, h2, h3, h4, h5⟩ <;> first | rfl | (rw [e]; simp [h1, h2, h3, h4, h5]; rfl)
theorem has_16 (k : Int) : (bits BinOp.and IntKind.i64 (hasI k) 16 == 0) = decide (¬ (k = 5)) := by
  rcases has_cases k with (rfl | rfl | rfl | rfl | rfl) | ⟨⟨e, _⟩, h1, h2, h3, h4, h5⟩ <;> first | rfl | (rw [e]; simp [h1, h2, h3, h4, h5]; rfl)
theorem has_32 (k : Int) : (bits BinOp.and IntKind.i64 (hasI k) 32 == 0) = decide (¬ (k = 1 ∨ k = 3 ∨ k = 4 ∨ k = 5)) := by
  rcases has_cases k with (rfl | rfl | rfl | rfl | rfl) | ⟨⟨e, _⟩, h1, h2, h3, h4, h5⟩ <;> first | rfl | (rw [e]; simp [h1, h2, h3, h4, h5]; rfl)
theorem has_64 (k : Int) : (bits BinOp.and IntKind.i64 (hasI k) 64 == 0) = decide (¬ (k = 2 ∨ k = 4 ∨ k = 5)) := by
  rcases has_cases k with (rfl | rfl | rfl | rfl | rfl) | ⟨⟨e, _⟩, h1, h2, h3, h4, h5⟩ <;> first | rfl | (rw [e]; simp [h1, h2, h3, h4, h5]; rfl)
theorem segB_1 (to fr hp ep bo sq ak : Int) (n : Nat) : segB 1 to fr hp ep bo sq ak n = decide (0 ≤ to ∧ to ≤ 6 ∧ fr = 0 ∧ 0 ≤ hp ∧ hp ≤ 12 ∧ 0 < to ∧ ep = 0 ∧ n = 0 ∧ bo = 0 ∧ sq = 0 ∧ ak = 0) := by
  unfold segB; congr 1; apply propext; constructor <;> intro h <;> omega
theorem segB_2 (to fr hp ep bo sq ak : Int) (n : Nat) : segB 2 to fr hp ep bo sq ak n = decide (to = 0 ∧ 0 < fr ∧ fr ≤ 6 ∧ 0 ≤ hp ∧ hp ≤ 12 ∧ 0 ≤ bo ∧ bo ≤ 4294967295 ∧ ep = 0 ∧ n = 0 ∧ sq = 0 ∧ ak = 0) := by
  unfold segB; congr 1; apply propext; constructor <;> intro h <;> omega
theorem segB_3 (to fr hp ep bo sq ak : Int) (n : Nat) : segB 3 to fr hp ep bo sq ak n = decide (0 < to ∧ to ≤ 6 ∧ fr = 0 ∧ 0 ≤ hp ∧ hp ≤ 12 ∧ 0 < ep ∧ ep ≤ 4294967295 ∧ 0 ≤ bo ∧ bo ≤ 4294967295 ∧ n = 0 ∧ sq = 0 ∧ ak = 0) := by
  unfold segB; congr 1; apply propext; constructor <;> intro h <;> omega
theorem segB_4 (to fr hp ep bo sq ak : Int) (n : Nat) : segB 4 to fr hp ep bo sq ak n = decide (0 ≤ to ∧ to ≤ 6 ∧ 0 ≤ fr ∧ fr ≤ 6 ∧ (fr = 0 ∧ 0 < to ∨ to = 0 ∧ 0 < fr) ∧ 0 ≤ hp ∧ hp ≤ 12 ∧ 0 < ep ∧ ep ≤ 4294967295 ∧ n = 0 ∧ bo = 0 ∧ sq = 0 ∧ 0 ≤ ak ∧ ak ≤ 65535) := by
  unfold segB; congr 1; apply propext; constructor <;> intro h <;> omega
theorem segB_5 (to fr hp ep bo sq ak : Int) (n : Nat) : segB 5 to fr hp ep bo sq ak n = decide (0 ≤ to ∧ to ≤ 6 ∧ 0 ≤ fr ∧ fr ≤ 6 ∧ (fr = 0 ∧ 0 < to ∨ to = 0 ∧ 0 < fr) ∧ 0 ≤ hp ∧ hp ≤ 12 ∧ 0 < ep ∧ ep ≤ 4294967295 ∧ 0 < n ∧ n ≤ 256 ∧ bo = 0 ∧ 0 ≤ sq ∧ sq ≤ 65535 ∧ ak = 0) := by
  unfold segB; congr 1; apply propext; constructor <;> intro h <;> omega
theorem segB_0 {kd to fr hp ep bo sq ak : Int} {n : Nat} (h1 : kd ≠ 1) (h2 : kd ≠ 2) (h3 : kd ≠ 3) (h4 : kd ≠ 4) (h5 : kd ≠ 5) : segB kd to fr hp ep bo sq ak n = false := by
  unfold segB; simp [h1, h2, h3, h4, h5]
theorem rcheck_tree (kd to fr hp ep bo sq ak : Int) (bb_nl : Bool) (bb : List D) : callG tab (envOf (P := Try.prog) [] [] []) 20 12 39 [SV.agg [SV.si IntKind.i64 kd, SV.si IntKind.i64 to, SV.si IntKind.i64 fr, SV.si IntKind.i64 hp, SV.si IntKind.i64 ep, SV.si IntKind.i64 bo, SV.si IntKind.i64 sq, SV.si IntKind.i64 ak, SV.lst (.int .u8) bb_nl bb]] [] =
    (Tree.ite (!bif to == (0 : Int) then bif decide (fr ≥ (1 : Int)) then decide (fr ≤ (6 : Int)) || fr == (0 : Int) && (decide (to ≥ (1 : Int)) && decide (to ≤ (6 : Int))) else fr == (0 : Int) && (decide (to ≥ (1 : Int)) && decide (to ≤ (6 : Int))) else fr == (0 : Int) && (decide (to ≥ (1 : Int)) && decide (to ≤ (6 : Int)))) (Tree.ret ((SV.si IntKind.i64 ((2 : Int))), [])) (Tree.ite (decide (kd < (1 : Int))) (Tree.ret ((SV.si IntKind.i64 ((2 : Int))), [])) (Tree.ite (decide (kd > (5 : Int))) (Tree.ret ((SV.si IntKind.i64 ((2 : Int))), [])) (Tree.ite (!(decide (hp ≥ (0 : Int)) && decide (hp ≤ (12 : Int)))) (Tree.ret ((SV.si IntKind.i64 ((2 : Int))), [])) (Tree.ite (!(decide (ep ≥ (0 : Int)) && decide (ep ≤ (4294967295 : Int)))) (Tree.ret ((SV.si IntKind.i64 ((2 : Int))), [])) (Tree.ite (!(decide (bo ≥ (0 : Int)) && decide (bo ≤ (4294967295 : Int)))) (Tree.ret ((SV.si IntKind.i64 ((2 : Int))), [])) (Tree.ite (!(decide (sq ≥ (0 : Int)) && decide (sq ≤ (65535 : Int)))) (Tree.ret ((SV.si IntKind.i64 ((2 : Int))), [])) (Tree.ite (!(decide (ak ≥ (0 : Int)) && decide (ak ≤ (65535 : Int)))) (Tree.ret ((SV.si IntKind.i64 ((2 : Int))), [])) (Tree.ite (decide ((↑(List.length bb) : Int) > (256 : Int))) (Tree.ret ((SV.si IntKind.i64 ((2 : Int))), [])) (Tree.ite ((!bif kd == (3 : Int) then decide (ep > (0 : Int)) == true else bif kd == (4 : Int) then decide (ep > (0 : Int)) == true else decide (ep > (0 : Int)) == (kd == (5 : Int))) || (!(bo == (0 : Int) || (kd == (2 : Int) || kd == (3 : Int))) || (!(sq == (0 : Int) || kd == (5 : Int)) || (!(ak == (0 : Int) || kd == (4 : Int)) || (!decide ((↑(List.length bb) : Int) > (0 : Int)) == (kd == (5 : Int)) || !bif kd != (1 : Int) then bif kd != (3 : Int) then kd != (2 : Int) || decide (fr > (0 : Int)) else decide (to > (0 : Int)) && (kd != (2 : Int) || decide (fr > (0 : Int))) else decide (to > (0 : Int)) && (kd != (2 : Int) || decide (fr > (0 : Int)))))))) (Tree.ret ((SV.si IntKind.i64 ((2 : Int))), [])) (Tree.ret ((SV.si IntKind.i64 ((0 : Int))), [])))))))))))) := by kernel_rfl
theorem rcheck_run (kd to fr hp ep bo sq ak : Int) (bb_nl : Bool) (bb : List D) : (callG tab (envOf (P := Try.prog) [] [] []) 20 12 39 [SV.agg [SV.si IntKind.i64 kd, SV.si IntKind.i64 to, SV.si IntKind.i64 fr, SV.si IntKind.i64 hp, SV.si IntKind.i64 ep, SV.si IntKind.i64 bo, SV.si IntKind.i64 sq, SV.si IntKind.i64 ak, SV.lst (.int .u8) bb_nl bb]] []).run = some ((.si .i64 (bif segB kd to fr hp ep bo sq ak bb.length then 0 else 2) : SV), []) := by
  rw [rcheck_tree]
  generalize bb.length = n
  simp only [cond_bool, bne, hasB_dec, has_1, has_2, has_4, has_8, has_16, has_32, has_64]
  rcases has_cases kd with (rfl | rfl | rfl | rfl | rfl) | ⟨⟨e1, e2⟩, h1, h2, h3, h4, h5⟩
  · rw [segB_1]
    repeat' (refine ite_case (fun h_ => ?_) (fun h_ => ?_) <;> simp at h_)
    all_goals first | exact leaf2 (decide_eq_false (by omega)) | exact leaf0 (decide_eq_true (by omega))
  · rw [segB_2]
    repeat' (refine ite_case (fun h_ => ?_) (fun h_ => ?_) <;> simp at h_)
    all_goals first | exact leaf2 (decide_eq_false (by omega)) | exact leaf0 (decide_eq_true (by omega))
  · rw [segB_3]
    repeat' (refine ite_case (fun h_ => ?_) (fun h_ => ?_) <;> simp at h_)
    all_goals first | exact leaf2 (decide_eq_false (by omega)) | exact leaf0 (decide_eq_true (by omega))
  · rw [segB_4]
    repeat' (refine ite_case (fun h_ => ?_) (fun h_ => ?_) <;> simp at h_)
    all_goals first | exact leaf2 (decide_eq_false (by omega)) | exact leaf0 (decide_eq_true (by omega))
  · rw [segB_5]
    repeat' (refine ite_case (fun h_ => ?_) (fun h_ => ?_) <;> simp at h_)
    all_goals first | exact leaf2 (decide_eq_false (by omega)) | exact leaf0 (decide_eq_true (by omega))
  · rw [segB_0 h1 h2 h3 h4 h5]
    repeat' (refine ite_case (fun h_ => ?_) (fun h_ => ?_) <;> simp [h1, h2, h3, h4, h5] at h_)
    all_goals first | exact leaf2 rfl | (exfalso; omega)
def rcheck_spec : PSpec := ⟨[(.agg [(.int .i64), (.int .i64), (.int .i64), (.int .i64), (.int .i64), (.int .i64), (.int .i64), (.int .i64), (.list (.int .u8))])], fun
  | [.a [.i kd, .i to, .i fr, .i hp, .i ep, .i bo, .i sq, .i ak, .l bb_nl bb]] => some (true, .si .i64 (bif segB kd to fr hp ep bo sq ak bb.length then 0 else 2))
  | _ => none⟩
noncomputable def rcheck_pc : PC Try.prog := PC.run2 (T := tab) follows 20 12 39 rcheck_spec (by
  intro ds pre r h hp
  unfold rcheck_spec at h
  simp only at h
  split at h
  · rename_i kd to fr hp ep bo sq ak bb_nl bb
    simp only [Option.some.injEq, Prod.mk.injEq] at h
    obtain ⟨hq, rfl⟩ := h
    exact ⟨_, _, envOf_good _ _ _, rcheck_run kd to fr hp ep bo sq ak bb_nl bb, rfl⟩
  · cases h) (enters_of Try.func39 rfl (by kernel_rfl))
theorem check_tree (kd to fr hp ep bo sq ak : Int) (bb_nl : Bool) (bb : List D) : callG tab (envOf (P := Try.prog) [has_pc] [] []) 20 12 30 [SV.agg [SV.si IntKind.i64 kd, SV.si IntKind.i64 to, SV.si IntKind.i64 fr, SV.si IntKind.i64 hp, SV.si IntKind.i64 ep, SV.si IntKind.i64 bo, SV.si IntKind.i64 sq, SV.si IntKind.i64 ak, SV.lst (.int .u8) bb_nl bb]] [] =
    (Tree.need (true) (Tree.ite (!hasB kd) (Tree.ret ((SV.si IntKind.i64 ((2 : Int))), [])) (Tree.ite (decide (to < (0 : Int)) || decide (to > (6 : Int))) (Tree.ret ((SV.si IntKind.i64 ((2 : Int))), [])) (Tree.ite (decide (fr < (0 : Int)) || decide (fr > (6 : Int))) (Tree.ret ((SV.si IntKind.i64 ((2 : Int))), [])) (Tree.ite (decide (hp < (0 : Int)) || decide (hp > (12 : Int))) (Tree.ret ((SV.si IntKind.i64 ((2 : Int))), [])) (Tree.ite (decide (ep < (0 : Int)) || decide (ep > (4294967295 : Int))) (Tree.ret ((SV.si IntKind.i64 ((2 : Int))), [])) (Tree.ite (decide (bo < (0 : Int)) || decide (bo > (4294967295 : Int))) (Tree.ret ((SV.si IntKind.i64 ((2 : Int))), [])) (Tree.ite (decide (sq < (0 : Int)) || decide (sq > (65535 : Int))) (Tree.ret ((SV.si IntKind.i64 ((2 : Int))), [])) (Tree.ite (decide (ak < (0 : Int)) || decide (ak > (65535 : Int))) (Tree.ret ((SV.si IntKind.i64 ((2 : Int))), [])) (Tree.ite (decide ((↑(List.length bb) : Int) > (256 : Int))) (Tree.ret ((SV.si IntKind.i64 ((2 : Int))), [])) (Tree.ite (bif fr == (0 : Int) && bif to == (0 : Int) then decide (to > (0 : Int)) else decide (to > (0 : Int)) then !bits BinOp.and IntKind.i64 (hasI kd) (32 : Int) != (0 : Int) && ((!bif fr == (0 : Int) then to == (0 : Int) && decide (fr > (0 : Int)) else to == (0 : Int) && decide (fr > (0 : Int))) || !bits BinOp.and IntKind.i64 (hasI kd) (64 : Int) != (0 : Int)) else (!bif fr == (0 : Int) then to == (0 : Int) && decide (fr > (0 : Int)) else to == (0 : Int) && decide (fr > (0 : Int))) || !bits BinOp.and IntKind.i64 (hasI kd) (64 : Int) != (0 : Int)) (Tree.ret ((SV.si IntKind.i64 ((2 : Int))), [])) (Tree.ite (bif !decide (ep > (0 : Int)) == (bits BinOp.and IntKind.i64 (hasI kd) (1 : Int) != (0 : Int)) then !decide (ep > (0 : Int)) == (bits BinOp.and IntKind.i64 (hasI kd) (1 : Int) != (0 : Int)) else !decide ((↑(List.length bb) : Int) > (0 : Int)) == (bits BinOp.and IntKind.i64 (hasI kd) (16 : Int) != (0 : Int))) (Tree.ret ((SV.si IntKind.i64 ((2 : Int))), [])) (Tree.ite (bif decide (bo > (0 : Int)) && bits BinOp.and IntKind.i64 (hasI kd) (2 : Int) == (0 : Int) then decide (bo > (0 : Int)) && bits BinOp.and IntKind.i64 (hasI kd) (2 : Int) == (0 : Int) else bif decide (sq > (0 : Int)) then bif bits BinOp.and IntKind.i64 (hasI kd) (4 : Int) == (0 : Int) then bits BinOp.and IntKind.i64 (hasI kd) (4 : Int) == (0 : Int) else decide (ak > (0 : Int)) && bits BinOp.and IntKind.i64 (hasI kd) (8 : Int) == (0 : Int) else decide (ak > (0 : Int)) && bits BinOp.and IntKind.i64 (hasI kd) (8 : Int) == (0 : Int)) (Tree.ret ((SV.si IntKind.i64 ((2 : Int))), [])) (Tree.ret ((SV.si IntKind.i64 ((0 : Int))), []))))))))))))))) := by kernel_rfl
theorem check_run (kd to fr hp ep bo sq ak : Int) (bb_nl : Bool) (bb : List D) : (callG tab (envOf (P := Try.prog) [has_pc] [] []) 20 12 30 [SV.agg [SV.si IntKind.i64 kd, SV.si IntKind.i64 to, SV.si IntKind.i64 fr, SV.si IntKind.i64 hp, SV.si IntKind.i64 ep, SV.si IntKind.i64 bo, SV.si IntKind.i64 sq, SV.si IntKind.i64 ak, SV.lst (.int .u8) bb_nl bb]] []).run = some ((.si .i64 (bif segB kd to fr hp ep bo sq ak bb.length then 0 else 2) : SV), []) := by
  rw [check_tree]
  refine need_case rfl ?_
  generalize bb.length = n
  simp only [cond_bool, bne, hasB_dec, has_1, has_2, has_4, has_8, has_16, has_32, has_64]
  rcases has_cases kd with (rfl | rfl | rfl | rfl | rfl) | ⟨⟨e1, e2⟩, h1, h2, h3, h4, h5⟩
  · rw [segB_1]
    repeat' (refine ite_case (fun h_ => ?_) (fun h_ => ?_) <;> simp at h_)
    all_goals first | exact leaf2 (decide_eq_false (by omega)) | exact leaf0 (decide_eq_true (by omega))
  · rw [segB_2]
    repeat' (refine ite_case (fun h_ => ?_) (fun h_ => ?_) <;> simp at h_)
    all_goals first | exact leaf2 (decide_eq_false (by omega)) | exact leaf0 (decide_eq_true (by omega))
  · rw [segB_3]
    repeat' (refine ite_case (fun h_ => ?_) (fun h_ => ?_) <;> simp at h_)
    all_goals first | exact leaf2 (decide_eq_false (by omega)) | exact leaf0 (decide_eq_true (by omega))
  · rw [segB_4]
    repeat' (refine ite_case (fun h_ => ?_) (fun h_ => ?_) <;> simp at h_)
    all_goals first | exact leaf2 (decide_eq_false (by omega)) | exact leaf0 (decide_eq_true (by omega))
  · rw [segB_5]
    repeat' (refine ite_case (fun h_ => ?_) (fun h_ => ?_) <;> simp at h_)
    all_goals first | exact leaf2 (decide_eq_false (by omega)) | exact leaf0 (decide_eq_true (by omega))
  · rw [segB_0 h1 h2 h3 h4 h5]
    repeat' (refine ite_case (fun h_ => ?_) (fun h_ => ?_) <;> simp [h1, h2, h3, h4, h5] at h_)
    all_goals first | exact leaf2 rfl | (exfalso; omega)
def check_spec : PSpec := ⟨[(.agg [(.int .i64), (.int .i64), (.int .i64), (.int .i64), (.int .i64), (.int .i64), (.int .i64), (.int .i64), (.list (.int .u8))])], fun
  | [.a [.i kd, .i to, .i fr, .i hp, .i ep, .i bo, .i sq, .i ak, .l bb_nl bb]] => some (true, .si .i64 (bif segB kd to fr hp ep bo sq ak bb.length then 0 else 2))
  | _ => none⟩
noncomputable def check_pc : PC Try.prog := PC.run2 (T := tab) follows 20 12 30 check_spec (by
  intro ds pre r h hp
  unfold check_spec at h
  simp only at h
  split at h
  · rename_i kd to fr hp ep bo sq ak bb_nl bb
    simp only [Option.some.injEq, Prod.mk.injEq] at h
    obtain ⟨hq, rfl⟩ := h
    exact ⟨_, _, envOf_good _ _ _, check_run kd to fr hp ep bo sq ak bb_nl bb, rfl⟩
  · cases h) (enters_of Try.func30 rfl (by kernel_rfl))
end Go.Proofs.Ytdfdjikkgmclfaa
