/-
  Functions of the program, by their runs.
  No statement of the seat is proved here. Conditions: none.
-/
import Derived.Test.YtkcadajkgeakhaaY25
import Derived.Test.YtkcadajkgeakhaaTab08
import Derived.Test.YtkcadajkgeakhaaM08
import Derived.Test.YtkcadajkgeakhaaD08
set_option linter.unusedSimpArgs false
set_option linter.unusedVariables false
set_option maxRecDepth 100000
namespace Go.Proofs.Ytkcadajkgeakhaa
open Go.Sy Go.RowKit
def bringI (i n : Int) : Int := bif decide (Int.tmod i n < 0) then IntKind.wrap .i64 (Int.tmod i n + n) else Int.tmod i n
theorem bring_tree (i n : Int) : callG tab (envOf (P := Try.prog) [] [] []) 20 12 13 [SV.si IntKind.i64 i, SV.si IntKind.i64 n] [] =
    (Tree.need (!n == (0 : Int)) (Tree.ite (decide (Int.tmod i n < (0 : Int))) (Tree.ret ((SV.si IntKind.i64 (IntKind.wrap IntKind.i64 (Int.tmod i n + n))), [])) (Tree.ret ((SV.si IntKind.i64 (Int.tmod i n)), [])))) := by kernel_rfl
theorem bring_run (i n : Int) (hpre : (!n == 0) = true) : (callG tab (envOf (P := Try.prog) [] [] []) 20 12 13 [SV.si IntKind.i64 i, SV.si IntKind.i64 n] []).run = some ((.si .i64 (bringI i n) : SV), []) := by
  rw [bring_tree]
  simp only [Tree.run_ret', Tree.run_need', Tree.run_ite']
  rw [hpre]
  simp only [cond_true, bringI]
  cases decide (Int.tmod i n < 0) <;> rfl
def bring_spec : PSpec := ⟨[(.int .i64), (.int .i64)], fun
  | [.i i, .i n] => some (!n == 0, .si .i64 (bringI i n))
  | _ => none⟩
noncomputable def bring_pc : PC Try.prog := PC.run2 (T := tab) follows 20 12 13 bring_spec (by
  intro ds pre r h hp
  unfold bring_spec at h
  simp only at h
  split at h
  · rename_i i n
    simp only [Option.some.injEq, Prod.mk.injEq] at h
    obtain ⟨hq, rfl⟩ := h
    exact ⟨_, _, envOf_good _ _ _, bring_run i n (hq.trans hp), rfl⟩
  · cases h) (enters_of Try.func13 rfl (by kernel_rfl))
noncomputable def snd0_tm (l_nl : Bool) (l : List D) (h0 h1 h2 i : Int) (l2_nl : Bool) (l2 : List D) : St :=
  ⟨(Tm.at 143 [(0, (Slot.is (SV.lst (Sh.agg [(Sh.int IntKind.i64), (Sh.int IntKind.i64), (Sh.int IntKind.i64), (Sh.int IntKind.i64)]) (l_nl) (l)))), (3, (Slot.is (SV.ref 0 0))), (5, (Slot.is (SV.ref 1 0))), (6, (Slot.is (SV.si IntKind.i64 (i))))]), [(Option.some (Blk.mk (Con.cells [(SV.si IntKind.u8 (h0)), (SV.si IntKind.u8 (h1)), (SV.si IntKind.u8 (h2))]) 23 (false))), (Option.some (Blk.mk (Con.cells [(SV.li IntKind.i64 (1)), (SV.li IntKind.i64 (0)), (SV.li IntKind.i64 (0)), (SV.li IntKind.i64 (0)), (SV.li IntKind.i64 (0)), (SV.li IntKind.i64 (0)), (SV.li IntKind.u8 (0)), (SV.li IntKind.u8 (0)), (SV.li IntKind.u8 (0)), (SV.li IntKind.u8 (0)), (SV.li IntKind.u8 (0)), (SV.li IntKind.u8 (0)), (SV.own 2)]) 28 (false))), (Option.some (Blk.mk (Con.rows (Sh.agg [(Sh.int IntKind.i64), (Sh.int IntKind.i64), (Sh.int IntKind.i64), (Sh.int IntKind.i64)]) (l2_nl) (l2)) 42 (false)))]⟩
def snd0_lp : LP := { base := 2, mv := [], mask := 105, maskX := 40, nm := 64, nb := [], kl := [], klX := [], ow := [⟨some 1, 12, (.agg [.int .i64, .int .i64, .int .i64, .int .i64]), 42⟩] }
noncomputable def snd0_x0 (l_nl : Bool) (l : List D) (h0 h1 h2 i : Int) (l2_nl : Bool) (l2 : List D) : St :=
  ⟨(Tm.at 143 [(3, (Slot.is (SV.ref 0 0))), (5, (Slot.is (SV.ref 1 0)))]), [(Option.some (Blk.mk (Con.cells [(SV.si IntKind.u8 (h0)), (SV.si IntKind.u8 (h1)), (SV.si IntKind.u8 (h2))]) 23 (false))), (Option.some (Blk.mk (Con.cells [(SV.li IntKind.i64 (1)), (SV.li IntKind.i64 (0)), (SV.li IntKind.i64 (0)), (SV.li IntKind.i64 (0)), (SV.li IntKind.i64 (0)), (SV.li IntKind.i64 (0)), (SV.li IntKind.u8 (0)), (SV.li IntKind.u8 (0)), (SV.li IntKind.u8 (0)), (SV.li IntKind.u8 (0)), (SV.li IntKind.u8 (0)), (SV.li IntKind.u8 (0)), (SV.own 2)]) 28 (false))), (Option.some (Blk.mk (Con.rows (Sh.agg [(Sh.int IntKind.i64), (Sh.int IntKind.i64), (Sh.int IntKind.i64), (Sh.int IntKind.i64)]) (l2_nl) (l2)) 42 (false)))]⟩
theorem snd0_round (l_nl : Bool) (l : List D) (h0 h1 h2 i : Int) (l2_nl : Bool) (l2 : List D) : roundC (bodyF tab (envOf (P := Try.prog) [bring_pc] [] []) 20 12 5 0 (loopOf (codeOf Try.f5) 0)) snd0_lp (snd0_tm l_nl l h0 h1 h2 i l2_nl l2) =
    (Tree.ite (decide (i < (↑(List.length l) : Int)) && decide (i < (8 : Int))) (Tree.need (decide ((0 : Int) ≤ i) && decide (i < (↑(List.length l) : Int))) (Tree.need (!(3 : Int) == (0 : Int)) (Tree.need (decide ((0 : Int) ≤ i) && decide (i < (↑(List.length l) : Int))) (Tree.need (!(4 : Int) == (0 : Int)) (Tree.need (decide ((0 : Int) ≤ i) && decide (i < (↑(List.length l) : Int))) (Tree.need (!(4 : Int) == (0 : Int)) (Tree.need (decide ((0 : Int) ≤ i) && decide (i < (↑(List.length l) : Int))) (Tree.need (!(4 : Int) == (0 : Int)) (Tree.need (decide ((List.length l2 + (1 : Nat)) * (32 : Nat) ≤ (140737488355328 : Nat)) && decide (List.length l2 + (1 : Nat) ≤ (4611686018427387904 : Nat))) (Tree.ret (Ex.normal, (snd0_tm (l_nl) (l) (h0) (h1) (h2) (IntKind.wrap IntKind.i64 (i + (1 : Int))) (l2_nl && false) (l2 ++ [D.a [D.i (bringI (D.int (D.at (List.getD l (Int.toNat i) default) (0 : Nat))) (3 : Int)), D.i (IntKind.wrap IntKind.i64 (bringI (D.int (D.at (List.getD l (Int.toNat i) default) (1 : Nat))) (4 : Int) - (1 : Int))), D.i (IntKind.wrap IntKind.i64 (bringI (D.int (D.at (List.getD l (Int.toNat i) default) (2 : Nat))) (4 : Int) - (1 : Int))), D.i (IntKind.wrap IntKind.i64 (bringI (D.int (D.at (List.getD l (Int.toNat i) default) (3 : Nat))) (4 : Int) - (1 : Int)))]]))))))))))))) (Tree.ret ((Ex.exit 0), (snd0_x0 (l_nl) (l) (h0) (h1) (h2) (i) (l2_nl) (l2))))) := by kernel_rfl
/-- An output, brought to be such. -/
def brO (o : D) : D := .a [.i (bringI (o.at 0).int 3), .i (IntKind.wrap .i64 (bringI (o.at 1).int 4 - 1)), .i (IntKind.wrap .i64 (bringI (o.at 2).int 4 - 1)), .i (IntKind.wrap .i64 (bringI (o.at 3).int 4 - 1))]
def brL (l : List D) : List D := (l.take 8).map brO
noncomputable def snd0_res (l_nl : Bool) (l : List D) (h0 h1 h2 : Int) (i : Int) (l2_nl : Bool) (l2 : List D) : Tree (Ex × St) := .need (decide (i = 0) && (l2.isEmpty && l2_nl)) (.ret (.exit 0, snd0_x0 l_nl l h0 h1 h2 ((l.take 8).length : Nat) (brL l).isEmpty (brL l)))
theorem fold_snoc {f : D → D} : ∀ (l out : List D), l.foldl (fun o x => o ++ [f x]) out = out ++ l.map f
  | [], out => by simp
  | a :: r, out => by simp [fold_snoc r]
theorem snd0_ok (l_nl : Bool) (l : List D) (h0 h1 h2 : Int) (i : Int) (l2_nl : Bool) (l2 : List D) (ex : Ex) (st' : St) (hrun_ : (snd0_res l_nl l h0 h1 h2 i l2_nl l2).run = some (ex, st')) : ∃ n, iterC (roundC (bodyF tab (envOf (P := Try.prog) [bring_pc] [] []) 20 12 5 0 (loopOf (codeOf Try.f5) 0)) snd0_lp) n (snd0_tm l_nl l h0 h1 h2 i l2_nl l2) = some (ex, st') := by
  obtain ⟨hp_, h_⟩ := Tree.run_need hrun_
  simp only [Bool.and_eq_true, decide_eq_true_eq] at hp_
  obtain ⟨e_, e1_, e2_⟩ := hp_
  simp only [Tree.run, Option.some.injEq, Prod.mk.injEq] at h_
  obtain ⟨rfl, rfl⟩ := h_
  subst e_
  have e3_ : l2 = [] := by simpa using e1_
  subst e3_
  subst e2_
  have main_ := fold_loop0 (B := roundC (bodyF tab (envOf (P := Try.prog) [bring_pc] [] []) 20 12 5 0 (loopOf (codeOf Try.f5) 0)) snd0_lp) (tm := fun t_ (o_ : List D) => snd0_tm l_nl l h0 h1 h2 t_ o_.isEmpty o_) (s := l.take 8) (g := fun o x => o ++ [brO x]) (fin := fun o_ => (.exit 0, snd0_x0 l_nl l h0 h1 h2 ((l.take 8).length : Nat) o_.isEmpty o_)) (I := fun k o => o.length ≤ k) (x := []) (by simp) ?_ ?_ (fun _ => by simp)
  · rw [fold_snoc, List.nil_append] at main_
    exact main_
  · intro k_ x_ hk_ hi_
    refine ⟨?_, by simp; omega⟩
    have hk2_ : k_ < l.length ∧ k_ < 8 := by simp at hk_; omega
    have d0_ : decide ((k_ : Int) < 8) = true := by simp; omega
    have d1_ : decide ((k_ : Int) < (l.length : Nat)) = true := by simp; omega
    have d2_ : decide ((0 : Int) ≤ (k_ : Int)) = true := by simp
    have d3_ : decide ((x_.length + 1) * 32 ≤ 140737488355328) = true := by simp; omega
    have d4_ : decide (x_.length + 1 ≤ 4611686018427387904) = true := by simp; omega
    have d5_ : (l.take 8).getD k_ default = l.getD k_ default := by rw [getD_at hk_, getD_at hk2_.1]; simp
    rw [snd0_round, d5_]
    simp only [Tree.run_ret', Tree.run_need', Tree.run_ite', d0_, d1_, d2_, d3_, d4_, Bool.and_self, cond_true, Int.toNat_natCast, wrap64 (n := (k_ : Int) + 1) (by omega) (by omega), emp_snoc, Bool.and_false]
    rfl
  · intro x_ hi_
    have d1_ : (decide ((((l.take 8).length : Nat) : Int) < (l.length : Nat)) && decide ((((l.take 8).length : Nat) : Int) < 8)) = false := by simp; omega
    simp only [snd0_round, Tree.run_ite', d1_]
    rfl
noncomputable def snd0_run (l_nl : Bool) (l : List D) (h0 h1 h2 : Int) (st : St) : Tree (Ex × St) := .need (chkSt st (snd0_tm l_nl l h0 h1 h2 (iOf (slotV st 6)) (nlOf (rowsV st 2)) (xsOf (rowsV st 2)))) (snd0_res l_nl l h0 h1 h2 (iOf (slotV st 6)) (nlOf (rowsV st 2)) (xsOf (rowsV st 2)))
noncomputable def snd0_lc (l_nl : Bool) (l : List D) (h0 h1 h2 : Int) : LC Try.prog := LC.of (T := tab) follows (envOf_good _ _ _) 20 12 5 0 Try.f5 Try.func5 (codeOf Try.f5) (loopOf (codeOf Try.f5) 0) (by kernel_rfl) (by kernel_rfl) snd0_lp (snd0_run l_nl l h0 h1 h2)
  (inner_loops (c := codeOf Try.f5) Try.func5 (by kernel_rfl) (by kernel_rfl))
  (by
    intro st ex st' h
    obtain ⟨hc, h⟩ := Tree.run_need h
    have e := chk_iff.1 hc
    have := snd0_ok l_nl l h0 h1 h2 _ _ _ ex st' h
    rw [← e] at this
    exact this)
noncomputable def snd2_tm (l_nl : Bool) (l : List D) (h0 h1 h2 at_ i : Int) : St :=
  ⟨(Tm.at 143 [(3, (Slot.is (SV.ref 0 0))), (5, (Slot.is (SV.ref 1 0))), (9, (Slot.is (SV.own 3))), (10, (Slot.is (SV.si IntKind.i64 (at_)))), (11, (Slot.is (SV.si IntKind.i64 (i))))]), [(Option.some (Blk.mk (Con.cells [(SV.si IntKind.u8 (h0)), (SV.si IntKind.u8 (h1)), (SV.si IntKind.u8 (h2))]) 23 (false))), (Option.some (Blk.mk (Con.cells [(SV.li IntKind.i64 (1)), (SV.li IntKind.i64 (0)), (SV.li IntKind.i64 (0)), (SV.li IntKind.i64 (0)), (SV.li IntKind.i64 (0)), (SV.li IntKind.i64 (0)), (SV.li IntKind.u8 (0)), (SV.li IntKind.u8 (0)), (SV.li IntKind.u8 (0)), (SV.li IntKind.u8 (0)), (SV.li IntKind.u8 (0)), (SV.li IntKind.u8 (0)), (SV.own 2)]) 28 (false))), (Option.some (Blk.mk (Con.rows (Sh.agg [(Sh.int IntKind.i64), (Sh.int IntKind.i64), (Sh.int IntKind.i64), (Sh.int IntKind.i64)]) (List.isEmpty (brL l)) (brL l)) 42 (false))), (Option.some (Blk.mk (Con.rows (Sh.agg [(Sh.int IntKind.i64), (Sh.int IntKind.u8), (Sh.int IntKind.u8), (Sh.int IntKind.u8)]) (List.isEmpty (doesL h0 h1 h2 (brL l))) (doesL h0 h1 h2 (brL l))) 44 (false)))]⟩
def snd2_lp : LP := { base := 4, mv := [], mask := 3624, maskX := 1592, nm := 3072, nb := [], kl := [], klX := [], ow := [] }
noncomputable def snd4_tm (l_nl : Bool) (l : List D) (h0 h1 h2 at_ i : Int) (ahead : Bool) (k b12_0 b12_1 b12_2 b12_3 : Int) : St :=
  ⟨(Tm.at 143 [(3, (Slot.is (SV.ref 0 0))), (5, (Slot.is (SV.ref 1 0))), (9, (Slot.is (SV.own 3))), (10, (Slot.is (SV.si IntKind.i64 (at_)))), (11, (Slot.is (SV.si IntKind.i64 (i)))), (12, (Slot.is (SV.ref 12 0))), (14, (Slot.is (SV.sb (ahead)))), (15, (Slot.is (SV.si IntKind.i64 (k))))]), [(Option.some (Blk.mk (Con.cells [(SV.si IntKind.u8 (h0)), (SV.si IntKind.u8 (h1)), (SV.si IntKind.u8 (h2))]) 23 (false))), (Option.some (Blk.mk (Con.cells [(SV.li IntKind.i64 (1)), (SV.li IntKind.i64 (0)), (SV.li IntKind.i64 (0)), (SV.li IntKind.i64 (0)), (SV.li IntKind.i64 (0)), (SV.li IntKind.i64 (0)), (SV.li IntKind.u8 (0)), (SV.li IntKind.u8 (0)), (SV.li IntKind.u8 (0)), (SV.li IntKind.u8 (0)), (SV.li IntKind.u8 (0)), (SV.li IntKind.u8 (0)), (SV.own 2)]) 28 (false))), (Option.some (Blk.mk (Con.rows (Sh.agg [(Sh.int IntKind.i64), (Sh.int IntKind.i64), (Sh.int IntKind.i64), (Sh.int IntKind.i64)]) (List.isEmpty (brL l)) (brL l)) 42 (false))), (Option.some (Blk.mk (Con.rows (Sh.agg [(Sh.int IntKind.i64), (Sh.int IntKind.u8), (Sh.int IntKind.u8), (Sh.int IntKind.u8)]) (List.isEmpty (doesL h0 h1 h2 (brL l))) (doesL h0 h1 h2 (brL l))) 44 (false))), Option.none, Option.none, Option.none, Option.none, Option.none, Option.none, Option.none, Option.none, (Option.some (Blk.mk (Con.cells [(SV.si IntKind.i64 (b12_0)), (SV.si IntKind.u8 (b12_1)), (SV.si IntKind.u8 (b12_2)), (SV.si IntKind.u8 (b12_3))]) 44 (false)))]⟩
def snd4_lp : LP := { base := 13, mv := [], mask := 56872, maskX := 24104, nm := 49152, nb := [12], kl := [], klX := [4, 5, 6, 7, 8, 9, 10, 11], ow := [] }
noncomputable def snd4_x0 (l_nl : Bool) (l : List D) (h0 h1 h2 at_ i : Int) (ahead : Bool) (k b12_0 b12_1 b12_2 b12_3 : Int) : St :=
  ⟨(Tm.at 143 [(3, (Slot.is (SV.ref 0 0))), (5, (Slot.is (SV.ref 1 0))), (9, (Slot.is (SV.own 3))), (10, (Slot.is (SV.si IntKind.i64 (at_)))), (11, (Slot.is (SV.si IntKind.i64 (i)))), (12, (Slot.is (SV.ref 12 0))), (14, (Slot.is (SV.sb (ahead))))]), [(Option.some (Blk.mk (Con.cells [(SV.si IntKind.u8 (h0)), (SV.si IntKind.u8 (h1)), (SV.si IntKind.u8 (h2))]) 23 (false))), (Option.some (Blk.mk (Con.cells [(SV.li IntKind.i64 (1)), (SV.li IntKind.i64 (0)), (SV.li IntKind.i64 (0)), (SV.li IntKind.i64 (0)), (SV.li IntKind.i64 (0)), (SV.li IntKind.i64 (0)), (SV.li IntKind.u8 (0)), (SV.li IntKind.u8 (0)), (SV.li IntKind.u8 (0)), (SV.li IntKind.u8 (0)), (SV.li IntKind.u8 (0)), (SV.li IntKind.u8 (0)), (SV.own 2)]) 28 (false))), (Option.some (Blk.mk (Con.rows (Sh.agg [(Sh.int IntKind.i64), (Sh.int IntKind.i64), (Sh.int IntKind.i64), (Sh.int IntKind.i64)]) (List.isEmpty (brL l)) (brL l)) 42 (false))), (Option.some (Blk.mk (Con.rows (Sh.agg [(Sh.int IntKind.i64), (Sh.int IntKind.u8), (Sh.int IntKind.u8), (Sh.int IntKind.u8)]) (List.isEmpty (doesL h0 h1 h2 (brL l))) (doesL h0 h1 h2 (brL l))) 44 (false))), Option.none, Option.none, Option.none, Option.none, Option.none, Option.none, Option.none, Option.none, (Option.some (Blk.mk (Con.cells [(SV.si IntKind.i64 (b12_0)), (SV.si IntKind.u8 (b12_1)), (SV.si IntKind.u8 (b12_2)), (SV.si IntKind.u8 (b12_3))]) 44 (false)))]⟩
theorem snd4_round (l_nl : Bool) (l : List D) (h0 h1 h2 at_ i : Int) (ahead : Bool) (k b12_0 b12_1 b12_2 b12_3 : Int) : roundC (bodyF tab (envOf (P := Try.prog) [bring_pc, works_pc] [doesK_ct] [(snd0_lc l_nl l h0 h1 h2)]) 20 12 5 4 (loopOf (codeOf Try.f5) 4)) snd4_lp (snd4_tm l_nl l h0 h1 h2 at_ i ahead k b12_0 b12_1 b12_2 b12_3) =
    (Tree.ite (decide (k < at_)) (Tree.need (bif ahead then true else decide ((0 : Int) ≤ k) && decide (k < (↑(List.length (doesL h0 h1 h2 (brL l))) : Int)) && true) (Tree.ret (Ex.normal, (snd4_tm (l_nl) (l) (h0) (h1) (h2) (at_) (i) (ahead || D.int (D.at (List.getD (doesL h0 h1 h2 (brL l)) (Int.toNat k) default) (0 : Nat)) == b12_0 && (D.int (D.at (List.getD (doesL h0 h1 h2 (brL l)) (Int.toNat k) default) (1 : Nat)) == b12_1 && (D.int (D.at (List.getD (doesL h0 h1 h2 (brL l)) (Int.toNat k) default) (2 : Nat)) == b12_2 && (D.int (D.at (List.getD (doesL h0 h1 h2 (brL l)) (Int.toNat k) default) (3 : Nat)) == b12_3 && true)) && true)) (IntKind.wrap IntKind.i64 (k + (1 : Int))) (b12_0) (b12_1) (b12_2) (b12_3))))) (Tree.ret ((Ex.exit 8), (snd4_x0 (l_nl) (l) (h0) (h1) (h2) (at_) (i) (ahead) (k) (b12_0) (b12_1) (b12_2) (b12_3))))) := by kernel_rfl
/-- Is one among the first ones? -/
def amidst (h0 h1 h2 : Int) (l : List D) (at_ x0 x1 x2 x3 : Int) : Bool := ((doesL h0 h1 h2 (brL l)).take at_.toNat).any (eqT x0 x1 x2 x3)
noncomputable def snd4_res (l_nl : Bool) (l : List D) (h0 h1 h2 : Int) (at_ i : Int) (ahead : Bool) (k b12_0 b12_1 b12_2 b12_3 : Int) : Tree (Ex × St) := .need (decide (k = 0) && (!ahead && (decide (0 ≤ at_) && decide (at_ ≤ ((doesL h0 h1 h2 (brL l)).length : Nat))))) (.ret (.exit 8, snd4_x0 l_nl l h0 h1 h2 at_ i (amidst h0 h1 h2 l at_ b12_0 b12_1 b12_2 b12_3) at_ b12_0 b12_1 b12_2 b12_3))
theorem brL_length (l : List D) : (brL l).length ≤ 8 := by simp [brL]; omega
theorem fold_any {f : D → Bool} : ∀ (l : List D) (b : Bool), l.foldl (fun o x => o || f x) b = (b || l.any f)
  | [], b => by simp
  | a :: r, b => by simp [fold_any r, Bool.or_assoc]
theorem snd4_ok (l_nl : Bool) (l : List D) (h0 h1 h2 : Int) (at_ i : Int) (ahead : Bool) (k b12_0 b12_1 b12_2 b12_3 : Int) (ex : Ex) (st' : St) (hrun_ : (snd4_res l_nl l h0 h1 h2 at_ i ahead k b12_0 b12_1 b12_2 b12_3).run = some (ex, st')) : ∃ n, iterC (roundC (bodyF tab (envOf (P := Try.prog) [bring_pc, works_pc] [doesK_ct] [(snd0_lc l_nl l h0 h1 h2)]) 20 12 5 4 (loopOf (codeOf Try.f5) 4)) snd4_lp) n (snd4_tm l_nl l h0 h1 h2 at_ i ahead k b12_0 b12_1 b12_2 b12_3) = some (ex, st') := by
  obtain ⟨hp_, h_⟩ := Tree.run_need hrun_
  simp only [Bool.and_eq_true, decide_eq_true_eq, Bool.not_eq_true'] at hp_
  obtain ⟨e_, e1_, g0_, g1_⟩ := hp_
  simp only [Tree.run, Option.some.injEq, Prod.mk.injEq] at h_
  obtain ⟨rfl, rfl⟩ := h_
  subst e_
  subst e1_
  have dl_ : (doesL h0 h1 h2 (brL l)).length ≤ 8 := Nat.le_trans (doesL_length _ _ _ _) (brL_length l)
  have tl_ : ((doesL h0 h1 h2 (brL l)).take at_.toNat).length = at_.toNat := by simp; omega
  have main_ := fold_loop0 (B := roundC (bodyF tab (envOf (P := Try.prog) [bring_pc, works_pc] [doesK_ct] [(snd0_lc l_nl l h0 h1 h2)]) 20 12 5 4 (loopOf (codeOf Try.f5) 4)) snd4_lp) (tm := fun t_ (o_ : Bool) => snd4_tm l_nl l h0 h1 h2 at_ i o_ t_ b12_0 b12_1 b12_2 b12_3) (s := (doesL h0 h1 h2 (brL l)).take at_.toNat) (g := fun o x => o || eqT b12_0 b12_1 b12_2 b12_3 x) (fin := fun o_ => (.exit 8, snd4_x0 l_nl l h0 h1 h2 at_ i o_ at_ b12_0 b12_1 b12_2 b12_3)) (I := fun k o => True) (x := false) trivial ?_ ?_ (fun _ => by simp)
  · rw [fold_any, Bool.false_or] at main_
    exact main_
  · intro k_ x_ hk_ hi_
    refine ⟨?_, trivial⟩
    have hk2_ : k_ < at_.toNat := by omega
    have hk3_ : k_ < (doesL h0 h1 h2 (brL l)).length := by omega
    have d0_ : decide ((k_ : Int) < at_) = true := by simp; omega
    have d1_ : decide ((k_ : Int) < ((doesL h0 h1 h2 (brL l)).length : Nat)) = true := by simp; omega
    have d2_ : decide ((0 : Int) ≤ (k_ : Int)) = true := by simp
    have d5_ : ((doesL h0 h1 h2 (brL l)).take at_.toNat).getD k_ default = (doesL h0 h1 h2 (brL l)).getD k_ default := by rw [getD_at hk_, getD_at hk3_]; simp
    rw [snd4_round, d5_]
    simp only [Tree.run_ret', Tree.run_need', Tree.run_ite', d0_, d1_, d2_, Bool.and_self, cond_true, Int.toNat_natCast, wrap64 (n := (k_ : Int) + 1) (by omega) (by omega)]
    cases x_ <;> rfl
  · intro x_ hi_
    have d1_ : decide ((((List.take at_.toNat (doesL h0 h1 h2 (brL l))).length : Nat) : Int) < at_) = false := by simp; omega
    have e9_ : (((List.take at_.toNat (doesL h0 h1 h2 (brL l))).length : Nat) : Int) = at_ := by omega
    rw [e9_] at d1_ ⊢
    simp only [snd4_round, Tree.run_ite', d1_]
    rfl
noncomputable def snd4_run (l_nl : Bool) (l : List D) (h0 h1 h2 : Int) (st : St) : Tree (Ex × St) := .need (chkSt st (snd4_tm l_nl l h0 h1 h2 (iOf (slotV st 10)) (iOf (slotV st 11)) (bOf (slotV st 14)) (iOf (slotV st 15)) (iOf (cellV st 12 0)) (iOf (cellV st 12 1)) (iOf (cellV st 12 2)) (iOf (cellV st 12 3)))) (snd4_res l_nl l h0 h1 h2 (iOf (slotV st 10)) (iOf (slotV st 11)) (bOf (slotV st 14)) (iOf (slotV st 15)) (iOf (cellV st 12 0)) (iOf (cellV st 12 1)) (iOf (cellV st 12 2)) (iOf (cellV st 12 3)))
noncomputable def snd4_lc (l_nl : Bool) (l : List D) (h0 h1 h2 : Int) : LC Try.prog := LC.of (T := tab) follows (envOf_good _ _ _) 20 12 5 4 Try.f5 Try.func5 (codeOf Try.f5) (loopOf (codeOf Try.f5) 4) (by kernel_rfl) (by kernel_rfl) snd4_lp (snd4_run l_nl l h0 h1 h2)
  (inner_loops (c := codeOf Try.f5) Try.func5 (by kernel_rfl) (by kernel_rfl))
  (by
    intro st ex st' h
    obtain ⟨hc, h⟩ := Tree.run_need h
    have e := chk_iff.1 hc
    have := snd4_ok l_nl l h0 h1 h2 _ _ _ _ _ _ _ _ ex st' h
    rw [← e] at this
    exact this)
noncomputable def snd2_x0 (l_nl : Bool) (l : List D) (h0 h1 h2 at_ i : Int) : St :=
  ⟨(Tm.at 143 [(3, (Slot.is (SV.ref 0 0))), (4, (Slot.is (SV.lb false))), (5, (Slot.is (SV.ref 1 0))), (9, (Slot.is (SV.own 3))), (10, (Slot.is (SV.si IntKind.i64 (at_))))]), [(Option.some (Blk.mk (Con.cells [(SV.si IntKind.u8 (h0)), (SV.si IntKind.u8 (h1)), (SV.si IntKind.u8 (h2))]) 23 (false))), (Option.some (Blk.mk (Con.cells [(SV.li IntKind.i64 (1)), (SV.li IntKind.i64 (0)), (SV.li IntKind.i64 (0)), (SV.li IntKind.i64 (0)), (SV.li IntKind.i64 (0)), (SV.li IntKind.i64 (0)), (SV.li IntKind.u8 (0)), (SV.li IntKind.u8 (0)), (SV.li IntKind.u8 (0)), (SV.li IntKind.u8 (0)), (SV.li IntKind.u8 (0)), (SV.li IntKind.u8 (0)), (SV.own 2)]) 28 (false))), (Option.some (Blk.mk (Con.rows (Sh.agg [(Sh.int IntKind.i64), (Sh.int IntKind.i64), (Sh.int IntKind.i64), (Sh.int IntKind.i64)]) (List.isEmpty (brL l)) (brL l)) 42 (false))), (Option.some (Blk.mk (Con.rows (Sh.agg [(Sh.int IntKind.i64), (Sh.int IntKind.u8), (Sh.int IntKind.u8), (Sh.int IntKind.u8)]) (List.isEmpty (doesL h0 h1 h2 (brL l))) (doesL h0 h1 h2 (brL l))) 44 (false)))]⟩
noncomputable def snd2_x1 (l_nl : Bool) (l : List D) (h0 h1 h2 at_ i : Int) : St :=
  ⟨(Tm.at 143 [(3, (Slot.is (SV.ref 0 0))), (5, (Slot.is (SV.ref 1 0))), (9, (Slot.is (SV.own 3))), (10, (Slot.is (SV.si IntKind.i64 (at_))))]), [(Option.some (Blk.mk (Con.cells [(SV.si IntKind.u8 (h0)), (SV.si IntKind.u8 (h1)), (SV.si IntKind.u8 (h2))]) 23 (false))), (Option.some (Blk.mk (Con.cells [(SV.li IntKind.i64 (1)), (SV.li IntKind.i64 (0)), (SV.li IntKind.i64 (0)), (SV.li IntKind.i64 (0)), (SV.li IntKind.i64 (0)), (SV.li IntKind.i64 (0)), (SV.li IntKind.u8 (0)), (SV.li IntKind.u8 (0)), (SV.li IntKind.u8 (0)), (SV.li IntKind.u8 (0)), (SV.li IntKind.u8 (0)), (SV.li IntKind.u8 (0)), (SV.own 2)]) 28 (false))), (Option.some (Blk.mk (Con.rows (Sh.agg [(Sh.int IntKind.i64), (Sh.int IntKind.i64), (Sh.int IntKind.i64), (Sh.int IntKind.i64)]) (List.isEmpty (brL l)) (brL l)) 42 (false))), (Option.some (Blk.mk (Con.rows (Sh.agg [(Sh.int IntKind.i64), (Sh.int IntKind.u8), (Sh.int IntKind.u8), (Sh.int IntKind.u8)]) (List.isEmpty (doesL h0 h1 h2 (brL l))) (doesL h0 h1 h2 (brL l))) 44 (false)))]⟩
theorem snd2_round (l_nl : Bool) (l : List D) (h0 h1 h2 at_ i : Int) : roundC (bodyF tab (envOf (P := Try.prog) [bring_pc, works_pc] [doesK_ct] [(snd0_lc l_nl l h0 h1 h2), (snd4_lc l_nl l h0 h1 h2)]) 20 12 5 2 (loopOf (codeOf Try.f5) 2)) snd2_lp (snd2_tm l_nl l h0 h1 h2 at_ i) =
    (Tree.ite (decide (i < (↑(List.length (brL l)) : Int))) (Tree.need (decide ((0 : Int) ≤ i) && decide (i < (↑(List.length (brL l)) : Int))) (Tree.need (decide ((0 : Int) ≤ i) && decide (i < (↑(List.length (brL l)) : Int))) (Tree.ite (decide (D.int (D.at (List.getD (brL l) (Int.toNat i) default) (1 : Nat)) ≥ (0 : Int))) (Tree.need (decide ((0 : Int) ≤ i) && decide (i < (↑(List.length (brL l)) : Int))) (Tree.need (decide ((0 : Int) ≤ i) && decide (i < (↑(List.length (brL l)) : Int))) (Tree.ite (decide (D.int (D.at (List.getD (brL l) (Int.toNat i) default) (2 : Nat)) ≥ (0 : Int))) (Tree.need (decide ((0 : Int) ≤ i) && decide (i < (↑(List.length (brL l)) : Int))) (Tree.need (decide ((0 : Int) ≤ i) && decide (i < (↑(List.length (brL l)) : Int))) (Tree.ite (decide (D.int (D.at (List.getD (brL l) (Int.toNat i) default) (3 : Nat)) ≥ (0 : Int))) (Tree.need (decide ((0 : Int) ≤ i) && decide (i < (↑(List.length (brL l)) : Int))) (Tree.need (chkSt (snd4_tm l_nl l h0 h1 h2 at_ i false (0 : Int) (D.int (D.at (List.getD (brL l) (Int.toNat i) default) (0 : Nat))) (IntKind.wrap IntKind.u8 (D.int (D.at (List.getD (brL l) (Int.toNat i) default) (1 : Nat)))) (IntKind.wrap IntKind.u8 (D.int (D.at (List.getD (brL l) (Int.toNat i) default) (2 : Nat)))) (IntKind.wrap IntKind.u8 (D.int (D.at (List.getD (brL l) (Int.toNat i) default) (3 : Nat))))) (snd4_tm l_nl l h0 h1 h2 at_ i false (0 : Int) (D.int (D.at (List.getD (brL l) (Int.toNat i) default) (0 : Nat))) (IntKind.wrap IntKind.u8 (D.int (D.at (List.getD (brL l) (Int.toNat i) default) (1 : Nat)))) (IntKind.wrap IntKind.u8 (D.int (D.at (List.getD (brL l) (Int.toNat i) default) (2 : Nat)))) (IntKind.wrap IntKind.u8 (D.int (D.at (List.getD (brL l) (Int.toNat i) default) (3 : Nat)))))) (Tree.need (decide ((0 : Int) = (0 : Int)) && (!false && (decide ((0 : Int) ≤ at_) && decide (at_ ≤ (↑(List.length (doesL h0 h1 h2 (brL l))) : Int))))) (Tree.ite (amidst h0 h1 h2 l at_ (D.int (D.at (List.getD (brL l) (Int.toNat i) default) (0 : Nat))) (IntKind.wrap IntKind.u8 (D.int (D.at (List.getD (brL l) (Int.toNat i) default) (1 : Nat)))) (IntKind.wrap IntKind.u8 (D.int (D.at (List.getD (brL l) (Int.toNat i) default) (2 : Nat)))) (IntKind.wrap IntKind.u8 (D.int (D.at (List.getD (brL l) (Int.toNat i) default) (3 : Nat))))) (Tree.ret (Ex.normal, (snd2_tm (l_nl) (l) (h0) (h1) (h2) (at_) (IntKind.wrap IntKind.i64 (i + (1 : Int)))))) (Tree.need (bif decide (at_ ≥ (↑(List.length (doesL h0 h1 h2 (brL l))) : Int)) then true else decide ((0 : Int) ≤ at_) && decide (at_ < (↑(List.length (doesL h0 h1 h2 (brL l))) : Int)) && true) (Tree.ite (decide (at_ ≥ (↑(List.length (doesL h0 h1 h2 (brL l))) : Int)) || !(D.int (D.at (List.getD (doesL h0 h1 h2 (brL l)) (Int.toNat at_) default) (0 : Nat)) == D.int (D.at (List.getD (brL l) (Int.toNat i) default) (0 : Nat)) && (D.int (D.at (List.getD (doesL h0 h1 h2 (brL l)) (Int.toNat at_) default) (1 : Nat)) == IntKind.wrap IntKind.u8 (D.int (D.at (List.getD (brL l) (Int.toNat i) default) (1 : Nat))) && (D.int (D.at (List.getD (doesL h0 h1 h2 (brL l)) (Int.toNat at_) default) (2 : Nat)) == IntKind.wrap IntKind.u8 (D.int (D.at (List.getD (brL l) (Int.toNat i) default) (2 : Nat))) && (D.int (D.at (List.getD (doesL h0 h1 h2 (brL l)) (Int.toNat at_) default) (3 : Nat)) == IntKind.wrap IntKind.u8 (D.int (D.at (List.getD (brL l) (Int.toNat i) default) (3 : Nat))) && true)) && true))) (Tree.ret (Ex.ret, (snd2_x0 (l_nl) (l) (h0) (h1) (h2) (at_) (i)))) (Tree.ret (Ex.normal, (snd2_tm (l_nl) (l) (h0) (h1) (h2) (IntKind.wrap IntKind.i64 (at_ + (1 : Int))) (IntKind.wrap IntKind.i64 (i + (1 : Int)))))))))))) (Tree.need (chkSt (snd4_tm l_nl l h0 h1 h2 at_ i false (0 : Int) (D.int (D.at (List.getD (brL l) (Int.toNat i) default) (0 : Nat))) (IntKind.wrap IntKind.u8 (D.int (D.at (List.getD (brL l) (Int.toNat i) default) (1 : Nat)))) (IntKind.wrap IntKind.u8 (D.int (D.at (List.getD (brL l) (Int.toNat i) default) (2 : Nat)))) h2) (snd4_tm l_nl l h0 h1 h2 at_ i false (0 : Int) (D.int (D.at (List.getD (brL l) (Int.toNat i) default) (0 : Nat))) (IntKind.wrap IntKind.u8 (D.int (D.at (List.getD (brL l) (Int.toNat i) default) (1 : Nat)))) (IntKind.wrap IntKind.u8 (D.int (D.at (List.getD (brL l) (Int.toNat i) default) (2 : Nat)))) h2)) (Tree.need (decide ((0 : Int) = (0 : Int)) && (!false && (decide ((0 : Int) ≤ at_) && decide (at_ ≤ (↑(List.length (doesL h0 h1 h2 (brL l))) : Int))))) (Tree.ite (amidst h0 h1 h2 l at_ (D.int (D.at (List.getD (brL l) (Int.toNat i) default) (0 : Nat))) (IntKind.wrap IntKind.u8 (D.int (D.at (List.getD (brL l) (Int.toNat i) default) (1 : Nat)))) (IntKind.wrap IntKind.u8 (D.int (D.at (List.getD (brL l) (Int.toNat i) default) (2 : Nat)))) h2) (Tree.ret (Ex.normal, (snd2_tm (l_nl) (l) (h0) (h1) (h2) (at_) (IntKind.wrap IntKind.i64 (i + (1 : Int)))))) (Tree.need (bif decide (at_ ≥ (↑(List.length (doesL h0 h1 h2 (brL l))) : Int)) then true else decide ((0 : Int) ≤ at_) && decide (at_ < (↑(List.length (doesL h0 h1 h2 (brL l))) : Int)) && true) (Tree.ite (decide (at_ ≥ (↑(List.length (doesL h0 h1 h2 (brL l))) : Int)) || !(D.int (D.at (List.getD (doesL h0 h1 h2 (brL l)) (Int.toNat at_) default) (0 : Nat)) == D.int (D.at (List.getD (brL l) (Int.toNat i) default) (0 : Nat)) && (D.int (D.at (List.getD (doesL h0 h1 h2 (brL l)) (Int.toNat at_) default) (1 : Nat)) == IntKind.wrap IntKind.u8 (D.int (D.at (List.getD (brL l) (Int.toNat i) default) (1 : Nat))) && (D.int (D.at (List.getD (doesL h0 h1 h2 (brL l)) (Int.toNat at_) default) (2 : Nat)) == IntKind.wrap IntKind.u8 (D.int (D.at (List.getD (brL l) (Int.toNat i) default) (2 : Nat))) && (D.int (D.at (List.getD (doesL h0 h1 h2 (brL l)) (Int.toNat at_) default) (3 : Nat)) == h2 && true)) && true))) (Tree.ret (Ex.ret, (snd2_x0 (l_nl) (l) (h0) (h1) (h2) (at_) (i)))) (Tree.ret (Ex.normal, (snd2_tm (l_nl) (l) (h0) (h1) (h2) (IntKind.wrap IntKind.i64 (at_ + (1 : Int))) (IntKind.wrap IntKind.i64 (i + (1 : Int)))))))))))))) (Tree.need (decide ((0 : Int) ≤ i) && decide (i < (↑(List.length (brL l)) : Int))) (Tree.ite (decide (D.int (D.at (List.getD (brL l) (Int.toNat i) default) (3 : Nat)) ≥ (0 : Int))) (Tree.need (decide ((0 : Int) ≤ i) && decide (i < (↑(List.length (brL l)) : Int))) (Tree.need (chkSt (snd4_tm l_nl l h0 h1 h2 at_ i false (0 : Int) (D.int (D.at (List.getD (brL l) (Int.toNat i) default) (0 : Nat))) (IntKind.wrap IntKind.u8 (D.int (D.at (List.getD (brL l) (Int.toNat i) default) (1 : Nat)))) h1 (IntKind.wrap IntKind.u8 (D.int (D.at (List.getD (brL l) (Int.toNat i) default) (3 : Nat))))) (snd4_tm l_nl l h0 h1 h2 at_ i false (0 : Int) (D.int (D.at (List.getD (brL l) (Int.toNat i) default) (0 : Nat))) (IntKind.wrap IntKind.u8 (D.int (D.at (List.getD (brL l) (Int.toNat i) default) (1 : Nat)))) h1 (IntKind.wrap IntKind.u8 (D.int (D.at (List.getD (brL l) (Int.toNat i) default) (3 : Nat)))))) (Tree.need (decide ((0 : Int) = (0 : Int)) && (!false && (decide ((0 : Int) ≤ at_) && decide (at_ ≤ (↑(List.length (doesL h0 h1 h2 (brL l))) : Int))))) (Tree.ite (amidst h0 h1 h2 l at_ (D.int (D.at (List.getD (brL l) (Int.toNat i) default) (0 : Nat))) (IntKind.wrap IntKind.u8 (D.int (D.at (List.getD (brL l) (Int.toNat i) default) (1 : Nat)))) h1 (IntKind.wrap IntKind.u8 (D.int (D.at (List.getD (brL l) (Int.toNat i) default) (3 : Nat))))) (Tree.ret (Ex.normal, (snd2_tm (l_nl) (l) (h0) (h1) (h2) (at_) (IntKind.wrap IntKind.i64 (i + (1 : Int)))))) (Tree.need (bif decide (at_ ≥ (↑(List.length (doesL h0 h1 h2 (brL l))) : Int)) then true else decide ((0 : Int) ≤ at_) && decide (at_ < (↑(List.length (doesL h0 h1 h2 (brL l))) : Int)) && true) (Tree.ite (decide (at_ ≥ (↑(List.length (doesL h0 h1 h2 (brL l))) : Int)) || !(D.int (D.at (List.getD (doesL h0 h1 h2 (brL l)) (Int.toNat at_) default) (0 : Nat)) == D.int (D.at (List.getD (brL l) (Int.toNat i) default) (0 : Nat)) && (D.int (D.at (List.getD (doesL h0 h1 h2 (brL l)) (Int.toNat at_) default) (1 : Nat)) == IntKind.wrap IntKind.u8 (D.int (D.at (List.getD (brL l) (Int.toNat i) default) (1 : Nat))) && (D.int (D.at (List.getD (doesL h0 h1 h2 (brL l)) (Int.toNat at_) default) (2 : Nat)) == h1 && (D.int (D.at (List.getD (doesL h0 h1 h2 (brL l)) (Int.toNat at_) default) (3 : Nat)) == IntKind.wrap IntKind.u8 (D.int (D.at (List.getD (brL l) (Int.toNat i) default) (3 : Nat))) && true)) && true))) (Tree.ret (Ex.ret, (snd2_x0 (l_nl) (l) (h0) (h1) (h2) (at_) (i)))) (Tree.ret (Ex.normal, (snd2_tm (l_nl) (l) (h0) (h1) (h2) (IntKind.wrap IntKind.i64 (at_ + (1 : Int))) (IntKind.wrap IntKind.i64 (i + (1 : Int)))))))))))) (Tree.need (chkSt (snd4_tm l_nl l h0 h1 h2 at_ i false (0 : Int) (D.int (D.at (List.getD (brL l) (Int.toNat i) default) (0 : Nat))) (IntKind.wrap IntKind.u8 (D.int (D.at (List.getD (brL l) (Int.toNat i) default) (1 : Nat)))) h1 h2) (snd4_tm l_nl l h0 h1 h2 at_ i false (0 : Int) (D.int (D.at (List.getD (brL l) (Int.toNat i) default) (0 : Nat))) (IntKind.wrap IntKind.u8 (D.int (D.at (List.getD (brL l) (Int.toNat i) default) (1 : Nat)))) h1 h2)) (Tree.need (decide ((0 : Int) = (0 : Int)) && (!false && (decide ((0 : Int) ≤ at_) && decide (at_ ≤ (↑(List.length (doesL h0 h1 h2 (brL l))) : Int))))) (Tree.ite (amidst h0 h1 h2 l at_ (D.int (D.at (List.getD (brL l) (Int.toNat i) default) (0 : Nat))) (IntKind.wrap IntKind.u8 (D.int (D.at (List.getD (brL l) (Int.toNat i) default) (1 : Nat)))) h1 h2) (Tree.ret (Ex.normal, (snd2_tm (l_nl) (l) (h0) (h1) (h2) (at_) (IntKind.wrap IntKind.i64 (i + (1 : Int)))))) (Tree.need (bif decide (at_ ≥ (↑(List.length (doesL h0 h1 h2 (brL l))) : Int)) then true else decide ((0 : Int) ≤ at_) && decide (at_ < (↑(List.length (doesL h0 h1 h2 (brL l))) : Int)) && true) (Tree.ite (decide (at_ ≥ (↑(List.length (doesL h0 h1 h2 (brL l))) : Int)) || !(D.int (D.at (List.getD (doesL h0 h1 h2 (brL l)) (Int.toNat at_) default) (0 : Nat)) == D.int (D.at (List.getD (brL l) (Int.toNat i) default) (0 : Nat)) && (D.int (D.at (List.getD (doesL h0 h1 h2 (brL l)) (Int.toNat at_) default) (1 : Nat)) == IntKind.wrap IntKind.u8 (D.int (D.at (List.getD (brL l) (Int.toNat i) default) (1 : Nat))) && (D.int (D.at (List.getD (doesL h0 h1 h2 (brL l)) (Int.toNat at_) default) (2 : Nat)) == h1 && (D.int (D.at (List.getD (doesL h0 h1 h2 (brL l)) (Int.toNat at_) default) (3 : Nat)) == h2 && true)) && true))) (Tree.ret (Ex.ret, (snd2_x0 (l_nl) (l) (h0) (h1) (h2) (at_) (i)))) (Tree.ret (Ex.normal, (snd2_tm (l_nl) (l) (h0) (h1) (h2) (IntKind.wrap IntKind.i64 (at_ + (1 : Int))) (IntKind.wrap IntKind.i64 (i + (1 : Int)))))))))))))))) (Tree.need (decide ((0 : Int) ≤ i) && decide (i < (↑(List.length (brL l)) : Int))) (Tree.ite (decide (D.int (D.at (List.getD (brL l) (Int.toNat i) default) (2 : Nat)) ≥ (0 : Int))) (Tree.need (decide ((0 : Int) ≤ i) && decide (i < (↑(List.length (brL l)) : Int))) (Tree.need (decide ((0 : Int) ≤ i) && decide (i < (↑(List.length (brL l)) : Int))) (Tree.ite (decide (D.int (D.at (List.getD (brL l) (Int.toNat i) default) (3 : Nat)) ≥ (0 : Int))) (Tree.need (decide ((0 : Int) ≤ i) && decide (i < (↑(List.length (brL l)) : Int))) (Tree.need (chkSt (snd4_tm l_nl l h0 h1 h2 at_ i false (0 : Int) (D.int (D.at (List.getD (brL l) (Int.toNat i) default) (0 : Nat))) h0 (IntKind.wrap IntKind.u8 (D.int (D.at (List.getD (brL l) (Int.toNat i) default) (2 : Nat)))) (IntKind.wrap IntKind.u8 (D.int (D.at (List.getD (brL l) (Int.toNat i) default) (3 : Nat))))) (snd4_tm l_nl l h0 h1 h2 at_ i false (0 : Int) (D.int (D.at (List.getD (brL l) (Int.toNat i) default) (0 : Nat))) h0 (IntKind.wrap IntKind.u8 (D.int (D.at (List.getD (brL l) (Int.toNat i) default) (2 : Nat)))) (IntKind.wrap IntKind.u8 (D.int (D.at (List.getD (brL l) (Int.toNat i) default) (3 : Nat)))))) (Tree.need (decide ((0 : Int) = (0 : Int)) && (!false && (decide ((0 : Int) ≤ at_) && decide (at_ ≤ (↑(List.length (doesL h0 h1 h2 (brL l))) : Int))))) (Tree.ite (amidst h0 h1 h2 l at_ (D.int (D.at (List.getD (brL l) (Int.toNat i) default) (0 : Nat))) h0 (IntKind.wrap IntKind.u8 (D.int (D.at (List.getD (brL l) (Int.toNat i) default) (2 : Nat)))) (IntKind.wrap IntKind.u8 (D.int (D.at (List.getD (brL l) (Int.toNat i) default) (3 : Nat))))) (Tree.ret (Ex.normal, (snd2_tm (l_nl) (l) (h0) (h1) (h2) (at_) (IntKind.wrap IntKind.i64 (i + (1 : Int)))))) (Tree.need (bif decide (at_ ≥ (↑(List.length (doesL h0 h1 h2 (brL l))) : Int)) then true else decide ((0 : Int) ≤ at_) && decide (at_ < (↑(List.length (doesL h0 h1 h2 (brL l))) : Int)) && true) (Tree.ite (decide (at_ ≥ (↑(List.length (doesL h0 h1 h2 (brL l))) : Int)) || !(D.int (D.at (List.getD (doesL h0 h1 h2 (brL l)) (Int.toNat at_) default) (0 : Nat)) == D.int (D.at (List.getD (brL l) (Int.toNat i) default) (0 : Nat)) && (D.int (D.at (List.getD (doesL h0 h1 h2 (brL l)) (Int.toNat at_) default) (1 : Nat)) == h0 && (D.int (D.at (List.getD (doesL h0 h1 h2 (brL l)) (Int.toNat at_) default) (2 : Nat)) == IntKind.wrap IntKind.u8 (D.int (D.at (List.getD (brL l) (Int.toNat i) default) (2 : Nat))) && (D.int (D.at (List.getD (doesL h0 h1 h2 (brL l)) (Int.toNat at_) default) (3 : Nat)) == IntKind.wrap IntKind.u8 (D.int (D.at (List.getD (brL l) (Int.toNat i) default) (3 : Nat))) && true)) && true))) (Tree.ret (Ex.ret, (snd2_x0 (l_nl) (l) (h0) (h1) (h2) (at_) (i)))) (Tree.ret (Ex.normal, (snd2_tm (l_nl) (l) (h0) (h1) (h2) (IntKind.wrap IntKind.i64 (at_ + (1 : Int))) (IntKind.wrap IntKind.i64 (i + (1 : Int)))))))))))) (Tree.need (chkSt (snd4_tm l_nl l h0 h1 h2 at_ i false (0 : Int) (D.int (D.at (List.getD (brL l) (Int.toNat i) default) (0 : Nat))) h0 (IntKind.wrap IntKind.u8 (D.int (D.at (List.getD (brL l) (Int.toNat i) default) (2 : Nat)))) h2) (snd4_tm l_nl l h0 h1 h2 at_ i false (0 : Int) (D.int (D.at (List.getD (brL l) (Int.toNat i) default) (0 : Nat))) h0 (IntKind.wrap IntKind.u8 (D.int (D.at (List.getD (brL l) (Int.toNat i) default) (2 : Nat)))) h2)) (Tree.need (decide ((0 : Int) = (0 : Int)) && (!false && (decide ((0 : Int) ≤ at_) && decide (at_ ≤ (↑(List.length (doesL h0 h1 h2 (brL l))) : Int))))) (Tree.ite (amidst h0 h1 h2 l at_ (D.int (D.at (List.getD (brL l) (Int.toNat i) default) (0 : Nat))) h0 (IntKind.wrap IntKind.u8 (D.int (D.at (List.getD (brL l) (Int.toNat i) default) (2 : Nat)))) h2) (Tree.ret (Ex.normal, (snd2_tm (l_nl) (l) (h0) (h1) (h2) (at_) (IntKind.wrap IntKind.i64 (i + (1 : Int)))))) (Tree.need (bif decide (at_ ≥ (↑(List.length (doesL h0 h1 h2 (brL l))) : Int)) then true else decide ((0 : Int) ≤ at_) && decide (at_ < (↑(List.length (doesL h0 h1 h2 (brL l))) : Int)) && true) (Tree.ite (decide (at_ ≥ (↑(List.length (doesL h0 h1 h2 (brL l))) : Int)) || !(D.int (D.at (List.getD (doesL h0 h1 h2 (brL l)) (Int.toNat at_) default) (0 : Nat)) == D.int (D.at (List.getD (brL l) (Int.toNat i) default) (0 : Nat)) && (D.int (D.at (List.getD (doesL h0 h1 h2 (brL l)) (Int.toNat at_) default) (1 : Nat)) == h0 && (D.int (D.at (List.getD (doesL h0 h1 h2 (brL l)) (Int.toNat at_) default) (2 : Nat)) == IntKind.wrap IntKind.u8 (D.int (D.at (List.getD (brL l) (Int.toNat i) default) (2 : Nat))) && (D.int (D.at (List.getD (doesL h0 h1 h2 (brL l)) (Int.toNat at_) default) (3 : Nat)) == h2 && true)) && true))) (Tree.ret (Ex.ret, (snd2_x0 (l_nl) (l) (h0) (h1) (h2) (at_) (i)))) (Tree.ret (Ex.normal, (snd2_tm (l_nl) (l) (h0) (h1) (h2) (IntKind.wrap IntKind.i64 (at_ + (1 : Int))) (IntKind.wrap IntKind.i64 (i + (1 : Int)))))))))))))) (Tree.need (decide ((0 : Int) ≤ i) && decide (i < (↑(List.length (brL l)) : Int))) (Tree.ite (decide (D.int (D.at (List.getD (brL l) (Int.toNat i) default) (3 : Nat)) ≥ (0 : Int))) (Tree.need (decide ((0 : Int) ≤ i) && decide (i < (↑(List.length (brL l)) : Int))) (Tree.need (chkSt (snd4_tm l_nl l h0 h1 h2 at_ i false (0 : Int) (D.int (D.at (List.getD (brL l) (Int.toNat i) default) (0 : Nat))) h0 h1 (IntKind.wrap IntKind.u8 (D.int (D.at (List.getD (brL l) (Int.toNat i) default) (3 : Nat))))) (snd4_tm l_nl l h0 h1 h2 at_ i false (0 : Int) (D.int (D.at (List.getD (brL l) (Int.toNat i) default) (0 : Nat))) h0 h1 (IntKind.wrap IntKind.u8 (D.int (D.at (List.getD (brL l) (Int.toNat i) default) (3 : Nat)))))) (Tree.need (decide ((0 : Int) = (0 : Int)) && (!false && (decide ((0 : Int) ≤ at_) && decide (at_ ≤ (↑(List.length (doesL h0 h1 h2 (brL l))) : Int))))) (Tree.ite (amidst h0 h1 h2 l at_ (D.int (D.at (List.getD (brL l) (Int.toNat i) default) (0 : Nat))) h0 h1 (IntKind.wrap IntKind.u8 (D.int (D.at (List.getD (brL l) (Int.toNat i) default) (3 : Nat))))) (Tree.ret (Ex.normal, (snd2_tm (l_nl) (l) (h0) (h1) (h2) (at_) (IntKind.wrap IntKind.i64 (i + (1 : Int)))))) (Tree.need (bif decide (at_ ≥ (↑(List.length (doesL h0 h1 h2 (brL l))) : Int)) then true else decide ((0 : Int) ≤ at_) && decide (at_ < (↑(List.length (doesL h0 h1 h2 (brL l))) : Int)) && true) (Tree.ite (decide (at_ ≥ (↑(List.length (doesL h0 h1 h2 (brL l))) : Int)) || !(D.int (D.at (List.getD (doesL h0 h1 h2 (brL l)) (Int.toNat at_) default) (0 : Nat)) == D.int (D.at (List.getD (brL l) (Int.toNat i) default) (0 : Nat)) && (D.int (D.at (List.getD (doesL h0 h1 h2 (brL l)) (Int.toNat at_) default) (1 : Nat)) == h0 && (D.int (D.at (List.getD (doesL h0 h1 h2 (brL l)) (Int.toNat at_) default) (2 : Nat)) == h1 && (D.int (D.at (List.getD (doesL h0 h1 h2 (brL l)) (Int.toNat at_) default) (3 : Nat)) == IntKind.wrap IntKind.u8 (D.int (D.at (List.getD (brL l) (Int.toNat i) default) (3 : Nat))) && true)) && true))) (Tree.ret (Ex.ret, (snd2_x0 (l_nl) (l) (h0) (h1) (h2) (at_) (i)))) (Tree.ret (Ex.normal, (snd2_tm (l_nl) (l) (h0) (h1) (h2) (IntKind.wrap IntKind.i64 (at_ + (1 : Int))) (IntKind.wrap IntKind.i64 (i + (1 : Int)))))))))))) (Tree.need (chkSt (snd4_tm l_nl l h0 h1 h2 at_ i false (0 : Int) (D.int (D.at (List.getD (brL l) (Int.toNat i) default) (0 : Nat))) h0 h1 h2) (snd4_tm l_nl l h0 h1 h2 at_ i false (0 : Int) (D.int (D.at (List.getD (brL l) (Int.toNat i) default) (0 : Nat))) h0 h1 h2)) (Tree.need (decide ((0 : Int) = (0 : Int)) && (!false && (decide ((0 : Int) ≤ at_) && decide (at_ ≤ (↑(List.length (doesL h0 h1 h2 (brL l))) : Int))))) (Tree.ite (amidst h0 h1 h2 l at_ (D.int (D.at (List.getD (brL l) (Int.toNat i) default) (0 : Nat))) h0 h1 h2) (Tree.ret (Ex.normal, (snd2_tm (l_nl) (l) (h0) (h1) (h2) (at_) (IntKind.wrap IntKind.i64 (i + (1 : Int)))))) (Tree.need (bif decide (at_ ≥ (↑(List.length (doesL h0 h1 h2 (brL l))) : Int)) then true else decide ((0 : Int) ≤ at_) && decide (at_ < (↑(List.length (doesL h0 h1 h2 (brL l))) : Int)) && true) (Tree.ite (decide (at_ ≥ (↑(List.length (doesL h0 h1 h2 (brL l))) : Int)) || !(D.int (D.at (List.getD (doesL h0 h1 h2 (brL l)) (Int.toNat at_) default) (0 : Nat)) == D.int (D.at (List.getD (brL l) (Int.toNat i) default) (0 : Nat)) && (D.int (D.at (List.getD (doesL h0 h1 h2 (brL l)) (Int.toNat at_) default) (1 : Nat)) == h0 && (D.int (D.at (List.getD (doesL h0 h1 h2 (brL l)) (Int.toNat at_) default) (2 : Nat)) == h1 && (D.int (D.at (List.getD (doesL h0 h1 h2 (brL l)) (Int.toNat at_) default) (3 : Nat)) == h2 && true)) && true))) (Tree.ret (Ex.ret, (snd2_x0 (l_nl) (l) (h0) (h1) (h2) (at_) (i)))) (Tree.ret (Ex.normal, (snd2_tm (l_nl) (l) (h0) (h1) (h2) (IntKind.wrap IntKind.i64 (at_ + (1 : Int))) (IntKind.wrap IntKind.i64 (i + (1 : Int)))))))))))))))))) (Tree.ret ((Ex.exit 4), (snd2_x1 (l_nl) (l) (h0) (h1) (h2) (at_) (i))))) := by kernel_rfl
noncomputable def snd2_res (l_nl : Bool) (l : List D) (h0 h1 h2 : Int) (at_ i : Int) : Tree (Ex × St) := .need (decide (i = 0) && decide (at_ = 0)) (.ret (.exit 4, snd2_x1 l_nl l h0 h1 h2 ((doesL h0 h1 h2 (brL l)).length : Nat) ((brL l).length : Nat)))
theorem foldS_grows (h0 h1 h2 : Int) : ∀ (l out : List D), ∃ r, l.foldl (stepS h0 h1 h2) out = out ++ r
  | [], out => ⟨[], by simp⟩
  | o :: l, out => by
    obtain ⟨r, hr⟩ := foldS_grows h0 h1 h2 l (stepS h0 h1 h2 out o)
    rw [List.foldl_cons, hr]
    unfold stepS
    cases out.any _
    · exact ⟨_, (List.append_assoc _ _ _)⟩
    · exact ⟨r, rfl⟩
theorem takeS (h0 h1 h2 : Int) (l : List D) (k : Nat) (hk : k < l.length) : (l.take (k + 1)).foldl (stepS h0 h1 h2) [] = stepS h0 h1 h2 ((l.take k).foldl (stepS h0 h1 h2) []) (l.getD k default) := by
  rw [List.take_succ_eq_append_getElem hk, List.foldl_append, getD_at hk]
  rfl
theorem restS (h0 h1 h2 : Int) (l : List D) (k : Nat) : ∃ r, doesL h0 h1 h2 l = (l.take k).foldl (stepS h0 h1 h2) [] ++ r := by
  unfold doesL
  conv => arg 1; intro r; rw [← List.take_append_drop k l, List.foldl_append]
  rw [List.take_append_drop]
  exact foldS_grows h0 h1 h2 _ _
theorem stepS_not {h0 h1 h2 : Int} {o : List D} {r : D} (h : o.any (eqS (r.at 0).int (setB (r.at 1).int h0) (setB (r.at 2).int h1) (setB (r.at 3).int h2)) = false) : stepS h0 h1 h2 o r = o ++ [.a [.i (r.at 0).int, .i (setB (r.at 1).int h0), .i (setB (r.at 2).int h1), .i (setB (r.at 3).int h2)]] := by
  unfold stepS; rw [h]; rfl
theorem stepS_yes {h0 h1 h2 : Int} {o : List D} {r : D} (h : o.any (eqS (r.at 0).int (setB (r.at 1).int h0) (setB (r.at 2).int h1) (setB (r.at 3).int h2)) = true) : stepS h0 h1 h2 o r = o := by
  unfold stepS; rw [h]; rfl
theorem bringI_lo (i : Int) : -1 ≤ IntKind.wrap .i64 (bringI i 4 - 1) ∧ IntKind.wrap .i64 (bringI i 4 - 1) ≤ 2 := by
  have h1 : -4 < Int.tmod i 4 := Int.lt_tmod_of_pos i (by omega)
  have h2 : Int.tmod i 4 < 4 := Int.tmod_lt_of_pos i (by omega)
  unfold bringI
  cases hc : decide (Int.tmod i 4 < 0) <;> simp only [decide_eq_true_eq, decide_eq_false_iff_not] at hc <;> simp only [cond_true, cond_false]
  · rw [wrap64 (by omega) (by omega)]; omega
  · rw [wrap64 (n := Int.tmod i 4 + 4) (by omega) (by omega), wrap64 (by omega) (by omega)]; omega
theorem bring_ge (i : Int) : decide (IntKind.wrap .i64 (bringI i 4 - 1) ≥ 0) = (IntKind.wrap .i64 (bringI i 4 - 1) != -1) := by
  obtain ⟨h1, h2⟩ := bringI_lo i
  rw [Bool.eq_iff_iff]
  simp
  omega
theorem brL_at (l : List D) (k j : Nat) (hk : k < (brL l).length) (hj : j = 1 ∨ j = 2 ∨ j = 3) : decide ((((brL l).getD k default).at j).int ≥ 0) = ((((brL l).getD k default).at j).int != -1) := by
  have e : (brL l)[k] = brO ((l.take 8)[k]'(by simpa [brL] using hk)) := List.getElem_map _
  rw [getD_at hk, e]
  rcases hj with rfl | rfl | rfl <;> exact bring_ge _
theorem any_eqT (l : List D) (p a b c : Int) : l.any (eqT p a b c) = l.any (eqS p a b c) := by rw [show eqT p a b c = eqS p a b c from funext (eqT_eq p a b c)]
theorem snd2_ok (l_nl : Bool) (l : List D) (h0 h1 h2 : Int) (at_ i : Int) (ex : Ex) (st' : St) (hrun_ : (snd2_res l_nl l h0 h1 h2 at_ i).run = some (ex, st')) : ∃ n, iterC (roundC (bodyF tab (envOf (P := Try.prog) [bring_pc, works_pc] [doesK_ct] [(snd0_lc l_nl l h0 h1 h2), (snd4_lc l_nl l h0 h1 h2)]) 20 12 5 2 (loopOf (codeOf Try.f5) 2)) snd2_lp) n (snd2_tm l_nl l h0 h1 h2 at_ i) = some (ex, st') := by
  obtain ⟨hp_, h_⟩ := Tree.run_need hrun_
  simp only [Bool.and_eq_true, decide_eq_true_eq] at hp_
  obtain ⟨e_, e1_⟩ := hp_
  simp only [Tree.run, Option.some.injEq, Prod.mk.injEq] at h_
  obtain ⟨rfl, rfl⟩ := h_
  subst e_
  subst e1_
  have bl_ := brL_length l
  refine fold_loop0 (B := roundC (bodyF tab (envOf (P := Try.prog) [bring_pc, works_pc] [doesK_ct] [(snd0_lc l_nl l h0 h1 h2), (snd4_lc l_nl l h0 h1 h2)]) 20 12 5 2 (loopOf (codeOf Try.f5) 2)) snd2_lp) (tm := fun t_ (o_ : List D) => snd2_tm l_nl l h0 h1 h2 (o_.length : Nat) t_) (s := brL l) (g := stepS h0 h1 h2) (fin := fun o_ => (.exit 4, snd2_x1 l_nl l h0 h1 h2 (o_.length : Nat) ((brL l).length : Nat))) (I := fun k o => o = ((brL l).take k).foldl (stepS h0 h1 h2) []) (x := []) (by simp) ?_ ?_ (fun _ => by simp)
  · intro k_ o_ hk_ hi_
    refine ⟨?_, by rw [takeS _ _ _ _ _ hk_, ← hi_]⟩
    have dl_ := doesL_length h0 h1 h2 (brL l)
    obtain ⟨r1_, hr1_⟩ := restS h0 h1 h2 (brL l) k_
    obtain ⟨r2_, hr2_⟩ := restS h0 h1 h2 (brL l) (k_ + 1)
    rw [takeS _ _ _ _ _ hk_, ← hi_] at hr2_
    rw [← hi_] at hr1_
    have ol_ : o_.length ≤ (doesL h0 h1 h2 (brL l)).length := by rw [hr1_]; simp
    have d1_ : decide ((k_ : Int) < ((brL l).length : Nat)) = true := by simp; omega
    have d2_ : decide ((0 : Int) ≤ (k_ : Int)) = true := by simp
    have d3_ : decide ((0 : Int) ≤ (o_.length : Nat)) = true := by simp
    have d4_ : decide ((o_.length : Int) ≤ ((doesL h0 h1 h2 (brL l)).length : Nat)) = true := by simp; omega
    have n1_ := brL_at l k_ 1 hk_ (by simp)
    have n2_ := brL_at l k_ 2 hk_ (by simp)
    have n3_ := brL_at l k_ 3 hk_ (by simp)
    have am_ : ∀ p a b c : Int, amidst h0 h1 h2 l (o_.length : Nat) p a b c = o_.any (eqS p a b c) := by
      intro p a b c
      unfold amidst
      rw [any_eqT, hr1_, Int.toNat_natCast, List.take_left]
    have w1_ : IntKind.wrap .i64 ((k_ : Int) + 1) = ((k_ + 1 : Nat) : Int) := by rw [wrap64 (by omega) (by omega)]; omega
    have w2_ : IntKind.wrap .i64 ((o_.length : Int) + 1) = ((o_.length + 1 : Nat) : Int) := by rw [wrap64 (by omega) (by omega)]; omega
    rw [snd2_round]
    simp only [Tree.run_ret', Tree.run_need', Tree.run_ite', d1_, d2_, d3_, d4_, n1_, n2_, n3_, am_, w1_, w2_, chk_self, Bool.and_self, Bool.not_false, decide_true, cond_true, Int.toNat_natCast]
    generalize hr_ : (brL l).getD k_ default = r_ at hr2_ ⊢
    cases ha_ : o_.any (eqS (r_.at 0).int (setB (r_.at 1).int h0) (setB (r_.at 2).int h1) (setB (r_.at 3).int h2))
    · rw [stepS_not ha_] at hr2_ ⊢
      have d5_ : decide ((o_.length : Int) ≥ ((doesL h0 h1 h2 (brL l)).length : Nat)) = false := by rw [hr2_]; simp; omega
      have d6_ : decide ((o_.length : Int) < ((doesL h0 h1 h2 (brL l)).length : Nat)) = true := by rw [hr2_]; simp; omega
      have d7_ : (doesL h0 h1 h2 (brL l)).getD o_.length default = .a [.i (r_.at 0).int, .i (setB (r_.at 1).int h0), .i (setB (r_.at 2).int h1), .i (setB (r_.at 3).int h2)] := by
        rw [hr2_, List.append_assoc]; simp [List.getD]
      simp only [d5_, d6_, d7_, List.length_append, List.length_singleton]
      revert ha_
      simp only [setB]
      cases ((r_.at 1).int != -1) <;> cases ((r_.at 2).int != -1) <;> cases ((r_.at 3).int != -1) <;> simp only [cond_true, cond_false] <;> intro ha_ <;> simp only [ha_] <;> simp [D.at, D.int, List.getD]
    · rw [stepS_yes ha_]
      revert ha_
      simp only [setB]
      cases ((r_.at 1).int != -1) <;> cases ((r_.at 2).int != -1) <;> cases ((r_.at 3).int != -1) <;> simp only [cond_true, cond_false] <;> intro ha_ <;> simp only [ha_, cond_true]
  · intro x_ hi_
    have d1_ : decide ((((brL l).length : Nat) : Int) < ((brL l).length : Nat)) = false := by simp
    simp only [snd2_round, Tree.run_ite', d1_]
    rfl
noncomputable def snd2_run (l_nl : Bool) (l : List D) (h0 h1 h2 : Int) (st : St) : Tree (Ex × St) := .need (chkSt st (snd2_tm l_nl l h0 h1 h2 (iOf (slotV st 10)) (iOf (slotV st 11)))) (snd2_res l_nl l h0 h1 h2 (iOf (slotV st 10)) (iOf (slotV st 11)))
noncomputable def snd2_lc (l_nl : Bool) (l : List D) (h0 h1 h2 : Int) : LC Try.prog := LC.of (T := tab) follows (envOf_good _ _ _) 20 12 5 2 Try.f5 Try.func5 (codeOf Try.f5) (loopOf (codeOf Try.f5) 2) (by kernel_rfl) (by kernel_rfl) snd2_lp (snd2_run l_nl l h0 h1 h2)
  (inner_loops (c := codeOf Try.f5) Try.func5 (by kernel_rfl) (by kernel_rfl))
  (by
    intro st ex st' h
    obtain ⟨hc, h⟩ := Tree.run_need h
    have e := chk_iff.1 hc
    have := snd2_ok l_nl l h0 h1 h2 _ _ ex st' h
    rw [← e] at this
    exact this)
theorem ruleSends_tree (l_nl : Bool) (l : List D) (h0 h1 h2 : Int) : callG tab (envOf (P := Try.prog) [bring_pc, works_pc] [doesK_ct] [(snd0_lc l_nl l h0 h1 h2), (snd2_lc l_nl l h0 h1 h2)]) 20 12 5 [SV.lst (.agg [.int .i64, .int .i64, .int .i64, .int .i64]) l_nl l, SV.agg [SV.si IntKind.u8 h0, SV.si IntKind.u8 h1, SV.si IntKind.u8 h2]] [] =
    (Tree.need (chkSt (snd0_tm l_nl l h0 h1 h2 (0 : Int) true []) (snd0_tm l_nl l h0 h1 h2 (0 : Int) true [])) (Tree.need (decide ((0 : Int) = (0 : Int)) && (true && true)) (Tree.need (fewB (List.length (brL l))) (Tree.need (chkSt (snd2_tm l_nl l h0 h1 h2 (0 : Int) (0 : Int)) (snd2_tm l_nl l h0 h1 h2 (0 : Int) (0 : Int))) (Tree.need (decide ((0 : Int) = (0 : Int)) && decide ((0 : Int) = (0 : Int))) (Tree.ite ((↑(List.length (doesL h0 h1 h2 (brL l))) : Int) == (↑(List.length (doesL h0 h1 h2 (brL l))) : Int)) (Tree.need (true) (Tree.ret ((SV.sb (true)), []))) (Tree.ret ((SV.sb (false)), [])))))))) := by kernel_rfl
theorem ruleSends_run (l_nl : Bool) (l : List D) (h0 h1 h2 : Int) : (callG tab (envOf (P := Try.prog) [bring_pc, works_pc] [doesK_ct] [(snd0_lc l_nl l h0 h1 h2), (snd2_lc l_nl l h0 h1 h2)]) 20 12 5 [SV.lst (.agg [.int .i64, .int .i64, .int .i64, .int .i64]) l_nl l, SV.agg [SV.si IntKind.u8 h0, SV.si IntKind.u8 h1, SV.si IntKind.u8 h2]] []).run = some ((.sb true : SV), []) := by
  rw [ruleSends_tree]
  have c1_ : fewB (brL l).length = true := by have := brL_length l; simp [fewB]; omega
  simp only [Tree.run_ret', Tree.run_need', Tree.run_ite', chk_self, c1_, beq_self_eq_true, decide_true, Bool.and_self, cond_true]
end Go.Proofs.Ytkcadajkgeakhaa
