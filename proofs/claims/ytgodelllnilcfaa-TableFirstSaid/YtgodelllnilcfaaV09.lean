/-
  Functions of the program, by their runs.
  No statement of the seat is proved here. Conditions: none.
-/
import Derived.Test.YtgodelllnilcfaaY25
import Derived.Test.YtgodelllnilcfaaTab09
import Derived.Test.YtgodelllnilcfaaW09
set_option linter.unusedSimpArgs false
set_option linter.unusedVariables false
set_option maxRecDepth 100000
namespace Go.Proofs.Ytgodelllnilcfaa
open Go.Sy Go.RowKit
def eqD (x y : D) : Bool := (x.at 0).int == (y.at 0).int && ((x.at 1).int == (y.at 1).int && ((x.at 2).int == (y.at 2).int && ((x.at 3).int == (y.at 3).int && true)) && true)
def unlike (a b : List D) (i : Nat) : Bool := !eqD (a.getD i default) (b.getD i default)
def sameO (a b : List D) : Bool := bif ((a.length : Int) == b.length) then !(List.range a.length).any (unlike a b) else false
noncomputable def eqo0_tm (a_nl : Bool) (a : List D) (b_nl : Bool) (b : List D) (t13 : Int) : St :=
  ⟨(Tm.at 26 [(0, (Slot.is (SV.lst (Sh.agg [(Sh.int IntKind.i64), (Sh.int IntKind.i64), (Sh.int IntKind.i64), (Sh.int IntKind.i64)]) (a_nl) (a)))), (1, (Slot.is (SV.lst (Sh.agg [(Sh.int IntKind.i64), (Sh.int IntKind.i64), (Sh.int IntKind.i64), (Sh.int IntKind.i64)]) (b_nl) (b)))), (12, (Slot.is (SV.si IntKind.i64 ((↑(List.length a) : Int))))), (13, (Slot.is (SV.si IntKind.i64 (t13))))]), []⟩
def eqo0_lp : LP := { base := 0, mv := [], mask := 12291, maskX := 16, nm := 8192, nb := [], kl := [], klX := [], ow := [] }
noncomputable def eqo0_x0 (a_nl : Bool) (a : List D) (b_nl : Bool) (b : List D) (t13 : Int) : St :=
  ⟨(Tm.at 26 [(4, (Slot.is (SV.lb false)))]), []⟩
noncomputable def eqo0_x1 (a_nl : Bool) (a : List D) (b_nl : Bool) (b : List D) (t13 : Int) : St :=
  ⟨(Tm.at 26 []), []⟩
theorem eqo0_round (a_nl : Bool) (a : List D) (b_nl : Bool) (b : List D) (t13 : Int) : roundC (bodyF tab (envOf (P := Try.prog) [] [] []) 20 12 55 0 (loopOf (codeOf Try.f55) 0)) eqo0_lp (eqo0_tm a_nl a b_nl b t13) =
    (Tree.ite (decide (t13 < (↑(List.length a) : Int))) (Tree.need (decide ((0 : Int) ≤ t13) && decide (t13 < (↑(List.length a) : Int))) (Tree.need (decide ((0 : Int) ≤ t13) && decide (t13 < (↑(List.length b) : Int))) (Tree.ite (!(D.int (D.at (List.getD a (Int.toNat t13) default) (0 : Nat)) == D.int (D.at (List.getD b (Int.toNat t13) default) (0 : Nat)) && (D.int (D.at (List.getD a (Int.toNat t13) default) (1 : Nat)) == D.int (D.at (List.getD b (Int.toNat t13) default) (1 : Nat)) && (D.int (D.at (List.getD a (Int.toNat t13) default) (2 : Nat)) == D.int (D.at (List.getD b (Int.toNat t13) default) (2 : Nat)) && (D.int (D.at (List.getD a (Int.toNat t13) default) (3 : Nat)) == D.int (D.at (List.getD b (Int.toNat t13) default) (3 : Nat)) && true)) && true))) (Tree.ret (Ex.ret, (eqo0_x0 (a_nl) (a) (b_nl) (b) (t13)))) (Tree.ret (Ex.normal, (eqo0_tm (a_nl) (a) (b_nl) (b) (IntKind.wrap IntKind.i64 (t13 + (1 : Int))))))))) (Tree.ret ((Ex.exit 0), (eqo0_x1 (a_nl) (a) (b_nl) (b) (t13))))) := by kernel_rfl
theorem getD_range {n k : Nat} (h : k < n) : (List.range n).getD k default = k := by simp [List.getD_eq_getElem?_getD, List.getElem?_range h]
noncomputable def eqo0_res (a_nl : Bool) (a : List D) (b_nl : Bool) (b : List D) (t13 : Int) : Tree (Ex × St) := .need (decide (t13 = 0) && shortB a.length && ((a.length : Int) == b.length)) (.ite ((List.range a.length).any (unlike a b)) (.ret (.ret, eqo0_x0 a_nl a b_nl b ((List.range a.length).findIdx (unlike a b) : Nat))) (.ret (.exit 0, eqo0_x1 a_nl a b_nl b (a.length : Nat))))
theorem eqo0_ok (a_nl : Bool) (a : List D) (b_nl : Bool) (b : List D) (t13 : Int) (ex : Ex) (st' : St) (hrun_ : (eqo0_res a_nl a b_nl b t13).run = some (ex, st')) : ∃ n, iterC (roundC (bodyF tab (envOf (P := Try.prog) [] [] []) 20 12 55 0 (loopOf (codeOf Try.f55) 0)) eqo0_lp) n (eqo0_tm a_nl a b_nl b t13) = some (ex, st') := by
  obtain ⟨hp_, h_⟩ := Tree.run_need hrun_
  simp only [shortB, Bool.and_eq_true, decide_eq_true_eq, beq_iff_eq] at hp_
  obtain ⟨⟨e_, hl_⟩, hp0_⟩ := hp_
  subst e_
  have sl_ := search_loop0 (B := roundC (bodyF tab (envOf (P := Try.prog) [] [] []) 20 12 55 0 (loopOf (codeOf Try.f55) 0)) eqo0_lp) (tm := fun t_ => eqo0_tm a_nl a b_nl b t_) (s := (List.range a.length)) (f := unlike a b) (yes := fun t_ => (.ret, eqo0_x0 a_nl a b_nl b t_)) (no := (.exit 0, eqo0_x1 a_nl a b_nl b (a.length : Nat))) ?_ ?_ (fun _ => by simp) (by simp)
  · obtain ⟨m_, hm_⟩ := sl_
    refine ⟨m_, hm_.trans ?_⟩
    rw [Tree.run_ite'] at h_
    revert h_
    cases (List.range a.length).any (unlike a b) <;> exact id
  · intro k_ hk_
    have hk_ : k_ < a.length := by simpa using hk_
    rw [getD_range hk_]
    have d3_ : decide ((k_ : Int) < (b.length : Nat)) = true := by simp; omega
    have d1_ : decide ((k_ : Int) < (a.length : Nat)) = true := by simp; omega
    have d2_ : decide ((0 : Int) ≤ (k_ : Int)) = true := by simp
    simp only [eqo0_round, Tree.run_ret', Tree.run_need', Tree.run_ite', d1_, d2_, d3_, Bool.and_self, cond_true, Int.toNat_natCast, wrap64 (n := (k_ : Int) + 1) (by omega) (by omega)]
    all_goals exact bif_some _ _ _
  · rw [List.length_range]
    have d1_ : decide (((a.length : Nat) : Int) < (a.length : Nat)) = false := by simp
    simp only [eqo0_round, Tree.run_ite', d1_]
    rfl
noncomputable def eqo0_run (a_nl : Bool) (a : List D) (b_nl : Bool) (b : List D) (st : St) : Tree (Ex × St) := .need (chkSt st (eqo0_tm a_nl a b_nl b (iOf (slotV st 13)))) (eqo0_res a_nl a b_nl b (iOf (slotV st 13)))
noncomputable def eqo0_lc (a_nl : Bool) (a : List D) (b_nl : Bool) (b : List D) : LC Try.prog := LC.of (T := tab) follows (envOf_good _ _ _) 20 12 55 0 Try.f55 Try.func55 (codeOf Try.f55) (loopOf (codeOf Try.f55) 0) (by kernel_rfl) (by kernel_rfl) eqo0_lp (eqo0_run a_nl a b_nl b)
  (inner_loops (c := codeOf Try.f55) Try.func55 (by kernel_rfl) (by kernel_rfl))
  (by
    intro st ex st' h
    obtain ⟨hc, h⟩ := Tree.run_need h
    have e := chk_iff.1 hc
    have := eqo0_ok a_nl a b_nl b _ ex st' h
    rw [← e] at this
    exact this)
theorem eqo_tree (a_nl : Bool) (a : List D) (b_nl : Bool) (b : List D) : callG tab (envOf (P := Try.prog) [] [] [(eqo0_lc a_nl a b_nl b)]) 20 12 55 [SV.lst (.agg [.int .i64, .int .i64, .int .i64, .int .i64]) a_nl a, SV.lst (.agg [.int .i64, .int .i64, .int .i64, .int .i64]) b_nl b] [] =
    (Tree.ite ((↑(List.length a) : Int) != (↑(List.length b) : Int)) (Tree.ret ((SV.sb (false)), [])) (Tree.need (chkSt (eqo0_tm a_nl a b_nl b (0 : Int)) (eqo0_tm a_nl a b_nl b (0 : Int))) (Tree.need (decide ((0 : Int) = (0 : Int)) && shortB (List.length a) && (↑(List.length a) : Int) == (↑(List.length b) : Int)) (Tree.ite (List.any (List.range (List.length a)) (unlike a b)) (Tree.ret ((SV.sb (false)), [])) (Tree.ret ((SV.sb (true)), [])))))) := by kernel_rfl
theorem eqo_run (a_nl : Bool) (a : List D) (b_nl : Bool) (b : List D) (hpre : (shortB a.length) = true) : (callG tab (envOf (P := Try.prog) [] [] [(eqo0_lc a_nl a b_nl b)]) 20 12 55 [SV.lst (.agg [.int .i64, .int .i64, .int .i64, .int .i64]) a_nl a, SV.lst (.agg [.int .i64, .int .i64, .int .i64, .int .i64]) b_nl b] []).run = some ((.sb (sameO a b) : SV), []) := by
  rw [eqo_tree]
  simp only [Tree.run_ret', Tree.run_need', Tree.run_ite']
  simp only [chk_self, hpre, sameO, bne]
  cases h1_ : ((a.length : Int) == b.length) <;> cases (List.range a.length).any (unlike a b) <;> simp_all
def eqo_spec : PSpec := ⟨[(.list (.agg [.int .i64, .int .i64, .int .i64, .int .i64])), (.list (.agg [.int .i64, .int .i64, .int .i64, .int .i64]))], fun
  | [.l a_nl a, .l b_nl b] => some (shortB a.length, .sb (sameO a b))
  | _ => none⟩
noncomputable def eqo_pc : PC Try.prog := PC.run2 (T := tab) follows 20 12 55 eqo_spec (by
  intro ds pre r h hp
  unfold eqo_spec at h
  simp only at h
  split at h
  · rename_i a_nl a b_nl b
    simp only [Option.some.injEq, Prod.mk.injEq] at h
    obtain ⟨hq, rfl⟩ := h
    exact ⟨_, _, envOf_good _ _ _, eqo_run a_nl a b_nl b (hq.trans hp), rfl⟩
  · cases h) (enters_of (c := codeOf Try.f55) Try.func55 (by kernel_rfl) (by kernel_rfl))
theorem sameO_self (a : List D) : sameO a a = true := by
  have : ∀ i, unlike a a i = false := fun i => by simp [unlike, eqD]
  have : (List.range a.length).any (unlike a a) = false := by rw [List.any_eq_false]; intro x _; simp [this]
  simp [sameO, this]
def same_f (ak apr ato apo av ap ab0 ab1 ab2 ai0 ai1 ai2 : Int) (ao : List D) (bk bpr bto bpo bv bp bb0 bb1 bb2 bi0 bi1 bi2 : Int) (bo : List D) : Bool := (sameO ao bo && (ak == bk && (apr == bpr && (ato == bto && (apo == bpo && (av == bv && (ap == bp && (ab0 == bb0 && (ab1 == bb1 && (ab2 == bb2 && true)) && (ai0 == bi0 && (ai1 == bi1 && (ai2 == bi2 && true)) && true)))))))))
theorem same_tree (ak apr ato apo av ap ab0 ab1 ab2 ai0 ai1 ai2 : Int) (ao_nl : Bool) (ao : List D) (bk bpr bto bpo bv bp bb0 bb1 bb2 bi0 bi1 bi2 : Int) (bo_nl : Bool) (bo : List D) : callG tab (envOf (P := Try.prog) [eqo_pc] [] []) 20 12 17 [SV.agg [SV.si IntKind.i64 ak, SV.si IntKind.i64 apr, SV.si IntKind.i64 ato, SV.si IntKind.i64 apo, SV.si IntKind.i64 av, SV.si IntKind.i64 ap, SV.si IntKind.u8 ab0, SV.si IntKind.u8 ab1, SV.si IntKind.u8 ab2, SV.si IntKind.u8 ai0, SV.si IntKind.u8 ai1, SV.si IntKind.u8 ai2, SV.lst (.agg [.int .i64, .int .i64, .int .i64, .int .i64]) ao_nl ao], SV.agg [SV.si IntKind.i64 bk, SV.si IntKind.i64 bpr, SV.si IntKind.i64 bto, SV.si IntKind.i64 bpo, SV.si IntKind.i64 bv, SV.si IntKind.i64 bp, SV.si IntKind.u8 bb0, SV.si IntKind.u8 bb1, SV.si IntKind.u8 bb2, SV.si IntKind.u8 bi0, SV.si IntKind.u8 bi1, SV.si IntKind.u8 bi2, SV.lst (.agg [.int .i64, .int .i64, .int .i64, .int .i64]) bo_nl bo]] [] =
    (Tree.need (shortB (List.length ao)) (Tree.ret ((SV.sb (sameO ao bo && (ak == bk && (apr == bpr && (ato == bto && (apo == bpo && (av == bv && (ap == bp && (ab0 == bb0 && (ab1 == bb1 && (ab2 == bb2 && true)) && (ai0 == bi0 && (ai1 == bi1 && (ai2 == bi2 && true)) && true)))))))))), []))) := by kernel_rfl
theorem same_run (ak apr ato apo av ap ab0 ab1 ab2 ai0 ai1 ai2 : Int) (ao_nl : Bool) (ao : List D) (bk bpr bto bpo bv bp bb0 bb1 bb2 bi0 bi1 bi2 : Int) (bo_nl : Bool) (bo : List D) (hpre : (((shortB (List.length ao)))) = true) : (callG tab (envOf (P := Try.prog) [eqo_pc] [] []) 20 12 17 [SV.agg [SV.si IntKind.i64 ak, SV.si IntKind.i64 apr, SV.si IntKind.i64 ato, SV.si IntKind.i64 apo, SV.si IntKind.i64 av, SV.si IntKind.i64 ap, SV.si IntKind.u8 ab0, SV.si IntKind.u8 ab1, SV.si IntKind.u8 ab2, SV.si IntKind.u8 ai0, SV.si IntKind.u8 ai1, SV.si IntKind.u8 ai2, SV.lst (.agg [.int .i64, .int .i64, .int .i64, .int .i64]) ao_nl ao], SV.agg [SV.si IntKind.i64 bk, SV.si IntKind.i64 bpr, SV.si IntKind.i64 bto, SV.si IntKind.i64 bpo, SV.si IntKind.i64 bv, SV.si IntKind.i64 bp, SV.si IntKind.u8 bb0, SV.si IntKind.u8 bb1, SV.si IntKind.u8 bb2, SV.si IntKind.u8 bi0, SV.si IntKind.u8 bi1, SV.si IntKind.u8 bi2, SV.lst (.agg [.int .i64, .int .i64, .int .i64, .int .i64]) bo_nl bo]] []).run = some (((SV.sb (same_f ak apr ato apo av ap ab0 ab1 ab2 ai0 ai1 ai2 ao bk bpr bto bpo bv bp bb0 bb1 bb2 bi0 bi1 bi2 bo)) : SV), []) := by
  rw [same_tree]
  simp only [Tree.run_need', cond_true, Bool.and_true, Bool.true_and, Bool.and_self, Tree.run_ite', Tree.run_ret', chk_self, cond_some, cond_agg, cond_tup, cond_cons, cond_si, cond_sb, cond_str, cond_self', hpre, same_f]
def same_spec : PSpec := ⟨[(.agg [(.int .i64), (.int .i64), (.int .i64), (.int .i64), (.int .i64), (.int .i64), (.int .u8), (.int .u8), (.int .u8), (.int .u8), (.int .u8), (.int .u8), (.list (.agg [.int .i64, .int .i64, .int .i64, .int .i64]))]), (.agg [(.int .i64), (.int .i64), (.int .i64), (.int .i64), (.int .i64), (.int .i64), (.int .u8), (.int .u8), (.int .u8), (.int .u8), (.int .u8), (.int .u8), (.list (.agg [.int .i64, .int .i64, .int .i64, .int .i64]))])], fun
  | [.a [.i ak, .i apr, .i ato, .i apo, .i av, .i ap, .i ab0, .i ab1, .i ab2, .i ai0, .i ai1, .i ai2, .l ao_nl ao], .a [.i bk, .i bpr, .i bto, .i bpo, .i bv, .i bp, .i bb0, .i bb1, .i bb2, .i bi0, .i bi1, .i bi2, .l bo_nl bo]] => some (((shortB (List.length ao))), (SV.sb (same_f ak apr ato apo av ap ab0 ab1 ab2 ai0 ai1 ai2 ao bk bpr bto bpo bv bp bb0 bb1 bb2 bi0 bi1 bi2 bo)))
  | _ => none⟩
noncomputable def same_pc : PC Try.prog := PC.run2 (T := tab) follows 20 12 17 same_spec (by
  intro ds pre r h hp
  unfold same_spec at h
  simp only at h
  split at h
  · rename_i ak apr ato apo av ap ab0 ab1 ab2 ai0 ai1 ai2 ao_nl ao bk bpr bto bpo bv bp bb0 bb1 bb2 bi0 bi1 bi2 bo_nl bo
    simp only [Option.some.injEq, Prod.mk.injEq] at h
    obtain ⟨hq, rfl⟩ := h
    exact ⟨_, _, envOf_good _ _ _, same_run ak apr ato apo av ap ab0 ab1 ab2 ai0 ai1 ai2 ao_nl ao bk bpr bto bpo bv bp bb0 bb1 bb2 bi0 bi1 bi2 bo_nl bo (hq.trans hp), rfl⟩
  · cases h) (enters_of (c := codeOf Try.f17) Try.func17 (by kernel_rfl) (by kernel_rfl))
/-- What is kept of a list. -/
def kept (f : D → Bool) (x : List D) : List D := x.take (x.findIdx f) ++ ((x.drop (x.findIdx f + 1)).filter (fun d => !f d)).map reD
def tblM (nl : Bool) (x : List D) (room : Int) (md : Bool) : Hp := [none, some ⟨.cells [.own 2, .si .i64 room, .sb md], 64, false⟩, some ⟨.rows (.agg [.int .i64, .int .i64, .int .i64, .int .i64, .int .i64, .int .i64, .int .u8, .int .u8, .int .u8, .int .u8, .int .u8, .int .u8, .list (.agg [.int .i64, .int .i64, .int .i64, .int .i64])]) nl x, 35, false⟩]
theorem kept_eq {f : D → Bool} {x : List D} (h : x.any f = true) : ((clrS f x).take (delN f x)).drop 0 = kept f x := by
  obtain ⟨h1, h2, h3⟩ := del_spec h
  unfold clrS kept
  rw [List.drop_zero, List.append_assoc, List.take_append_of_le_length (by simp; omega), List.take_take, Nat.min_self, h3]
theorem loose_tree (x_nl : Bool) (x : List D) (room : Int) (md : Bool) (mv mp mb0 mb1 mb2 mi0 mi1 mi2 : Int) : callG tab (envOf (P := Try.prog) [] [dell_ct] []) 20 12 30 [SV.ref 1 0, SV.agg [SV.si IntKind.i64 mv, SV.si IntKind.i64 mp, SV.si IntKind.u8 mb0, SV.si IntKind.u8 mb1, SV.si IntKind.u8 mb2, SV.si IntKind.u8 mi0, SV.si IntKind.u8 mi1, SV.si IntKind.u8 mi2]] [some ⟨.rows (.agg [.int .i64, .int .i64, .int .i64, .int .i64, .int .i64, .int .i64, .int .u8, .int .u8, .int .u8, .int .u8, .int .u8, .int .u8, .list (.agg [.int .i64, .int .i64, .int .i64, .int .i64])]) x_nl x, 35, false⟩, some ⟨.cells [SV.own 0, SV.si IntKind.i64 room, SV.sb md], 64, false⟩] =
    (Tree.ite (!md) (Tree.ret ((SV.si IntKind.i64 ((0 : Int))), [(Option.some (Blk.mk (Con.rows (Sh.agg [(Sh.int IntKind.i64), (Sh.int IntKind.i64), (Sh.int IntKind.i64), (Sh.int IntKind.i64), (Sh.int IntKind.i64), (Sh.int IntKind.i64), (Sh.int IntKind.u8), (Sh.int IntKind.u8), (Sh.int IntKind.u8), (Sh.int IntKind.u8), (Sh.int IntKind.u8), (Sh.int IntKind.u8), (Sh.list (Sh.agg [(Sh.int IntKind.i64), (Sh.int IntKind.i64), (Sh.int IntKind.i64), (Sh.int IntKind.i64)]))]) (x_nl) (x)) 35 (false))), (Option.some (Blk.mk (Con.cells [(SV.own 0), (SV.si IntKind.i64 (room)), (SV.sb (md))]) 64 (false)))])) (Tree.need (fewB (List.length x)) (Tree.ite (List.any x (looseB mv mp mb0 mb1 mb2 mi0 mi1 mi2)) (Tree.ret ((SV.si IntKind.i64 (IntKind.wrap IntKind.i64 ((↑(List.length x) : Int) - (↑(List.length (List.drop (0 : Nat) (List.take (delN (looseB mv mp mb0 mb1 mb2 mi0 mi1 mi2) x) (clrS (looseB mv mp mb0 mb1 mb2 mi0 mi1 mi2) x)))) : Int)))), [Option.none, (Option.some (Blk.mk (Con.cells [(SV.own 2), (SV.si IntKind.i64 (room)), (SV.sb (md))]) 64 (false))), (Option.some (Blk.mk (Con.rows (Sh.agg [(Sh.int IntKind.i64), (Sh.int IntKind.i64), (Sh.int IntKind.i64), (Sh.int IntKind.i64), (Sh.int IntKind.i64), (Sh.int IntKind.i64), (Sh.int IntKind.u8), (Sh.int IntKind.u8), (Sh.int IntKind.u8), (Sh.int IntKind.u8), (Sh.int IntKind.u8), (Sh.int IntKind.u8), (Sh.list (Sh.agg [(Sh.int IntKind.i64), (Sh.int IntKind.i64), (Sh.int IntKind.i64), (Sh.int IntKind.i64)]))]) (x_nl) (List.drop (0 : Nat) (List.take (delN (looseB mv mp mb0 mb1 mb2 mi0 mi1 mi2) x) (clrS (looseB mv mp mb0 mb1 mb2 mi0 mi1 mi2) x)))) 35 (false)))])) (Tree.ret ((SV.si IntKind.i64 (IntKind.wrap IntKind.i64 ((↑(List.length x) : Int) - (↑(List.length x) : Int)))), [(Option.some (Blk.mk (Con.rows (Sh.agg [(Sh.int IntKind.i64), (Sh.int IntKind.i64), (Sh.int IntKind.i64), (Sh.int IntKind.i64), (Sh.int IntKind.i64), (Sh.int IntKind.i64), (Sh.int IntKind.u8), (Sh.int IntKind.u8), (Sh.int IntKind.u8), (Sh.int IntKind.u8), (Sh.int IntKind.u8), (Sh.int IntKind.u8), (Sh.list (Sh.agg [(Sh.int IntKind.i64), (Sh.int IntKind.i64), (Sh.int IntKind.i64), (Sh.int IntKind.i64)]))]) (x_nl) (x)) 35 (false))), (Option.some (Blk.mk (Con.cells [(SV.own 0), (SV.si IntKind.i64 (room)), (SV.sb (md))]) 64 (false)))]))))) := by kernel_rfl
theorem loose_run (x_nl : Bool) (x : List D) (room : Int) (md : Bool) (mv mp mb0 mb1 mb2 mi0 mi1 mi2 : Int) {r : SV} {H' : Hp} (h : (.need (fewB x.length) (bif !md then (.ret (.si .i64 0, tblH x_nl x room md)) else (.ite (x.any (looseB mv mp mb0 mb1 mb2 mi0 mi1 mi2)) (.ret (.si .i64 ((x.length : Int) - ((kept (looseB mv mp mb0 mb1 mb2 mi0 mi1 mi2) x).length : Int)), tblM x_nl (kept (looseB mv mp mb0 mb1 mb2 mi0 mi1 mi2) x) room md)) (.ret (.si .i64 0, tblH x_nl x room md)))) : Tree (SV × Hp)).run = some (r, H')) : (callG tab (envOf (P := Try.prog) [] [dell_ct] []) 20 12 30 [SV.ref 1 0, SV.agg [SV.si IntKind.i64 mv, SV.si IntKind.i64 mp, SV.si IntKind.u8 mb0, SV.si IntKind.u8 mb1, SV.si IntKind.u8 mb2, SV.si IntKind.u8 mi0, SV.si IntKind.u8 mi1, SV.si IntKind.u8 mi2]] [some ⟨.rows (.agg [.int .i64, .int .i64, .int .i64, .int .i64, .int .i64, .int .i64, .int .u8, .int .u8, .int .u8, .int .u8, .int .u8, .int .u8, .list (.agg [.int .i64, .int .i64, .int .i64, .int .i64])]) x_nl x, 35, false⟩, some ⟨.cells [SV.own 0, SV.si IntKind.i64 room, SV.sb md], 64, false⟩]).run = some (r, H') := by
  rw [loose_tree]
  obtain ⟨hp_, h_⟩ := Tree.run_need h
  have hp0_ := hp_
  simp only [fewB, decide_eq_true_eq] at hp_
  rw [← h_]
  simp only [Tree.run_ret', Tree.run_need', Tree.run_ite', hp0_, cond_true]
  cases md with
  | false => rfl
  | true =>
    simp only [Bool.not_true, cond_false]
    cases ha_ : x.any (looseB mv mp mb0 mb1 mb2 mi0 mi1 mi2) with
    | false =>
      simp only [cond_false, Int.sub_self]
      rfl
    | true =>
      have hk_ := kept_eq ha_
      have hl_ : (kept (looseB mv mp mb0 mb1 mb2 mi0 mi1 mi2) x).length ≤ x.length := by
        obtain ⟨h1_, h2_, h3_⟩ := del_spec ha_
        rw [← hk_, List.drop_zero, List.length_take]
        have : (clrS (looseB mv mp mb0 mb1 mb2 mi0 mi1 mi2) x).length = x.length := by
          unfold clrS
          simp only [List.length_append, List.length_take, List.length_replicate, List.length_drop, h1_]
          omega
        omega
      simp only [cond_true]
      rw [hk_, wrap64 (by omega) (by omega)]
      rfl
def loose_tr : List D → Option (Tree (SV × Hp))
  | [.l x_nl x, .i room, .b md, .a [.i mv, .i mp, .i mb0, .i mb1, .i mb2, .i mi0, .i mi1, .i mi2]] => some (.need (fewB x.length) (bif !md then (.ret (.si .i64 0, tblH x_nl x room md)) else (.ite (x.any (looseB mv mp mb0 mb1 mb2 mi0 mi1 mi2)) (.ret (.si .i64 ((x.length : Int) - ((kept (looseB mv mp mb0 mb1 mb2 mi0 mi1 mi2) x).length : Int)), tblM x_nl (kept (looseB mv mp mb0 mb1 mb2 mi0 mi1 mi2) x) room md)) (.ret (.si .i64 0, tblH x_nl x room md)))))
  | _ => none
noncomputable def loose_ct : Ct Try.prog := Ct.runF (T := tab) follows 20 12 30 [.p 64 [.own 35 (.agg [.int .i64, .int .i64, .int .i64, .int .i64, .int .i64, .int .i64, .int .u8, .int .u8, .int .u8, .int .u8, .int .u8, .int .u8, .list (.agg [.int .i64, .int .i64, .int .i64, .int .i64])]), .d (.int .i64), .d .bool], .d (.agg [(.int .i64), (.int .i64), (.int .u8), (.int .u8), (.int .u8), (.int .u8), (.int .u8), (.int .u8)])] loose_tr (by
  intro ds t r H' ht hr
  unfold loose_tr at ht
  split at ht
  · rename_i x_nl x room md mv mp mb0 mb1 mb2 mi0 mi1 mi2
    simp only [Option.some.injEq] at ht
    subst ht
    exact ⟨_, _, _, envOf_good _ _ _, loose_run x_nl x room md mv mp mb0 mb1 mb2 mi0 mi1 mi2 hr, rfl, rfl⟩
  · cases ht) (enters_of (c := codeOf Try.f30) Try.func30 (by kernel_rfl) (by kernel_rfl))
theorem wipe_tree (x_nl : Bool) (x : List D) (room : Int) (md : Bool) : callG tab (envOf (P := Try.prog) [] [delw_ct] []) 20 12 32 [SV.ref 1 0] [some ⟨.rows (.agg [.int .i64, .int .i64, .int .i64, .int .i64, .int .i64, .int .i64, .int .u8, .int .u8, .int .u8, .int .u8, .int .u8, .int .u8, .list (.agg [.int .i64, .int .i64, .int .i64, .int .i64])]) x_nl x, 35, false⟩, some ⟨.cells [SV.own 0, SV.si IntKind.i64 room, SV.sb md], 64, false⟩] =
    (Tree.ite (!md) (Tree.ret ((SV.si IntKind.i64 ((0 : Int))), [(Option.some (Blk.mk (Con.rows (Sh.agg [(Sh.int IntKind.i64), (Sh.int IntKind.i64), (Sh.int IntKind.i64), (Sh.int IntKind.i64), (Sh.int IntKind.i64), (Sh.int IntKind.i64), (Sh.int IntKind.u8), (Sh.int IntKind.u8), (Sh.int IntKind.u8), (Sh.int IntKind.u8), (Sh.int IntKind.u8), (Sh.int IntKind.u8), (Sh.list (Sh.agg [(Sh.int IntKind.i64), (Sh.int IntKind.i64), (Sh.int IntKind.i64), (Sh.int IntKind.i64)]))]) (x_nl) (x)) 35 (false))), (Option.some (Blk.mk (Con.cells [(SV.own 0), (SV.si IntKind.i64 (room)), (SV.sb (md))]) 64 (false)))])) (Tree.need (fewB (List.length x)) (Tree.ite (List.any x allB) (Tree.ret ((SV.si IntKind.i64 (IntKind.wrap IntKind.i64 ((↑(List.length x) : Int) - (↑(List.length (List.drop (0 : Nat) (List.take (delN allB x) (clrS allB x)))) : Int)))), [Option.none, (Option.some (Blk.mk (Con.cells [(SV.own 2), (SV.si IntKind.i64 (room)), (SV.sb (md))]) 64 (false))), (Option.some (Blk.mk (Con.rows (Sh.agg [(Sh.int IntKind.i64), (Sh.int IntKind.i64), (Sh.int IntKind.i64), (Sh.int IntKind.i64), (Sh.int IntKind.i64), (Sh.int IntKind.i64), (Sh.int IntKind.u8), (Sh.int IntKind.u8), (Sh.int IntKind.u8), (Sh.int IntKind.u8), (Sh.int IntKind.u8), (Sh.int IntKind.u8), (Sh.list (Sh.agg [(Sh.int IntKind.i64), (Sh.int IntKind.i64), (Sh.int IntKind.i64), (Sh.int IntKind.i64)]))]) (x_nl) (List.drop (0 : Nat) (List.take (delN allB x) (clrS allB x)))) 35 (false)))])) (Tree.ret ((SV.si IntKind.i64 (IntKind.wrap IntKind.i64 ((↑(List.length x) : Int) - (↑(List.length x) : Int)))), [(Option.some (Blk.mk (Con.rows (Sh.agg [(Sh.int IntKind.i64), (Sh.int IntKind.i64), (Sh.int IntKind.i64), (Sh.int IntKind.i64), (Sh.int IntKind.i64), (Sh.int IntKind.i64), (Sh.int IntKind.u8), (Sh.int IntKind.u8), (Sh.int IntKind.u8), (Sh.int IntKind.u8), (Sh.int IntKind.u8), (Sh.int IntKind.u8), (Sh.list (Sh.agg [(Sh.int IntKind.i64), (Sh.int IntKind.i64), (Sh.int IntKind.i64), (Sh.int IntKind.i64)]))]) (x_nl) (x)) 35 (false))), (Option.some (Blk.mk (Con.cells [(SV.own 0), (SV.si IntKind.i64 (room)), (SV.sb (md))]) 64 (false)))]))))) := by kernel_rfl
theorem wipe_run (x_nl : Bool) (x : List D) (room : Int) (md : Bool) {r : SV} {H' : Hp} (h : (.need (fewB x.length) (bif !md then (.ret (.si .i64 0, tblH x_nl x room md)) else (.ite (x.any allB) (.ret (.si .i64 ((x.length : Int) - ((kept allB x).length : Int)), tblM x_nl (kept allB x) room md)) (.ret (.si .i64 0, tblH x_nl x room md)))) : Tree (SV × Hp)).run = some (r, H')) : (callG tab (envOf (P := Try.prog) [] [delw_ct] []) 20 12 32 [SV.ref 1 0] [some ⟨.rows (.agg [.int .i64, .int .i64, .int .i64, .int .i64, .int .i64, .int .i64, .int .u8, .int .u8, .int .u8, .int .u8, .int .u8, .int .u8, .list (.agg [.int .i64, .int .i64, .int .i64, .int .i64])]) x_nl x, 35, false⟩, some ⟨.cells [SV.own 0, SV.si IntKind.i64 room, SV.sb md], 64, false⟩]).run = some (r, H') := by
  rw [wipe_tree]
  obtain ⟨hp_, h_⟩ := Tree.run_need h
  have hp0_ := hp_
  simp only [fewB, decide_eq_true_eq] at hp_
  rw [← h_]
  simp only [Tree.run_ret', Tree.run_need', Tree.run_ite', hp0_, cond_true]
  cases md with
  | false => rfl
  | true =>
    simp only [Bool.not_true, cond_false]
    cases ha_ : x.any allB with
    | false =>
      simp only [cond_false, Int.sub_self]
      rfl
    | true =>
      have hk_ := kept_eq ha_
      have hl_ : (kept allB x).length ≤ x.length := by
        obtain ⟨h1_, h2_, h3_⟩ := del_spec ha_
        rw [← hk_, List.drop_zero, List.length_take]
        have : (clrS allB x).length = x.length := by
          unfold clrS
          simp only [List.length_append, List.length_take, List.length_replicate, List.length_drop, h1_]
          omega
        omega
      simp only [cond_true]
      rw [hk_, wrap64 (by omega) (by omega)]
      rfl
def wipe_tr : List D → Option (Tree (SV × Hp))
  | [.l x_nl x, .i room, .b md] => some (.need (fewB x.length) (bif !md then (.ret (.si .i64 0, tblH x_nl x room md)) else (.ite (x.any allB) (.ret (.si .i64 ((x.length : Int) - ((kept allB x).length : Int)), tblM x_nl (kept allB x) room md)) (.ret (.si .i64 0, tblH x_nl x room md)))))
  | _ => none
noncomputable def wipe_ct : Ct Try.prog := Ct.runF (T := tab) follows 20 12 32 [.p 64 [.own 35 (.agg [.int .i64, .int .i64, .int .i64, .int .i64, .int .i64, .int .i64, .int .u8, .int .u8, .int .u8, .int .u8, .int .u8, .int .u8, .list (.agg [.int .i64, .int .i64, .int .i64, .int .i64])]), .d (.int .i64), .d .bool]] wipe_tr (by
  intro ds t r H' ht hr
  unfold wipe_tr at ht
  split at ht
  · rename_i x_nl x room md
    simp only [Option.some.injEq] at ht
    subst ht
    exact ⟨_, _, _, envOf_good _ _ _, wipe_run x_nl x room md hr, rfl, rfl⟩
  · cases ht) (enters_of (c := codeOf Try.f32) Try.func32 (by kernel_rfl) (by kernel_rfl))
theorem len_tree (x_nl : Bool) (x : List D) (room : Int) (md : Bool) : callG tab (envOf (P := Try.prog) [] [] []) 20 12 14 [SV.ref 1 0] [some ⟨.rows (.agg [.int .i64, .int .i64, .int .i64, .int .i64, .int .i64, .int .i64, .int .u8, .int .u8, .int .u8, .int .u8, .int .u8, .int .u8, .list (.agg [.int .i64, .int .i64, .int .i64, .int .i64])]) x_nl x, 35, true⟩, some ⟨.cells [SV.own 0, SV.si IntKind.i64 room, SV.sb md], 64, true⟩] =
    (Tree.ite (!md) (Tree.ret ((SV.si IntKind.i64 ((0 : Int))), [(Option.some (Blk.mk (Con.rows (Sh.agg [(Sh.int IntKind.i64), (Sh.int IntKind.i64), (Sh.int IntKind.i64), (Sh.int IntKind.i64), (Sh.int IntKind.i64), (Sh.int IntKind.i64), (Sh.int IntKind.u8), (Sh.int IntKind.u8), (Sh.int IntKind.u8), (Sh.int IntKind.u8), (Sh.int IntKind.u8), (Sh.int IntKind.u8), (Sh.list (Sh.agg [(Sh.int IntKind.i64), (Sh.int IntKind.i64), (Sh.int IntKind.i64), (Sh.int IntKind.i64)]))]) (x_nl) (x)) 35 (true))), (Option.some (Blk.mk (Con.cells [(SV.own 0), (SV.si IntKind.i64 (room)), (SV.sb (md))]) 64 (true)))])) (Tree.ret ((SV.si IntKind.i64 ((↑(List.length x) : Int))), [(Option.some (Blk.mk (Con.rows (Sh.agg [(Sh.int IntKind.i64), (Sh.int IntKind.i64), (Sh.int IntKind.i64), (Sh.int IntKind.i64), (Sh.int IntKind.i64), (Sh.int IntKind.i64), (Sh.int IntKind.u8), (Sh.int IntKind.u8), (Sh.int IntKind.u8), (Sh.int IntKind.u8), (Sh.int IntKind.u8), (Sh.int IntKind.u8), (Sh.list (Sh.agg [(Sh.int IntKind.i64), (Sh.int IntKind.i64), (Sh.int IntKind.i64), (Sh.int IntKind.i64)]))]) (x_nl) (x)) 35 (true))), (Option.some (Blk.mk (Con.cells [(SV.own 0), (SV.si IntKind.i64 (room)), (SV.sb (md))]) 64 (true)))]))) := by kernel_rfl
theorem len_run (x_nl : Bool) (x : List D) (room : Int) (md : Bool) {r : SV} {H' : Hp} (h : (.ret (.si .i64 (bif md then (x.length : Int) else 0), [some ⟨.rows (.agg [.int .i64, .int .i64, .int .i64, .int .i64, .int .i64, .int .i64, .int .u8, .int .u8, .int .u8, .int .u8, .int .u8, .int .u8, .list (.agg [.int .i64, .int .i64, .int .i64, .int .i64])]) x_nl x, 35, true⟩, some ⟨.cells [SV.own 0, SV.si IntKind.i64 room, SV.sb md], 64, true⟩]) : Tree (SV × Hp)).run = some (r, H')) : (callG tab (envOf (P := Try.prog) [] [] []) 20 12 14 [SV.ref 1 0] [some ⟨.rows (.agg [.int .i64, .int .i64, .int .i64, .int .i64, .int .i64, .int .i64, .int .u8, .int .u8, .int .u8, .int .u8, .int .u8, .int .u8, .list (.agg [.int .i64, .int .i64, .int .i64, .int .i64])]) x_nl x, 35, true⟩, some ⟨.cells [SV.own 0, SV.si IntKind.i64 room, SV.sb md], 64, true⟩]).run = some (r, H') := by
  rw [len_tree]
  rw [← h]
  simp only [Tree.run_ret', Tree.run_need', Tree.run_ite', chk_self, cond_true]
  cases md <;> rfl
def len_tr : List D → Option (Tree (SV × Hp))
  | [.l x_nl x, .i room, .b md] => some (.ret (.si .i64 (bif md then (x.length : Int) else 0), [some ⟨.rows (.agg [.int .i64, .int .i64, .int .i64, .int .i64, .int .i64, .int .i64, .int .u8, .int .u8, .int .u8, .int .u8, .int .u8, .int .u8, .list (.agg [.int .i64, .int .i64, .int .i64, .int .i64])]) x_nl x, 35, true⟩, some ⟨.cells [SV.own 0, SV.si IntKind.i64 room, SV.sb md], 64, true⟩]))
  | _ => none
noncomputable def len_ct : Ct Try.prog := Ct.run (T := tab) follows 20 12 14 [.p 64 [.own 35 (.agg [.int .i64, .int .i64, .int .i64, .int .i64, .int .i64, .int .i64, .int .u8, .int .u8, .int .u8, .int .u8, .int .u8, .int .u8, .list (.agg [.int .i64, .int .i64, .int .i64, .int .i64])]), .d (.int .i64), .d .bool]] len_tr (by
  intro ds t r H' ht hr
  unfold len_tr at ht
  split at ht
  · rename_i x_nl x room md
    simp only [Option.some.injEq] at ht
    subst ht
    exact ⟨_, _, _, envOf_good _ _ _, len_run x_nl x room md hr, rfl, rfl⟩
  · cases ht) (enters_of (c := codeOf Try.f14) Try.func14 (by kernel_rfl) (by kernel_rfl))
/-- A rule, copied. -/
def cpy (d : D) : D := cpD (rkD d) (d.at 12).nl (d.at 12).xs
def outsFew (d : D) : Bool := (d.at 12).nl || fewB (d.at 12).xs.length
noncomputable def rul0_tm (x_nl : Bool) (x : List D) (room : Int) (md : Bool) (t12 : Int) (out_nl : Bool) (out : List D) : St :=
  ⟨(Tm.at 23 [(2, (Slot.is (SV.own 2))), (10, (Slot.is (SV.own 0))), (11, (Slot.is (SV.si IntKind.i64 ((↑(List.length x) : Int))))), (12, (Slot.is (SV.si IntKind.i64 (t12))))]), [(Option.some (Blk.mk (Con.rows (Sh.agg [(Sh.int IntKind.i64), (Sh.int IntKind.i64), (Sh.int IntKind.i64), (Sh.int IntKind.i64), (Sh.int IntKind.i64), (Sh.int IntKind.i64), (Sh.int IntKind.u8), (Sh.int IntKind.u8), (Sh.int IntKind.u8), (Sh.int IntKind.u8), (Sh.int IntKind.u8), (Sh.int IntKind.u8), (Sh.list (Sh.agg [(Sh.int IntKind.i64), (Sh.int IntKind.i64), (Sh.int IntKind.i64), (Sh.int IntKind.i64)]))]) (x_nl) (x)) 35 (false))), (Option.some (Blk.mk (Con.cells [(SV.own 0), (SV.si IntKind.i64 (room)), (SV.sb (md))]) 64 (false))), (Option.some (Blk.mk (Con.rows (Sh.agg [(Sh.int IntKind.i64), (Sh.int IntKind.i64), (Sh.int IntKind.i64), (Sh.int IntKind.i64), (Sh.int IntKind.i64), (Sh.int IntKind.i64), (Sh.int IntKind.u8), (Sh.int IntKind.u8), (Sh.int IntKind.u8), (Sh.int IntKind.u8), (Sh.int IntKind.u8), (Sh.int IntKind.u8), (Sh.list (Sh.agg [(Sh.int IntKind.i64), (Sh.int IntKind.i64), (Sh.int IntKind.i64), (Sh.int IntKind.i64)]))]) (out_nl) (out)) 35 (false)))]⟩
def rul0_lp : LP := { base := 2, mv := [], mask := 7172, maskX := 4, nm := 4100, nb := [], kl := [], klX := [], ow := [⟨none, 2, (.agg [.int .i64, .int .i64, .int .i64, .int .i64, .int .i64, .int .i64, .int .u8, .int .u8, .int .u8, .int .u8, .int .u8, .int .u8, .list (.agg [.int .i64, .int .i64, .int .i64, .int .i64])]), 35⟩] }
noncomputable def rul0_x0 (x_nl : Bool) (x : List D) (room : Int) (md : Bool) (t12 : Int) (out_nl : Bool) (out : List D) : St :=
  ⟨(Tm.at 23 [(2, (Slot.is (SV.own 2)))]), [(Option.some (Blk.mk (Con.rows (Sh.agg [(Sh.int IntKind.i64), (Sh.int IntKind.i64), (Sh.int IntKind.i64), (Sh.int IntKind.i64), (Sh.int IntKind.i64), (Sh.int IntKind.i64), (Sh.int IntKind.u8), (Sh.int IntKind.u8), (Sh.int IntKind.u8), (Sh.int IntKind.u8), (Sh.int IntKind.u8), (Sh.int IntKind.u8), (Sh.list (Sh.agg [(Sh.int IntKind.i64), (Sh.int IntKind.i64), (Sh.int IntKind.i64), (Sh.int IntKind.i64)]))]) (x_nl) (x)) 35 (false))), (Option.some (Blk.mk (Con.cells [(SV.own 0), (SV.si IntKind.i64 (room)), (SV.sb (md))]) 64 (false))), (Option.some (Blk.mk (Con.rows (Sh.agg [(Sh.int IntKind.i64), (Sh.int IntKind.i64), (Sh.int IntKind.i64), (Sh.int IntKind.i64), (Sh.int IntKind.i64), (Sh.int IntKind.i64), (Sh.int IntKind.u8), (Sh.int IntKind.u8), (Sh.int IntKind.u8), (Sh.int IntKind.u8), (Sh.int IntKind.u8), (Sh.int IntKind.u8), (Sh.list (Sh.agg [(Sh.int IntKind.i64), (Sh.int IntKind.i64), (Sh.int IntKind.i64), (Sh.int IntKind.i64)]))]) (out_nl) (out)) 35 (false)))]⟩
theorem rul0_round (x_nl : Bool) (x : List D) (room : Int) (md : Bool) (t12 : Int) (out_nl : Bool) (out : List D) : roundC (bodyF tab (envOf (P := Try.prog) [] [] []) 20 12 27 0 (loopOf (codeOf Try.f27) 0)) rul0_lp (rul0_tm x_nl x room md t12 out_nl out) =
    (Tree.ite (decide (t12 < (↑(List.length x) : Int))) (Tree.need (decide ((0 : Int) ≤ t12) && decide (t12 < (↑(List.length x) : Int))) (Tree.ite (D.nl (D.at (List.getD x (Int.toNat t12) default) (12 : Nat))) (Tree.need (decide ((List.length out + (1 : Nat)) * (80 : Nat) ≤ (140737488355328 : Nat)) && decide (List.length out + (1 : Nat) ≤ (4611686018427387904 : Nat))) (Tree.ret (Ex.normal, (rul0_tm (x_nl) (x) (room) (md) (IntKind.wrap IntKind.i64 (t12 + (1 : Int))) (out_nl && false) (out ++ [D.a [D.i (D.int (D.at (List.getD x (Int.toNat t12) default) (0 : Nat))), D.i (D.int (D.at (List.getD x (Int.toNat t12) default) (1 : Nat))), D.i (D.int (D.at (List.getD x (Int.toNat t12) default) (2 : Nat))), D.i (D.int (D.at (List.getD x (Int.toNat t12) default) (3 : Nat))), D.i (D.int (D.at (List.getD x (Int.toNat t12) default) (4 : Nat))), D.i (D.int (D.at (List.getD x (Int.toNat t12) default) (5 : Nat))), D.i (D.int (D.at (List.getD x (Int.toNat t12) default) (6 : Nat))), D.i (D.int (D.at (List.getD x (Int.toNat t12) default) (7 : Nat))), D.i (D.int (D.at (List.getD x (Int.toNat t12) default) (8 : Nat))), D.i (D.int (D.at (List.getD x (Int.toNat t12) default) (9 : Nat))), D.i (D.int (D.at (List.getD x (Int.toNat t12) default) (10 : Nat))), D.i (D.int (D.at (List.getD x (Int.toNat t12) default) (11 : Nat))), D.l true []]]))))) (Tree.need (decide (List.length (D.xs (D.at (List.getD x (Int.toNat t12) default) (12 : Nat))) * (32 : Nat) ≤ (140737488355328 : Nat)) && decide (List.length (D.xs (D.at (List.getD x (Int.toNat t12) default) (12 : Nat))) ≤ (4611686018427387904 : Nat))) (Tree.need (decide ((List.length out + (1 : Nat)) * (80 : Nat) ≤ (140737488355328 : Nat)) && decide (List.length out + (1 : Nat) ≤ (4611686018427387904 : Nat))) (Tree.ret (Ex.normal, (rul0_tm (x_nl) (x) (room) (md) (IntKind.wrap IntKind.i64 (t12 + (1 : Int))) (out_nl && false) (out ++ [D.a [D.i (D.int (D.at (List.getD x (Int.toNat t12) default) (0 : Nat))), D.i (D.int (D.at (List.getD x (Int.toNat t12) default) (1 : Nat))), D.i (D.int (D.at (List.getD x (Int.toNat t12) default) (2 : Nat))), D.i (D.int (D.at (List.getD x (Int.toNat t12) default) (3 : Nat))), D.i (D.int (D.at (List.getD x (Int.toNat t12) default) (4 : Nat))), D.i (D.int (D.at (List.getD x (Int.toNat t12) default) (5 : Nat))), D.i (D.int (D.at (List.getD x (Int.toNat t12) default) (6 : Nat))), D.i (D.int (D.at (List.getD x (Int.toNat t12) default) (7 : Nat))), D.i (D.int (D.at (List.getD x (Int.toNat t12) default) (8 : Nat))), D.i (D.int (D.at (List.getD x (Int.toNat t12) default) (9 : Nat))), D.i (D.int (D.at (List.getD x (Int.toNat t12) default) (10 : Nat))), D.i (D.int (D.at (List.getD x (Int.toNat t12) default) (11 : Nat))), D.l (false && List.isEmpty (D.xs (D.at (List.getD x (Int.toNat t12) default) (12 : Nat)))) (D.xs (D.at (List.getD x (Int.toNat t12) default) (12 : Nat)))]])))))))) (Tree.ret ((Ex.exit 0), (rul0_x0 (x_nl) (x) (room) (md) (t12) (out_nl) (out))))) := by kernel_rfl
noncomputable def rul0_res (x_nl : Bool) (x : List D) (room : Int) (md : Bool) (t12 : Int) (out_nl : Bool) (out : List D) : Tree (Ex × St) := .need (decide (t12 = 0) && (out.isEmpty && (out_nl && (fewB x.length && x.all outsFew)))) (.ret (.exit 0, rul0_x0 x_nl x room md (x.length : Nat) (x.map cpy).isEmpty (x.map cpy)))
theorem emp_snoc (l : List D) (d : D) : (l ++ [d]).isEmpty = false := by simp
theorem fold_snoc {f : D → D} : ∀ (l out : List D), l.foldl (fun o x => o ++ [f x]) out = out ++ l.map f
  | [], out => by simp
  | a :: r, out => by simp [fold_snoc r]
theorem rul0_ok (x_nl : Bool) (x : List D) (room : Int) (md : Bool) (t12 : Int) (out_nl : Bool) (out : List D) (ex : Ex) (st' : St) (hrun_ : (rul0_res x_nl x room md t12 out_nl out).run = some (ex, st')) : ∃ n, iterC (roundC (bodyF tab (envOf (P := Try.prog) [] [] []) 20 12 27 0 (loopOf (codeOf Try.f27) 0)) rul0_lp) n (rul0_tm x_nl x room md t12 out_nl out) = some (ex, st') := by
  obtain ⟨hp_, h_⟩ := Tree.run_need hrun_
  simp only [Bool.and_eq_true, decide_eq_true_eq] at hp_
  obtain ⟨e_, e1_, e2_, e4_, e5_⟩ := hp_
  simp only [Tree.run, Option.some.injEq, Prod.mk.injEq] at h_
  obtain ⟨rfl, rfl⟩ := h_
  subst e_
  have e3_ : out = [] := by simpa using e1_
  subst e3_
  subst e2_
  have hx_ : x.length ≤ 1000 := by simpa [fewB] using e4_
  have main_ := fold_loop0 (B := roundC (bodyF tab (envOf (P := Try.prog) [] [] []) 20 12 27 0 (loopOf (codeOf Try.f27) 0)) rul0_lp) (tm := fun t_ (o_ : List D) => rul0_tm x_nl x room md t_ o_.isEmpty o_) (s := x) (g := fun o d => o ++ [cpy d]) (fin := fun o_ => (.exit 0, rul0_x0 x_nl x room md (x.length : Nat) o_.isEmpty o_)) (I := fun k o => o.length ≤ k) (x := []) (by simp) ?_ ?_ (fun _ => by simp)
  · rw [fold_snoc, List.nil_append] at main_
    exact main_
  · intro k_ x_ hk_ hi_
    refine ⟨?_, by simp; omega⟩
    have d1_ : decide ((k_ : Int) < (x.length : Nat)) = true := by simp; omega
    have d2_ : decide ((0 : Int) ≤ (k_ : Int)) = true := by simp
    have d3_ : decide ((x_.length + 1) * 80 ≤ 140737488355328) = true := by simp; omega
    have d4_ : decide (x_.length + 1 ≤ 4611686018427387904) = true := by simp; omega
    have d5_ : outsFew (x.getD k_ default) = true := by
      rw [getD_at hk_]
      exact List.all_eq_true.1 e5_ _ (List.getElem_mem hk_)
    rw [rul0_round]
    simp only [Tree.run_ret', Tree.run_need', Tree.run_ite', d1_, d2_, d3_, d4_, Bool.and_self, cond_true, Int.toNat_natCast, wrap64 (n := (k_ : Int) + 1) (by omega) (by omega), emp_snoc, Bool.and_false]
    have d6_ : ((x.getD k_ default).at 12).nl = false → decide (((x.getD k_ default).at 12).xs.length * 32 ≤ 140737488355328) = true ∧ decide (((x.getD k_ default).at 12).xs.length ≤ 4611686018427387904) = true := by
      intro hn_
      unfold outsFew at d5_
      rw [hn_, Bool.false_or] at d5_
      simp only [fewB, decide_eq_true_eq] at d5_
      exact ⟨decide_eq_true (by omega), decide_eq_true (by omega)⟩
    unfold cpy
    revert d6_
    cases ((x.getD k_ default).at 12).nl with
    | true => intro _; rfl
    | false =>
      intro d6_
      obtain ⟨d7_, d8_⟩ := d6_ rfl
      simp only [d7_, d8_, cond_false, cond_true, Bool.and_self]
      rfl
  · intro x_ hi_
    have d1_ : decide (((x.length : Nat) : Int) < (x.length : Nat)) = false := by simp
    simp only [rul0_round, Tree.run_ite', d1_]
    rfl
noncomputable def rul0_run (x_nl : Bool) (x : List D) (room : Int) (md : Bool) (st : St) : Tree (Ex × St) := .need (chkSt st (rul0_tm x_nl x room md (iOf (slotV st 12)) (nlOf (rowsV st 2)) (xsOf (rowsV st 2)))) (rul0_res x_nl x room md (iOf (slotV st 12)) (nlOf (rowsV st 2)) (xsOf (rowsV st 2)))
noncomputable def rul0_lc (x_nl : Bool) (x : List D) (room : Int) (md : Bool) : LC Try.prog := LC.of (T := tab) follows (envOf_good _ _ _) 20 12 27 0 Try.f27 Try.func27 (codeOf Try.f27) (loopOf (codeOf Try.f27) 0) (by kernel_rfl) (by kernel_rfl) rul0_lp (rul0_run x_nl x room md)
  (inner_loops (c := codeOf Try.f27) Try.func27 (by kernel_rfl) (by kernel_rfl))
  (by
    intro st ex st' h
    obtain ⟨hc, h⟩ := Tree.run_need h
    have e := chk_iff.1 hc
    have := rul0_ok x_nl x room md _ _ _ ex st' h
    rw [← e] at this
    exact this)
theorem rules_tree (x_nl : Bool) (x : List D) (room : Int) (md : Bool) : callG tab (envOf (P := Try.prog) [] [] [(rul0_lc x_nl x room md)]) 20 12 27 [SV.ref 1 0] [some ⟨.rows (.agg [.int .i64, .int .i64, .int .i64, .int .i64, .int .i64, .int .i64, .int .u8, .int .u8, .int .u8, .int .u8, .int .u8, .int .u8, .list (.agg [.int .i64, .int .i64, .int .i64, .int .i64])]) x_nl x, 35, false⟩, some ⟨.cells [SV.own 0, SV.si IntKind.i64 room, SV.sb md], 64, false⟩] =
    (Tree.ite (!md) (Tree.ret ((SV.val (Value.slice none (nat_lit 0) (nat_lit 0))), [(Option.some (Blk.mk (Con.rows (Sh.agg [(Sh.int IntKind.i64), (Sh.int IntKind.i64), (Sh.int IntKind.i64), (Sh.int IntKind.i64), (Sh.int IntKind.i64), (Sh.int IntKind.i64), (Sh.int IntKind.u8), (Sh.int IntKind.u8), (Sh.int IntKind.u8), (Sh.int IntKind.u8), (Sh.int IntKind.u8), (Sh.int IntKind.u8), (Sh.list (Sh.agg [(Sh.int IntKind.i64), (Sh.int IntKind.i64), (Sh.int IntKind.i64), (Sh.int IntKind.i64)]))]) (x_nl) (x)) 35 (false))), (Option.some (Blk.mk (Con.cells [(SV.own 0), (SV.si IntKind.i64 (room)), (SV.sb (md))]) 64 (false)))])) (Tree.need (chkSt (rul0_tm x_nl x room md (0 : Int) true []) (rul0_tm x_nl x room md (0 : Int) true [])) (Tree.need (decide ((0 : Int) = (0 : Int)) && (true && (true && (fewB (List.length x) && List.all x outsFew)))) (Tree.ret ((SV.own 2), [(Option.some (Blk.mk (Con.rows (Sh.agg [(Sh.int IntKind.i64), (Sh.int IntKind.i64), (Sh.int IntKind.i64), (Sh.int IntKind.i64), (Sh.int IntKind.i64), (Sh.int IntKind.i64), (Sh.int IntKind.u8), (Sh.int IntKind.u8), (Sh.int IntKind.u8), (Sh.int IntKind.u8), (Sh.int IntKind.u8), (Sh.int IntKind.u8), (Sh.list (Sh.agg [(Sh.int IntKind.i64), (Sh.int IntKind.i64), (Sh.int IntKind.i64), (Sh.int IntKind.i64)]))]) (x_nl) (x)) 35 (false))), (Option.some (Blk.mk (Con.cells [(SV.own 0), (SV.si IntKind.i64 (room)), (SV.sb (md))]) 64 (false))), (Option.some (Blk.mk (Con.rows (Sh.agg [(Sh.int IntKind.i64), (Sh.int IntKind.i64), (Sh.int IntKind.i64), (Sh.int IntKind.i64), (Sh.int IntKind.i64), (Sh.int IntKind.i64), (Sh.int IntKind.u8), (Sh.int IntKind.u8), (Sh.int IntKind.u8), (Sh.int IntKind.u8), (Sh.int IntKind.u8), (Sh.int IntKind.u8), (Sh.list (Sh.agg [(Sh.int IntKind.i64), (Sh.int IntKind.i64), (Sh.int IntKind.i64), (Sh.int IntKind.i64)]))]) (List.isEmpty (List.map cpy x)) (List.map cpy x)) 35 (false)))]))))) := by kernel_rfl
theorem rules_run (x_nl : Bool) (x : List D) (room : Int) (md : Bool) {r : SV} {H' : Hp} (h : (.need (fewB x.length && x.all outsFew) (bif !md then (.ret (.val (.slice none 0 0), [some ⟨.rows (.agg [.int .i64, .int .i64, .int .i64, .int .i64, .int .i64, .int .i64, .int .u8, .int .u8, .int .u8, .int .u8, .int .u8, .int .u8, .list (.agg [.int .i64, .int .i64, .int .i64, .int .i64])]) x_nl x, 35, false⟩, some ⟨.cells [SV.own 0, SV.si IntKind.i64 room, SV.sb md], 64, false⟩])) else (.ret (.own 2, [some ⟨.rows (.agg [.int .i64, .int .i64, .int .i64, .int .i64, .int .i64, .int .i64, .int .u8, .int .u8, .int .u8, .int .u8, .int .u8, .int .u8, .list (.agg [.int .i64, .int .i64, .int .i64, .int .i64])]) x_nl x, 35, false⟩, some ⟨.cells [SV.own 0, SV.si IntKind.i64 room, SV.sb md], 64, false⟩, some ⟨.rows (.agg [.int .i64, .int .i64, .int .i64, .int .i64, .int .i64, .int .i64, .int .u8, .int .u8, .int .u8, .int .u8, .int .u8, .int .u8, .list (.agg [.int .i64, .int .i64, .int .i64, .int .i64])]) (x.map cpy).isEmpty (x.map cpy), 35, false⟩]))) : Tree (SV × Hp)).run = some (r, H')) : (callG tab (envOf (P := Try.prog) [] [] [(rul0_lc x_nl x room md)]) 20 12 27 [SV.ref 1 0] [some ⟨.rows (.agg [.int .i64, .int .i64, .int .i64, .int .i64, .int .i64, .int .i64, .int .u8, .int .u8, .int .u8, .int .u8, .int .u8, .int .u8, .list (.agg [.int .i64, .int .i64, .int .i64, .int .i64])]) x_nl x, 35, false⟩, some ⟨.cells [SV.own 0, SV.si IntKind.i64 room, SV.sb md], 64, false⟩]).run = some (r, H') := by
  rw [rules_tree]
  obtain ⟨hp_, h_⟩ := Tree.run_need h
  rw [← h_]
  simp only [Tree.run_ret', Tree.run_need', Tree.run_ite', hp_, chk_self, List.isEmpty_nil, decide_true, Bool.true_and, cond_true]
  cases md <;> rfl
def rules_tr : List D → Option (Tree (SV × Hp))
  | [.l x_nl x, .i room, .b md] => some (.need (fewB x.length && x.all outsFew) (bif !md then (.ret (.val (.slice none 0 0), [some ⟨.rows (.agg [.int .i64, .int .i64, .int .i64, .int .i64, .int .i64, .int .i64, .int .u8, .int .u8, .int .u8, .int .u8, .int .u8, .int .u8, .list (.agg [.int .i64, .int .i64, .int .i64, .int .i64])]) x_nl x, 35, false⟩, some ⟨.cells [SV.own 0, SV.si IntKind.i64 room, SV.sb md], 64, false⟩])) else (.ret (.own 2, [some ⟨.rows (.agg [.int .i64, .int .i64, .int .i64, .int .i64, .int .i64, .int .i64, .int .u8, .int .u8, .int .u8, .int .u8, .int .u8, .int .u8, .list (.agg [.int .i64, .int .i64, .int .i64, .int .i64])]) x_nl x, 35, false⟩, some ⟨.cells [SV.own 0, SV.si IntKind.i64 room, SV.sb md], 64, false⟩, some ⟨.rows (.agg [.int .i64, .int .i64, .int .i64, .int .i64, .int .i64, .int .i64, .int .u8, .int .u8, .int .u8, .int .u8, .int .u8, .int .u8, .list (.agg [.int .i64, .int .i64, .int .i64, .int .i64])]) (x.map cpy).isEmpty (x.map cpy), 35, false⟩]))))
  | _ => none
noncomputable def rules_ct : Ct Try.prog := Ct.runF (T := tab) follows 20 12 27 [.p 64 [.own 35 (.agg [.int .i64, .int .i64, .int .i64, .int .i64, .int .i64, .int .i64, .int .u8, .int .u8, .int .u8, .int .u8, .int .u8, .int .u8, .list (.agg [.int .i64, .int .i64, .int .i64, .int .i64])]), .d (.int .i64), .d .bool]] rules_tr (by
  intro ds t r H' ht hr
  unfold rules_tr at ht
  split at ht
  · rename_i x_nl x room md
    simp only [Option.some.injEq] at ht
    subst ht
    exact ⟨_, _, _, envOf_good _ _ _, rules_run x_nl x room md hr, rfl, rfl⟩
  · cases ht) (enters_of (c := codeOf Try.f27) Try.func27 (by kernel_rfl) (by kernel_rfl))
end Go.Proofs.Ytgodelllnilcfaa
