/-
  Functions of the program, by their runs.
  No statement of the seat is proved here. Conditions: none.
-/
import Derived.Test.YtgodelllnilcfaaY25
import Derived.Test.YtgodelllnilcfaaTab09
import Derived.Test.YtgodelllnilcfaaBS09
set_option linter.unusedSimpArgs false
set_option linter.unusedVariables false
set_option maxRecDepth 100000
namespace Go.Proofs.Ytgodelllnilcfaa
open Go.Sy Go.RowKit
/-- An output that may be. -/
def mayO (o : D) : Bool := outmay_f (o.at 0).int (o.at 1).int (o.at 2).int (o.at 3).int
def badO (o : D) : Bool := !mayO o
theorem bif_some {α : Type} (q : Bool) (a b : α) : (bif q then some a else some b) = some (bif q then a else b) := by cases q <;> rfl
noncomputable def io0_tm (s_nl : Bool) (s : List D) (t8 : Int) : St :=
  ⟨(Tm.at 19 [(0, (Slot.is (SV.lst (Sh.agg [(Sh.int IntKind.i64), (Sh.int IntKind.i64), (Sh.int IntKind.i64), (Sh.int IntKind.i64)]) (s_nl) (s)))), (1, (Slot.is (SV.clo (Fn.func 91) [] []))), (7, (Slot.is (SV.si IntKind.i64 ((↑(List.length s) : Int))))), (8, (Slot.is (SV.si IntKind.i64 (t8))))]), []⟩
def io0_lp : LP := { base := 0, mv := [], mask := 387, maskX := 16, nm := 256, nb := [], kl := [], klX := [], ow := [] }
noncomputable def io0_x0 (s_nl : Bool) (s : List D) (t8 : Int) : St :=
  ⟨(Tm.at 19 [(4, (Slot.is (SV.si IntKind.i64 (t8))))]), []⟩
noncomputable def io0_x1 (s_nl : Bool) (s : List D) (t8 : Int) : St :=
  ⟨(Tm.at 19 []), []⟩
theorem io0_round (s_nl : Bool) (s : List D) (t8 : Int) : roundC (bodyF tab (envOf (P := Try.prog) [outmay_pc, ocl_pc] [] []) 20 12 100 0 (loopOf (codeOf Try.f100) 0)) io0_lp (io0_tm s_nl s t8) =
    (Tree.ite (decide (t8 < (↑(List.length s) : Int))) (Tree.need (decide ((0 : Int) ≤ t8) && decide (t8 < (↑(List.length s) : Int))) (Tree.need (true) (Tree.ite (!outmay_f (D.int (D.at (List.getD s (Int.toNat t8) default) (0 : Nat))) (D.int (D.at (List.getD s (Int.toNat t8) default) (1 : Nat))) (D.int (D.at (List.getD s (Int.toNat t8) default) (2 : Nat))) (D.int (D.at (List.getD s (Int.toNat t8) default) (3 : Nat)))) (Tree.ret (Ex.ret, (io0_x0 (s_nl) (s) (t8)))) (Tree.ret (Ex.normal, (io0_tm (s_nl) (s) (IntKind.wrap IntKind.i64 (t8 + (1 : Int))))))))) (Tree.ret ((Ex.exit 0), (io0_x1 (s_nl) (s) (t8))))) := by kernel_rfl
noncomputable def io0_res (s_nl : Bool) (s : List D) (t8 : Int) : Tree (Ex × St) := .need (decide (t8 = 0) && shortB s.length) (.ite (s.any (badO)) (.ret (.ret, io0_x0 s_nl s (s.findIdx (badO) : Nat))) (.ret (.exit 0, io0_x1 s_nl s (s.length : Nat))))
theorem io0_ok (s_nl : Bool) (s : List D) (t8 : Int) (ex : Ex) (st' : St) (hrun_ : (io0_res s_nl s t8).run = some (ex, st')) : ∃ n, iterC (roundC (bodyF tab (envOf (P := Try.prog) [outmay_pc, ocl_pc] [] []) 20 12 100 0 (loopOf (codeOf Try.f100) 0)) io0_lp) n (io0_tm s_nl s t8) = some (ex, st') := by
  obtain ⟨hp_, h_⟩ := Tree.run_need hrun_
  simp only [shortB, Bool.and_eq_true, decide_eq_true_eq, beq_iff_eq] at hp_
  obtain ⟨e_, hl_⟩ := hp_
  subst e_
  have sl_ := search_loop0 (B := roundC (bodyF tab (envOf (P := Try.prog) [outmay_pc, ocl_pc] [] []) 20 12 100 0 (loopOf (codeOf Try.f100) 0)) io0_lp) (tm := fun t_ => io0_tm s_nl s t_) (s := s) (f := badO) (yes := fun t_ => (.ret, io0_x0 s_nl s t_)) (no := (.exit 0, io0_x1 s_nl s (s.length : Nat))) ?_ ?_ (fun _ => by simp) (by simp)
  · obtain ⟨m_, hm_⟩ := sl_
    refine ⟨m_, hm_.trans ?_⟩
    rw [Tree.run_ite'] at h_
    revert h_
    cases s.any (badO) <;> exact id
  · intro k_ hk_
    skip
    have d1_ : decide ((k_ : Int) < (s.length : Nat)) = true := by simp; omega
    have d2_ : decide ((0 : Int) ≤ (k_ : Int)) = true := by simp
    simp only [io0_round, Tree.run_ret', Tree.run_need', Tree.run_ite', d1_, d2_, Bool.and_self, cond_true, Int.toNat_natCast, wrap64 (n := (k_ : Int) + 1) (by omega) (by omega)]
    exact bif_some _ _ _
  · skip
    have d1_ : decide (((s.length : Nat) : Int) < (s.length : Nat)) = false := by simp
    simp only [io0_round, Tree.run_ite', d1_]
    rfl
noncomputable def io0_run (s_nl : Bool) (s : List D) (st : St) : Tree (Ex × St) := .need (chkSt st (io0_tm s_nl s (iOf (slotV st 8)))) (io0_res s_nl s (iOf (slotV st 8)))
noncomputable def io0_lc (s_nl : Bool) (s : List D) : LC Try.prog := LC.of (T := tab) follows (envOf_good _ _ _) 20 12 100 0 Try.f100 Try.func100 (codeOf Try.f100) (loopOf (codeOf Try.f100) 0) (by kernel_rfl) (by kernel_rfl) io0_lp (io0_run s_nl s)
  (inner_loops (c := codeOf Try.f100) Try.func100 (by kernel_rfl) (by kernel_rfl))
  (by
    intro st ex st' h
    obtain ⟨hc, h⟩ := Tree.run_need h
    have e := chk_iff.1 hc
    have := io0_ok s_nl s _ ex st' h
    rw [← e] at this
    exact this)
theorem io_tree (s_nl : Bool) (s : List D) : callG tab (envOf (P := Try.prog) [outmay_pc, ocl_pc] [] [(io0_lc s_nl s)]) 20 12 100 [SV.lst (.agg [.int .i64, .int .i64, .int .i64, .int .i64]) s_nl s, SV.clo (.func 91) [] []] [] =
    (Tree.need (chkSt (io0_tm s_nl s (0 : Int)) (io0_tm s_nl s (0 : Int))) (Tree.need (decide ((0 : Int) = (0 : Int)) && shortB (List.length s)) (Tree.ite (List.any s badO) (Tree.ret ((SV.si IntKind.i64 ((↑(List.findIdx badO s) : Int))), [])) (Tree.ret ((SV.si IntKind.i64 ((-1 : Int))), []))))) := by kernel_rfl
theorem io_run (s_nl : Bool) (s : List D) {r : SV} {H' : Hp} (h : (.need (shortB s.length) (.ret (.si .i64 (bif s.any badO then (s.findIdx badO : Nat) else -1), [])) : Tree (SV × Hp)).run = some (r, H')) : (callG tab (envOf (P := Try.prog) [outmay_pc, ocl_pc] [] [(io0_lc s_nl s)]) 20 12 100 [SV.lst (.agg [.int .i64, .int .i64, .int .i64, .int .i64]) s_nl s, SV.clo (.func 91) [] []] []).run = some (r, H') := by
  rw [io_tree]
  obtain ⟨hp_, h_⟩ := Tree.run_need h
  simp only [Tree.run, Option.some.injEq, Prod.mk.injEq] at h_
  obtain ⟨rfl, rfl⟩ := h_
  simp only [Tree.run_ret', Tree.run_need', Tree.run_ite', chk_self, hp_, decide_true, Bool.and_self, cond_true]
  cases s.any badO <;> rfl
def io_tr : List D → Option (Tree (SV × Hp))
  | [.l s_nl s] => some (.need (shortB s.length) (.ret (.si .i64 (bif s.any badO then (s.findIdx badO : Nat) else -1), [])))
  | _ => none
noncomputable def io_ct : Ct Try.prog := Ct.run (T := tab) follows 20 12 100 [.d (.list (.agg [.int .i64, .int .i64, .int .i64, .int .i64])), .fn 91 [] []] io_tr (by
  intro ds t r H' ht hr
  unfold io_tr at ht
  split at ht
  · rename_i s_nl s
    simp only [Option.some.injEq] at ht
    subst ht
    exact ⟨_, _, _, envOf_good _ _ _, io_run s_nl s hr, rfl, rfl⟩
  · cases ht) (enters_of (c := codeOf Try.f100) Try.func100 (by kernel_rfl) (by kernel_rfl))
theorem arg_tree (ok : Bool) : callG tab (envOf (P := Try.prog) [] [] []) 20 12 89 [SV.sb ok] [] =
    (Tree.ite (!ok) (Tree.ret ((SV.si IntKind.i64 ((2 : Int))), [])) (Tree.ret ((SV.si IntKind.i64 ((0 : Int))), []))) := by kernel_rfl
theorem arg_run (ok : Bool) : (callG tab (envOf (P := Try.prog) [] [] []) 20 12 89 [SV.sb ok] []).run = some (((SV.si IntKind.i64 (bif (!ok) then ((2 : Int)) else ((0 : Int)))) : SV), []) := by
  rw [arg_tree]
  simp only [Tree.run_need', cond_true, Bool.and_true, Bool.true_and, Bool.and_self, Tree.run_ite', Tree.run_ret', chk_self, cond_some, cond_agg, cond_tup, cond_cons, cond_si, cond_sb, cond_str, cond_self']
def arg_spec : PSpec := ⟨[.bool], fun
  | [.b ok] => some (true, (SV.si IntKind.i64 (bif (!ok) then ((2 : Int)) else ((0 : Int)))))
  | _ => none⟩
noncomputable def arg_pc : PC Try.prog := PC.run2 (T := tab) follows 20 12 89 arg_spec (by
  intro ds pre r h hp
  unfold arg_spec at h
  simp only at h
  split at h
  · rename_i ok
    simp only [Option.some.injEq, Prod.mk.injEq] at h
    obtain ⟨hq, rfl⟩ := h
    exact ⟨_, _, envOf_good _ _ _, arg_run ok, rfl⟩
  · cases h) (enters_of (c := codeOf Try.f89) Try.func89 (by kernel_rfl) (by kernel_rfl))
def mtch_f (mv mp mb0 mb1 mb2 mi0 mi1 mi2 : Int) : Int := (bif (bits BinOp.andNot IntKind.u8 mi0 mb0 != (0 : Int)) then ((2 : Int)) else (bif (bits BinOp.andNot IntKind.u8 mi1 mb1 != (0 : Int)) then ((2 : Int)) else (bif (bits BinOp.andNot IntKind.u8 mi2 mb2 != (0 : Int)) then ((2 : Int)) else (bif decide ((0 : Int) ≤ mv) && decide (mv ≤ (200 : Int)) then bif !(decide ((-1 : Int) ≤ mp) && decide (mp ≤ (4 : Int))) then (2 : Int) else (0 : Int) else (2 : Int)))))
theorem mtch_tree (mv mp mb0 mb1 mb2 mi0 mi1 mi2 : Int) : callG tab (envOf (P := Try.prog) [within_pc, arg_pc] [] []) 20 12 93 [SV.agg [SV.si IntKind.i64 mv, SV.si IntKind.i64 mp, SV.si IntKind.u8 mb0, SV.si IntKind.u8 mb1, SV.si IntKind.u8 mb2, SV.si IntKind.u8 mi0, SV.si IntKind.u8 mi1, SV.si IntKind.u8 mi2]] [] =
    (Tree.ite (bits BinOp.andNot IntKind.u8 mi0 mb0 != (0 : Int)) (Tree.ret ((SV.si IntKind.i64 ((2 : Int))), [])) (Tree.ite (bits BinOp.andNot IntKind.u8 mi1 mb1 != (0 : Int)) (Tree.ret ((SV.si IntKind.i64 ((2 : Int))), [])) (Tree.ite (bits BinOp.andNot IntKind.u8 mi2 mb2 != (0 : Int)) (Tree.ret ((SV.si IntKind.i64 ((2 : Int))), [])) (Tree.need (true && bif decide ((0 : Int) ≤ mv) && decide (mv ≤ (200 : Int)) then true && (true && true) else true && true) (Tree.ret ((SV.si IntKind.i64 (bif decide ((0 : Int) ≤ mv) && decide (mv ≤ (200 : Int)) then bif !(decide ((-1 : Int) ≤ mp) && decide (mp ≤ (4 : Int))) then (2 : Int) else (0 : Int) else (2 : Int))), [])))))) := by kernel_rfl
theorem mtch_run (mv mp mb0 mb1 mb2 mi0 mi1 mi2 : Int) : (callG tab (envOf (P := Try.prog) [within_pc, arg_pc] [] []) 20 12 93 [SV.agg [SV.si IntKind.i64 mv, SV.si IntKind.i64 mp, SV.si IntKind.u8 mb0, SV.si IntKind.u8 mb1, SV.si IntKind.u8 mb2, SV.si IntKind.u8 mi0, SV.si IntKind.u8 mi1, SV.si IntKind.u8 mi2]] []).run = some (((SV.si IntKind.i64 (mtch_f mv mp mb0 mb1 mb2 mi0 mi1 mi2)) : SV), []) := by
  rw [mtch_tree]
  simp only [Tree.run_need', cond_true, Bool.and_true, Bool.true_and, Bool.and_self, Tree.run_ite', Tree.run_ret', chk_self, cond_some, cond_agg, cond_tup, cond_cons, cond_si, cond_sb, cond_str, cond_self', mtch_f]
def mtch_spec : PSpec := ⟨[(.agg [(.int .i64), (.int .i64), (.int .u8), (.int .u8), (.int .u8), (.int .u8), (.int .u8), (.int .u8)])], fun
  | [.a [.i mv, .i mp, .i mb0, .i mb1, .i mb2, .i mi0, .i mi1, .i mi2]] => some (true, (SV.si IntKind.i64 (mtch_f mv mp mb0 mb1 mb2 mi0 mi1 mi2)))
  | _ => none⟩
noncomputable def mtch_pc : PC Try.prog := PC.run2 (T := tab) follows 20 12 93 mtch_spec (by
  intro ds pre r h hp
  unfold mtch_spec at h
  simp only at h
  split at h
  · rename_i mv mp mb0 mb1 mb2 mi0 mi1 mi2
    simp only [Option.some.injEq, Prod.mk.injEq] at h
    obtain ⟨hq, rfl⟩ := h
    exact ⟨_, _, envOf_good _ _ _, mtch_run mv mp mb0 mb1 mb2 mi0 mi1 mi2, rfl⟩
  · cases h) (enters_of (c := codeOf Try.f93) Try.func93 (by kernel_rfl) (by kernel_rfl))
theorem idx_ge (b : Bool) (n : Nat) : decide ((bif b then (n : Int) else -1) ≥ 0) = b := by cases b <;> simp
def chk_f (rk rpr rto rpo rv rp rb0 rb1 rb2 ri0 ri1 ri2 : Int) (ro : List D) : Int := (bif (rk == (2 : Int)) then (bif decide ((0 : Int) ≤ rto) && decide (rto ≤ (6 : Int)) && (decide ((0 : Int) ≤ rpo) && decide (rpo ≤ (4 : Int))) then bif rpr == (0 : Int) then bif rv == (0 : Int) && (rp == (0 : Int) && (rb0 == (0 : Int) && (rb1 == (0 : Int) && (rb2 == (0 : Int) && true)) && (ri0 == (0 : Int) && (ri1 == (0 : Int) && (ri2 == (0 : Int) && true)) && true))) then bif !(↑(List.length ro) : Int) == (0 : Int) then (2 : Int) else (0 : Int) else (2 : Int) else (2 : Int) else (2 : Int)) else (bif (rk == (1 : Int)) then (bif (decide ((↑(List.length ro) : Int) ≤ (8 : Int))) then (bif !decide ((bif List.any ro badO then (↑(List.findIdx badO ro) : Int) else (-1 : Int)) ≥ (0 : Int)) then bif decide ((0 : Int) ≤ rpr) && decide (rpr ≤ (65535 : Int)) then bif rto == (0 : Int) then bif rpo == (0 : Int) then bif !mtch_f rv rp rb0 rb1 rb2 ri0 ri1 ri2 == (0 : Int) then (2 : Int) else (0 : Int) else (2 : Int) else (2 : Int) else (2 : Int) else (2 : Int)) else ((2 : Int))) else ((2 : Int))))
theorem chk_tree (rk rpr rto rpo rv rp rb0 rb1 rb2 ri0 ri1 ri2 : Int) (ro_nl : Bool) (ro : List D) : callG tab (envOf (P := Try.prog) [within_pc, outmay_pc, ocl_pc, arg_pc, mtch_pc] [io_ct] []) 20 12 83 [SV.agg [SV.si IntKind.i64 rk, SV.si IntKind.i64 rpr, SV.si IntKind.i64 rto, SV.si IntKind.i64 rpo, SV.si IntKind.i64 rv, SV.si IntKind.i64 rp, SV.si IntKind.u8 rb0, SV.si IntKind.u8 rb1, SV.si IntKind.u8 rb2, SV.si IntKind.u8 ri0, SV.si IntKind.u8 ri1, SV.si IntKind.u8 ri2, SV.lst (.agg [.int .i64, .int .i64, .int .i64, .int .i64]) ro_nl ro]] [] =
    (Tree.ite (rk == (2 : Int)) (Tree.need (true && bif decide ((0 : Int) ≤ rto) && decide (rto ≤ (6 : Int)) then true && true else true) (Tree.need (bif decide ((0 : Int) ≤ rto) && decide (rto ≤ (6 : Int)) && (decide ((0 : Int) ≤ rpo) && decide (rpo ≤ (4 : Int))) then bif rpr == (0 : Int) then bif rv == (0 : Int) && (rp == (0 : Int) && (rb0 == (0 : Int) && (rb1 == (0 : Int) && (rb2 == (0 : Int) && true)) && (ri0 == (0 : Int) && (ri1 == (0 : Int) && (ri2 == (0 : Int) && true)) && true))) then true && true else true && true else true && true else true && true) (Tree.ret ((SV.si IntKind.i64 (bif decide ((0 : Int) ≤ rto) && decide (rto ≤ (6 : Int)) && (decide ((0 : Int) ≤ rpo) && decide (rpo ≤ (4 : Int))) then bif rpr == (0 : Int) then bif rv == (0 : Int) && (rp == (0 : Int) && (rb0 == (0 : Int) && (rb1 == (0 : Int) && (rb2 == (0 : Int) && true)) && (ri0 == (0 : Int) && (ri1 == (0 : Int) && (ri2 == (0 : Int) && true)) && true))) then bif !(↑(List.length ro) : Int) == (0 : Int) then (2 : Int) else (0 : Int) else (2 : Int) else (2 : Int) else (2 : Int))), [])))) (Tree.ite (rk == (1 : Int)) (Tree.ite (decide ((↑(List.length ro) : Int) ≤ (8 : Int))) (Tree.need (shortB (List.length ro)) (Tree.need (bif !decide ((bif List.any ro badO then (↑(List.findIdx badO ro) : Int) else (-1 : Int)) ≥ (0 : Int)) then true && bif decide ((0 : Int) ≤ rpr) && decide (rpr ≤ (65535 : Int)) then bif rto == (0 : Int) then bif rpo == (0 : Int) then true && (true && true) else true && true else true && true else true && true else true && true) (Tree.ret ((SV.si IntKind.i64 (bif !decide ((bif List.any ro badO then (↑(List.findIdx badO ro) : Int) else (-1 : Int)) ≥ (0 : Int)) then bif decide ((0 : Int) ≤ rpr) && decide (rpr ≤ (65535 : Int)) then bif rto == (0 : Int) then bif rpo == (0 : Int) then bif !mtch_f rv rp rb0 rb1 rb2 ri0 ri1 ri2 == (0 : Int) then (2 : Int) else (0 : Int) else (2 : Int) else (2 : Int) else (2 : Int) else (2 : Int))), [])))) (Tree.need (true && true) (Tree.ret ((SV.si IntKind.i64 ((2 : Int))), [])))) (Tree.ret ((SV.si IntKind.i64 ((2 : Int))), [])))) := by kernel_rfl
theorem chk_run (rk rpr rto rpo rv rp rb0 rb1 rb2 ri0 ri1 ri2 : Int) (ro_nl : Bool) (ro : List D) (hpre : (((shortB (List.length ro)))) = true) : (callG tab (envOf (P := Try.prog) [within_pc, outmay_pc, ocl_pc, arg_pc, mtch_pc] [io_ct] []) 20 12 83 [SV.agg [SV.si IntKind.i64 rk, SV.si IntKind.i64 rpr, SV.si IntKind.i64 rto, SV.si IntKind.i64 rpo, SV.si IntKind.i64 rv, SV.si IntKind.i64 rp, SV.si IntKind.u8 rb0, SV.si IntKind.u8 rb1, SV.si IntKind.u8 rb2, SV.si IntKind.u8 ri0, SV.si IntKind.u8 ri1, SV.si IntKind.u8 ri2, SV.lst (.agg [.int .i64, .int .i64, .int .i64, .int .i64]) ro_nl ro]] []).run = some (((SV.si IntKind.i64 (chk_f rk rpr rto rpo rv rp rb0 rb1 rb2 ri0 ri1 ri2 ro)) : SV), []) := by
  rw [chk_tree]
  simp only [Tree.run_need', cond_true, Bool.and_true, Bool.true_and, Bool.and_self, Tree.run_ite', Tree.run_ret', chk_self, cond_some, cond_agg, cond_tup, cond_cons, cond_si, cond_sb, cond_str, cond_self', hpre, idx_ge, chk_f]
def chk_spec : PSpec := ⟨[(.agg [(.int .i64), (.int .i64), (.int .i64), (.int .i64), (.int .i64), (.int .i64), (.int .u8), (.int .u8), (.int .u8), (.int .u8), (.int .u8), (.int .u8), (.list (.agg [.int .i64, .int .i64, .int .i64, .int .i64]))])], fun
  | [.a [.i rk, .i rpr, .i rto, .i rpo, .i rv, .i rp, .i rb0, .i rb1, .i rb2, .i ri0, .i ri1, .i ri2, .l ro_nl ro]] => some (((shortB (List.length ro))), (SV.si IntKind.i64 (chk_f rk rpr rto rpo rv rp rb0 rb1 rb2 ri0 ri1 ri2 ro)))
  | _ => none⟩
noncomputable def chk_pc : PC Try.prog := PC.run2 (T := tab) follows 20 12 83 chk_spec (by
  intro ds pre r h hp
  unfold chk_spec at h
  simp only at h
  split at h
  · rename_i rk rpr rto rpo rv rp rb0 rb1 rb2 ri0 ri1 ri2 ro_nl ro
    simp only [Option.some.injEq, Prod.mk.injEq] at h
    obtain ⟨hq, rfl⟩ := h
    exact ⟨_, _, envOf_good _ _ _, chk_run rk rpr rto rpo rv rp rb0 rb1 rb2 ri0 ri1 ri2 ro_nl ro (hq.trans hp), rfl⟩
  · cases h) (enters_of (c := codeOf Try.f83) Try.func83 (by kernel_rfl) (by kernel_rfl))
end Go.Proofs.Ytgodelllnilcfaa
