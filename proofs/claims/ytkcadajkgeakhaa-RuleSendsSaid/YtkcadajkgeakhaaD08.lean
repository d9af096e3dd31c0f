/-
  Functions of the program, by their runs.
  No statement of the seat is proved here. Conditions: none.
-/
import Derived.Test.YtkcadajkgeakhaaY25
import Derived.Test.YtkcadajkgeakhaaTab08
import Derived.Test.YtkcadajkgeakhaaM08
set_option linter.unusedSimpArgs false
set_option linter.unusedVariables false
set_option maxRecDepth 100000
namespace Go.Proofs.Ytkcadajkgeakhaa
open Go.Sy Go.RowKit
/-- What is sent, and one's own. -/
def eqS (p h0 h1 h2 : Int) (x : D) : Bool := p == (x.at 0).int && (h0 == (x.at 1).int && (h1 == (x.at 2).int && (h2 == (x.at 3).int && true)) && true)
def eqT (p h0 h1 h2 : Int) (x : D) : Bool := (x.at 0).int == p && ((x.at 1).int == h0 && ((x.at 2).int == h1 && ((x.at 3).int == h2 && true)) && true)
def shortB (n : Nat) : Bool := decide (n ≤ 4611686018427387904)
theorem eqT_eq (p h0 h1 h2 : Int) (x : D) : eqT p h0 h1 h2 x = eqS p h0 h1 h2 x := by
  unfold eqT eqS
  rw [Bool.eq_iff_iff]
  simp only [Bool.and_eq_true, beq_iff_eq, Bool.and_true]
  constructor <;> (rintro ⟨h1, h2, h3, h4⟩; exact ⟨h1.symm, h2.symm, h3.symm, h4.symm⟩)
theorem bif_some {α : Type} (q : Bool) (a b : α) : (bif q then some a else some b) = some (bif q then a else b) := by cases q <;> rfl
noncomputable def index0_tm (s_nl : Bool) (s : List D) (p h0 h1 h2 t8 : Int) : St :=
  ⟨(Tm.at 19 [(0, (Slot.is (SV.lst (Sh.agg [(Sh.int IntKind.i64), (Sh.int IntKind.u8), (Sh.int IntKind.u8), (Sh.int IntKind.u8)]) (s_nl) (s)))), (3, (Slot.is (SV.ref 0 0))), (7, (Slot.is (SV.si IntKind.i64 ((↑(List.length s) : Int))))), (8, (Slot.is (SV.si IntKind.i64 (t8))))]), [(Option.some (Blk.mk (Con.cells [(SV.si IntKind.i64 (p)), (SV.si IntKind.u8 (h0)), (SV.si IntKind.u8 (h1)), (SV.si IntKind.u8 (h2))]) 44 (false)))]⟩
def index0_lp : LP := { base := 1, mv := [], mask := 393, maskX := 16, nm := 256, nb := [], kl := [], klX := [0], ow := [] }
noncomputable def index0_x0 (s_nl : Bool) (s : List D) (p h0 h1 h2 t8 : Int) : St :=
  ⟨(Tm.at 19 [(4, (Slot.is (SV.si IntKind.i64 (t8))))]), [Option.none]⟩
noncomputable def index0_x1 (s_nl : Bool) (s : List D) (p h0 h1 h2 t8 : Int) : St :=
  ⟨(Tm.at 19 []), [Option.none]⟩
theorem index0_round (s_nl : Bool) (s : List D) (p h0 h1 h2 t8 : Int) : roundC (bodyF tab (envOf (P := Try.prog) [] [] []) 20 12 27 0 (loopOf (codeOf Try.f27) 0)) index0_lp (index0_tm s_nl s p h0 h1 h2 t8) =
    (Tree.ite (decide (t8 < (↑(List.length s) : Int))) (Tree.need (decide ((0 : Int) ≤ t8) && decide (t8 < (↑(List.length s) : Int))) (Tree.ite (p == D.int (D.at (List.getD s (Int.toNat t8) default) (0 : Nat)) && (h0 == D.int (D.at (List.getD s (Int.toNat t8) default) (1 : Nat)) && (h1 == D.int (D.at (List.getD s (Int.toNat t8) default) (2 : Nat)) && (h2 == D.int (D.at (List.getD s (Int.toNat t8) default) (3 : Nat)) && true)) && true)) (Tree.ret (Ex.ret, (index0_x0 (s_nl) (s) (p) (h0) (h1) (h2) (t8)))) (Tree.ret (Ex.normal, (index0_tm (s_nl) (s) (p) (h0) (h1) (h2) (IntKind.wrap IntKind.i64 (t8 + (1 : Int)))))))) (Tree.ret ((Ex.exit 0), (index0_x1 (s_nl) (s) (p) (h0) (h1) (h2) (t8))))) := by kernel_rfl
noncomputable def index0_res (s_nl : Bool) (s : List D) (p h0 h1 h2 : Int) (t8 : Int) : Tree (Ex × St) := .need (decide (t8 = 0) && shortB s.length) (.ite (s.any (eqS p h0 h1 h2)) (.ret (.ret, index0_x0 s_nl s p h0 h1 h2 (s.findIdx (eqS p h0 h1 h2) : Nat))) (.ret (.exit 0, index0_x1 s_nl s p h0 h1 h2 (s.length : Nat))))
theorem index0_ok (s_nl : Bool) (s : List D) (p h0 h1 h2 : Int) (t8 : Int) (ex : Ex) (st' : St) (hrun_ : (index0_res s_nl s p h0 h1 h2 t8).run = some (ex, st')) : ∃ n, iterC (roundC (bodyF tab (envOf (P := Try.prog) [] [] []) 20 12 27 0 (loopOf (codeOf Try.f27) 0)) index0_lp) n (index0_tm s_nl s p h0 h1 h2 t8) = some (ex, st') := by
  obtain ⟨hp_, h_⟩ := Tree.run_need hrun_
  simp only [shortB, Bool.and_eq_true, decide_eq_true_eq, beq_iff_eq] at hp_
  obtain ⟨e_, hl_⟩ := hp_
  subst e_
  have sl_ := search_loop0 (B := roundC (bodyF tab (envOf (P := Try.prog) [] [] []) 20 12 27 0 (loopOf (codeOf Try.f27) 0)) index0_lp) (tm := fun t_ => index0_tm s_nl s p h0 h1 h2 t_) (s := s) (f := eqS p h0 h1 h2) (yes := fun t_ => (.ret, index0_x0 s_nl s p h0 h1 h2 t_)) (no := (.exit 0, index0_x1 s_nl s p h0 h1 h2 (s.length : Nat))) ?_ ?_ (fun _ => by simp) (by simp)
  · obtain ⟨m_, hm_⟩ := sl_
    refine ⟨m_, hm_.trans ?_⟩
    rw [Tree.run_ite'] at h_
    revert h_
    cases s.any (eqS p h0 h1 h2) <;> exact id
  · intro k_ hk_
    skip
    have d1_ : decide ((k_ : Int) < (s.length : Nat)) = true := by simp; omega
    have d2_ : decide ((0 : Int) ≤ (k_ : Int)) = true := by simp
    simp only [index0_round, Tree.run_ret', Tree.run_need', Tree.run_ite', d1_, d2_, Bool.and_self, cond_true, Int.toNat_natCast, wrap64 (n := (k_ : Int) + 1) (by omega) (by omega)]
    exact bif_some _ _ _
  · skip
    have d1_ : decide (((s.length : Nat) : Int) < (s.length : Nat)) = false := by simp
    simp only [index0_round, Tree.run_ite', d1_]
    rfl
noncomputable def index0_run (s_nl : Bool) (s : List D) (p h0 h1 h2 : Int) (st : St) : Tree (Ex × St) := .need (chkSt st (index0_tm s_nl s p h0 h1 h2 (iOf (slotV st 8)))) (index0_res s_nl s p h0 h1 h2 (iOf (slotV st 8)))
noncomputable def index0_lc (s_nl : Bool) (s : List D) (p h0 h1 h2 : Int) : LC Try.prog := LC.of (T := tab) follows (envOf_good _ _ _) 20 12 27 0 Try.f27 Try.func27 (codeOf Try.f27) (loopOf (codeOf Try.f27) 0) (by kernel_rfl) (by kernel_rfl) index0_lp (index0_run s_nl s p h0 h1 h2)
  (inner_loops (c := codeOf Try.f27) Try.func27 (by kernel_rfl) (by kernel_rfl))
  (by
    intro st ex st' h
    obtain ⟨hc, h⟩ := Tree.run_need h
    have e := chk_iff.1 hc
    have := index0_ok s_nl s p h0 h1 h2 _ ex st' h
    rw [← e] at this
    exact this)
noncomputable def had0_tm (s_nl : Bool) (s : List D) (p h0 h1 h2 i : Int) : St :=
  ⟨(Tm.at 18 [(0, (Slot.is (SV.lst (Sh.agg [(Sh.int IntKind.i64), (Sh.int IntKind.u8), (Sh.int IntKind.u8), (Sh.int IntKind.u8)]) (s_nl) (s)))), (3, (Slot.is (SV.ref 0 0))), (5, (Slot.is (SV.si IntKind.i64 (i))))]), [(Option.some (Blk.mk (Con.cells [(SV.si IntKind.i64 (p)), (SV.si IntKind.u8 (h0)), (SV.si IntKind.u8 (h1)), (SV.si IntKind.u8 (h2))]) 44 (false)))]⟩
def had0_lp : LP := { base := 1, mv := [], mask := 41, maskX := 16, nm := 32, nb := [], kl := [], klX := [0], ow := [] }
noncomputable def had0_x0 (s_nl : Bool) (s : List D) (p h0 h1 h2 i : Int) : St :=
  ⟨(Tm.at 18 [(4, (Slot.is (SV.lb true)))]), [Option.none]⟩
noncomputable def had0_x1 (s_nl : Bool) (s : List D) (p h0 h1 h2 i : Int) : St :=
  ⟨(Tm.at 18 []), [Option.none]⟩
theorem had0_round (s_nl : Bool) (s : List D) (p h0 h1 h2 i : Int) : roundC (bodyF tab (envOf (P := Try.prog) [] [] []) 20 12 15 0 (loopOf (codeOf Try.f15) 0)) had0_lp (had0_tm s_nl s p h0 h1 h2 i) =
    (Tree.ite (decide (i < (↑(List.length s) : Int))) (Tree.need (decide ((0 : Int) ≤ i) && decide (i < (↑(List.length s) : Int))) (Tree.ite (D.int (D.at (List.getD s (Int.toNat i) default) (0 : Nat)) == p && (D.int (D.at (List.getD s (Int.toNat i) default) (1 : Nat)) == h0 && (D.int (D.at (List.getD s (Int.toNat i) default) (2 : Nat)) == h1 && (D.int (D.at (List.getD s (Int.toNat i) default) (3 : Nat)) == h2 && true)) && true)) (Tree.ret (Ex.ret, (had0_x0 (s_nl) (s) (p) (h0) (h1) (h2) (i)))) (Tree.ret (Ex.normal, (had0_tm (s_nl) (s) (p) (h0) (h1) (h2) (IntKind.wrap IntKind.i64 (i + (1 : Int)))))))) (Tree.ret ((Ex.exit 0), (had0_x1 (s_nl) (s) (p) (h0) (h1) (h2) (i))))) := by kernel_rfl
noncomputable def had0_res (s_nl : Bool) (s : List D) (p h0 h1 h2 : Int) (i : Int) : Tree (Ex × St) := .need (decide (i = 0) && shortB s.length) (.ite (s.any (eqT p h0 h1 h2)) (.ret (.ret, had0_x0 s_nl s p h0 h1 h2 (s.findIdx (eqT p h0 h1 h2) : Nat))) (.ret (.exit 0, had0_x1 s_nl s p h0 h1 h2 (s.length : Nat))))
theorem had0_ok (s_nl : Bool) (s : List D) (p h0 h1 h2 : Int) (i : Int) (ex : Ex) (st' : St) (hrun_ : (had0_res s_nl s p h0 h1 h2 i).run = some (ex, st')) : ∃ n, iterC (roundC (bodyF tab (envOf (P := Try.prog) [] [] []) 20 12 15 0 (loopOf (codeOf Try.f15) 0)) had0_lp) n (had0_tm s_nl s p h0 h1 h2 i) = some (ex, st') := by
  obtain ⟨hp_, h_⟩ := Tree.run_need hrun_
  simp only [shortB, Bool.and_eq_true, decide_eq_true_eq, beq_iff_eq] at hp_
  obtain ⟨e_, hl_⟩ := hp_
  subst e_
  have sl_ := search_loop0 (B := roundC (bodyF tab (envOf (P := Try.prog) [] [] []) 20 12 15 0 (loopOf (codeOf Try.f15) 0)) had0_lp) (tm := fun t_ => had0_tm s_nl s p h0 h1 h2 t_) (s := s) (f := eqT p h0 h1 h2) (yes := fun t_ => (.ret, had0_x0 s_nl s p h0 h1 h2 t_)) (no := (.exit 0, had0_x1 s_nl s p h0 h1 h2 (s.length : Nat))) ?_ ?_ (fun _ => by simp) (by simp)
  · obtain ⟨m_, hm_⟩ := sl_
    refine ⟨m_, hm_.trans ?_⟩
    rw [Tree.run_ite'] at h_
    revert h_
    cases s.any (eqT p h0 h1 h2) <;> exact id
  · intro k_ hk_
    skip
    have d1_ : decide ((k_ : Int) < (s.length : Nat)) = true := by simp; omega
    have d2_ : decide ((0 : Int) ≤ (k_ : Int)) = true := by simp
    simp only [had0_round, Tree.run_ret', Tree.run_need', Tree.run_ite', d1_, d2_, Bool.and_self, cond_true, Int.toNat_natCast, wrap64 (n := (k_ : Int) + 1) (by omega) (by omega)]
    exact bif_some _ _ _
  · skip
    have d1_ : decide (((s.length : Nat) : Int) < (s.length : Nat)) = false := by simp
    simp only [had0_round, Tree.run_ite', d1_]
    rfl
noncomputable def had0_run (s_nl : Bool) (s : List D) (p h0 h1 h2 : Int) (st : St) : Tree (Ex × St) := .need (chkSt st (had0_tm s_nl s p h0 h1 h2 (iOf (slotV st 5)))) (had0_res s_nl s p h0 h1 h2 (iOf (slotV st 5)))
noncomputable def had0_lc (s_nl : Bool) (s : List D) (p h0 h1 h2 : Int) : LC Try.prog := LC.of (T := tab) follows (envOf_good _ _ _) 20 12 15 0 Try.f15 Try.func15 (codeOf Try.f15) (loopOf (codeOf Try.f15) 0) (by kernel_rfl) (by kernel_rfl) had0_lp (had0_run s_nl s p h0 h1 h2)
  (inner_loops (c := codeOf Try.f15) Try.func15 (by kernel_rfl) (by kernel_rfl))
  (by
    intro st ex st' h
    obtain ⟨hc, h⟩ := Tree.run_need h
    have e := chk_iff.1 hc
    have := had0_ok s_nl s p h0 h1 h2 _ ex st' h
    rw [← e] at this
    exact this)
theorem index_tree (s_nl : Bool) (s : List D) (p h0 h1 h2 : Int) : callG tab (envOf (P := Try.prog) [] [] [(index0_lc s_nl s p h0 h1 h2)]) 20 12 27 [SV.lst (.agg [.int .i64, .int .u8, .int .u8, .int .u8]) s_nl s, SV.agg [SV.si IntKind.i64 p, SV.si IntKind.u8 h0, SV.si IntKind.u8 h1, SV.si IntKind.u8 h2]] [] =
    (Tree.need (chkSt (index0_tm s_nl s p h0 h1 h2 (0 : Int)) (index0_tm s_nl s p h0 h1 h2 (0 : Int))) (Tree.need (decide ((0 : Int) = (0 : Int)) && shortB (List.length s)) (Tree.ite (List.any s (eqS p h0 h1 h2)) (Tree.ret ((SV.si IntKind.i64 ((↑(List.findIdx (eqS p h0 h1 h2) s) : Int))), [])) (Tree.ret ((SV.si IntKind.i64 ((-1 : Int))), []))))) := by kernel_rfl
theorem index_run (s_nl : Bool) (s : List D) (p h0 h1 h2 : Int) (hpre : (shortB s.length) = true) : (callG tab (envOf (P := Try.prog) [] [] [(index0_lc s_nl s p h0 h1 h2)]) 20 12 27 [SV.lst (.agg [.int .i64, .int .u8, .int .u8, .int .u8]) s_nl s, SV.agg [SV.si IntKind.i64 p, SV.si IntKind.u8 h0, SV.si IntKind.u8 h1, SV.si IntKind.u8 h2]] []).run = some ((.si .i64 (bif s.any (eqS p h0 h1 h2) then (s.findIdx (eqS p h0 h1 h2) : Nat) else -1) : SV), []) := by
  rw [index_tree]
  simp only [shortB] at hpre
  simp only [Tree.run_ret', Tree.run_need', Tree.run_ite']
  cases s.any (eqS p h0 h1 h2) <;> simp_all [chk_self, shortB]
def index_spec : PSpec := ⟨[(.list (.agg [.int .i64, .int .u8, .int .u8, .int .u8])), (.agg [(.int .i64), (.int .u8), (.int .u8), (.int .u8)])], fun
  | [.l s_nl s, .a [.i p, .i h0, .i h1, .i h2]] => some (shortB s.length, .si .i64 (bif s.any (eqS p h0 h1 h2) then (s.findIdx (eqS p h0 h1 h2) : Nat) else -1))
  | _ => none⟩
noncomputable def index_pc : PC Try.prog := PC.run2 (T := tab) follows 20 12 27 index_spec (by
  intro ds pre r h hp
  unfold index_spec at h
  simp only at h
  split at h
  · rename_i s_nl s p h0 h1 h2
    simp only [Option.some.injEq, Prod.mk.injEq] at h
    obtain ⟨hq, rfl⟩ := h
    exact ⟨_, _, envOf_good _ _ _, index_run s_nl s p h0 h1 h2 (hq.trans hp), rfl⟩
  · cases h) (enters_of Try.func27 rfl (by kernel_rfl))
theorem idx_ge (b : Bool) (n : Nat) : decide ((bif b then (n : Int) else -1) ≥ 0) = b := by cases b <;> simp
theorem cont_tree (s_nl : Bool) (s : List D) (p h0 h1 h2 : Int) : callG tab (envOf (P := Try.prog) [index_pc] [] []) 20 12 14 [SV.lst (.agg [.int .i64, .int .u8, .int .u8, .int .u8]) s_nl s, SV.agg [SV.si IntKind.i64 p, SV.si IntKind.u8 h0, SV.si IntKind.u8 h1, SV.si IntKind.u8 h2]] [] =
    (Tree.need (shortB (List.length s)) (Tree.ret ((SV.sb (decide ((bif List.any s (eqS p h0 h1 h2) then (↑(List.findIdx (eqS p h0 h1 h2) s) : Int) else (-1 : Int)) ≥ (0 : Int)))), []))) := by kernel_rfl
theorem cont_run (s_nl : Bool) (s : List D) (p h0 h1 h2 : Int) (hpre : (shortB s.length) = true) : (callG tab (envOf (P := Try.prog) [index_pc] [] []) 20 12 14 [SV.lst (.agg [.int .i64, .int .u8, .int .u8, .int .u8]) s_nl s, SV.agg [SV.si IntKind.i64 p, SV.si IntKind.u8 h0, SV.si IntKind.u8 h1, SV.si IntKind.u8 h2]] []).run = some ((.sb (s.any (eqS p h0 h1 h2)) : SV), []) := by
  rw [cont_tree]
  simp only [Tree.run_ret', Tree.run_need', Tree.run_ite']
  rw [hpre]
  simp only [cond_true]
  rw [idx_ge]
def cont_spec : PSpec := ⟨[(.list (.agg [.int .i64, .int .u8, .int .u8, .int .u8])), (.agg [(.int .i64), (.int .u8), (.int .u8), (.int .u8)])], fun
  | [.l s_nl s, .a [.i p, .i h0, .i h1, .i h2]] => some (shortB s.length, .sb (s.any (eqS p h0 h1 h2)))
  | _ => none⟩
noncomputable def cont_pc : PC Try.prog := PC.run2 (T := tab) follows 20 12 14 cont_spec (by
  intro ds pre r h hp
  unfold cont_spec at h
  simp only at h
  split at h
  · rename_i s_nl s p h0 h1 h2
    simp only [Option.some.injEq, Prod.mk.injEq] at h
    obtain ⟨hq, rfl⟩ := h
    exact ⟨_, _, envOf_good _ _ _, cont_run s_nl s p h0 h1 h2 (hq.trans hp), rfl⟩
  · cases h) (enters_of Try.func14 rfl (by kernel_rfl))
theorem had_tree (s_nl : Bool) (s : List D) (p h0 h1 h2 : Int) : callG tab (envOf (P := Try.prog) [] [] [(had0_lc s_nl s p h0 h1 h2)]) 20 12 15 [SV.lst (.agg [.int .i64, .int .u8, .int .u8, .int .u8]) s_nl s, SV.agg [SV.si IntKind.i64 p, SV.si IntKind.u8 h0, SV.si IntKind.u8 h1, SV.si IntKind.u8 h2]] [] =
    (Tree.need (chkSt (had0_tm s_nl s p h0 h1 h2 (0 : Int)) (had0_tm s_nl s p h0 h1 h2 (0 : Int))) (Tree.need (decide ((0 : Int) = (0 : Int)) && shortB (List.length s)) (Tree.ite (List.any s (eqT p h0 h1 h2)) (Tree.ret ((SV.sb (true)), [])) (Tree.ret ((SV.sb (false)), []))))) := by kernel_rfl
theorem had_run (s_nl : Bool) (s : List D) (p h0 h1 h2 : Int) (hpre : (shortB s.length) = true) : (callG tab (envOf (P := Try.prog) [] [] [(had0_lc s_nl s p h0 h1 h2)]) 20 12 15 [SV.lst (.agg [.int .i64, .int .u8, .int .u8, .int .u8]) s_nl s, SV.agg [SV.si IntKind.i64 p, SV.si IntKind.u8 h0, SV.si IntKind.u8 h1, SV.si IntKind.u8 h2]] []).run = some ((.sb (s.any (eqS p h0 h1 h2)) : SV), []) := by
  rw [had_tree]
  simp only [shortB] at hpre
  simp only [Tree.run_ret', Tree.run_need', Tree.run_ite']
  rw [show eqT p h0 h1 h2 = eqS p h0 h1 h2 from funext (eqT_eq p h0 h1 h2)]
  cases s.any (eqS p h0 h1 h2) <;> simp_all [chk_self, shortB]
def had_spec : PSpec := ⟨[(.list (.agg [.int .i64, .int .u8, .int .u8, .int .u8])), (.agg [(.int .i64), (.int .u8), (.int .u8), (.int .u8)])], fun
  | [.l s_nl s, .a [.i p, .i h0, .i h1, .i h2]] => some (shortB s.length, .sb (s.any (eqS p h0 h1 h2)))
  | _ => none⟩
noncomputable def had_pc : PC Try.prog := PC.run2 (T := tab) follows 20 12 15 had_spec (by
  intro ds pre r h hp
  unfold had_spec at h
  simp only at h
  split at h
  · rename_i s_nl s p h0 h1 h2
    simp only [Option.some.injEq, Prod.mk.injEq] at h
    obtain ⟨hq, rfl⟩ := h
    exact ⟨_, _, envOf_good _ _ _, had_run s_nl s p h0 h1 h2 (hq.trans hp), rfl⟩
  · cases h) (enters_of Try.func15 rfl (by kernel_rfl))
/-- What an output sends. -/
def setB (n h : Int) : Int := bif n != -1 then IntKind.wrap .u8 n else h
def stepS (h0 h1 h2 : Int) (out : List D) (o : D) : List D :=
  bif out.any (eqS (o.at 0).int (setB (o.at 1).int h0) (setB (o.at 2).int h1) (setB (o.at 3).int h2)) then out else out ++ [.a [.i (o.at 0).int, .i (setB (o.at 1).int h0), .i (setB (o.at 2).int h1), .i (setB (o.at 3).int h2)]]
def doesL (h0 h1 h2 : Int) (ro : List D) : List D := ro.foldl (stepS h0 h1 h2) []
def fewB (n : Nat) : Bool := decide (n ≤ 1000)
theorem stepS_length (h0 h1 h2 : Int) (out : List D) (o : D) : (stepS h0 h1 h2 out o).length ≤ out.length + 1 := by
  unfold stepS
  cases out.any _ <;> simp
theorem emp_snoc {α : Type} (l : List α) (a : α) : (l ++ [a]).isEmpty = false := by cases l <;> rfl
theorem room_ok {n : Nat} (h : n ≤ 1000) : decide ((n + 1) * 16 ≤ 140737488355328) = true ∧ decide (n + 1 ≤ 4611686018427387904) = true := by simp; omega
noncomputable def does0_tm (rk rpr rto rpo rv rp rb0 rb1 rb2 ri0 ri1 ri2 : Int) (ro_nl : Bool) (ro : List D) (h0 h1 h2 t16 : Int) (out_nl : Bool) (out : List D) : St :=
  ⟨(Tm.at 48 [(3, (Slot.is (SV.ref 1 0))), (4, (Slot.is (SV.own 2))), (14, (Slot.is (SV.lst (Sh.agg [(Sh.int IntKind.i64), (Sh.int IntKind.i64), (Sh.int IntKind.i64), (Sh.int IntKind.i64)]) (ro_nl) (ro)))), (15, (Slot.is (SV.si IntKind.i64 ((↑(List.length ro) : Int))))), (16, (Slot.is (SV.si IntKind.i64 (t16))))]), [Option.none, (Option.some (Blk.mk (Con.cells [(SV.si IntKind.u8 (h0)), (SV.si IntKind.u8 (h1)), (SV.si IntKind.u8 (h2))]) 23 (false))), (Option.some (Blk.mk (Con.rows (Sh.agg [(Sh.int IntKind.i64), (Sh.int IntKind.u8), (Sh.int IntKind.u8), (Sh.int IntKind.u8)]) (out_nl) (out)) 44 (false)))]⟩
def does0_lp : LP := { base := 2, mv := [], mask := 114712, maskX := 16, nm := 65552, nb := [], kl := [0], klX := [0, 1], ow := [⟨none, 4, (.agg [.int .i64, .int .u8, .int .u8, .int .u8]), 44⟩] }
noncomputable def does0_x0 (rk rpr rto rpo rv rp rb0 rb1 rb2 ri0 ri1 ri2 : Int) (ro_nl : Bool) (ro : List D) (h0 h1 h2 t16 : Int) (out_nl : Bool) (out : List D) : St :=
  ⟨(Tm.at 48 [(4, (Slot.is (SV.own 2)))]), [Option.none, Option.none, (Option.some (Blk.mk (Con.rows (Sh.agg [(Sh.int IntKind.i64), (Sh.int IntKind.u8), (Sh.int IntKind.u8), (Sh.int IntKind.u8)]) (out_nl) (out)) 44 (false)))]⟩
theorem does0_round (rk rpr rto rpo rv rp rb0 rb1 rb2 ri0 ri1 ri2 : Int) (ro_nl : Bool) (ro : List D) (h0 h1 h2 t16 : Int) (out_nl : Bool) (out : List D) : roundC (bodyF tab (envOf (P := Try.prog) [cont_pc] [] []) 20 12 8 0 (loopOf (codeOf Try.f8) 0)) does0_lp (does0_tm rk rpr rto rpo rv rp rb0 rb1 rb2 ri0 ri1 ri2 ro_nl ro h0 h1 h2 t16 out_nl out) =
    (Tree.ite (decide (t16 < (↑(List.length ro) : Int))) (Tree.need (decide ((0 : Int) ≤ t16) && decide (t16 < (↑(List.length ro) : Int))) (Tree.ite (D.int (D.at (List.getD ro (Int.toNat t16) default) (1 : Nat)) != (-1 : Int)) (Tree.ite (D.int (D.at (List.getD ro (Int.toNat t16) default) (2 : Nat)) != (-1 : Int)) (Tree.ite (D.int (D.at (List.getD ro (Int.toNat t16) default) (3 : Nat)) != (-1 : Int)) (Tree.need (shortB (List.length out)) (Tree.ite (!List.any out (eqS (D.int (D.at (List.getD ro (Int.toNat t16) default) (0 : Nat))) (IntKind.wrap IntKind.u8 (D.int (D.at (List.getD ro (Int.toNat t16) default) ((0 : Nat) + (1 : Nat))))) (IntKind.wrap IntKind.u8 (D.int (D.at (List.getD ro (Int.toNat t16) default) ((0 : Nat) + (1 : Nat) + (1 : Nat))))) (IntKind.wrap IntKind.u8 (D.int (D.at (List.getD ro (Int.toNat t16) default) ((0 : Nat) + (1 : Nat) + (1 : Nat) + (1 : Nat))))))) (Tree.need (decide ((List.length out + (1 : Nat)) * (16 : Nat) ≤ (140737488355328 : Nat)) && decide (List.length out + (1 : Nat) ≤ (4611686018427387904 : Nat))) (Tree.ret (Ex.normal, (does0_tm (rk) (rpr) (rto) (rpo) (rv) (rp) (rb0) (rb1) (rb2) (ri0) (ri1) (ri2) (ro_nl) (ro) (h0) (h1) (h2) (IntKind.wrap IntKind.i64 (t16 + (1 : Int))) (out_nl && false) (out ++ [D.a [D.i (D.int (D.at (List.getD ro (Int.toNat t16) default) (0 : Nat))), D.i (IntKind.wrap IntKind.u8 (D.int (D.at (List.getD ro (Int.toNat t16) default) (1 : Nat)))), D.i (IntKind.wrap IntKind.u8 (D.int (D.at (List.getD ro (Int.toNat t16) default) (2 : Nat)))), D.i (IntKind.wrap IntKind.u8 (D.int (D.at (List.getD ro (Int.toNat t16) default) (3 : Nat))))]]))))) (Tree.ret (Ex.normal, (does0_tm (rk) (rpr) (rto) (rpo) (rv) (rp) (rb0) (rb1) (rb2) (ri0) (ri1) (ri2) (ro_nl) (ro) (h0) (h1) (h2) (IntKind.wrap IntKind.i64 (t16 + (1 : Int))) (out_nl) (out)))))) (Tree.need (shortB (List.length out)) (Tree.ite (!List.any out (eqS (D.int (D.at (List.getD ro (Int.toNat t16) default) (0 : Nat))) (IntKind.wrap IntKind.u8 (D.int (D.at (List.getD ro (Int.toNat t16) default) ((0 : Nat) + (1 : Nat))))) (IntKind.wrap IntKind.u8 (D.int (D.at (List.getD ro (Int.toNat t16) default) ((0 : Nat) + (1 : Nat) + (1 : Nat))))) h2)) (Tree.need (decide ((List.length out + (1 : Nat)) * (16 : Nat) ≤ (140737488355328 : Nat)) && decide (List.length out + (1 : Nat) ≤ (4611686018427387904 : Nat))) (Tree.ret (Ex.normal, (does0_tm (rk) (rpr) (rto) (rpo) (rv) (rp) (rb0) (rb1) (rb2) (ri0) (ri1) (ri2) (ro_nl) (ro) (h0) (h1) (h2) (IntKind.wrap IntKind.i64 (t16 + (1 : Int))) (out_nl && false) (out ++ [D.a [D.i (D.int (D.at (List.getD ro (Int.toNat t16) default) (0 : Nat))), D.i (IntKind.wrap IntKind.u8 (D.int (D.at (List.getD ro (Int.toNat t16) default) (1 : Nat)))), D.i (IntKind.wrap IntKind.u8 (D.int (D.at (List.getD ro (Int.toNat t16) default) (2 : Nat)))), D.i h2]]))))) (Tree.ret (Ex.normal, (does0_tm (rk) (rpr) (rto) (rpo) (rv) (rp) (rb0) (rb1) (rb2) (ri0) (ri1) (ri2) (ro_nl) (ro) (h0) (h1) (h2) (IntKind.wrap IntKind.i64 (t16 + (1 : Int))) (out_nl) (out))))))) (Tree.ite (D.int (D.at (List.getD ro (Int.toNat t16) default) (3 : Nat)) != (-1 : Int)) (Tree.need (shortB (List.length out)) (Tree.ite (!List.any out (eqS (D.int (D.at (List.getD ro (Int.toNat t16) default) (0 : Nat))) (IntKind.wrap IntKind.u8 (D.int (D.at (List.getD ro (Int.toNat t16) default) ((0 : Nat) + (1 : Nat))))) h1 (IntKind.wrap IntKind.u8 (D.int (D.at (List.getD ro (Int.toNat t16) default) ((0 : Nat) + (1 : Nat) + (1 : Nat) + (1 : Nat))))))) (Tree.need (decide ((List.length out + (1 : Nat)) * (16 : Nat) ≤ (140737488355328 : Nat)) && decide (List.length out + (1 : Nat) ≤ (4611686018427387904 : Nat))) (Tree.ret (Ex.normal, (does0_tm (rk) (rpr) (rto) (rpo) (rv) (rp) (rb0) (rb1) (rb2) (ri0) (ri1) (ri2) (ro_nl) (ro) (h0) (h1) (h2) (IntKind.wrap IntKind.i64 (t16 + (1 : Int))) (out_nl && false) (out ++ [D.a [D.i (D.int (D.at (List.getD ro (Int.toNat t16) default) (0 : Nat))), D.i (IntKind.wrap IntKind.u8 (D.int (D.at (List.getD ro (Int.toNat t16) default) (1 : Nat)))), D.i h1, D.i (IntKind.wrap IntKind.u8 (D.int (D.at (List.getD ro (Int.toNat t16) default) (3 : Nat))))]]))))) (Tree.ret (Ex.normal, (does0_tm (rk) (rpr) (rto) (rpo) (rv) (rp) (rb0) (rb1) (rb2) (ri0) (ri1) (ri2) (ro_nl) (ro) (h0) (h1) (h2) (IntKind.wrap IntKind.i64 (t16 + (1 : Int))) (out_nl) (out)))))) (Tree.need (shortB (List.length out)) (Tree.ite (!List.any out (eqS (D.int (D.at (List.getD ro (Int.toNat t16) default) (0 : Nat))) (IntKind.wrap IntKind.u8 (D.int (D.at (List.getD ro (Int.toNat t16) default) ((0 : Nat) + (1 : Nat))))) h1 h2)) (Tree.need (decide ((List.length out + (1 : Nat)) * (16 : Nat) ≤ (140737488355328 : Nat)) && decide (List.length out + (1 : Nat) ≤ (4611686018427387904 : Nat))) (Tree.ret (Ex.normal, (does0_tm (rk) (rpr) (rto) (rpo) (rv) (rp) (rb0) (rb1) (rb2) (ri0) (ri1) (ri2) (ro_nl) (ro) (h0) (h1) (h2) (IntKind.wrap IntKind.i64 (t16 + (1 : Int))) (out_nl && false) (out ++ [D.a [D.i (D.int (D.at (List.getD ro (Int.toNat t16) default) (0 : Nat))), D.i (IntKind.wrap IntKind.u8 (D.int (D.at (List.getD ro (Int.toNat t16) default) (1 : Nat)))), D.i h1, D.i h2]]))))) (Tree.ret (Ex.normal, (does0_tm (rk) (rpr) (rto) (rpo) (rv) (rp) (rb0) (rb1) (rb2) (ri0) (ri1) (ri2) (ro_nl) (ro) (h0) (h1) (h2) (IntKind.wrap IntKind.i64 (t16 + (1 : Int))) (out_nl) (out)))))))) (Tree.ite (D.int (D.at (List.getD ro (Int.toNat t16) default) (2 : Nat)) != (-1 : Int)) (Tree.ite (D.int (D.at (List.getD ro (Int.toNat t16) default) (3 : Nat)) != (-1 : Int)) (Tree.need (shortB (List.length out)) (Tree.ite (!List.any out (eqS (D.int (D.at (List.getD ro (Int.toNat t16) default) (0 : Nat))) h0 (IntKind.wrap IntKind.u8 (D.int (D.at (List.getD ro (Int.toNat t16) default) ((0 : Nat) + (1 : Nat) + (1 : Nat))))) (IntKind.wrap IntKind.u8 (D.int (D.at (List.getD ro (Int.toNat t16) default) ((0 : Nat) + (1 : Nat) + (1 : Nat) + (1 : Nat))))))) (Tree.need (decide ((List.length out + (1 : Nat)) * (16 : Nat) ≤ (140737488355328 : Nat)) && decide (List.length out + (1 : Nat) ≤ (4611686018427387904 : Nat))) (Tree.ret (Ex.normal, (does0_tm (rk) (rpr) (rto) (rpo) (rv) (rp) (rb0) (rb1) (rb2) (ri0) (ri1) (ri2) (ro_nl) (ro) (h0) (h1) (h2) (IntKind.wrap IntKind.i64 (t16 + (1 : Int))) (out_nl && false) (out ++ [D.a [D.i (D.int (D.at (List.getD ro (Int.toNat t16) default) (0 : Nat))), D.i h0, D.i (IntKind.wrap IntKind.u8 (D.int (D.at (List.getD ro (Int.toNat t16) default) (2 : Nat)))), D.i (IntKind.wrap IntKind.u8 (D.int (D.at (List.getD ro (Int.toNat t16) default) (3 : Nat))))]]))))) (Tree.ret (Ex.normal, (does0_tm (rk) (rpr) (rto) (rpo) (rv) (rp) (rb0) (rb1) (rb2) (ri0) (ri1) (ri2) (ro_nl) (ro) (h0) (h1) (h2) (IntKind.wrap IntKind.i64 (t16 + (1 : Int))) (out_nl) (out)))))) (Tree.need (shortB (List.length out)) (Tree.ite (!List.any out (eqS (D.int (D.at (List.getD ro (Int.toNat t16) default) (0 : Nat))) h0 (IntKind.wrap IntKind.u8 (D.int (D.at (List.getD ro (Int.toNat t16) default) ((0 : Nat) + (1 : Nat) + (1 : Nat))))) h2)) (Tree.need (decide ((List.length out + (1 : Nat)) * (16 : Nat) ≤ (140737488355328 : Nat)) && decide (List.length out + (1 : Nat) ≤ (4611686018427387904 : Nat))) (Tree.ret (Ex.normal, (does0_tm (rk) (rpr) (rto) (rpo) (rv) (rp) (rb0) (rb1) (rb2) (ri0) (ri1) (ri2) (ro_nl) (ro) (h0) (h1) (h2) (IntKind.wrap IntKind.i64 (t16 + (1 : Int))) (out_nl && false) (out ++ [D.a [D.i (D.int (D.at (List.getD ro (Int.toNat t16) default) (0 : Nat))), D.i h0, D.i (IntKind.wrap IntKind.u8 (D.int (D.at (List.getD ro (Int.toNat t16) default) (2 : Nat)))), D.i h2]]))))) (Tree.ret (Ex.normal, (does0_tm (rk) (rpr) (rto) (rpo) (rv) (rp) (rb0) (rb1) (rb2) (ri0) (ri1) (ri2) (ro_nl) (ro) (h0) (h1) (h2) (IntKind.wrap IntKind.i64 (t16 + (1 : Int))) (out_nl) (out))))))) (Tree.ite (D.int (D.at (List.getD ro (Int.toNat t16) default) (3 : Nat)) != (-1 : Int)) (Tree.need (shortB (List.length out)) (Tree.ite (!List.any out (eqS (D.int (D.at (List.getD ro (Int.toNat t16) default) (0 : Nat))) h0 h1 (IntKind.wrap IntKind.u8 (D.int (D.at (List.getD ro (Int.toNat t16) default) ((0 : Nat) + (1 : Nat) + (1 : Nat) + (1 : Nat))))))) (Tree.need (decide ((List.length out + (1 : Nat)) * (16 : Nat) ≤ (140737488355328 : Nat)) && decide (List.length out + (1 : Nat) ≤ (4611686018427387904 : Nat))) (Tree.ret (Ex.normal, (does0_tm (rk) (rpr) (rto) (rpo) (rv) (rp) (rb0) (rb1) (rb2) (ri0) (ri1) (ri2) (ro_nl) (ro) (h0) (h1) (h2) (IntKind.wrap IntKind.i64 (t16 + (1 : Int))) (out_nl && false) (out ++ [D.a [D.i (D.int (D.at (List.getD ro (Int.toNat t16) default) (0 : Nat))), D.i h0, D.i h1, D.i (IntKind.wrap IntKind.u8 (D.int (D.at (List.getD ro (Int.toNat t16) default) (3 : Nat))))]]))))) (Tree.ret (Ex.normal, (does0_tm (rk) (rpr) (rto) (rpo) (rv) (rp) (rb0) (rb1) (rb2) (ri0) (ri1) (ri2) (ro_nl) (ro) (h0) (h1) (h2) (IntKind.wrap IntKind.i64 (t16 + (1 : Int))) (out_nl) (out)))))) (Tree.need (shortB (List.length out)) (Tree.ite (!List.any out (eqS (D.int (D.at (List.getD ro (Int.toNat t16) default) (0 : Nat))) h0 h1 h2)) (Tree.need (decide ((List.length out + (1 : Nat)) * (16 : Nat) ≤ (140737488355328 : Nat)) && decide (List.length out + (1 : Nat) ≤ (4611686018427387904 : Nat))) (Tree.ret (Ex.normal, (does0_tm (rk) (rpr) (rto) (rpo) (rv) (rp) (rb0) (rb1) (rb2) (ri0) (ri1) (ri2) (ro_nl) (ro) (h0) (h1) (h2) (IntKind.wrap IntKind.i64 (t16 + (1 : Int))) (out_nl && false) (out ++ [D.a [D.i (D.int (D.at (List.getD ro (Int.toNat t16) default) (0 : Nat))), D.i h0, D.i h1, D.i h2]]))))) (Tree.ret (Ex.normal, (does0_tm (rk) (rpr) (rto) (rpo) (rv) (rp) (rb0) (rb1) (rb2) (ri0) (ri1) (ri2) (ro_nl) (ro) (h0) (h1) (h2) (IntKind.wrap IntKind.i64 (t16 + (1 : Int))) (out_nl) (out)))))))))) (Tree.ret ((Ex.exit 0), (does0_x0 (rk) (rpr) (rto) (rpo) (rv) (rp) (rb0) (rb1) (rb2) (ri0) (ri1) (ri2) (ro_nl) (ro) (h0) (h1) (h2) (t16) (out_nl) (out))))) := by kernel_rfl
noncomputable def does0_res (rk rpr rto rpo rv rp rb0 rb1 rb2 ri0 ri1 ri2 : Int) (ro_nl : Bool) (ro : List D) (h0 h1 h2 : Int) (t16 : Int) (out_nl : Bool) (out : List D) : Tree (Ex × St) := .need (decide (t16 = 0) && (out.isEmpty && (out_nl && fewB ro.length))) (.ret (.exit 0, does0_x0 rk rpr rto rpo rv rp rb0 rb1 rb2 ri0 ri1 ri2 ro_nl ro h0 h1 h2 (ro.length : Nat) (doesL h0 h1 h2 ro).isEmpty (doesL h0 h1 h2 ro)))
theorem does0_ok (rk rpr rto rpo rv rp rb0 rb1 rb2 ri0 ri1 ri2 : Int) (ro_nl : Bool) (ro : List D) (h0 h1 h2 : Int) (t16 : Int) (out_nl : Bool) (out : List D) (ex : Ex) (st' : St) (hrun_ : (does0_res rk rpr rto rpo rv rp rb0 rb1 rb2 ri0 ri1 ri2 ro_nl ro h0 h1 h2 t16 out_nl out).run = some (ex, st')) : ∃ n, iterC (roundC (bodyF tab (envOf (P := Try.prog) [cont_pc] [] []) 20 12 8 0 (loopOf (codeOf Try.f8) 0)) does0_lp) n (does0_tm rk rpr rto rpo rv rp rb0 rb1 rb2 ri0 ri1 ri2 ro_nl ro h0 h1 h2 t16 out_nl out) = some (ex, st') := by
  obtain ⟨hp_, h_⟩ := Tree.run_need hrun_
  simp only [fewB, Bool.and_eq_true, decide_eq_true_eq] at hp_
  obtain ⟨e_, e1_, e2_, hl_⟩ := hp_
  simp only [Tree.run, Option.some.injEq, Prod.mk.injEq] at h_
  obtain ⟨rfl, rfl⟩ := h_
  subst e_
  have e3_ : out = [] := by simpa using e1_
  subst e3_
  subst e2_
  refine fold_loop0 (B := roundC (bodyF tab (envOf (P := Try.prog) [cont_pc] [] []) 20 12 8 0 (loopOf (codeOf Try.f8) 0)) does0_lp) (tm := fun t_ (o_ : List D) => does0_tm rk rpr rto rpo rv rp rb0 rb1 rb2 ri0 ri1 ri2 ro_nl ro h0 h1 h2 t_ (o_).isEmpty (o_)) (s := ro) (g := stepS h0 h1 h2) (fin := fun o_ => (.exit 0, does0_x0 rk rpr rto rpo rv rp rb0 rb1 rb2 ri0 ri1 ri2 ro_nl ro h0 h1 h2 (ro.length : Nat) (o_).isEmpty (o_))) (I := fun k o => o.length ≤ k) (x := []) (by simp) ?_ ?_ (fun _ => by simp)
  · intro k_ x_ hk_ hi_
    refine ⟨?_, Nat.le_trans (stepS_length _ _ _ _ _) (Nat.succ_le_succ hi_)⟩
    have d1_ : decide ((k_ : Int) < (ro.length : Nat)) = true := by simp; omega
    have d2_ : decide ((0 : Int) ≤ (k_ : Int)) = true := by simp
    obtain ⟨d3_, d4_⟩ := room_ok (n := x_.length) (Nat.le_trans hi_ (by omega))
    have d5_ : shortB x_.length = true := by simp [shortB]; omega
    rw [does0_round]
    simp only [Tree.run_ret', Tree.run_need', Tree.run_ite', d1_, d2_, d3_, d4_, d5_, Bool.and_self, cond_true, Int.toNat_natCast, wrap64 (n := (k_ : Int) + 1) (by omega) (by omega), stepS, setB]
    generalize ro.getD k_ default = o_
    cases ((o_.at 1).int != -1) <;> cases ((o_.at 2).int != -1) <;> cases ((o_.at 3).int != -1) <;> simp only [cond_true, cond_false]
    all_goals
      cases x_.any _ <;> simp [emp_snoc]
  · intro x_ hi_
    have d1_ : decide (((ro.length : Nat) : Int) < (ro.length : Nat)) = false := by simp
    simp only [does0_round, Tree.run_ite', d1_]
    rfl
noncomputable def does0_run (rk rpr rto rpo rv rp rb0 rb1 rb2 ri0 ri1 ri2 : Int) (ro_nl : Bool) (ro : List D) (h0 h1 h2 : Int) (st : St) : Tree (Ex × St) := .need (chkSt st (does0_tm rk rpr rto rpo rv rp rb0 rb1 rb2 ri0 ri1 ri2 ro_nl ro h0 h1 h2 (iOf (slotV st 16)) (nlOf (rowsV st 2)) (xsOf (rowsV st 2)))) (does0_res rk rpr rto rpo rv rp rb0 rb1 rb2 ri0 ri1 ri2 ro_nl ro h0 h1 h2 (iOf (slotV st 16)) (nlOf (rowsV st 2)) (xsOf (rowsV st 2)))
noncomputable def does0_lc (rk rpr rto rpo rv rp rb0 rb1 rb2 ri0 ri1 ri2 : Int) (ro_nl : Bool) (ro : List D) (h0 h1 h2 : Int) : LC Try.prog := LC.of (T := tab) follows (envOf_good _ _ _) 20 12 8 0 Try.f8 Try.func8 (codeOf Try.f8) (loopOf (codeOf Try.f8) 0) (by kernel_rfl) (by kernel_rfl) does0_lp (does0_run rk rpr rto rpo rv rp rb0 rb1 rb2 ri0 ri1 ri2 ro_nl ro h0 h1 h2)
  (inner_loops (c := codeOf Try.f8) Try.func8 (by kernel_rfl) (by kernel_rfl))
  (by
    intro st ex st' h
    obtain ⟨hc, h⟩ := Tree.run_need h
    have e := chk_iff.1 hc
    have := does0_ok rk rpr rto rpo rv rp rb0 rb1 rb2 ri0 ri1 ri2 ro_nl ro h0 h1 h2 _ _ _ ex st' h
    rw [← e] at this
    exact this)
theorem does_tree (rk rpr rto rpo rv rp rb0 rb1 rb2 ri0 ri1 ri2 : Int) (ro_nl : Bool) (ro : List D) (h0 h1 h2 : Int) : callG tab (envOf (P := Try.prog) [cont_pc] [] [(does0_lc rk rpr rto rpo rv rp rb0 rb1 rb2 ri0 ri1 ri2 ro_nl ro h0 h1 h2)]) 20 12 8 [SV.agg [SV.si IntKind.i64 rk, SV.si IntKind.i64 rpr, SV.si IntKind.i64 rto, SV.si IntKind.i64 rpo, SV.si IntKind.i64 rv, SV.si IntKind.i64 rp, SV.si IntKind.u8 rb0, SV.si IntKind.u8 rb1, SV.si IntKind.u8 rb2, SV.si IntKind.u8 ri0, SV.si IntKind.u8 ri1, SV.si IntKind.u8 ri2, SV.lst (.agg [.int .i64, .int .i64, .int .i64, .int .i64]) ro_nl ro], SV.agg [SV.si IntKind.u8 h0, SV.si IntKind.u8 h1, SV.si IntKind.u8 h2]] [] =
    (Tree.ite (rk != (1 : Int)) (Tree.ret ((SV.val (Value.slice none (nat_lit 0) (nat_lit 0))), [])) (Tree.need (chkSt (does0_tm rk rpr rto rpo rv rp rb0 rb1 rb2 ri0 ri1 ri2 ro_nl ro h0 h1 h2 (0 : Int) true []) (does0_tm rk rpr rto rpo rv rp rb0 rb1 rb2 ri0 ri1 ri2 ro_nl ro h0 h1 h2 (0 : Int) true [])) (Tree.need (decide ((0 : Int) = (0 : Int)) && (true && (true && fewB (List.length ro)))) (Tree.ret ((SV.own 0), [(Option.some (Blk.mk (Con.rows (Sh.agg [(Sh.int IntKind.i64), (Sh.int IntKind.u8), (Sh.int IntKind.u8), (Sh.int IntKind.u8)]) (List.isEmpty (doesL h0 h1 h2 ro)) (doesL h0 h1 h2 ro)) 44 (false)))]))))) := by kernel_rfl
theorem does_run (rk rpr rto rpo rv rp rb0 rb1 rb2 ri0 ri1 ri2 : Int) (ro_nl : Bool) (ro : List D) (h0 h1 h2 : Int) {r : SV} {H' : Hp} (h : (.ite (rk != 1) (.ret (.val (.slice none 0 0), [])) (.need (fewB ro.length) (.ret (.own 0, [some ⟨.rows (.agg [.int .i64, .int .u8, .int .u8, .int .u8]) (doesL h0 h1 h2 ro).isEmpty (doesL h0 h1 h2 ro), 44, false⟩]))) : Tree (SV × Hp)).run = some (r, H')) : (callG tab (envOf (P := Try.prog) [cont_pc] [] [(does0_lc rk rpr rto rpo rv rp rb0 rb1 rb2 ri0 ri1 ri2 ro_nl ro h0 h1 h2)]) 20 12 8 [SV.agg [SV.si IntKind.i64 rk, SV.si IntKind.i64 rpr, SV.si IntKind.i64 rto, SV.si IntKind.i64 rpo, SV.si IntKind.i64 rv, SV.si IntKind.i64 rp, SV.si IntKind.u8 rb0, SV.si IntKind.u8 rb1, SV.si IntKind.u8 rb2, SV.si IntKind.u8 ri0, SV.si IntKind.u8 ri1, SV.si IntKind.u8 ri2, SV.lst (.agg [.int .i64, .int .i64, .int .i64, .int .i64]) ro_nl ro], SV.agg [SV.si IntKind.u8 h0, SV.si IntKind.u8 h1, SV.si IntKind.u8 h2]] []).run = some (r, H') := by
  rw [does_tree]
  revert h
  simp only [Tree.run_ret', Tree.run_need', Tree.run_ite', chk_self, cond_true, cond_false]
  cases (rk != 1) <;> simp
def does_tr : List D → Option (Tree (SV × Hp))
  | [.a [.i rk, .i rpr, .i rto, .i rpo, .i rv, .i rp, .i rb0, .i rb1, .i rb2, .i ri0, .i ri1, .i ri2, .l ro_nl ro], .a [.i h0, .i h1, .i h2]] => some (.ite (rk != 1) (.ret (.val (.slice none 0 0), [])) (.need (fewB ro.length) (.ret (.own 0, [some ⟨.rows (.agg [.int .i64, .int .u8, .int .u8, .int .u8]) (doesL h0 h1 h2 ro).isEmpty (doesL h0 h1 h2 ro), 44, false⟩]))))
  | _ => none
noncomputable def does_ct : Ct Try.prog := Ct.run (T := tab) follows 20 12 8 [.d (.agg [(.int .i64), (.int .i64), (.int .i64), (.int .i64), (.int .i64), (.int .i64), (.int .u8), (.int .u8), (.int .u8), (.int .u8), (.int .u8), (.int .u8), (.list (.agg [.int .i64, .int .i64, .int .i64, .int .i64]))]), .d (.agg [(.int .u8), (.int .u8), (.int .u8)])] does_tr (by
  intro ds t r H' ht hr
  unfold does_tr at ht
  split at ht
  · rename_i rk rpr rto rpo rv rp rb0 rb1 rb2 ri0 ri1 ri2 ro_nl ro h0 h1 h2
    simp only [Option.some.injEq] at ht
    subst ht
    exact ⟨_, _, _, envOf_good _ _ _, does_run rk rpr rto rpo rv rp rb0 rb1 rb2 ri0 ri1 ri2 ro_nl ro h0 h1 h2 hr, rfl, rfl⟩
  · cases ht) (enters_of Try.func8 rfl (by kernel_rfl))
theorem doesK_tree (rk rpr rto rpo rv rp rb0 rb1 rb2 ri0 ri1 ri2 : Int) (ro_nl : Bool) (ro : List D) (h0 h1 h2 : Int) : callG tab (envOf (P := Try.prog) [cont_pc] [] [(does0_lc rk rpr rto rpo rv rp rb0 rb1 rb2 ri0 ri1 ri2 ro_nl ro h0 h1 h2)]) 20 12 8 [SV.agg [SV.si IntKind.i64 rk, SV.si IntKind.i64 rpr, SV.si IntKind.i64 rto, SV.si IntKind.i64 rpo, SV.si IntKind.i64 rv, SV.si IntKind.i64 rp, SV.si IntKind.u8 rb0, SV.si IntKind.u8 rb1, SV.si IntKind.u8 rb2, SV.si IntKind.u8 ri0, SV.si IntKind.u8 ri1, SV.si IntKind.u8 ri2, SV.lst (.agg [.int .i64, .int .i64, .int .i64, .int .i64]) ro_nl ro], SV.agg [SV.si IntKind.u8 h0, SV.si IntKind.u8 h1, SV.si IntKind.u8 h2]] [] =
    (Tree.ite (rk != (1 : Int)) (Tree.ret ((SV.val (Value.slice none (nat_lit 0) (nat_lit 0))), [])) (Tree.need (chkSt (does0_tm rk rpr rto rpo rv rp rb0 rb1 rb2 ri0 ri1 ri2 ro_nl ro h0 h1 h2 (0 : Int) true []) (does0_tm rk rpr rto rpo rv rp rb0 rb1 rb2 ri0 ri1 ri2 ro_nl ro h0 h1 h2 (0 : Int) true [])) (Tree.need (decide ((0 : Int) = (0 : Int)) && (true && (true && fewB (List.length ro)))) (Tree.ret ((SV.own 0), [(Option.some (Blk.mk (Con.rows (Sh.agg [(Sh.int IntKind.i64), (Sh.int IntKind.u8), (Sh.int IntKind.u8), (Sh.int IntKind.u8)]) (List.isEmpty (doesL h0 h1 h2 ro)) (doesL h0 h1 h2 ro)) 44 (false)))]))))) := by kernel_rfl
theorem doesK_run (rk rpr rto rpo rv rp rb0 rb1 rb2 ri0 ri1 ri2 : Int) (ro_nl : Bool) (ro : List D) (h0 h1 h2 : Int) {r : SV} {H' : Hp} (h : (bif rk != 1 then (.ret (.val (.slice none 0 0), [])) else (.need (fewB ro.length) (.ret (.own 0, [some ⟨.rows (.agg [.int .i64, .int .u8, .int .u8, .int .u8]) (doesL h0 h1 h2 ro).isEmpty (doesL h0 h1 h2 ro), 44, false⟩]))) : Tree (SV × Hp)).run = some (r, H')) : (callG tab (envOf (P := Try.prog) [cont_pc] [] [(does0_lc rk rpr rto rpo rv rp rb0 rb1 rb2 ri0 ri1 ri2 ro_nl ro h0 h1 h2)]) 20 12 8 [SV.agg [SV.si IntKind.i64 rk, SV.si IntKind.i64 rpr, SV.si IntKind.i64 rto, SV.si IntKind.i64 rpo, SV.si IntKind.i64 rv, SV.si IntKind.i64 rp, SV.si IntKind.u8 rb0, SV.si IntKind.u8 rb1, SV.si IntKind.u8 rb2, SV.si IntKind.u8 ri0, SV.si IntKind.u8 ri1, SV.si IntKind.u8 ri2, SV.lst (.agg [.int .i64, .int .i64, .int .i64, .int .i64]) ro_nl ro], SV.agg [SV.si IntKind.u8 h0, SV.si IntKind.u8 h1, SV.si IntKind.u8 h2]] []).run = some (r, H') := by
  rw [doesK_tree]
  revert h
  cases (rk != 1) <;> simp only [Tree.run_ret', Tree.run_need', Tree.run_ite', chk_self, cond_true, cond_false] <;> simp
def doesK_tr : List D → Option (Tree (SV × Hp))
  | [.a [.i rk, .i rpr, .i rto, .i rpo, .i rv, .i rp, .i rb0, .i rb1, .i rb2, .i ri0, .i ri1, .i ri2, .l ro_nl ro], .a [.i h0, .i h1, .i h2]] => some (bif rk != 1 then (.ret (.val (.slice none 0 0), [])) else (.need (fewB ro.length) (.ret (.own 0, [some ⟨.rows (.agg [.int .i64, .int .u8, .int .u8, .int .u8]) (doesL h0 h1 h2 ro).isEmpty (doesL h0 h1 h2 ro), 44, false⟩]))))
  | _ => none
noncomputable def doesK_ct : Ct Try.prog := Ct.run (T := tab) follows 20 12 8 [.d (.agg [(.int .i64), (.int .i64), (.int .i64), (.int .i64), (.int .i64), (.int .i64), (.int .u8), (.int .u8), (.int .u8), (.int .u8), (.int .u8), (.int .u8), (.list (.agg [.int .i64, .int .i64, .int .i64, .int .i64]))]), .d (.agg [(.int .u8), (.int .u8), (.int .u8)])] doesK_tr (by
  intro ds t r H' ht hr
  unfold doesK_tr at ht
  split at ht
  · rename_i rk rpr rto rpo rv rp rb0 rb1 rb2 ri0 ri1 ri2 ro_nl ro h0 h1 h2
    simp only [Option.some.injEq] at ht
    subst ht
    exact ⟨_, _, _, envOf_good _ _ _, doesK_run rk rpr rto rpo rv rp rb0 rb1 rb2 ri0 ri1 ri2 ro_nl ro h0 h1 h2 hr, rfl, rfl⟩
  · cases ht) (enters_of Try.func8 rfl (by kernel_rfl))
noncomputable def rdoes0_tm (rk rpr rto rpo rv rp rb0 rb1 rb2 ri0 ri1 ri2 : Int) (ro_nl : Bool) (ro : List D) (h0 h1 h2 i : Int) (out_nl : Bool) (out : List D) : St :=
  ⟨(Tm.at 61 [(2, (Slot.is (SV.ref 0 0))), (3, (Slot.is (SV.ref 1 0))), (5, (Slot.is (SV.own 2))), (6, (Slot.is (SV.si IntKind.i64 (i))))]), [(Option.some (Blk.mk (Con.cells [(SV.si IntKind.i64 (rk)), (SV.si IntKind.i64 (rpr)), (SV.si IntKind.i64 (rto)), (SV.si IntKind.i64 (rpo)), (SV.si IntKind.i64 (rv)), (SV.si IntKind.i64 (rp)), (SV.si IntKind.u8 (rb0)), (SV.si IntKind.u8 (rb1)), (SV.si IntKind.u8 (rb2)), (SV.si IntKind.u8 (ri0)), (SV.si IntKind.u8 (ri1)), (SV.si IntKind.u8 (ri2)), (SV.lst (Sh.agg [(Sh.int IntKind.i64), (Sh.int IntKind.i64), (Sh.int IntKind.i64), (Sh.int IntKind.i64)]) (ro_nl) (ro))]) 28 (false))), (Option.some (Blk.mk (Con.cells [(SV.si IntKind.u8 (h0)), (SV.si IntKind.u8 (h1)), (SV.si IntKind.u8 (h2))]) 23 (false))), (Option.some (Blk.mk (Con.rows (Sh.agg [(Sh.int IntKind.i64), (Sh.int IntKind.u8), (Sh.int IntKind.u8), (Sh.int IntKind.u8)]) (out_nl) (out)) 44 (false)))]⟩
def rdoes0_lp : LP := { base := 2, mv := [], mask := 108, maskX := 32, nm := 96, nb := [], kl := [], klX := [0, 1], ow := [⟨none, 5, (.agg [.int .i64, .int .u8, .int .u8, .int .u8]), 44⟩] }
noncomputable def rdoes0_x0 (rk rpr rto rpo rv rp rb0 rb1 rb2 ri0 ri1 ri2 : Int) (ro_nl : Bool) (ro : List D) (h0 h1 h2 i : Int) (out_nl : Bool) (out : List D) : St :=
  ⟨(Tm.at 61 [(5, (Slot.is (SV.own 2)))]), [Option.none, Option.none, (Option.some (Blk.mk (Con.rows (Sh.agg [(Sh.int IntKind.i64), (Sh.int IntKind.u8), (Sh.int IntKind.u8), (Sh.int IntKind.u8)]) (out_nl) (out)) 44 (false)))]⟩
theorem rdoes0_round (rk rpr rto rpo rv rp rb0 rb1 rb2 ri0 ri1 ri2 : Int) (ro_nl : Bool) (ro : List D) (h0 h1 h2 i : Int) (out_nl : Bool) (out : List D) : roundC (bodyF tab (envOf (P := Try.prog) [had_pc] [] []) 20 12 9 0 (loopOf (codeOf Try.f9) 0)) rdoes0_lp (rdoes0_tm rk rpr rto rpo rv rp rb0 rb1 rb2 ri0 ri1 ri2 ro_nl ro h0 h1 h2 i out_nl out) =
    (Tree.ite (decide (i < (↑(List.length ro) : Int))) (Tree.need (decide ((0 : Int) ≤ i) && decide (i < (↑(List.length ro) : Int))) (Tree.need (decide ((0 : Int) ≤ i) && decide (i < (↑(List.length ro) : Int))) (Tree.ite (D.int (D.at (List.getD ro (Int.toNat i) default) (1 : Nat)) != (-1 : Int)) (Tree.need (decide ((0 : Int) ≤ i) && decide (i < (↑(List.length ro) : Int))) (Tree.need (decide ((0 : Int) ≤ i) && decide (i < (↑(List.length ro) : Int))) (Tree.ite (D.int (D.at (List.getD ro (Int.toNat i) default) (2 : Nat)) != (-1 : Int)) (Tree.need (decide ((0 : Int) ≤ i) && decide (i < (↑(List.length ro) : Int))) (Tree.need (decide ((0 : Int) ≤ i) && decide (i < (↑(List.length ro) : Int))) (Tree.ite (D.int (D.at (List.getD ro (Int.toNat i) default) (3 : Nat)) != (-1 : Int)) (Tree.need (decide ((0 : Int) ≤ i) && decide (i < (↑(List.length ro) : Int))) (Tree.need (shortB (List.length out)) (Tree.ite (!List.any out (eqS (D.int (D.at (List.getD ro (Int.toNat i) default) (0 : Nat))) (IntKind.wrap IntKind.u8 (D.int (D.at (List.getD ro (Int.toNat i) default) ((0 : Nat) + (1 : Nat))))) (IntKind.wrap IntKind.u8 (D.int (D.at (List.getD ro (Int.toNat i) default) ((0 : Nat) + (1 : Nat) + (1 : Nat))))) (IntKind.wrap IntKind.u8 (D.int (D.at (List.getD ro (Int.toNat i) default) ((0 : Nat) + (1 : Nat) + (1 : Nat) + (1 : Nat))))))) (Tree.need (decide ((List.length out + (1 : Nat)) * (16 : Nat) ≤ (140737488355328 : Nat)) && decide (List.length out + (1 : Nat) ≤ (4611686018427387904 : Nat))) (Tree.ret (Ex.normal, (rdoes0_tm (rk) (rpr) (rto) (rpo) (rv) (rp) (rb0) (rb1) (rb2) (ri0) (ri1) (ri2) (ro_nl) (ro) (h0) (h1) (h2) (IntKind.wrap IntKind.i64 (i + (1 : Int))) (out_nl && false) (out ++ [D.a [D.i (D.int (D.at (List.getD ro (Int.toNat i) default) (0 : Nat))), D.i (IntKind.wrap IntKind.u8 (D.int (D.at (List.getD ro (Int.toNat i) default) (1 : Nat)))), D.i (IntKind.wrap IntKind.u8 (D.int (D.at (List.getD ro (Int.toNat i) default) (2 : Nat)))), D.i (IntKind.wrap IntKind.u8 (D.int (D.at (List.getD ro (Int.toNat i) default) (3 : Nat))))]]))))) (Tree.ret (Ex.normal, (rdoes0_tm (rk) (rpr) (rto) (rpo) (rv) (rp) (rb0) (rb1) (rb2) (ri0) (ri1) (ri2) (ro_nl) (ro) (h0) (h1) (h2) (IntKind.wrap IntKind.i64 (i + (1 : Int))) (out_nl) (out))))))) (Tree.need (shortB (List.length out)) (Tree.ite (!List.any out (eqS (D.int (D.at (List.getD ro (Int.toNat i) default) (0 : Nat))) (IntKind.wrap IntKind.u8 (D.int (D.at (List.getD ro (Int.toNat i) default) ((0 : Nat) + (1 : Nat))))) (IntKind.wrap IntKind.u8 (D.int (D.at (List.getD ro (Int.toNat i) default) ((0 : Nat) + (1 : Nat) + (1 : Nat))))) h2)) (Tree.need (decide ((List.length out + (1 : Nat)) * (16 : Nat) ≤ (140737488355328 : Nat)) && decide (List.length out + (1 : Nat) ≤ (4611686018427387904 : Nat))) (Tree.ret (Ex.normal, (rdoes0_tm (rk) (rpr) (rto) (rpo) (rv) (rp) (rb0) (rb1) (rb2) (ri0) (ri1) (ri2) (ro_nl) (ro) (h0) (h1) (h2) (IntKind.wrap IntKind.i64 (i + (1 : Int))) (out_nl && false) (out ++ [D.a [D.i (D.int (D.at (List.getD ro (Int.toNat i) default) (0 : Nat))), D.i (IntKind.wrap IntKind.u8 (D.int (D.at (List.getD ro (Int.toNat i) default) (1 : Nat)))), D.i (IntKind.wrap IntKind.u8 (D.int (D.at (List.getD ro (Int.toNat i) default) (2 : Nat)))), D.i h2]]))))) (Tree.ret (Ex.normal, (rdoes0_tm (rk) (rpr) (rto) (rpo) (rv) (rp) (rb0) (rb1) (rb2) (ri0) (ri1) (ri2) (ro_nl) (ro) (h0) (h1) (h2) (IntKind.wrap IntKind.i64 (i + (1 : Int))) (out_nl) (out))))))))) (Tree.need (decide ((0 : Int) ≤ i) && decide (i < (↑(List.length ro) : Int))) (Tree.ite (D.int (D.at (List.getD ro (Int.toNat i) default) (3 : Nat)) != (-1 : Int)) (Tree.need (decide ((0 : Int) ≤ i) && decide (i < (↑(List.length ro) : Int))) (Tree.need (shortB (List.length out)) (Tree.ite (!List.any out (eqS (D.int (D.at (List.getD ro (Int.toNat i) default) (0 : Nat))) (IntKind.wrap IntKind.u8 (D.int (D.at (List.getD ro (Int.toNat i) default) ((0 : Nat) + (1 : Nat))))) h1 (IntKind.wrap IntKind.u8 (D.int (D.at (List.getD ro (Int.toNat i) default) ((0 : Nat) + (1 : Nat) + (1 : Nat) + (1 : Nat))))))) (Tree.need (decide ((List.length out + (1 : Nat)) * (16 : Nat) ≤ (140737488355328 : Nat)) && decide (List.length out + (1 : Nat) ≤ (4611686018427387904 : Nat))) (Tree.ret (Ex.normal, (rdoes0_tm (rk) (rpr) (rto) (rpo) (rv) (rp) (rb0) (rb1) (rb2) (ri0) (ri1) (ri2) (ro_nl) (ro) (h0) (h1) (h2) (IntKind.wrap IntKind.i64 (i + (1 : Int))) (out_nl && false) (out ++ [D.a [D.i (D.int (D.at (List.getD ro (Int.toNat i) default) (0 : Nat))), D.i (IntKind.wrap IntKind.u8 (D.int (D.at (List.getD ro (Int.toNat i) default) (1 : Nat)))), D.i h1, D.i (IntKind.wrap IntKind.u8 (D.int (D.at (List.getD ro (Int.toNat i) default) (3 : Nat))))]]))))) (Tree.ret (Ex.normal, (rdoes0_tm (rk) (rpr) (rto) (rpo) (rv) (rp) (rb0) (rb1) (rb2) (ri0) (ri1) (ri2) (ro_nl) (ro) (h0) (h1) (h2) (IntKind.wrap IntKind.i64 (i + (1 : Int))) (out_nl) (out))))))) (Tree.need (shortB (List.length out)) (Tree.ite (!List.any out (eqS (D.int (D.at (List.getD ro (Int.toNat i) default) (0 : Nat))) (IntKind.wrap IntKind.u8 (D.int (D.at (List.getD ro (Int.toNat i) default) ((0 : Nat) + (1 : Nat))))) h1 h2)) (Tree.need (decide ((List.length out + (1 : Nat)) * (16 : Nat) ≤ (140737488355328 : Nat)) && decide (List.length out + (1 : Nat) ≤ (4611686018427387904 : Nat))) (Tree.ret (Ex.normal, (rdoes0_tm (rk) (rpr) (rto) (rpo) (rv) (rp) (rb0) (rb1) (rb2) (ri0) (ri1) (ri2) (ro_nl) (ro) (h0) (h1) (h2) (IntKind.wrap IntKind.i64 (i + (1 : Int))) (out_nl && false) (out ++ [D.a [D.i (D.int (D.at (List.getD ro (Int.toNat i) default) (0 : Nat))), D.i (IntKind.wrap IntKind.u8 (D.int (D.at (List.getD ro (Int.toNat i) default) (1 : Nat)))), D.i h1, D.i h2]]))))) (Tree.ret (Ex.normal, (rdoes0_tm (rk) (rpr) (rto) (rpo) (rv) (rp) (rb0) (rb1) (rb2) (ri0) (ri1) (ri2) (ro_nl) (ro) (h0) (h1) (h2) (IntKind.wrap IntKind.i64 (i + (1 : Int))) (out_nl) (out))))))))))) (Tree.need (decide ((0 : Int) ≤ i) && decide (i < (↑(List.length ro) : Int))) (Tree.ite (D.int (D.at (List.getD ro (Int.toNat i) default) (2 : Nat)) != (-1 : Int)) (Tree.need (decide ((0 : Int) ≤ i) && decide (i < (↑(List.length ro) : Int))) (Tree.need (decide ((0 : Int) ≤ i) && decide (i < (↑(List.length ro) : Int))) (Tree.ite (D.int (D.at (List.getD ro (Int.toNat i) default) (3 : Nat)) != (-1 : Int)) (Tree.need (decide ((0 : Int) ≤ i) && decide (i < (↑(List.length ro) : Int))) (Tree.need (shortB (List.length out)) (Tree.ite (!List.any out (eqS (D.int (D.at (List.getD ro (Int.toNat i) default) (0 : Nat))) h0 (IntKind.wrap IntKind.u8 (D.int (D.at (List.getD ro (Int.toNat i) default) ((0 : Nat) + (1 : Nat) + (1 : Nat))))) (IntKind.wrap IntKind.u8 (D.int (D.at (List.getD ro (Int.toNat i) default) ((0 : Nat) + (1 : Nat) + (1 : Nat) + (1 : Nat))))))) (Tree.need (decide ((List.length out + (1 : Nat)) * (16 : Nat) ≤ (140737488355328 : Nat)) && decide (List.length out + (1 : Nat) ≤ (4611686018427387904 : Nat))) (Tree.ret (Ex.normal, (rdoes0_tm (rk) (rpr) (rto) (rpo) (rv) (rp) (rb0) (rb1) (rb2) (ri0) (ri1) (ri2) (ro_nl) (ro) (h0) (h1) (h2) (IntKind.wrap IntKind.i64 (i + (1 : Int))) (out_nl && false) (out ++ [D.a [D.i (D.int (D.at (List.getD ro (Int.toNat i) default) (0 : Nat))), D.i h0, D.i (IntKind.wrap IntKind.u8 (D.int (D.at (List.getD ro (Int.toNat i) default) (2 : Nat)))), D.i (IntKind.wrap IntKind.u8 (D.int (D.at (List.getD ro (Int.toNat i) default) (3 : Nat))))]]))))) (Tree.ret (Ex.normal, (rdoes0_tm (rk) (rpr) (rto) (rpo) (rv) (rp) (rb0) (rb1) (rb2) (ri0) (ri1) (ri2) (ro_nl) (ro) (h0) (h1) (h2) (IntKind.wrap IntKind.i64 (i + (1 : Int))) (out_nl) (out))))))) (Tree.need (shortB (List.length out)) (Tree.ite (!List.any out (eqS (D.int (D.at (List.getD ro (Int.toNat i) default) (0 : Nat))) h0 (IntKind.wrap IntKind.u8 (D.int (D.at (List.getD ro (Int.toNat i) default) ((0 : Nat) + (1 : Nat) + (1 : Nat))))) h2)) (Tree.need (decide ((List.length out + (1 : Nat)) * (16 : Nat) ≤ (140737488355328 : Nat)) && decide (List.length out + (1 : Nat) ≤ (4611686018427387904 : Nat))) (Tree.ret (Ex.normal, (rdoes0_tm (rk) (rpr) (rto) (rpo) (rv) (rp) (rb0) (rb1) (rb2) (ri0) (ri1) (ri2) (ro_nl) (ro) (h0) (h1) (h2) (IntKind.wrap IntKind.i64 (i + (1 : Int))) (out_nl && false) (out ++ [D.a [D.i (D.int (D.at (List.getD ro (Int.toNat i) default) (0 : Nat))), D.i h0, D.i (IntKind.wrap IntKind.u8 (D.int (D.at (List.getD ro (Int.toNat i) default) (2 : Nat)))), D.i h2]]))))) (Tree.ret (Ex.normal, (rdoes0_tm (rk) (rpr) (rto) (rpo) (rv) (rp) (rb0) (rb1) (rb2) (ri0) (ri1) (ri2) (ro_nl) (ro) (h0) (h1) (h2) (IntKind.wrap IntKind.i64 (i + (1 : Int))) (out_nl) (out))))))))) (Tree.need (decide ((0 : Int) ≤ i) && decide (i < (↑(List.length ro) : Int))) (Tree.ite (D.int (D.at (List.getD ro (Int.toNat i) default) (3 : Nat)) != (-1 : Int)) (Tree.need (decide ((0 : Int) ≤ i) && decide (i < (↑(List.length ro) : Int))) (Tree.need (shortB (List.length out)) (Tree.ite (!List.any out (eqS (D.int (D.at (List.getD ro (Int.toNat i) default) (0 : Nat))) h0 h1 (IntKind.wrap IntKind.u8 (D.int (D.at (List.getD ro (Int.toNat i) default) ((0 : Nat) + (1 : Nat) + (1 : Nat) + (1 : Nat))))))) (Tree.need (decide ((List.length out + (1 : Nat)) * (16 : Nat) ≤ (140737488355328 : Nat)) && decide (List.length out + (1 : Nat) ≤ (4611686018427387904 : Nat))) (Tree.ret (Ex.normal, (rdoes0_tm (rk) (rpr) (rto) (rpo) (rv) (rp) (rb0) (rb1) (rb2) (ri0) (ri1) (ri2) (ro_nl) (ro) (h0) (h1) (h2) (IntKind.wrap IntKind.i64 (i + (1 : Int))) (out_nl && false) (out ++ [D.a [D.i (D.int (D.at (List.getD ro (Int.toNat i) default) (0 : Nat))), D.i h0, D.i h1, D.i (IntKind.wrap IntKind.u8 (D.int (D.at (List.getD ro (Int.toNat i) default) (3 : Nat))))]]))))) (Tree.ret (Ex.normal, (rdoes0_tm (rk) (rpr) (rto) (rpo) (rv) (rp) (rb0) (rb1) (rb2) (ri0) (ri1) (ri2) (ro_nl) (ro) (h0) (h1) (h2) (IntKind.wrap IntKind.i64 (i + (1 : Int))) (out_nl) (out))))))) (Tree.need (shortB (List.length out)) (Tree.ite (!List.any out (eqS (D.int (D.at (List.getD ro (Int.toNat i) default) (0 : Nat))) h0 h1 h2)) (Tree.need (decide ((List.length out + (1 : Nat)) * (16 : Nat) ≤ (140737488355328 : Nat)) && decide (List.length out + (1 : Nat) ≤ (4611686018427387904 : Nat))) (Tree.ret (Ex.normal, (rdoes0_tm (rk) (rpr) (rto) (rpo) (rv) (rp) (rb0) (rb1) (rb2) (ri0) (ri1) (ri2) (ro_nl) (ro) (h0) (h1) (h2) (IntKind.wrap IntKind.i64 (i + (1 : Int))) (out_nl && false) (out ++ [D.a [D.i (D.int (D.at (List.getD ro (Int.toNat i) default) (0 : Nat))), D.i h0, D.i h1, D.i h2]]))))) (Tree.ret (Ex.normal, (rdoes0_tm (rk) (rpr) (rto) (rpo) (rv) (rp) (rb0) (rb1) (rb2) (ri0) (ri1) (ri2) (ro_nl) (ro) (h0) (h1) (h2) (IntKind.wrap IntKind.i64 (i + (1 : Int))) (out_nl) (out))))))))))))) (Tree.ret ((Ex.exit 0), (rdoes0_x0 (rk) (rpr) (rto) (rpo) (rv) (rp) (rb0) (rb1) (rb2) (ri0) (ri1) (ri2) (ro_nl) (ro) (h0) (h1) (h2) (i) (out_nl) (out))))) := by kernel_rfl
noncomputable def rdoes0_res (rk rpr rto rpo rv rp rb0 rb1 rb2 ri0 ri1 ri2 : Int) (ro_nl : Bool) (ro : List D) (h0 h1 h2 : Int) (i : Int) (out_nl : Bool) (out : List D) : Tree (Ex × St) := .need (decide (i = 0) && (out.isEmpty && (out_nl && fewB ro.length))) (.ret (.exit 0, rdoes0_x0 rk rpr rto rpo rv rp rb0 rb1 rb2 ri0 ri1 ri2 ro_nl ro h0 h1 h2 (ro.length : Nat) (doesL h0 h1 h2 ro).isEmpty (doesL h0 h1 h2 ro)))
theorem rdoes0_ok (rk rpr rto rpo rv rp rb0 rb1 rb2 ri0 ri1 ri2 : Int) (ro_nl : Bool) (ro : List D) (h0 h1 h2 : Int) (i : Int) (out_nl : Bool) (out : List D) (ex : Ex) (st' : St) (hrun_ : (rdoes0_res rk rpr rto rpo rv rp rb0 rb1 rb2 ri0 ri1 ri2 ro_nl ro h0 h1 h2 i out_nl out).run = some (ex, st')) : ∃ n, iterC (roundC (bodyF tab (envOf (P := Try.prog) [had_pc] [] []) 20 12 9 0 (loopOf (codeOf Try.f9) 0)) rdoes0_lp) n (rdoes0_tm rk rpr rto rpo rv rp rb0 rb1 rb2 ri0 ri1 ri2 ro_nl ro h0 h1 h2 i out_nl out) = some (ex, st') := by
  obtain ⟨hp_, h_⟩ := Tree.run_need hrun_
  simp only [fewB, Bool.and_eq_true, decide_eq_true_eq] at hp_
  obtain ⟨e_, e1_, e2_, hl_⟩ := hp_
  simp only [Tree.run, Option.some.injEq, Prod.mk.injEq] at h_
  obtain ⟨rfl, rfl⟩ := h_
  subst e_
  have e3_ : out = [] := by simpa using e1_
  subst e3_
  subst e2_
  refine fold_loop0 (B := roundC (bodyF tab (envOf (P := Try.prog) [had_pc] [] []) 20 12 9 0 (loopOf (codeOf Try.f9) 0)) rdoes0_lp) (tm := fun t_ (o_ : List D) => rdoes0_tm rk rpr rto rpo rv rp rb0 rb1 rb2 ri0 ri1 ri2 ro_nl ro h0 h1 h2 t_ (o_).isEmpty (o_)) (s := ro) (g := stepS h0 h1 h2) (fin := fun o_ => (.exit 0, rdoes0_x0 rk rpr rto rpo rv rp rb0 rb1 rb2 ri0 ri1 ri2 ro_nl ro h0 h1 h2 (ro.length : Nat) (o_).isEmpty (o_))) (I := fun k o => o.length ≤ k) (x := []) (by simp) ?_ ?_ (fun _ => by simp)
  · intro k_ x_ hk_ hi_
    refine ⟨?_, Nat.le_trans (stepS_length _ _ _ _ _) (Nat.succ_le_succ hi_)⟩
    have d1_ : decide ((k_ : Int) < (ro.length : Nat)) = true := by simp; omega
    have d2_ : decide ((0 : Int) ≤ (k_ : Int)) = true := by simp
    obtain ⟨d3_, d4_⟩ := room_ok (n := x_.length) (Nat.le_trans hi_ (by omega))
    have d5_ : shortB x_.length = true := by simp [shortB]; omega
    rw [rdoes0_round]
    simp only [Tree.run_ret', Tree.run_need', Tree.run_ite', d1_, d2_, d3_, d4_, d5_, Bool.and_self, cond_true, Int.toNat_natCast, wrap64 (n := (k_ : Int) + 1) (by omega) (by omega), stepS, setB]
    generalize ro.getD k_ default = o_
    cases ((o_.at 1).int != -1) <;> cases ((o_.at 2).int != -1) <;> cases ((o_.at 3).int != -1) <;> simp only [cond_true, cond_false]
    all_goals
      cases x_.any _ <;> simp [emp_snoc]
  · intro x_ hi_
    have d1_ : decide (((ro.length : Nat) : Int) < (ro.length : Nat)) = false := by simp
    simp only [rdoes0_round, Tree.run_ite', d1_]
    rfl
noncomputable def rdoes0_run (rk rpr rto rpo rv rp rb0 rb1 rb2 ri0 ri1 ri2 : Int) (ro_nl : Bool) (ro : List D) (h0 h1 h2 : Int) (st : St) : Tree (Ex × St) := .need (chkSt st (rdoes0_tm rk rpr rto rpo rv rp rb0 rb1 rb2 ri0 ri1 ri2 ro_nl ro h0 h1 h2 (iOf (slotV st 6)) (nlOf (rowsV st 2)) (xsOf (rowsV st 2)))) (rdoes0_res rk rpr rto rpo rv rp rb0 rb1 rb2 ri0 ri1 ri2 ro_nl ro h0 h1 h2 (iOf (slotV st 6)) (nlOf (rowsV st 2)) (xsOf (rowsV st 2)))
noncomputable def rdoes0_lc (rk rpr rto rpo rv rp rb0 rb1 rb2 ri0 ri1 ri2 : Int) (ro_nl : Bool) (ro : List D) (h0 h1 h2 : Int) : LC Try.prog := LC.of (T := tab) follows (envOf_good _ _ _) 20 12 9 0 Try.f9 Try.func9 (codeOf Try.f9) (loopOf (codeOf Try.f9) 0) (by kernel_rfl) (by kernel_rfl) rdoes0_lp (rdoes0_run rk rpr rto rpo rv rp rb0 rb1 rb2 ri0 ri1 ri2 ro_nl ro h0 h1 h2)
  (inner_loops (c := codeOf Try.f9) Try.func9 (by kernel_rfl) (by kernel_rfl))
  (by
    intro st ex st' h
    obtain ⟨hc, h⟩ := Tree.run_need h
    have e := chk_iff.1 hc
    have := rdoes0_ok rk rpr rto rpo rv rp rb0 rb1 rb2 ri0 ri1 ri2 ro_nl ro h0 h1 h2 _ _ _ ex st' h
    rw [← e] at this
    exact this)
theorem rdoes_tree (rk rpr rto rpo rv rp rb0 rb1 rb2 ri0 ri1 ri2 : Int) (ro_nl : Bool) (ro : List D) (h0 h1 h2 : Int) : callG tab (envOf (P := Try.prog) [had_pc] [] [(rdoes0_lc rk rpr rto rpo rv rp rb0 rb1 rb2 ri0 ri1 ri2 ro_nl ro h0 h1 h2)]) 20 12 9 [SV.agg [SV.si IntKind.i64 rk, SV.si IntKind.i64 rpr, SV.si IntKind.i64 rto, SV.si IntKind.i64 rpo, SV.si IntKind.i64 rv, SV.si IntKind.i64 rp, SV.si IntKind.u8 rb0, SV.si IntKind.u8 rb1, SV.si IntKind.u8 rb2, SV.si IntKind.u8 ri0, SV.si IntKind.u8 ri1, SV.si IntKind.u8 ri2, SV.lst (.agg [.int .i64, .int .i64, .int .i64, .int .i64]) ro_nl ro], SV.agg [SV.si IntKind.u8 h0, SV.si IntKind.u8 h1, SV.si IntKind.u8 h2]] [] =
    (Tree.ite (rk != (1 : Int)) (Tree.ret ((SV.val (Value.slice none (nat_lit 0) (nat_lit 0))), [])) (Tree.need (chkSt (rdoes0_tm rk rpr rto rpo rv rp rb0 rb1 rb2 ri0 ri1 ri2 ro_nl ro h0 h1 h2 (0 : Int) true []) (rdoes0_tm rk rpr rto rpo rv rp rb0 rb1 rb2 ri0 ri1 ri2 ro_nl ro h0 h1 h2 (0 : Int) true [])) (Tree.need (decide ((0 : Int) = (0 : Int)) && (true && (true && fewB (List.length ro)))) (Tree.ret ((SV.own 0), [(Option.some (Blk.mk (Con.rows (Sh.agg [(Sh.int IntKind.i64), (Sh.int IntKind.u8), (Sh.int IntKind.u8), (Sh.int IntKind.u8)]) (List.isEmpty (doesL h0 h1 h2 ro)) (doesL h0 h1 h2 ro)) 44 (false)))]))))) := by kernel_rfl
theorem rdoes_run (rk rpr rto rpo rv rp rb0 rb1 rb2 ri0 ri1 ri2 : Int) (ro_nl : Bool) (ro : List D) (h0 h1 h2 : Int) {r : SV} {H' : Hp} (h : (.ite (rk != 1) (.ret (.val (.slice none 0 0), [])) (.need (fewB ro.length) (.ret (.own 0, [some ⟨.rows (.agg [.int .i64, .int .u8, .int .u8, .int .u8]) (doesL h0 h1 h2 ro).isEmpty (doesL h0 h1 h2 ro), 44, false⟩]))) : Tree (SV × Hp)).run = some (r, H')) : (callG tab (envOf (P := Try.prog) [had_pc] [] [(rdoes0_lc rk rpr rto rpo rv rp rb0 rb1 rb2 ri0 ri1 ri2 ro_nl ro h0 h1 h2)]) 20 12 9 [SV.agg [SV.si IntKind.i64 rk, SV.si IntKind.i64 rpr, SV.si IntKind.i64 rto, SV.si IntKind.i64 rpo, SV.si IntKind.i64 rv, SV.si IntKind.i64 rp, SV.si IntKind.u8 rb0, SV.si IntKind.u8 rb1, SV.si IntKind.u8 rb2, SV.si IntKind.u8 ri0, SV.si IntKind.u8 ri1, SV.si IntKind.u8 ri2, SV.lst (.agg [.int .i64, .int .i64, .int .i64, .int .i64]) ro_nl ro], SV.agg [SV.si IntKind.u8 h0, SV.si IntKind.u8 h1, SV.si IntKind.u8 h2]] []).run = some (r, H') := by
  rw [rdoes_tree]
  revert h
  simp only [Tree.run_ret', Tree.run_need', Tree.run_ite', chk_self, cond_true, cond_false]
  cases (rk != 1) <;> simp
def rdoes_tr : List D → Option (Tree (SV × Hp))
  | [.a [.i rk, .i rpr, .i rto, .i rpo, .i rv, .i rp, .i rb0, .i rb1, .i rb2, .i ri0, .i ri1, .i ri2, .l ro_nl ro], .a [.i h0, .i h1, .i h2]] => some (.ite (rk != 1) (.ret (.val (.slice none 0 0), [])) (.need (fewB ro.length) (.ret (.own 0, [some ⟨.rows (.agg [.int .i64, .int .u8, .int .u8, .int .u8]) (doesL h0 h1 h2 ro).isEmpty (doesL h0 h1 h2 ro), 44, false⟩]))))
  | _ => none
noncomputable def rdoes_ct : Ct Try.prog := Ct.run (T := tab) follows 20 12 9 [.d (.agg [(.int .i64), (.int .i64), (.int .i64), (.int .i64), (.int .i64), (.int .i64), (.int .u8), (.int .u8), (.int .u8), (.int .u8), (.int .u8), (.int .u8), (.list (.agg [.int .i64, .int .i64, .int .i64, .int .i64]))]), .d (.agg [(.int .u8), (.int .u8), (.int .u8)])] rdoes_tr (by
  intro ds t r H' ht hr
  unfold rdoes_tr at ht
  split at ht
  · rename_i rk rpr rto rpo rv rp rb0 rb1 rb2 ri0 ri1 ri2 ro_nl ro h0 h1 h2
    simp only [Option.some.injEq] at ht
    subst ht
    exact ⟨_, _, _, envOf_good _ _ _, rdoes_run rk rpr rto rpo rv rp rb0 rb1 rb2 ri0 ri1 ri2 ro_nl ro h0 h1 h2 hr, rfl, rfl⟩
  · cases ht) (enters_of Try.func9 rfl (by kernel_rfl))
def eqD (x y : D) : Bool := (x.at 0).int == (y.at 0).int && ((x.at 1).int == (y.at 1).int && ((x.at 2).int == (y.at 2).int && ((x.at 3).int == (y.at 3).int && true)) && true)
def unlike (a b : List D) (i : Nat) : Bool := !eqD (a.getD i default) (b.getD i default)
def sameL (a b : List D) : Bool := bif ((a.length : Int) == b.length) then !(List.range a.length).any (unlike a b) else false
noncomputable def same0_tm (a_nl : Bool) (a : List D) (b_nl : Bool) (b : List D) (i : Int) : St :=
  ⟨(Tm.at 26 [(0, (Slot.is (SV.lst (Sh.agg [(Sh.int IntKind.i64), (Sh.int IntKind.u8), (Sh.int IntKind.u8), (Sh.int IntKind.u8)]) (a_nl) (a)))), (1, (Slot.is (SV.lst (Sh.agg [(Sh.int IntKind.i64), (Sh.int IntKind.u8), (Sh.int IntKind.u8), (Sh.int IntKind.u8)]) (b_nl) (b)))), (5, (Slot.is (SV.si IntKind.i64 (i))))]), []⟩
def same0_lp : LP := { base := 0, mv := [], mask := 35, maskX := 16, nm := 32, nb := [], kl := [], klX := [], ow := [] }
noncomputable def same0_x0 (a_nl : Bool) (a : List D) (b_nl : Bool) (b : List D) (i : Int) : St :=
  ⟨(Tm.at 26 [(4, (Slot.is (SV.lb false)))]), []⟩
noncomputable def same0_x1 (a_nl : Bool) (a : List D) (b_nl : Bool) (b : List D) (i : Int) : St :=
  ⟨(Tm.at 26 []), []⟩
theorem same0_round (a_nl : Bool) (a : List D) (b_nl : Bool) (b : List D) (i : Int) : roundC (bodyF tab (envOf (P := Try.prog) [] [] []) 20 12 7 0 (loopOf (codeOf Try.f7) 0)) same0_lp (same0_tm a_nl a b_nl b i) =
    (Tree.ite (decide (i < (↑(List.length a) : Int))) (Tree.need (decide ((0 : Int) ≤ i) && decide (i < (↑(List.length a) : Int))) (Tree.need (decide ((0 : Int) ≤ i) && decide (i < (↑(List.length b) : Int))) (Tree.ite (!(D.int (D.at (List.getD a (Int.toNat i) default) (0 : Nat)) == D.int (D.at (List.getD b (Int.toNat i) default) (0 : Nat)) && (D.int (D.at (List.getD a (Int.toNat i) default) (1 : Nat)) == D.int (D.at (List.getD b (Int.toNat i) default) (1 : Nat)) && (D.int (D.at (List.getD a (Int.toNat i) default) (2 : Nat)) == D.int (D.at (List.getD b (Int.toNat i) default) (2 : Nat)) && (D.int (D.at (List.getD a (Int.toNat i) default) (3 : Nat)) == D.int (D.at (List.getD b (Int.toNat i) default) (3 : Nat)) && true)) && true))) (Tree.ret (Ex.ret, (same0_x0 (a_nl) (a) (b_nl) (b) (i)))) (Tree.ret (Ex.normal, (same0_tm (a_nl) (a) (b_nl) (b) (IntKind.wrap IntKind.i64 (i + (1 : Int))))))))) (Tree.ret ((Ex.exit 0), (same0_x1 (a_nl) (a) (b_nl) (b) (i))))) := by kernel_rfl
noncomputable def same0_res (a_nl : Bool) (a : List D) (b_nl : Bool) (b : List D) (i : Int) : Tree (Ex × St) := .need (decide (i = 0) && shortB a.length && ((a.length : Int) == b.length)) (.ite ((List.range a.length).any (unlike a b)) (.ret (.ret, same0_x0 a_nl a b_nl b ((List.range a.length).findIdx (unlike a b) : Nat))) (.ret (.exit 0, same0_x1 a_nl a b_nl b (a.length : Nat))))
theorem same0_ok (a_nl : Bool) (a : List D) (b_nl : Bool) (b : List D) (i : Int) (ex : Ex) (st' : St) (hrun_ : (same0_res a_nl a b_nl b i).run = some (ex, st')) : ∃ n, iterC (roundC (bodyF tab (envOf (P := Try.prog) [] [] []) 20 12 7 0 (loopOf (codeOf Try.f7) 0)) same0_lp) n (same0_tm a_nl a b_nl b i) = some (ex, st') := by
  obtain ⟨hp_, h_⟩ := Tree.run_need hrun_
  simp only [shortB, Bool.and_eq_true, decide_eq_true_eq, beq_iff_eq] at hp_
  obtain ⟨⟨e_, hl_⟩, hp0_⟩ := hp_
  subst e_
  have sl_ := search_loop0 (B := roundC (bodyF tab (envOf (P := Try.prog) [] [] []) 20 12 7 0 (loopOf (codeOf Try.f7) 0)) same0_lp) (tm := fun t_ => same0_tm a_nl a b_nl b t_) (s := (List.range a.length)) (f := unlike a b) (yes := fun t_ => (.ret, same0_x0 a_nl a b_nl b t_)) (no := (.exit 0, same0_x1 a_nl a b_nl b (a.length : Nat))) ?_ ?_ (fun _ => by simp) (by simp)
  · obtain ⟨m_, hm_⟩ := sl_
    refine ⟨m_, hm_.trans ?_⟩
    rw [Tree.run_ite'] at h_
    revert h_
    cases (List.range a.length).any (unlike a b) <;> exact id
  · intro k_ hk_
    have hk_ : k_ < a.length := by simpa using hk_
    rw [getD_range hk_]
    have d3_ : decide ((k_ : Int) < (b.length : Nat)) = true := by simp; omega
    have d1_ : decide ((k_ : Int) < (a.length : Nat)) = true := by simp; omega
    have d2_ : decide ((0 : Int) ≤ (k_ : Int)) = true := by simp
    simp only [same0_round, Tree.run_ret', Tree.run_need', Tree.run_ite', d1_, d2_, d3_, Bool.and_self, cond_true, Int.toNat_natCast, wrap64 (n := (k_ : Int) + 1) (by omega) (by omega)]
    exact bif_some _ _ _
  · rw [List.length_range]
    have d1_ : decide (((a.length : Nat) : Int) < (a.length : Nat)) = false := by simp
    simp only [same0_round, Tree.run_ite', d1_]
    rfl
noncomputable def same0_run (a_nl : Bool) (a : List D) (b_nl : Bool) (b : List D) (st : St) : Tree (Ex × St) := .need (chkSt st (same0_tm a_nl a b_nl b (iOf (slotV st 5)))) (same0_res a_nl a b_nl b (iOf (slotV st 5)))
noncomputable def same0_lc (a_nl : Bool) (a : List D) (b_nl : Bool) (b : List D) : LC Try.prog := LC.of (T := tab) follows (envOf_good _ _ _) 20 12 7 0 Try.f7 Try.func7 (codeOf Try.f7) (loopOf (codeOf Try.f7) 0) (by kernel_rfl) (by kernel_rfl) same0_lp (same0_run a_nl a b_nl b)
  (inner_loops (c := codeOf Try.f7) Try.func7 (by kernel_rfl) (by kernel_rfl))
  (by
    intro st ex st' h
    obtain ⟨hc, h⟩ := Tree.run_need h
    have e := chk_iff.1 hc
    have := same0_ok a_nl a b_nl b _ ex st' h
    rw [← e] at this
    exact this)
theorem same_tree (a_nl : Bool) (a : List D) (b_nl : Bool) (b : List D) : callG tab (envOf (P := Try.prog) [] [] [(same0_lc a_nl a b_nl b)]) 20 12 7 [SV.lst (.agg [.int .i64, .int .u8, .int .u8, .int .u8]) a_nl a, SV.lst (.agg [.int .i64, .int .u8, .int .u8, .int .u8]) b_nl b] [] =
    (Tree.ite ((↑(List.length a) : Int) != (↑(List.length b) : Int)) (Tree.ret ((SV.sb (false)), [])) (Tree.need (chkSt (same0_tm a_nl a b_nl b (0 : Int)) (same0_tm a_nl a b_nl b (0 : Int))) (Tree.need (decide ((0 : Int) = (0 : Int)) && shortB (List.length a) && (↑(List.length a) : Int) == (↑(List.length b) : Int)) (Tree.ite (List.any (List.range (List.length a)) (unlike a b)) (Tree.ret ((SV.sb (false)), [])) (Tree.ret ((SV.sb (true)), [])))))) := by kernel_rfl
theorem same_run (a_nl : Bool) (a : List D) (b_nl : Bool) (b : List D) (hpre : (shortB a.length) = true) : (callG tab (envOf (P := Try.prog) [] [] [(same0_lc a_nl a b_nl b)]) 20 12 7 [SV.lst (.agg [.int .i64, .int .u8, .int .u8, .int .u8]) a_nl a, SV.lst (.agg [.int .i64, .int .u8, .int .u8, .int .u8]) b_nl b] []).run = some ((.sb (sameL a b) : SV), []) := by
  rw [same_tree]
  simp only [Tree.run_ret', Tree.run_need', Tree.run_ite']
  simp only [chk_self, hpre, sameL, bne]
  cases h1_ : ((a.length : Int) == b.length) <;> cases (List.range a.length).any (unlike a b) <;> simp_all
def same_spec : PSpec := ⟨[(.list (.agg [.int .i64, .int .u8, .int .u8, .int .u8])), (.list (.agg [.int .i64, .int .u8, .int .u8, .int .u8]))], fun
  | [.l a_nl a, .l b_nl b] => some (shortB a.length, .sb (sameL a b))
  | _ => none⟩
noncomputable def same_pc : PC Try.prog := PC.run2 (T := tab) follows 20 12 7 same_spec (by
  intro ds pre r h hp
  unfold same_spec at h
  simp only at h
  split at h
  · rename_i a_nl a b_nl b
    simp only [Option.some.injEq, Prod.mk.injEq] at h
    obtain ⟨hq, rfl⟩ := h
    exact ⟨_, _, envOf_good _ _ _, same_run a_nl a b_nl b (hq.trans hp), rfl⟩
  · cases h) (enters_of Try.func7 rfl (by kernel_rfl))
theorem sameL_self (a : List D) : sameL a a = true := by
  have : ∀ i, unlike a a i = false := fun i => by simp [unlike, eqD]
  have : (List.range a.length).any (unlike a a) = false := by rw [List.any_eq_false]; intro x _; simp [this]
  simp [sameL, this]
theorem ruleDoes_tree (rk rpr rto rpo rv rp rb0 rb1 rb2 ri0 ri1 ri2 : Int) (ro_nl : Bool) (ro : List D) (h0 h1 h2 : Int) : callG tab (envOf (P := Try.prog) [works_pc, same_pc, had_pc, cont_pc] [does_ct, rdoes_ct] []) 20 12 3 [SV.agg [SV.si IntKind.i64 rk, SV.si IntKind.i64 rpr, SV.si IntKind.i64 rto, SV.si IntKind.i64 rpo, SV.si IntKind.i64 rv, SV.si IntKind.i64 rp, SV.si IntKind.u8 rb0, SV.si IntKind.u8 rb1, SV.si IntKind.u8 rb2, SV.si IntKind.u8 ri0, SV.si IntKind.u8 ri1, SV.si IntKind.u8 ri2, SV.lst (.agg [.int .i64, .int .i64, .int .i64, .int .i64]) ro_nl ro], SV.agg [SV.si IntKind.u8 h0, SV.si IntKind.u8 h1, SV.si IntKind.u8 h2]] [] =
    (Tree.need (decide ((0 : Int) ≤ (0 : Int)) && (decide ((0 : Int) ≤ pickN false (↑(List.length ro) : Int) (20 : Int)) && decide (pickN false (↑(List.length ro) : Int) (20 : Int) ≤ (↑(List.length ro) : Int)))) (Tree.ite (rk != (1 : Int)) (Tree.ite (rk != (1 : Int)) (Tree.need (shortB (0 : Nat)) (Tree.ite (sameL [] []) (Tree.need (true) (Tree.ret ((SV.sb (true)), []))) (Tree.ret ((SV.sb (false)), [])))) (Tree.need (fewB (List.length (List.drop (0 : Nat) (List.take (Int.toNat (pickN false (↑(List.length ro) : Int) (20 : Int))) ro)))) (Tree.need (shortB (0 : Nat)) (Tree.ite (sameL [] (doesL h0 h1 h2 (List.drop (0 : Nat) (List.take (Int.toNat (pickN false (↑(List.length ro) : Int) (20 : Int))) ro)))) (Tree.need (true) (Tree.ret ((SV.sb (true)), []))) (Tree.ret ((SV.sb (false)), [])))))) (Tree.need (fewB (List.length (List.drop (0 : Nat) (List.take (Int.toNat (pickN false (↑(List.length ro) : Int) (20 : Int))) ro)))) (Tree.ite (rk != (1 : Int)) (Tree.need (shortB (List.length (doesL h0 h1 h2 (List.drop (0 : Nat) (List.take (Int.toNat (pickN false (↑(List.length ro) : Int) (20 : Int))) ro))))) (Tree.ite (sameL (doesL h0 h1 h2 (List.drop (0 : Nat) (List.take (Int.toNat (pickN false (↑(List.length ro) : Int) (20 : Int))) ro))) []) (Tree.need (true) (Tree.ret ((SV.sb (true)), []))) (Tree.ret ((SV.sb (false)), [])))) (Tree.need (fewB (List.length (List.drop (0 : Nat) (List.take (Int.toNat (pickN false (↑(List.length ro) : Int) (20 : Int))) ro)))) (Tree.need (shortB (List.length (doesL h0 h1 h2 (List.drop (0 : Nat) (List.take (Int.toNat (pickN false (↑(List.length ro) : Int) (20 : Int))) ro))))) (Tree.ite (sameL (doesL h0 h1 h2 (List.drop (0 : Nat) (List.take (Int.toNat (pickN false (↑(List.length ro) : Int) (20 : Int))) ro))) (doesL h0 h1 h2 (List.drop (0 : Nat) (List.take (Int.toNat (pickN false (↑(List.length ro) : Int) (20 : Int))) ro)))) (Tree.need (true) (Tree.ret ((SV.sb (true)), []))) (Tree.ret ((SV.sb (false)), []))))))))) := by kernel_rfl
theorem cut20 (n : Nat) : (decide ((0 : Int) ≤ pickN false (n : Int) 20) = true ∧ decide (pickN false (n : Int) 20 ≤ (n : Int)) = true) ∧ (pickN false (n : Int) 20).toNat ≤ 20 := by
  unfold pickN
  simp
  split <;> omega
theorem foldS_length (h0 h1 h2 : Int) : ∀ (l out : List D), (l.foldl (stepS h0 h1 h2) out).length ≤ out.length + l.length
  | [], out => by simp
  | o :: r, out => by
    have h1_ := foldS_length h0 h1 h2 r (stepS h0 h1 h2 out o)
    have h2_ := stepS_length h0 h1 h2 out o
    simp only [List.foldl_cons, List.length_cons]
    omega
theorem doesL_length (h0 h1 h2 : Int) (l : List D) : (doesL h0 h1 h2 l).length ≤ l.length := by
  have := foldS_length h0 h1 h2 l []
  simpa [doesL] using this
theorem ruleDoes_run (rk rpr rto rpo rv rp rb0 rb1 rb2 ri0 ri1 ri2 : Int) (ro_nl : Bool) (ro : List D) (h0 h1 h2 : Int) : (callG tab (envOf (P := Try.prog) [works_pc, same_pc, had_pc, cont_pc] [does_ct, rdoes_ct] []) 20 12 3 [SV.agg [SV.si IntKind.i64 rk, SV.si IntKind.i64 rpr, SV.si IntKind.i64 rto, SV.si IntKind.i64 rpo, SV.si IntKind.i64 rv, SV.si IntKind.i64 rp, SV.si IntKind.u8 rb0, SV.si IntKind.u8 rb1, SV.si IntKind.u8 rb2, SV.si IntKind.u8 ri0, SV.si IntKind.u8 ri1, SV.si IntKind.u8 ri2, SV.lst (.agg [.int .i64, .int .i64, .int .i64, .int .i64]) ro_nl ro], SV.agg [SV.si IntKind.u8 h0, SV.si IntKind.u8 h1, SV.si IntKind.u8 h2]] []).run = some ((.sb true : SV), []) := by
  rw [ruleDoes_tree]
  obtain ⟨⟨c1_, c2_⟩, c3_⟩ := cut20 ro.length
  have c4_ : (List.drop 0 (List.take (Int.toNat (pickN false (ro.length : Int) 20)) ro)).length ≤ 20 := by simp; omega
  simp only [c1_, c2_, Tree.run_need', Bool.and_self, decide_true, cond_true]
  generalize List.drop 0 (List.take (Int.toNat (pickN false (ro.length : Int) 20)) ro) = l_ at c4_ ⊢
  have c5_ : fewB l_.length = true := by simp [fewB]; omega
  have c6_ : shortB (doesL h0 h1 h2 l_).length = true := by have := doesL_length h0 h1 h2 l_; simp [shortB]; omega
  have c7_ : shortB 0 = true := rfl
  simp only [Tree.run_ret', Tree.run_need', Tree.run_ite', c5_, c6_, c7_, sameL_self, cond_true]
  cases (rk != 1) <;> rfl
end Go.Proofs.Ytkcadajkgeakhaa
