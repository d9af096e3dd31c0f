/-
  Functions of the program, by their runs.
  No statement of the seat is proved here. Conditions: none.
-/
import Derived.Test.YtgodelllnilcfaaY25
import Derived.Test.YtgodelllnilcfaaTab09
import Derived.Test.YtgodelllnilcfaaL09
set_option linter.unusedSimpArgs false
set_option linter.unusedVariables false
set_option maxRecDepth 100000
namespace Go.Proofs.Ytgodelllnilcfaa
open Go.Sy Go.RowKit
noncomputable def ixw_tm (s_nl : Bool) (s : List D) (t8 : Int) : St :=
  ⟨(Tm.at 19 [(0, (Slot.is (SV.lst (Sh.agg [(Sh.int IntKind.i64), (Sh.int IntKind.i64), (Sh.int IntKind.i64), (Sh.int IntKind.i64), (Sh.int IntKind.i64), (Sh.int IntKind.i64), (Sh.int IntKind.u8), (Sh.int IntKind.u8), (Sh.int IntKind.u8), (Sh.int IntKind.u8), (Sh.int IntKind.u8), (Sh.int IntKind.u8), (Sh.list (Sh.agg [(Sh.int IntKind.i64), (Sh.int IntKind.i64), (Sh.int IntKind.i64), (Sh.int IntKind.i64)]))]) (s_nl) (s)))), (1, (Slot.is (SV.clo (Fn.func 67) [] []))), (7, (Slot.is (SV.si IntKind.i64 ((↑(List.length s) : Int))))), (8, (Slot.is (SV.si IntKind.i64 (t8))))]), []⟩
def ixw_lp : LP := { base := 0, mv := [], mask := 387, maskX := 16, nm := 256, nb := [], kl := [], klX := [], ow := [] }
noncomputable def ixw_x0 (s_nl : Bool) (s : List D) (t8 : Int) : St :=
  ⟨(Tm.at 19 [(4, (Slot.is (SV.si IntKind.i64 (t8))))]), []⟩
noncomputable def ixw_x1 (s_nl : Bool) (s : List D) (t8 : Int) : St :=
  ⟨(Tm.at 19 []), []⟩
theorem ixw_round (s_nl : Bool) (s : List D) (t8 : Int) : roundC (bodyF tab (envOf (P := Try.prog) [] [] []) 20 12 76 0 (loopOf (codeOf Try.f76) 0)) ixw_lp (ixw_tm s_nl s t8) =
    (Tree.ite (decide (t8 < (↑(List.length s) : Int))) (Tree.need (decide ((0 : Int) ≤ t8) && decide (t8 < (↑(List.length s) : Int))) (Tree.ret (Ex.ret, (ixw_x0 (s_nl) (s) (t8))))) (Tree.ret ((Ex.exit 0), (ixw_x1 (s_nl) (s) (t8))))) := by kernel_rfl
noncomputable def ixw_res (s_nl : Bool) (s : List D) (t8 : Int) : Tree (Ex × St) := .need (decide (t8 = 0) && shortB s.length) (.ite (s.any (allB)) (.ret (.ret, ixw_x0 s_nl s (s.findIdx (allB) : Nat))) (.ret (.exit 0, ixw_x1 s_nl s (s.length : Nat))))
theorem ixw_ok (s_nl : Bool) (s : List D) (t8 : Int) (ex : Ex) (st' : St) (hrun_ : (ixw_res s_nl s t8).run = some (ex, st')) : ∃ n, iterC (roundC (bodyF tab (envOf (P := Try.prog) [] [] []) 20 12 76 0 (loopOf (codeOf Try.f76) 0)) ixw_lp) n (ixw_tm s_nl s t8) = some (ex, st') := by
  obtain ⟨hp_, h_⟩ := Tree.run_need hrun_
  simp only [shortB, Bool.and_eq_true, decide_eq_true_eq, beq_iff_eq] at hp_
  obtain ⟨e_, hl_⟩ := hp_
  subst e_
  have sl_ := search_loop0 (B := roundC (bodyF tab (envOf (P := Try.prog) [] [] []) 20 12 76 0 (loopOf (codeOf Try.f76) 0)) ixw_lp) (tm := fun t_ => ixw_tm s_nl s t_) (s := s) (f := allB) (yes := fun t_ => (.ret, ixw_x0 s_nl s t_)) (no := (.exit 0, ixw_x1 s_nl s (s.length : Nat))) ?_ ?_ (fun _ => by simp) (by simp)
  · obtain ⟨m_, hm_⟩ := sl_
    refine ⟨m_, hm_.trans ?_⟩
    rw [Tree.run_ite'] at h_
    revert h_
    cases s.any (allB) <;> exact id
  · intro k_ hk_
    skip
    have d1_ : decide ((k_ : Int) < (s.length : Nat)) = true := by simp; omega
    have d2_ : decide ((0 : Int) ≤ (k_ : Int)) = true := by simp
    simp only [ixw_round, Tree.run_ret', Tree.run_need', Tree.run_ite', d1_, d2_, Bool.and_self, cond_true, Int.toNat_natCast, wrap64 (n := (k_ : Int) + 1) (by omega) (by omega), cond_self', allB]
    all_goals exact bif_some _ _ _
  · skip
    have d1_ : decide (((s.length : Nat) : Int) < (s.length : Nat)) = false := by simp
    simp only [ixw_round, Tree.run_ite', d1_]
    rfl
noncomputable def ixw_run (s_nl : Bool) (s : List D) (st : St) : Tree (Ex × St) := .need (chkSt st (ixw_tm s_nl s (iOf (slotV st 8)))) (ixw_res s_nl s (iOf (slotV st 8)))
noncomputable def ixw_lc (s_nl : Bool) (s : List D) : LC Try.prog := LC.of (T := tab) follows (envOf_good _ _ _) 20 12 76 0 Try.f76 Try.func76 (codeOf Try.f76) (loopOf (codeOf Try.f76) 0) (by kernel_rfl) (by kernel_rfl) ixw_lp (ixw_run s_nl s)
  (inner_loops (c := codeOf Try.f76) Try.func76 (by kernel_rfl) (by kernel_rfl))
  (by
    intro st ex st' h
    obtain ⟨hc, h⟩ := Tree.run_need h
    have e := chk_iff.1 hc
    have := ixw_ok s_nl s _ ex st' h
    rw [← e] at this
    exact this)
theorem ixfw_tree (s_nl : Bool) (s : List D) : callG tab (envOf (P := Try.prog) [] [] [(ixw_lc s_nl s)]) 20 12 76 [SV.lst (.agg [.int .i64, .int .i64, .int .i64, .int .i64, .int .i64, .int .i64, .int .u8, .int .u8, .int .u8, .int .u8, .int .u8, .int .u8, .list (.agg [.int .i64, .int .i64, .int .i64, .int .i64])]) s_nl s, SV.clo (.func 67) [] []] [] =
    (Tree.need (chkSt (ixw_tm s_nl s (0 : Int)) (ixw_tm s_nl s (0 : Int))) (Tree.need (decide ((0 : Int) = (0 : Int)) && shortB (List.length s)) (Tree.ite (List.any s allB) (Tree.ret ((SV.si IntKind.i64 ((↑(List.findIdx allB s) : Int))), [])) (Tree.ret ((SV.si IntKind.i64 ((-1 : Int))), []))))) := by kernel_rfl
theorem ixfw_run (s_nl : Bool) (s : List D) {r : SV} {H' : Hp} (h : (.need (shortB s.length) (.ret (.si .i64 (bif s.any (allB) then (s.findIdx (allB) : Nat) else -1), [])) : Tree (SV × Hp)).run = some (r, H')) : (callG tab (envOf (P := Try.prog) [] [] [(ixw_lc s_nl s)]) 20 12 76 [SV.lst (.agg [.int .i64, .int .i64, .int .i64, .int .i64, .int .i64, .int .i64, .int .u8, .int .u8, .int .u8, .int .u8, .int .u8, .int .u8, .list (.agg [.int .i64, .int .i64, .int .i64, .int .i64])]) s_nl s, SV.clo (.func 67) [] []] []).run = some (r, H') := by
  rw [ixfw_tree]
  obtain ⟨hp_, h_⟩ := Tree.run_need h
  simp only [Tree.run, Option.some.injEq, Prod.mk.injEq] at h_
  obtain ⟨rfl, rfl⟩ := h_
  simp only [Tree.run_ret', Tree.run_need', Tree.run_ite', chk_self, hp_, decide_true, Bool.and_self, cond_true]
  cases s.any (allB) <;> rfl
def ixfw_tr : List D → Option (Tree (SV × Hp))
  | [.l s_nl s] => some (.need (shortB s.length) (.ret (.si .i64 (bif s.any (allB) then (s.findIdx (allB) : Nat) else -1), [])))
  | _ => none
noncomputable def ixfw_ct : Ct Try.prog := Ct.run (T := tab) follows 20 12 76 [.d (.list (.agg [.int .i64, .int .i64, .int .i64, .int .i64, .int .i64, .int .i64, .int .u8, .int .u8, .int .u8, .int .u8, .int .u8, .int .u8, .list (.agg [.int .i64, .int .i64, .int .i64, .int .i64])])), .fn 67 [] []] ixfw_tr (by
  intro ds t r H' ht hr
  unfold ixfw_tr at ht
  split at ht
  · rename_i s_nl s
    simp only [Option.some.injEq] at ht
    subst ht
    exact ⟨_, _, _, envOf_good _ _ _, ixfw_run s_nl s hr, rfl, rfl⟩
  · cases ht) (enters_of (c := codeOf Try.f76) Try.func76 (by kernel_rfl) (by kernel_rfl))
noncomputable def dlw_tm (x_nl : Bool) (x : List D) (i j : Int) (s_nl : Bool) (s : List D) : St :=
  ⟨(Tm.at 42 [(0, (Slot.is (SV.own 0))), (1, (Slot.is (SV.clo (Fn.func 67) [] []))), (5, (Slot.is (SV.si IntKind.i64 (i)))), (6, (Slot.is (SV.si IntKind.i64 (j))))]), [(Option.some (Blk.mk (Con.rows (Sh.agg [(Sh.int IntKind.i64), (Sh.int IntKind.i64), (Sh.int IntKind.i64), (Sh.int IntKind.i64), (Sh.int IntKind.i64), (Sh.int IntKind.i64), (Sh.int IntKind.u8), (Sh.int IntKind.u8), (Sh.int IntKind.u8), (Sh.int IntKind.u8), (Sh.int IntKind.u8), (Sh.int IntKind.u8), (Sh.list (Sh.agg [(Sh.int IntKind.i64), (Sh.int IntKind.i64), (Sh.int IntKind.i64), (Sh.int IntKind.i64)]))]) (s_nl) (s)) 35 (false)))]⟩
def dlw_lp : LP := { base := 1, mv := [], mask := 99, maskX := 33, nm := 96, nb := [0], kl := [], klX := [], ow := [] }
noncomputable def dlw_x0 (x_nl : Bool) (x : List D) (i j : Int) (s_nl : Bool) (s : List D) : St :=
  ⟨(Tm.at 42 [(0, (Slot.is (SV.own 0))), (5, (Slot.is (SV.si IntKind.i64 (i))))]), [(Option.some (Blk.mk (Con.rows (Sh.agg [(Sh.int IntKind.i64), (Sh.int IntKind.i64), (Sh.int IntKind.i64), (Sh.int IntKind.i64), (Sh.int IntKind.i64), (Sh.int IntKind.i64), (Sh.int IntKind.u8), (Sh.int IntKind.u8), (Sh.int IntKind.u8), (Sh.int IntKind.u8), (Sh.int IntKind.u8), (Sh.int IntKind.u8), (Sh.list (Sh.agg [(Sh.int IntKind.i64), (Sh.int IntKind.i64), (Sh.int IntKind.i64), (Sh.int IntKind.i64)]))]) (s_nl) (s)) 35 (false)))]⟩
theorem dlw_round (x_nl : Bool) (x : List D) (i j : Int) (s_nl : Bool) (s : List D) : roundC (bodyF tab (envOf (P := Try.prog) [] [] []) 20 12 80 0 (loopOf (codeOf Try.f80) 0)) dlw_lp (dlw_tm x_nl x i j s_nl s) =
    (Tree.ite (decide (j < (↑(List.length s) : Int))) (Tree.need (decide ((0 : Int) ≤ j) && decide (j < (↑(List.length s) : Int))) (Tree.ret (Ex.normal, (dlw_tm (x_nl) (x) (i) (IntKind.wrap IntKind.i64 (j + (1 : Int))) (s_nl) (s))))) (Tree.ret ((Ex.exit 0), (dlw_x0 (x_nl) (x) (i) (j) (s_nl) (s))))) := by kernel_rfl
noncomputable def dlw_res (x_nl : Bool) (x : List D) (i j : Int) (s_nl : Bool) (s : List D) : Tree (Ex × St) := .need (decide (0 ≤ i) && (decide (i < j) && (decide (j ≤ (s.length : Int)) && fewB s.length))) (.ret (.exit 0, dlw_x0 x_nl x (dlI (allB) i j s) 0 s_nl (dlS (allB) i j s)))
theorem dlw_ok (x_nl : Bool) (x : List D) (i j : Int) (s_nl : Bool) (s : List D) (ex : Ex) (st' : St) (hrun_ : (dlw_res x_nl x i j s_nl s).run = some (ex, st')) : ∃ n, iterC (roundC (bodyF tab (envOf (P := Try.prog) [] [] []) 20 12 80 0 (loopOf (codeOf Try.f80) 0)) dlw_lp) n (dlw_tm x_nl x i j s_nl s) = some (ex, st') := by
  obtain ⟨hp_, h_⟩ := Tree.run_need hrun_
  simp only [fewB, Bool.and_eq_true, decide_eq_true_eq] at hp_
  obtain ⟨h0_, h1_, h2_, h3_⟩ := hp_
  simp only [Tree.run, Option.some.injEq, Prod.mk.injEq] at h_
  obtain ⟨rfl, rfl⟩ := h_
  obtain ⟨a_, rfl⟩ : ∃ a : Nat, i = a := ⟨i.toNat, by omega⟩
  obtain ⟨b_, rfl⟩ : ∃ b : Nat, j = b := ⟨j.toNat, by omega⟩
  simp only [dlI, dlS, Int.toNat_natCast]
  refine del_loop (f := (allB)) (B := roundC (bodyF tab (envOf (P := Try.prog) [] [] []) 20 12 80 0 (loopOf (codeOf Try.f80) 0)) dlw_lp) (tm := fun a_ b_ s_ => dlw_tm x_nl x a_ b_ s_nl s_) (fin := fun a_ s_ => (.exit 0, dlw_x0 x_nl x a_ 0 s_nl s_)) ?_ ?_ ?_ (fun _ _ => by simp) (s.length - b_) a_ b_ s (by omega) (by omega) h3_
  · intro a_ b_ s hab_ hb_ hl_ hf_
    have d1_ : decide ((b_ : Int) < (s.length : Int)) = true := decide_eq_true (by omega)
    have d2_ : decide ((0 : Int) ≤ (b_ : Int)) = true := decide_eq_true (by omega)
    have d3_ : decide ((0 : Int) ≤ (a_ : Int)) = true := decide_eq_true (by omega)
    have d4_ : decide ((a_ : Int) < (s.length : Int)) = true := decide_eq_true (by omega)
    exact absurd hf_ (by simp [allB])
  · intro a_ b_ s hab_ hb_ hl_ hf_
    have d1_ : decide ((b_ : Int) < (s.length : Int)) = true := decide_eq_true (by omega)
    have d2_ : decide ((0 : Int) ≤ (b_ : Int)) = true := decide_eq_true (by omega)
    unfold allB at hf_
    simp only [dlw_round, Tree.run_ret', Tree.run_need', Tree.run_ite', Int.toNat_natCast, d1_, d2_, hf_, Bool.and_self, Bool.not_true, cond_self', cond_true, cond_false, wrap64 (n := (b_ : Int) + 1) (by omega) (by omega)]
    rfl
  · intro a_ b_ s hb_
    have d1_ : decide ((b_ : Int) < (s.length : Int)) = false := by simp; omega
    simp only [dlw_round, Tree.run_ret', Tree.run_ite', d1_, cond_false]
    rfl
noncomputable def dlw_run (x_nl : Bool) (x : List D) (st : St) : Tree (Ex × St) := .need (chkSt st (dlw_tm x_nl x (iOf (slotV st 5)) (iOf (slotV st 6)) (nlOf (rowsV st 0)) (xsOf (rowsV st 0)))) (dlw_res x_nl x (iOf (slotV st 5)) (iOf (slotV st 6)) (nlOf (rowsV st 0)) (xsOf (rowsV st 0)))
noncomputable def dlw_lc (x_nl : Bool) (x : List D) : LC Try.prog := LC.of (T := tab) follows (envOf_good _ _ _) 20 12 80 0 Try.f80 Try.func80 (codeOf Try.f80) (loopOf (codeOf Try.f80) 0) (by kernel_rfl) (by kernel_rfl) dlw_lp (dlw_run x_nl x)
  (inner_loops (c := codeOf Try.f80) Try.func80 (by kernel_rfl) (by kernel_rfl))
  (by
    intro st ex st' h
    obtain ⟨hc, h⟩ := Tree.run_need h
    have e := chk_iff.1 hc
    have := dlw_ok x_nl x _ _ _ _ ex st' h
    rw [← e] at this
    exact this)
theorem delw_tree (x_nl : Bool) (x : List D) : callG tab (envOf (P := Try.prog) [] [ixfw_ct] [(dlw_lc x_nl x)]) 20 12 80 [SV.own 0, SV.clo (.func 67) [] []] [some ⟨.rows (.agg [.int .i64, .int .i64, .int .i64, .int .i64, .int .i64, .int .i64, .int .u8, .int .u8, .int .u8, .int .u8, .int .u8, .int .u8, .list (.agg [.int .i64, .int .i64, .int .i64, .int .i64])]) x_nl x, 35, false⟩] =
    (Tree.need (shortB (List.length x)) (Tree.ite ((bif List.any x allB then (↑(List.findIdx allB x) : Int) else (-1 : Int)) == (-1 : Int)) (Tree.ret ((SV.own 0), [(Option.some (Blk.mk (Con.rows (Sh.agg [(Sh.int IntKind.i64), (Sh.int IntKind.i64), (Sh.int IntKind.i64), (Sh.int IntKind.i64), (Sh.int IntKind.i64), (Sh.int IntKind.i64), (Sh.int IntKind.u8), (Sh.int IntKind.u8), (Sh.int IntKind.u8), (Sh.int IntKind.u8), (Sh.int IntKind.u8), (Sh.int IntKind.u8), (Sh.list (Sh.agg [(Sh.int IntKind.i64), (Sh.int IntKind.i64), (Sh.int IntKind.i64), (Sh.int IntKind.i64)]))]) (x_nl) (x)) 35 (false)))])) (Tree.need (chkSt (dlw_tm x_nl x (bif List.any x allB then (↑(List.findIdx allB x) : Int) else (-1 : Int)) (IntKind.wrap IntKind.i64 ((bif List.any x allB then (↑(List.findIdx allB x) : Int) else (-1 : Int)) + (1 : Int))) x_nl x) (dlw_tm x_nl x (bif List.any x allB then (↑(List.findIdx allB x) : Int) else (-1 : Int)) (IntKind.wrap IntKind.i64 ((bif List.any x allB then (↑(List.findIdx allB x) : Int) else (-1 : Int)) + (1 : Int))) x_nl x)) (Tree.need (decide ((0 : Int) ≤ bif List.any x allB then (↑(List.findIdx allB x) : Int) else (-1 : Int)) && (decide ((bif List.any x allB then (↑(List.findIdx allB x) : Int) else (-1 : Int)) < IntKind.wrap IntKind.i64 ((bif List.any x allB then (↑(List.findIdx allB x) : Int) else (-1 : Int)) + (1 : Int))) && (decide (IntKind.wrap IntKind.i64 ((bif List.any x allB then (↑(List.findIdx allB x) : Int) else (-1 : Int)) + (1 : Int)) ≤ (↑(List.length x) : Int)) && fewB (List.length x)))) (Tree.need (decide ((0 : Int) ≤ dlI allB (bif List.any x allB then (↑(List.findIdx allB x) : Int) else (-1 : Int)) (IntKind.wrap IntKind.i64 ((bif List.any x allB then (↑(List.findIdx allB x) : Int) else (-1 : Int)) + (1 : Int))) x) && (decide (dlI allB (bif List.any x allB then (↑(List.findIdx allB x) : Int) else (-1 : Int)) (IntKind.wrap IntKind.i64 ((bif List.any x allB then (↑(List.findIdx allB x) : Int) else (-1 : Int)) + (1 : Int))) x ≤ (↑(List.length (dlS allB (bif List.any x allB then (↑(List.findIdx allB x) : Int) else (-1 : Int)) (IntKind.wrap IntKind.i64 ((bif List.any x allB then (↑(List.findIdx allB x) : Int) else (-1 : Int)) + (1 : Int))) x)) : Int)) && decide ((↑(List.length (dlS allB (bif List.any x allB then (↑(List.findIdx allB x) : Int) else (-1 : Int)) (IntKind.wrap IntKind.i64 ((bif List.any x allB then (↑(List.findIdx allB x) : Int) else (-1 : Int)) + (1 : Int))) x)) : Int) ≤ (↑(List.length (dlS allB (bif List.any x allB then (↑(List.findIdx allB x) : Int) else (-1 : Int)) (IntKind.wrap IntKind.i64 ((bif List.any x allB then (↑(List.findIdx allB x) : Int) else (-1 : Int)) + (1 : Int))) x)) : Int)))) (Tree.need (decide ((0 : Int) ≤ (0 : Int)) && (decide ((0 : Int) ≤ dlI allB (bif List.any x allB then (↑(List.findIdx allB x) : Int) else (-1 : Int)) (IntKind.wrap IntKind.i64 ((bif List.any x allB then (↑(List.findIdx allB x) : Int) else (-1 : Int)) + (1 : Int))) x) && decide (dlI allB (bif List.any x allB then (↑(List.findIdx allB x) : Int) else (-1 : Int)) (IntKind.wrap IntKind.i64 ((bif List.any x allB then (↑(List.findIdx allB x) : Int) else (-1 : Int)) + (1 : Int))) x ≤ (↑(List.length (List.take (Int.toNat (dlI allB (bif List.any x allB then (↑(List.findIdx allB x) : Int) else (-1 : Int)) (IntKind.wrap IntKind.i64 ((bif List.any x allB then (↑(List.findIdx allB x) : Int) else (-1 : Int)) + (1 : Int))) x)) (dlS allB (bif List.any x allB then (↑(List.findIdx allB x) : Int) else (-1 : Int)) (IntKind.wrap IntKind.i64 ((bif List.any x allB then (↑(List.findIdx allB x) : Int) else (-1 : Int)) + (1 : Int))) x) ++ List.replicate (Int.toNat (↑(List.length (dlS allB (bif List.any x allB then (↑(List.findIdx allB x) : Int) else (-1 : Int)) (IntKind.wrap IntKind.i64 ((bif List.any x allB then (↑(List.findIdx allB x) : Int) else (-1 : Int)) + (1 : Int))) x)) : Int) - Int.toNat (dlI allB (bif List.any x allB then (↑(List.findIdx allB x) : Int) else (-1 : Int)) (IntKind.wrap IntKind.i64 ((bif List.any x allB then (↑(List.findIdx allB x) : Int) else (-1 : Int)) + (1 : Int))) x)) (D.a [D.i (0 : Int), D.i (0 : Int), D.i (0 : Int), D.i (0 : Int), D.i (0 : Int), D.i (0 : Int), D.i (0 : Int), D.i (0 : Int), D.i (0 : Int), D.i (0 : Int), D.i (0 : Int), D.i (0 : Int), D.l true []]) ++ List.drop (Int.toNat (↑(List.length (dlS allB (bif List.any x allB then (↑(List.findIdx allB x) : Int) else (-1 : Int)) (IntKind.wrap IntKind.i64 ((bif List.any x allB then (↑(List.findIdx allB x) : Int) else (-1 : Int)) + (1 : Int))) x)) : Int)) (dlS allB (bif List.any x allB then (↑(List.findIdx allB x) : Int) else (-1 : Int)) (IntKind.wrap IntKind.i64 ((bif List.any x allB then (↑(List.findIdx allB x) : Int) else (-1 : Int)) + (1 : Int))) x))) : Int)))) (Tree.ret ((SV.osl 0 13 0 (Int.toNat (dlI allB (bif List.any x allB then (↑(List.findIdx allB x) : Int) else (-1 : Int)) (IntKind.wrap IntKind.i64 ((bif List.any x allB then (↑(List.findIdx allB x) : Int) else (-1 : Int)) + (1 : Int))) x))), [(Option.some (Blk.mk (Con.rows (Sh.agg [(Sh.int IntKind.i64), (Sh.int IntKind.i64), (Sh.int IntKind.i64), (Sh.int IntKind.i64), (Sh.int IntKind.i64), (Sh.int IntKind.i64), (Sh.int IntKind.u8), (Sh.int IntKind.u8), (Sh.int IntKind.u8), (Sh.int IntKind.u8), (Sh.int IntKind.u8), (Sh.int IntKind.u8), (Sh.list (Sh.agg [(Sh.int IntKind.i64), (Sh.int IntKind.i64), (Sh.int IntKind.i64), (Sh.int IntKind.i64)]))]) (x_nl) (List.take (Int.toNat (dlI allB (bif List.any x allB then (↑(List.findIdx allB x) : Int) else (-1 : Int)) (IntKind.wrap IntKind.i64 ((bif List.any x allB then (↑(List.findIdx allB x) : Int) else (-1 : Int)) + (1 : Int))) x)) (dlS allB (bif List.any x allB then (↑(List.findIdx allB x) : Int) else (-1 : Int)) (IntKind.wrap IntKind.i64 ((bif List.any x allB then (↑(List.findIdx allB x) : Int) else (-1 : Int)) + (1 : Int))) x) ++ List.replicate (Int.toNat (↑(List.length (dlS allB (bif List.any x allB then (↑(List.findIdx allB x) : Int) else (-1 : Int)) (IntKind.wrap IntKind.i64 ((bif List.any x allB then (↑(List.findIdx allB x) : Int) else (-1 : Int)) + (1 : Int))) x)) : Int) - Int.toNat (dlI allB (bif List.any x allB then (↑(List.findIdx allB x) : Int) else (-1 : Int)) (IntKind.wrap IntKind.i64 ((bif List.any x allB then (↑(List.findIdx allB x) : Int) else (-1 : Int)) + (1 : Int))) x)) (D.a [D.i (0 : Int), D.i (0 : Int), D.i (0 : Int), D.i (0 : Int), D.i (0 : Int), D.i (0 : Int), D.i (0 : Int), D.i (0 : Int), D.i (0 : Int), D.i (0 : Int), D.i (0 : Int), D.i (0 : Int), D.l true []]) ++ List.drop (Int.toNat (↑(List.length (dlS allB (bif List.any x allB then (↑(List.findIdx allB x) : Int) else (-1 : Int)) (IntKind.wrap IntKind.i64 ((bif List.any x allB then (↑(List.findIdx allB x) : Int) else (-1 : Int)) + (1 : Int))) x)) : Int)) (dlS allB (bif List.any x allB then (↑(List.findIdx allB x) : Int) else (-1 : Int)) (IntKind.wrap IntKind.i64 ((bif List.any x allB then (↑(List.findIdx allB x) : Int) else (-1 : Int)) + (1 : Int))) x))) 35 (false)))])))))))) := by kernel_rfl
theorem delw_run (x_nl : Bool) (x : List D) {r : SV} {H' : Hp} (h : (.need (fewB x.length) (.ite (x.any (allB)) (.ret (.osl 0 13 0 (delN (allB) x), [some ⟨.rows (.agg [.int .i64, .int .i64, .int .i64, .int .i64, .int .i64, .int .i64, .int .u8, .int .u8, .int .u8, .int .u8, .int .u8, .int .u8, .list (.agg [.int .i64, .int .i64, .int .i64, .int .i64])]) x_nl (clrS (allB) x) , 35, false⟩])) (.ret (.own 0, [some ⟨.rows (.agg [.int .i64, .int .i64, .int .i64, .int .i64, .int .i64, .int .i64, .int .u8, .int .u8, .int .u8, .int .u8, .int .u8, .int .u8, .list (.agg [.int .i64, .int .i64, .int .i64, .int .i64])]) x_nl (x) , 35, false⟩]))) : Tree (SV × Hp)).run = some (r, H')) : (callG tab (envOf (P := Try.prog) [] [ixfw_ct] [(dlw_lc x_nl x)]) 20 12 80 [SV.own 0, SV.clo (.func 67) [] []] [some ⟨.rows (.agg [.int .i64, .int .i64, .int .i64, .int .i64, .int .i64, .int .i64, .int .u8, .int .u8, .int .u8, .int .u8, .int .u8, .int .u8, .list (.agg [.int .i64, .int .i64, .int .i64, .int .i64])]) x_nl x, 35, false⟩]).run = some (r, H') := by
  rw [delw_tree]
  obtain ⟨hp_, h_⟩ := Tree.run_need h
  have hp0_ := hp_
  simp only [fewB, decide_eq_true_eq] at hp_
  rw [← h_]
  have s1_ : shortB x.length = true := by simp [shortB]; omega
  simp only [Tree.run_ret', Tree.run_need', Tree.run_ite', s1_, cond_true]
  cases ha_ : x.any (allB) with
  | false => rfl
  | true =>
    have hi_ := any_idx ha_
    obtain ⟨g1_, g2_, _⟩ := del_spec ha_
    simp only [cond_true]
    have q1_ : ((x.findIdx (allB) : Int) == -1) = false := beq_eq_false_iff_ne.2 (by omega)
    have q2_ : IntKind.wrap .i64 ((x.findIdx (allB) : Int) + 1) = ((x.findIdx (allB) + 1 : Nat) : Int) := by rw [wrap64 (by omega) (by omega)]; rfl
    have q3_ : dlI (allB) ((x.findIdx (allB) : Nat) : Int) ((x.findIdx (allB) + 1 : Nat) : Int) x = ((delN (allB) x : Nat) : Int) := by simp only [dlI, delN, Int.toNat_natCast]
    have q4_ : dlS (allB) ((x.findIdx (allB) : Nat) : Int) ((x.findIdx (allB) + 1 : Nat) : Int) x = delS (allB) x := by simp only [dlS, delS, Int.toNat_natCast]
    have d1_ : decide ((0 : Int) ≤ ((x.findIdx (allB) : Nat) : Int)) = true := decide_eq_true (by omega)
    have d2_ : decide (((x.findIdx (allB) : Nat) : Int) < ((x.findIdx (allB) + 1 : Nat) : Int)) = true := decide_eq_true (by omega)
    have d3_ : decide (((x.findIdx (allB) + 1 : Nat) : Int) ≤ (x.length : Int)) = true := decide_eq_true (by omega)
    have d4_ : decide ((0 : Int) ≤ ((delN (allB) x : Nat) : Int)) = true := decide_eq_true (by omega)
    have d5_ : decide (((delN (allB) x : Nat) : Int) ≤ ((delS (allB) x).length : Int)) = true := by rw [g1_]; simp; omega
    simp only [q1_, q2_, q3_, q4_, d1_, d2_, d3_, d4_, d5_, hp0_, chk_self, Tree.run_ret', Tree.run_need', Tree.run_ite', cond_true, cond_false, Bool.and_self, decide_true, Int.toNat_natCast, Int.le_refl]
    have e6_ : (clrS (allB) x).length = x.length := by
      unfold clrS
      simp only [List.length_append, List.length_take, List.length_replicate, List.length_drop, g1_]
      omega
    have d6_ : decide (((delN (allB) x : Nat) : Int) ≤ ((clrS (allB) x).length : Int)) = true := by rw [e6_]; simp; omega
    change (bif true && (true && decide (((delN (allB) x : Nat) : Int) ≤ ((clrS (allB) x).length : Int))) then _ else _) = _
    rw [d6_]
    rfl
def delw_tr : List D → Option (Tree (SV × Hp))
  | [.l x_nl x] => some (.need (fewB x.length) (.ite (x.any (allB)) (.ret (.osl 0 13 0 (delN (allB) x), [some ⟨.rows (.agg [.int .i64, .int .i64, .int .i64, .int .i64, .int .i64, .int .i64, .int .u8, .int .u8, .int .u8, .int .u8, .int .u8, .int .u8, .list (.agg [.int .i64, .int .i64, .int .i64, .int .i64])]) x_nl (clrS (allB) x) , 35, false⟩])) (.ret (.own 0, [some ⟨.rows (.agg [.int .i64, .int .i64, .int .i64, .int .i64, .int .i64, .int .i64, .int .u8, .int .u8, .int .u8, .int .u8, .int .u8, .int .u8, .list (.agg [.int .i64, .int .i64, .int .i64, .int .i64])]) x_nl (x) , 35, false⟩]))))
  | _ => none
noncomputable def delw_ct : Ct Try.prog := Ct.runF (T := tab) follows 20 12 80 [.own 35 (.agg [.int .i64, .int .i64, .int .i64, .int .i64, .int .i64, .int .i64, .int .u8, .int .u8, .int .u8, .int .u8, .int .u8, .int .u8, .list (.agg [.int .i64, .int .i64, .int .i64, .int .i64])]), .fn 67 [] []] delw_tr (by
  intro ds t r H' ht hr
  unfold delw_tr at ht
  split at ht
  · rename_i x_nl x
    simp only [Option.some.injEq] at ht
    subst ht
    exact ⟨_, _, _, envOf_good _ _ _, delw_run x_nl x hr, rfl, rfl⟩
  · cases ht) (enters_of (c := codeOf Try.f80) Try.func80 (by kernel_rfl) (by kernel_rfl))
end Go.Proofs.Ytgodelllnilcfaa
