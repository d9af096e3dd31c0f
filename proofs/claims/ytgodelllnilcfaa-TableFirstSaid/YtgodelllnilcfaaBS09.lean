/-
  Functions of the program, by their runs.
  No statement of the seat is proved here. Conditions: none.
-/
import Derived.Test.YtgodelllnilcfaaY25
import Derived.Test.YtgodelllnilcfaaTab09
import Derived.Test.YtgodelllnilcfaaM09
set_option linter.unusedSimpArgs false
set_option linter.unusedVariables false
set_option maxRecDepth 100000
namespace Go.Proofs.Ytgodelllnilcfaa
open Go.Sy Go.RowKit
/-- A rule's numbers, out of data. -/
def rkD (d : D) : Rk := ⟨(d.at 0).int, (d.at 1).int, (d.at 2).int, (d.at 3).int, (d.at 4).int, (d.at 5).int, (d.at 6).int, (d.at 7).int, (d.at 8).int, (d.at 9).int, (d.at 10).int, (d.at 11).int⟩
/-- Does the rule of a place stand ahead? -/
def ltD (x : List D) (r : Rk) (m : Nat) : Bool := decide (lexC (keyOf (rkD (x.getD m default))) (keyOf r) < 0)
def bsW (lt : Nat → Bool) : Nat → Nat → Nat → Nat
  | 0, i, _ => i
  | f + 1, i, j => match Nat.blt i j with
    | true => match lt ((i + j) / 2) with
      | true => bsW lt f ((i + j) / 2 + 1) j
      | false => bsW lt f i ((i + j) / 2)
    | false => i
def shortB (n : Nat) : Bool := decide (n ≤ 4611686018427387903)
theorem mid_eq {i j : Nat} (h : i + j ≤ 9223372036854775807) : IntKind.wrap .i64 (Int.fdiv (IntKind.wrap .u64 (IntKind.wrap .i64 ((i : Int) + (j : Int)))) 2) = (((i + j) / 2 : Nat) : Int) := by
  have h1 : IntKind.i64.wrap ((i : Int) + (j : Int)) = (i : Int) + (j : Int) := wrap64 (by omega) (by omega)
  have h2 : IntKind.u64.wrap ((i : Int) + (j : Int)) = (i : Int) + (j : Int) := by
    simp [IntKind.wrap, IntKind.bits, IntKind.signed]; omega
  rw [h1, h2, Int.fdiv_eq_ediv_of_nonneg _ (by omega), wrap64 (by omega) (by omega)]
  omega
theorem bin_loop {B : St → Tree (Ex × St)} {tm : Int → Int → St} {fin : Int → Ex × St} {lt : Nat → Bool} {n : Nat}
    (step : ∀ i j : Nat, i < j → j ≤ n → (B (tm i j)).run = some (.normal, bif lt ((i + j) / 2) then tm (((i + j) / 2 + 1 : Nat) : Int) j else tm i (((i + j) / 2 : Nat) : Int)))
    (stop : ∀ i j : Nat, ¬ i < j → j ≤ n → (B (tm i j)).run = some (fin i)) (hn : ∀ i, (fin i).1 ≠ .normal) :
    ∀ (f i j : Nat), j - i ≤ f → j ≤ n → ∃ m, iterC B m (tm i j) = some (fin (bsW lt f i j : Nat))
  | 0, i, j, h, hj => iterC_stop (ex := (fin i).1) (st' := (fin i).2) (stop i j (by omega) hj) (hn i)
  | f + 1, i, j, h, hj => by
    unfold bsW
    cases hb : Nat.blt i j with
    | false =>
      have := nltf.1 hb
      exact iterC_stop (ex := (fin i).1) (st' := (fin i).2) (stop i j this hj) (hn i)
    | true =>
      have hlt := nlt.1 hb
      have hs := step i j hlt hj
      cases hl : lt ((i + j) / 2) with
      | true =>
        rw [hl] at hs
        exact iterC_step hs (bin_loop step stop hn f _ j (by omega) hj)
      | false =>
        rw [hl] at hs
        exact iterC_step hs (bin_loop step stop hn f i _ (by omega) (by omega))
noncomputable def bs0_tm (x_nl : Bool) (x : List D) (rk rpr rto rpo rv rp rb0 rb1 rb2 ri0 ri1 ri2 : Int) (ro_nl : Bool) (ro : List D) (i j : Int) : St :=
  ⟨(Tm.at 49 [(0, (Slot.is (SV.lst (Sh.agg [(Sh.int IntKind.i64), (Sh.int IntKind.i64), (Sh.int IntKind.i64), (Sh.int IntKind.i64), (Sh.int IntKind.i64), (Sh.int IntKind.i64), (Sh.int IntKind.u8), (Sh.int IntKind.u8), (Sh.int IntKind.u8), (Sh.int IntKind.u8), (Sh.int IntKind.u8), (Sh.int IntKind.u8), (Sh.list (Sh.agg [(Sh.int IntKind.i64), (Sh.int IntKind.i64), (Sh.int IntKind.i64), (Sh.int IntKind.i64)]))]) (x_nl) (x)))), (2, (Slot.is (SV.clo (Fn.func 11) [] []))), (4, (Slot.is (SV.ref 0 0))), (8, (Slot.is (SV.si IntKind.i64 ((↑(List.length x) : Int))))), (9, (Slot.is (SV.si IntKind.i64 (i)))), (10, (Slot.is (SV.si IntKind.i64 (j))))]), [(Option.some (Blk.mk (Con.cells [(SV.si IntKind.i64 (rk)), (SV.si IntKind.i64 (rpr)), (SV.si IntKind.i64 (rto)), (SV.si IntKind.i64 (rpo)), (SV.si IntKind.i64 (rv)), (SV.si IntKind.i64 (rp)), (SV.si IntKind.u8 (rb0)), (SV.si IntKind.u8 (rb1)), (SV.si IntKind.u8 (rb2)), (SV.si IntKind.u8 (ri0)), (SV.si IntKind.u8 (ri1)), (SV.si IntKind.u8 (ri2)), (SV.lst (Sh.agg [(Sh.int IntKind.i64), (Sh.int IntKind.i64), (Sh.int IntKind.i64), (Sh.int IntKind.i64)]) (ro_nl) (ro))]) 35 (false)))]⟩
def bs0_lp : LP := { base := 1, mv := [], mask := 1813, maskX := 789, nm := 1536, nb := [], kl := [], klX := [], ow := [] }
noncomputable def bs0_x0 (x_nl : Bool) (x : List D) (rk rpr rto rpo rv rp rb0 rb1 rb2 ri0 ri1 ri2 : Int) (ro_nl : Bool) (ro : List D) (i j : Int) : St :=
  ⟨(Tm.at 49 [(0, (Slot.is (SV.lst (Sh.agg [(Sh.int IntKind.i64), (Sh.int IntKind.i64), (Sh.int IntKind.i64), (Sh.int IntKind.i64), (Sh.int IntKind.i64), (Sh.int IntKind.i64), (Sh.int IntKind.u8), (Sh.int IntKind.u8), (Sh.int IntKind.u8), (Sh.int IntKind.u8), (Sh.int IntKind.u8), (Sh.int IntKind.u8), (Sh.list (Sh.agg [(Sh.int IntKind.i64), (Sh.int IntKind.i64), (Sh.int IntKind.i64), (Sh.int IntKind.i64)]))]) (x_nl) (x)))), (2, (Slot.is (SV.clo (Fn.func 11) [] []))), (4, (Slot.is (SV.ref 0 0))), (8, (Slot.is (SV.si IntKind.i64 ((↑(List.length x) : Int))))), (9, (Slot.is (SV.si IntKind.i64 (i))))]), [(Option.some (Blk.mk (Con.cells [(SV.si IntKind.i64 (rk)), (SV.si IntKind.i64 (rpr)), (SV.si IntKind.i64 (rto)), (SV.si IntKind.i64 (rpo)), (SV.si IntKind.i64 (rv)), (SV.si IntKind.i64 (rp)), (SV.si IntKind.u8 (rb0)), (SV.si IntKind.u8 (rb1)), (SV.si IntKind.u8 (rb2)), (SV.si IntKind.u8 (ri0)), (SV.si IntKind.u8 (ri1)), (SV.si IntKind.u8 (ri2)), (SV.lst (Sh.agg [(Sh.int IntKind.i64), (Sh.int IntKind.i64), (Sh.int IntKind.i64), (Sh.int IntKind.i64)]) (ro_nl) (ro))]) 35 (false)))]⟩
theorem bs0_round (x_nl : Bool) (x : List D) (rk rpr rto rpo rv rp rb0 rb1 rb2 ri0 ri1 ri2 : Int) (ro_nl : Bool) (ro : List D) (i j : Int) : roundC (bodyF tab (envOf (P := Try.prog) [cmpr_pc] [] []) 20 12 72 0 (loopOf (codeOf Try.f72) 0)) bs0_lp (bs0_tm x_nl x rk rpr rto rpo rv rp rb0 rb1 rb2 ri0 ri1 ri2 ro_nl ro i j) =
    (Tree.ite (decide (i < j)) (Tree.need (decide ((0 : Int) ≤ IntKind.wrap IntKind.i64 (Int.fdiv (IntKind.wrap IntKind.u64 (IntKind.wrap IntKind.i64 (i + j))) (2 : Int))) && decide (IntKind.wrap IntKind.i64 (Int.fdiv (IntKind.wrap IntKind.u64 (IntKind.wrap IntKind.i64 (i + j))) (2 : Int)) < (↑(List.length x) : Int))) (Tree.need (true) (Tree.ite (decide (lexC (keyOf { k := D.int (D.at (List.getD x (Int.toNat (IntKind.wrap IntKind.i64 (Int.fdiv (IntKind.wrap IntKind.u64 (IntKind.wrap IntKind.i64 (i + j))) (2 : Int)))) default) (0 : Nat)), pr := D.int (D.at (List.getD x (Int.toNat (IntKind.wrap IntKind.i64 (Int.fdiv (IntKind.wrap IntKind.u64 (IntKind.wrap IntKind.i64 (i + j))) (2 : Int)))) default) (1 : Nat)), to := D.int (D.at (List.getD x (Int.toNat (IntKind.wrap IntKind.i64 (Int.fdiv (IntKind.wrap IntKind.u64 (IntKind.wrap IntKind.i64 (i + j))) (2 : Int)))) default) (2 : Nat)), po := D.int (D.at (List.getD x (Int.toNat (IntKind.wrap IntKind.i64 (Int.fdiv (IntKind.wrap IntKind.u64 (IntKind.wrap IntKind.i64 (i + j))) (2 : Int)))) default) (3 : Nat)), v := D.int (D.at (List.getD x (Int.toNat (IntKind.wrap IntKind.i64 (Int.fdiv (IntKind.wrap IntKind.u64 (IntKind.wrap IntKind.i64 (i + j))) (2 : Int)))) default) (4 : Nat)), p := D.int (D.at (List.getD x (Int.toNat (IntKind.wrap IntKind.i64 (Int.fdiv (IntKind.wrap IntKind.u64 (IntKind.wrap IntKind.i64 (i + j))) (2 : Int)))) default) (5 : Nat)), b0 := D.int (D.at (List.getD x (Int.toNat (IntKind.wrap IntKind.i64 (Int.fdiv (IntKind.wrap IntKind.u64 (IntKind.wrap IntKind.i64 (i + j))) (2 : Int)))) default) (6 : Nat)), b1 := D.int (D.at (List.getD x (Int.toNat (IntKind.wrap IntKind.i64 (Int.fdiv (IntKind.wrap IntKind.u64 (IntKind.wrap IntKind.i64 (i + j))) (2 : Int)))) default) (7 : Nat)), b2 := D.int (D.at (List.getD x (Int.toNat (IntKind.wrap IntKind.i64 (Int.fdiv (IntKind.wrap IntKind.u64 (IntKind.wrap IntKind.i64 (i + j))) (2 : Int)))) default) (8 : Nat)), i0 := D.int (D.at (List.getD x (Int.toNat (IntKind.wrap IntKind.i64 (Int.fdiv (IntKind.wrap IntKind.u64 (IntKind.wrap IntKind.i64 (i + j))) (2 : Int)))) default) (9 : Nat)), i1 := D.int (D.at (List.getD x (Int.toNat (IntKind.wrap IntKind.i64 (Int.fdiv (IntKind.wrap IntKind.u64 (IntKind.wrap IntKind.i64 (i + j))) (2 : Int)))) default) (10 : Nat)), i2 := D.int (D.at (List.getD x (Int.toNat (IntKind.wrap IntKind.i64 (Int.fdiv (IntKind.wrap IntKind.u64 (IntKind.wrap IntKind.i64 (i + j))) (2 : Int)))) default) (11 : Nat)) }) (keyOf { k := rk, pr := rpr, to := rto, po := rpo, v := rv, p := rp, b0 := rb0, b1 := rb1, b2 := rb2, i0 := ri0, i1 := ri1, i2 := ri2 }) < (0 : Int))) (Tree.ret (Ex.normal, (bs0_tm (x_nl) (x) (rk) (rpr) (rto) (rpo) (rv) (rp) (rb0) (rb1) (rb2) (ri0) (ri1) (ri2) (ro_nl) (ro) (IntKind.wrap IntKind.i64 (IntKind.wrap IntKind.i64 (Int.fdiv (IntKind.wrap IntKind.u64 (IntKind.wrap IntKind.i64 (i + j))) (2 : Int)) + (1 : Int))) (j)))) (Tree.ret (Ex.normal, (bs0_tm (x_nl) (x) (rk) (rpr) (rto) (rpo) (rv) (rp) (rb0) (rb1) (rb2) (ri0) (ri1) (ri2) (ro_nl) (ro) (i) (IntKind.wrap IntKind.i64 (Int.fdiv (IntKind.wrap IntKind.u64 (IntKind.wrap IntKind.i64 (i + j))) (2 : Int))))))))) (Tree.ret ((Ex.exit 0), (bs0_x0 (x_nl) (x) (rk) (rpr) (rto) (rpo) (rv) (rp) (rb0) (rb1) (rb2) (ri0) (ri1) (ri2) (ro_nl) (ro) (i) (j))))) := by kernel_rfl
noncomputable def bs0_res (x_nl : Bool) (x : List D) (rk rpr rto rpo rv rp rb0 rb1 rb2 ri0 ri1 ri2 : Int) (ro_nl : Bool) (ro : List D) (i j : Int) : Tree (Ex × St) := .need (decide (i = 0) && (decide (j = (x.length : Nat)) && shortB x.length)) (.ret (.exit 0, bs0_x0 x_nl x rk rpr rto rpo rv rp rb0 rb1 rb2 ri0 ri1 ri2 ro_nl ro (bsW (ltD x (⟨rk, rpr, rto, rpo, rv, rp, rb0, rb1, rb2, ri0, ri1, ri2⟩ : Rk)) x.length 0 x.length : Nat) 0))
theorem bs0_ok (x_nl : Bool) (x : List D) (rk rpr rto rpo rv rp rb0 rb1 rb2 ri0 ri1 ri2 : Int) (ro_nl : Bool) (ro : List D) (i j : Int) (ex : Ex) (st' : St) (hrun_ : (bs0_res x_nl x rk rpr rto rpo rv rp rb0 rb1 rb2 ri0 ri1 ri2 ro_nl ro i j).run = some (ex, st')) : ∃ n, iterC (roundC (bodyF tab (envOf (P := Try.prog) [cmpr_pc] [] []) 20 12 72 0 (loopOf (codeOf Try.f72) 0)) bs0_lp) n (bs0_tm x_nl x rk rpr rto rpo rv rp rb0 rb1 rb2 ri0 ri1 ri2 ro_nl ro i j) = some (ex, st') := by
  obtain ⟨hp_, h_⟩ := Tree.run_need hrun_
  simp only [shortB, Bool.and_eq_true, decide_eq_true_eq] at hp_
  obtain ⟨e1_, e2_, hl_⟩ := hp_
  simp only [Tree.run, Option.some.injEq, Prod.mk.injEq] at h_
  obtain ⟨rfl, rfl⟩ := h_
  subst e1_
  subst e2_
  refine bin_loop (B := roundC (bodyF tab (envOf (P := Try.prog) [cmpr_pc] [] []) 20 12 72 0 (loopOf (codeOf Try.f72) 0)) bs0_lp) (tm := fun a_ b_ => bs0_tm x_nl x rk rpr rto rpo rv rp rb0 rb1 rb2 ri0 ri1 ri2 ro_nl ro a_ b_) (fin := fun a_ => (.exit 0, bs0_x0 x_nl x rk rpr rto rpo rv rp rb0 rb1 rb2 ri0 ri1 ri2 ro_nl ro a_ 0)) (lt := ltD x (⟨rk, rpr, rto, rpo, rv, rp, rb0, rb1, rb2, ri0, ri1, ri2⟩ : Rk)) (n := x.length) ?_ ?_ (fun _ => by simp) x.length 0 x.length (by omega) (Nat.le_refl _)
  · intro a_ b_ hab_ hb_
    have d1_ : decide ((a_ : Int) < (b_ : Int)) = true := by simp; omega
    have d2_ : decide ((0 : Int) ≤ (((a_ + b_) / 2 : Nat) : Int)) = true := by simp; omega
    have d3_ : decide ((((a_ + b_) / 2 : Nat) : Int) < (x.length : Int)) = true := by simp; omega
    simp only [bs0_round, mid_eq (i := a_) (j := b_) (by omega), Tree.run_ret', Tree.run_need', Tree.run_ite', d1_, d2_, d3_, Bool.and_self, cond_true, Int.toNat_natCast, wrap64 (n := (((a_ + b_) / 2 : Nat) : Int) + 1) (by omega) (by omega)]
    have e_ : ltD x (⟨rk, rpr, rto, rpo, rv, rp, rb0, rb1, rb2, ri0, ri1, ri2⟩ : Rk) ((a_ + b_) / 2) = decide (lexC (keyOf (rkD (x.getD ((a_ + b_) / 2) default))) (keyOf (⟨rk, rpr, rto, rpo, rv, rp, rb0, rb1, rb2, ri0, ri1, ri2⟩ : Rk)) < 0) := rfl
    rw [e_]
    by_cases hq_ : lexC (keyOf (rkD (x.getD ((a_ + b_) / 2) default))) (keyOf (⟨rk, rpr, rto, rpo, rv, rp, rb0, rb1, rb2, ri0, ri1, ri2⟩ : Rk)) < 0
    · simp only [rkD] at hq_ ⊢
      simp only [hq_, decide_true, cond_true]
      rfl
    · simp only [rkD] at hq_ ⊢
      simp only [hq_, decide_false, cond_false]
  · intro a_ b_ hab_ hb_
    have d1_ : decide ((a_ : Int) < (b_ : Int)) = false := by simp; omega
    simp only [bs0_round, Tree.run_ret', Tree.run_ite', d1_, cond_false]
    rfl
noncomputable def bs0_run (x_nl : Bool) (x : List D) (rk rpr rto rpo rv rp rb0 rb1 rb2 ri0 ri1 ri2 : Int) (ro_nl : Bool) (ro : List D) (st : St) : Tree (Ex × St) := .need (chkSt st (bs0_tm x_nl x rk rpr rto rpo rv rp rb0 rb1 rb2 ri0 ri1 ri2 ro_nl ro (iOf (slotV st 9)) (iOf (slotV st 10)))) (bs0_res x_nl x rk rpr rto rpo rv rp rb0 rb1 rb2 ri0 ri1 ri2 ro_nl ro (iOf (slotV st 9)) (iOf (slotV st 10)))
noncomputable def bs0_lc (x_nl : Bool) (x : List D) (rk rpr rto rpo rv rp rb0 rb1 rb2 ri0 ri1 ri2 : Int) (ro_nl : Bool) (ro : List D) : LC Try.prog := LC.of (T := tab) follows (envOf_good _ _ _) 20 12 72 0 Try.f72 Try.func72 (codeOf Try.f72) (loopOf (codeOf Try.f72) 0) (by kernel_rfl) (by kernel_rfl) bs0_lp (bs0_run x_nl x rk rpr rto rpo rv rp rb0 rb1 rb2 ri0 ri1 ri2 ro_nl ro)
  (inner_loops (c := codeOf Try.f72) Try.func72 (by kernel_rfl) (by kernel_rfl))
  (by
    intro st ex st' h
    obtain ⟨hc, h⟩ := Tree.run_need h
    have e := chk_iff.1 hc
    have := bs0_ok x_nl x rk rpr rto rpo rv rp rb0 rb1 rb2 ri0 ri1 ri2 ro_nl ro _ _ ex st' h
    rw [← e] at this
    exact this)
/-- The place of a rule; does it stand there? -/
def bsN (x : List D) (r : Rk) : Nat := bsW (ltD x r) x.length 0 x.length
def hitB (x : List D) (r : Rk) : Bool := bif decide (((bsN x r : Nat) : Int) < (x.length : Int)) then lexC (keyOf (rkD (x.getD (bsN x r) default))) (keyOf r) == 0 else false
theorem bs_tree (x_nl : Bool) (x : List D) (rk rpr rto rpo rv rp rb0 rb1 rb2 ri0 ri1 ri2 : Int) (ro_nl : Bool) (ro : List D) : callG tab (envOf (P := Try.prog) [cmpr_pc] [] [(bs0_lc x_nl x rk rpr rto rpo rv rp rb0 rb1 rb2 ri0 ri1 ri2 ro_nl ro)]) 20 12 72 [SV.lst (.agg [.int .i64, .int .i64, .int .i64, .int .i64, .int .i64, .int .i64, .int .u8, .int .u8, .int .u8, .int .u8, .int .u8, .int .u8, .list (.agg [.int .i64, .int .i64, .int .i64, .int .i64])]) x_nl x, SV.agg [SV.si IntKind.i64 rk, SV.si IntKind.i64 rpr, SV.si IntKind.i64 rto, SV.si IntKind.i64 rpo, SV.si IntKind.i64 rv, SV.si IntKind.i64 rp, SV.si IntKind.u8 rb0, SV.si IntKind.u8 rb1, SV.si IntKind.u8 rb2, SV.si IntKind.u8 ri0, SV.si IntKind.u8 ri1, SV.si IntKind.u8 ri2, SV.lst (.agg [.int .i64, .int .i64, .int .i64, .int .i64]) ro_nl ro], SV.clo (.func 11) [] []] [] =
    (Tree.need (chkSt (bs0_tm x_nl x rk rpr rto rpo rv rp rb0 rb1 rb2 ri0 ri1 ri2 ro_nl ro (0 : Int) (↑(List.length x) : Int)) (bs0_tm x_nl x rk rpr rto rpo rv rp rb0 rb1 rb2 ri0 ri1 ri2 ro_nl ro (0 : Int) (↑(List.length x) : Int))) (Tree.need (decide ((0 : Int) = (0 : Int)) && (decide ((↑(List.length x) : Int) = (↑(List.length x) : Int)) && shortB (List.length x))) (Tree.ite (decide ((↑(bsW (ltD x { k := rk, pr := rpr, to := rto, po := rpo, v := rv, p := rp, b0 := rb0, b1 := rb1, b2 := rb2, i0 := ri0, i1 := ri1, i2 := ri2 }) (List.length x) (0 : Nat) (List.length x)) : Int) < (↑(List.length x) : Int))) (Tree.need (decide ((0 : Int) ≤ (↑(bsW (ltD x { k := rk, pr := rpr, to := rto, po := rpo, v := rv, p := rp, b0 := rb0, b1 := rb1, b2 := rb2, i0 := ri0, i1 := ri1, i2 := ri2 }) (List.length x) (0 : Nat) (List.length x)) : Int)) && decide ((↑(bsW (ltD x { k := rk, pr := rpr, to := rto, po := rpo, v := rv, p := rp, b0 := rb0, b1 := rb1, b2 := rb2, i0 := ri0, i1 := ri1, i2 := ri2 }) (List.length x) (0 : Nat) (List.length x)) : Int) < (↑(List.length x) : Int))) (Tree.need (true) (Tree.ret ((SV.tup [(SV.si IntKind.i64 ((↑(bsW (ltD x { k := rk, pr := rpr, to := rto, po := rpo, v := rv, p := rp, b0 := rb0, b1 := rb1, b2 := rb2, i0 := ri0, i1 := ri1, i2 := ri2 }) (List.length x) (0 : Nat) (List.length x)) : Int))), (SV.sb (lexC (keyOf { k := D.int (D.at (List.getD x (Int.toNat (↑(bsW (ltD x { k := rk, pr := rpr, to := rto, po := rpo, v := rv, p := rp, b0 := rb0, b1 := rb1, b2 := rb2, i0 := ri0, i1 := ri1, i2 := ri2 }) (List.length x) (0 : Nat) (List.length x)) : Int)) default) (0 : Nat)), pr := D.int (D.at (List.getD x (Int.toNat (↑(bsW (ltD x { k := rk, pr := rpr, to := rto, po := rpo, v := rv, p := rp, b0 := rb0, b1 := rb1, b2 := rb2, i0 := ri0, i1 := ri1, i2 := ri2 }) (List.length x) (0 : Nat) (List.length x)) : Int)) default) (1 : Nat)), to := D.int (D.at (List.getD x (Int.toNat (↑(bsW (ltD x { k := rk, pr := rpr, to := rto, po := rpo, v := rv, p := rp, b0 := rb0, b1 := rb1, b2 := rb2, i0 := ri0, i1 := ri1, i2 := ri2 }) (List.length x) (0 : Nat) (List.length x)) : Int)) default) (2 : Nat)), po := D.int (D.at (List.getD x (Int.toNat (↑(bsW (ltD x { k := rk, pr := rpr, to := rto, po := rpo, v := rv, p := rp, b0 := rb0, b1 := rb1, b2 := rb2, i0 := ri0, i1 := ri1, i2 := ri2 }) (List.length x) (0 : Nat) (List.length x)) : Int)) default) (3 : Nat)), v := D.int (D.at (List.getD x (Int.toNat (↑(bsW (ltD x { k := rk, pr := rpr, to := rto, po := rpo, v := rv, p := rp, b0 := rb0, b1 := rb1, b2 := rb2, i0 := ri0, i1 := ri1, i2 := ri2 }) (List.length x) (0 : Nat) (List.length x)) : Int)) default) (4 : Nat)), p := D.int (D.at (List.getD x (Int.toNat (↑(bsW (ltD x { k := rk, pr := rpr, to := rto, po := rpo, v := rv, p := rp, b0 := rb0, b1 := rb1, b2 := rb2, i0 := ri0, i1 := ri1, i2 := ri2 }) (List.length x) (0 : Nat) (List.length x)) : Int)) default) (5 : Nat)), b0 := D.int (D.at (List.getD x (Int.toNat (↑(bsW (ltD x { k := rk, pr := rpr, to := rto, po := rpo, v := rv, p := rp, b0 := rb0, b1 := rb1, b2 := rb2, i0 := ri0, i1 := ri1, i2 := ri2 }) (List.length x) (0 : Nat) (List.length x)) : Int)) default) (6 : Nat)), b1 := D.int (D.at (List.getD x (Int.toNat (↑(bsW (ltD x { k := rk, pr := rpr, to := rto, po := rpo, v := rv, p := rp, b0 := rb0, b1 := rb1, b2 := rb2, i0 := ri0, i1 := ri1, i2 := ri2 }) (List.length x) (0 : Nat) (List.length x)) : Int)) default) (7 : Nat)), b2 := D.int (D.at (List.getD x (Int.toNat (↑(bsW (ltD x { k := rk, pr := rpr, to := rto, po := rpo, v := rv, p := rp, b0 := rb0, b1 := rb1, b2 := rb2, i0 := ri0, i1 := ri1, i2 := ri2 }) (List.length x) (0 : Nat) (List.length x)) : Int)) default) (8 : Nat)), i0 := D.int (D.at (List.getD x (Int.toNat (↑(bsW (ltD x { k := rk, pr := rpr, to := rto, po := rpo, v := rv, p := rp, b0 := rb0, b1 := rb1, b2 := rb2, i0 := ri0, i1 := ri1, i2 := ri2 }) (List.length x) (0 : Nat) (List.length x)) : Int)) default) (9 : Nat)), i1 := D.int (D.at (List.getD x (Int.toNat (↑(bsW (ltD x { k := rk, pr := rpr, to := rto, po := rpo, v := rv, p := rp, b0 := rb0, b1 := rb1, b2 := rb2, i0 := ri0, i1 := ri1, i2 := ri2 }) (List.length x) (0 : Nat) (List.length x)) : Int)) default) (10 : Nat)), i2 := D.int (D.at (List.getD x (Int.toNat (↑(bsW (ltD x { k := rk, pr := rpr, to := rto, po := rpo, v := rv, p := rp, b0 := rb0, b1 := rb1, b2 := rb2, i0 := ri0, i1 := ri1, i2 := ri2 }) (List.length x) (0 : Nat) (List.length x)) : Int)) default) (11 : Nat)) }) (keyOf { k := rk, pr := rpr, to := rto, po := rpo, v := rv, p := rp, b0 := rb0, b1 := rb1, b2 := rb2, i0 := ri0, i1 := ri1, i2 := ri2 }) == (0 : Int)))]), [])))) (Tree.ret ((SV.tup [(SV.si IntKind.i64 ((↑(bsW (ltD x { k := rk, pr := rpr, to := rto, po := rpo, v := rv, p := rp, b0 := rb0, b1 := rb1, b2 := rb2, i0 := ri0, i1 := ri1, i2 := ri2 }) (List.length x) (0 : Nat) (List.length x)) : Int))), (SV.sb (false))]), []))))) := by kernel_rfl
theorem bs_run (x_nl : Bool) (x : List D) (rk rpr rto rpo rv rp rb0 rb1 rb2 ri0 ri1 ri2 : Int) (ro_nl : Bool) (ro : List D) {r : SV} {H' : Hp} (h : (.need (shortB x.length) (.ret (.tup [.si .i64 (bsN x (⟨rk, rpr, rto, rpo, rv, rp, rb0, rb1, rb2, ri0, ri1, ri2⟩ : Rk) : Nat), .sb (hitB x (⟨rk, rpr, rto, rpo, rv, rp, rb0, rb1, rb2, ri0, ri1, ri2⟩ : Rk))], [])) : Tree (SV × Hp)).run = some (r, H')) : (callG tab (envOf (P := Try.prog) [cmpr_pc] [] [(bs0_lc x_nl x rk rpr rto rpo rv rp rb0 rb1 rb2 ri0 ri1 ri2 ro_nl ro)]) 20 12 72 [SV.lst (.agg [.int .i64, .int .i64, .int .i64, .int .i64, .int .i64, .int .i64, .int .u8, .int .u8, .int .u8, .int .u8, .int .u8, .int .u8, .list (.agg [.int .i64, .int .i64, .int .i64, .int .i64])]) x_nl x, SV.agg [SV.si IntKind.i64 rk, SV.si IntKind.i64 rpr, SV.si IntKind.i64 rto, SV.si IntKind.i64 rpo, SV.si IntKind.i64 rv, SV.si IntKind.i64 rp, SV.si IntKind.u8 rb0, SV.si IntKind.u8 rb1, SV.si IntKind.u8 rb2, SV.si IntKind.u8 ri0, SV.si IntKind.u8 ri1, SV.si IntKind.u8 ri2, SV.lst (.agg [.int .i64, .int .i64, .int .i64, .int .i64]) ro_nl ro], SV.clo (.func 11) [] []] []).run = some (r, H') := by
  rw [bs_tree]
  obtain ⟨hp_, h_⟩ := Tree.run_need h
  simp only [Tree.run, Option.some.injEq, Prod.mk.injEq] at h_
  obtain ⟨rfl, rfl⟩ := h_
  have d1_ : decide ((0 : Int) ≤ ((bsN x (⟨rk, rpr, rto, rpo, rv, rp, rb0, rb1, rb2, ri0, ri1, ri2⟩ : Rk) : Nat) : Int)) = true := by simp
  simp only [show bsW (ltD x (⟨rk, rpr, rto, rpo, rv, rp, rb0, rb1, rb2, ri0, ri1, ri2⟩ : Rk)) x.length 0 x.length = bsN x (⟨rk, rpr, rto, rpo, rv, rp, rb0, rb1, rb2, ri0, ri1, ri2⟩ : Rk) from rfl, Tree.run_ret', Tree.run_need', Tree.run_ite', chk_self, hp_, decide_true, Bool.and_self, cond_true, Int.toNat_natCast]
  unfold hitB
  cases hq_ : decide (((bsN x (⟨rk, rpr, rto, rpo, rv, rp, rb0, rb1, rb2, ri0, ri1, ri2⟩ : Rk) : Nat) : Int) < (x.length : Int)) with
  | true => simp only [hq_, d1_, Bool.and_self, cond_true, rkD]
  | false => simp only [cond_false]
def bs_tr : List D → Option (Tree (SV × Hp))
  | [.l x_nl x, .a [.i rk, .i rpr, .i rto, .i rpo, .i rv, .i rp, .i rb0, .i rb1, .i rb2, .i ri0, .i ri1, .i ri2, .l ro_nl ro]] => some (.need (shortB x.length) (.ret (.tup [.si .i64 (bsN x (⟨rk, rpr, rto, rpo, rv, rp, rb0, rb1, rb2, ri0, ri1, ri2⟩ : Rk) : Nat), .sb (hitB x (⟨rk, rpr, rto, rpo, rv, rp, rb0, rb1, rb2, ri0, ri1, ri2⟩ : Rk))], [])))
  | _ => none
noncomputable def bs_ct : Ct Try.prog := Ct.run (T := tab) follows 20 12 72 [.d (.list (.agg [.int .i64, .int .i64, .int .i64, .int .i64, .int .i64, .int .i64, .int .u8, .int .u8, .int .u8, .int .u8, .int .u8, .int .u8, .list (.agg [.int .i64, .int .i64, .int .i64, .int .i64])])), .d (.agg [(.int .i64), (.int .i64), (.int .i64), (.int .i64), (.int .i64), (.int .i64), (.int .u8), (.int .u8), (.int .u8), (.int .u8), (.int .u8), (.int .u8), (.list (.agg [.int .i64, .int .i64, .int .i64, .int .i64]))]), .fn 11 [] []] bs_tr (by
  intro ds t r H' ht hr
  unfold bs_tr at ht
  split at ht
  · rename_i x_nl x rk rpr rto rpo rv rp rb0 rb1 rb2 ri0 ri1 ri2 ro_nl ro
    simp only [Option.some.injEq] at ht
    subst ht
    exact ⟨_, _, _, envOf_good _ _ _, bs_run x_nl x rk rpr rto rpo rv rp rb0 rb1 rb2 ri0 ri1 ri2 ro_nl ro hr, rfl, rfl⟩
  · cases ht) (enters_of (c := codeOf Try.f72) Try.func72 (by kernel_rfl) (by kernel_rfl))
end Go.Proofs.Ytgodelllnilcfaa
