/-
  Functions of the program, by their runs.
  No statement of the seat is proved here. Conditions: none.
-/
import Derived.Test.YtgodelllnilcfaaY25
import Derived.Test.YtgodelllnilcfaaTab09
import Derived.Test.YtgodelllnilcfaaV09
import Derived.Test.YtgodelllnilcfaaK09w
import Derived.Test.YtgodelllnilcfaaYBits
set_option linter.unusedSimpArgs false
set_option linter.unusedVariables false
set_option maxRecDepth 100000
namespace Go.Proofs.Ytgodelllnilcfaa
open Go.Sy Go.RowKit
def bringI (i n : Int) : Int := bif decide (Int.tmod i n < 0) then IntKind.wrap .i64 (Int.tmod i n + n) else Int.tmod i n
def band (a b : Int) : Int := bits .and .u8 a b
theorem made_tree (rk rpr rto rpo rv rp rb0 rb1 rb2 ri0 ri1 ri2 : Int) (ro_nl : Bool) (ro : List D) : callG tab (envOf (P := Try.prog) [bring_pc] [] []) 20 12 10 [SV.agg [SV.si IntKind.i64 rk, SV.si IntKind.i64 rpr, SV.si IntKind.i64 rto, SV.si IntKind.i64 rpo, SV.si IntKind.i64 rv, SV.si IntKind.i64 rp, SV.si IntKind.u8 rb0, SV.si IntKind.u8 rb1, SV.si IntKind.u8 rb2, SV.si IntKind.u8 ri0, SV.si IntKind.u8 ri1, SV.si IntKind.u8 ri2, SV.lst (.agg [.int .i64, .int .i64, .int .i64, .int .i64]) ro_nl ro]] [] =
    (Tree.ite (Int.tmod rk (4 : Int) == (0 : Int)) (Tree.need (!(7 : Int) == (0 : Int)) (Tree.need (!(5 : Int) == (0 : Int)) (Tree.ret ((SV.agg [(SV.si IntKind.i64 ((2 : Int))), (SV.si IntKind.i64 ((0 : Int))), (SV.si IntKind.i64 (bif decide (Int.tmod rto (7 : Int) < (0 : Int)) then IntKind.wrap IntKind.i64 (Int.tmod rto (7 : Int) + (7 : Int)) else Int.tmod rto (7 : Int))), (SV.si IntKind.i64 (bif decide (Int.tmod rpo (5 : Int) < (0 : Int)) then IntKind.wrap IntKind.i64 (Int.tmod rpo (5 : Int) + (5 : Int)) else Int.tmod rpo (5 : Int))), (SV.si IntKind.i64 ((0 : Int))), (SV.si IntKind.i64 ((0 : Int))), (SV.si IntKind.u8 ((0 : Int))), (SV.si IntKind.u8 ((0 : Int))), (SV.si IntKind.u8 ((0 : Int))), (SV.si IntKind.u8 ((0 : Int))), (SV.si IntKind.u8 ((0 : Int))), (SV.si IntKind.u8 ((0 : Int))), (SV.val (Value.slice none (nat_lit 0) (nat_lit 0)))]), [])))) (Tree.need (!(3 : Int) == (0 : Int)) (Tree.need (!(6 : Int) == (0 : Int)) (Tree.need (!(4 : Int) == (0 : Int)) (Tree.need (!(5 : Int) == (0 : Int)) (Tree.ret ((SV.agg [(SV.si IntKind.i64 ((1 : Int))), (SV.si IntKind.i64 (bif decide (Int.tmod rpr (4 : Int) < (0 : Int)) then IntKind.wrap IntKind.i64 (Int.tmod rpr (4 : Int) + (4 : Int)) else Int.tmod rpr (4 : Int))), (SV.si IntKind.i64 ((0 : Int))), (SV.si IntKind.i64 ((0 : Int))), (SV.si IntKind.i64 (bif decide (Int.tmod rv (3 : Int) < (0 : Int)) then IntKind.wrap IntKind.i64 (Int.tmod rv (3 : Int) + (3 : Int)) else Int.tmod rv (3 : Int))), (SV.si IntKind.i64 (IntKind.wrap IntKind.i64 ((bif decide (Int.tmod rp (6 : Int) < (0 : Int)) then IntKind.wrap IntKind.i64 (Int.tmod rp (6 : Int) + (6 : Int)) else Int.tmod rp (6 : Int)) - (1 : Int)))), (SV.si IntKind.u8 (bits BinOp.and IntKind.u8 rb0 (3 : Int))), (SV.si IntKind.u8 (bits BinOp.and IntKind.u8 rb1 (3 : Int))), (SV.si IntKind.u8 (bits BinOp.and IntKind.u8 rb2 (3 : Int))), (SV.si IntKind.u8 (bits BinOp.and IntKind.u8 ri0 (bits BinOp.and IntKind.u8 rb0 (3 : Int)))), (SV.si IntKind.u8 (bits BinOp.and IntKind.u8 ri1 (bits BinOp.and IntKind.u8 rb1 (3 : Int)))), (SV.si IntKind.u8 (bits BinOp.and IntKind.u8 ri2 (bits BinOp.and IntKind.u8 rb2 (3 : Int)))), (SV.sl 0 0 1 1)]), [(Option.some (Blk.mk (Con.cells [(SV.si IntKind.i64 (bif decide (Int.tmod rpo (5 : Int) < (0 : Int)) then IntKind.wrap IntKind.i64 (Int.tmod rpo (5 : Int) + (5 : Int)) else Int.tmod rpo (5 : Int))), (SV.si IntKind.i64 ((-1 : Int))), (SV.si IntKind.i64 ((-1 : Int))), (SV.si IntKind.i64 ((-1 : Int)))]) 57 (false)))]))))))) := by kernel_rfl
theorem made_run (rk rpr rto rpo rv rp rb0 rb1 rb2 ri0 ri1 ri2 : Int) (ro_nl : Bool) (ro : List D) {r : SV} {H' : Hp} (h : (.ite (Int.tmod rk 4 == 0) (.ret (.agg [.si .i64 2, .si .i64 0, .si .i64 (bringI rto 7), .si .i64 (bringI rpo 5), .si .i64 0, .si .i64 0, .si .u8 0, .si .u8 0, .si .u8 0, .si .u8 0, .si .u8 0, .si .u8 0, .val (.slice none 0 0)], [])) (.ret (.agg [.si .i64 1, .si .i64 (bringI rpr 4), .si .i64 0, .si .i64 0, .si .i64 (bringI rv 3), .si .i64 (IntKind.wrap .i64 (bringI rp 6 - 1)), .si .u8 (band rb0 3), .si .u8 (band rb1 3), .si .u8 (band rb2 3), .si .u8 (band ri0 (band rb0 3)), .si .u8 (band ri1 (band rb1 3)), .si .u8 (band ri2 (band rb2 3)), .sl 0 0 1 1], [some ⟨.cells [.si .i64 (bringI rpo 5), .si .i64 (-1), .si .i64 (-1), .si .i64 (-1)], 57, false⟩])) : Tree (SV × Hp)).run = some (r, H')) : (callG tab (envOf (P := Try.prog) [bring_pc] [] []) 20 12 10 [SV.agg [SV.si IntKind.i64 rk, SV.si IntKind.i64 rpr, SV.si IntKind.i64 rto, SV.si IntKind.i64 rpo, SV.si IntKind.i64 rv, SV.si IntKind.i64 rp, SV.si IntKind.u8 rb0, SV.si IntKind.u8 rb1, SV.si IntKind.u8 rb2, SV.si IntKind.u8 ri0, SV.si IntKind.u8 ri1, SV.si IntKind.u8 ri2, SV.lst (.agg [.int .i64, .int .i64, .int .i64, .int .i64]) ro_nl ro]] []).run = some (r, H') := by
  rw [made_tree]
  rw [← h]
  simp only [Tree.run_ret', Tree.run_need', Tree.run_ite']
  rfl
def made_tr : List D → Option (Tree (SV × Hp))
  | [.a [.i rk, .i rpr, .i rto, .i rpo, .i rv, .i rp, .i rb0, .i rb1, .i rb2, .i ri0, .i ri1, .i ri2, .l ro_nl ro]] => some (.ite (Int.tmod rk 4 == 0) (.ret (.agg [.si .i64 2, .si .i64 0, .si .i64 (bringI rto 7), .si .i64 (bringI rpo 5), .si .i64 0, .si .i64 0, .si .u8 0, .si .u8 0, .si .u8 0, .si .u8 0, .si .u8 0, .si .u8 0, .val (.slice none 0 0)], [])) (.ret (.agg [.si .i64 1, .si .i64 (bringI rpr 4), .si .i64 0, .si .i64 0, .si .i64 (bringI rv 3), .si .i64 (IntKind.wrap .i64 (bringI rp 6 - 1)), .si .u8 (band rb0 3), .si .u8 (band rb1 3), .si .u8 (band rb2 3), .si .u8 (band ri0 (band rb0 3)), .si .u8 (band ri1 (band rb1 3)), .si .u8 (band ri2 (band rb2 3)), .sl 0 0 1 1], [some ⟨.cells [.si .i64 (bringI rpo 5), .si .i64 (-1), .si .i64 (-1), .si .i64 (-1)], 57, false⟩])))
  | _ => none
noncomputable def made_ct : Ct Try.prog := Ct.runF (T := tab) follows 20 12 10 [.d (.agg [(.int .i64), (.int .i64), (.int .i64), (.int .i64), (.int .i64), (.int .i64), (.int .u8), (.int .u8), (.int .u8), (.int .u8), (.int .u8), (.int .u8), (.list (.agg [.int .i64, .int .i64, .int .i64, .int .i64]))])] made_tr (by
  intro ds t r H' ht hr
  unfold made_tr at ht
  split at ht
  · rename_i rk rpr rto rpo rv rp rb0 rb1 rb2 ri0 ri1 ri2 ro_nl ro
    simp only [Option.some.injEq] at ht
    subst ht
    exact ⟨_, _, _, envOf_good _ _ _, made_run rk rpr rto rpo rv rp rb0 rb1 rb2 ri0 ri1 ri2 ro_nl ro hr, rfl, rfl⟩
  · cases ht) (enters_of (c := codeOf Try.f10) Try.func10 (by kernel_rfl) (by kernel_rfl))
/-- A rule that may be, out of any. -/
def ctlR (d : D) : Rk := ⟨2, 0, bringI (d.at 2).int 7, bringI (d.at 3).int 5, 0, 0, 0, 0, 0, 0, 0, 0⟩
def datR (d : D) : Rk := ⟨1, bringI (d.at 1).int 4, 0, 0, bringI (d.at 4).int 3, IntKind.wrap .i64 (bringI (d.at 5).int 6 - 1), band (d.at 6).int 3, band (d.at 7).int 3, band (d.at 8).int 3, band (d.at 9).int (band (d.at 6).int 3), band (d.at 10).int (band (d.at 7).int 3), band (d.at 11).int (band (d.at 8).int 3)⟩
def datO (d : D) : List D := [.a [.i (bringI (d.at 3).int 5), .i (-1), .i (-1), .i (-1)]]
theorem cpy_cpD (r : Rk) (nl : Bool) (o : List D) : cpy (cpD r nl o) = cpD r nl o := by cases nl <;> rfl
theorem insD_length (x : List D) (n : Nat) (d : D) : (insD x n d).length ≤ x.length + 1 := by unfold insD; simp; omega
/-- Rows are as a copy leaves them. -/
def Fine (x : List D) : Prop := ∀ d ∈ x, cpy d = d ∧ outsFew d = true
theorem Fine.ins {x : List D} (h : Fine x) {n : Nat} {d : D} (h1 : cpy d = d) (h2 : outsFew d = true) : Fine (insD x n d) := by
  intro e he
  unfold insD at he
  simp only [List.mem_append, List.mem_singleton] at he
  rcases he with (he | he) | he
  · exact h e (List.mem_of_mem_take he)
  · rw [he]; exact ⟨h1, h2⟩
  · exact h e (List.mem_of_mem_drop he)
theorem Fine.set {x : List D} (h : Fine x) {n : Nat} {d : D} (h1 : cpy d = d) (h2 : outsFew d = true) : Fine (x.set n d) := by
  intro e he
  rcases List.mem_or_eq_of_mem_set he with he | he
  · exact h e he
  · rw [he]; exact ⟨h1, h2⟩
theorem Fine.map {x : List D} (h : Fine x) : x.map cpy = x := by
  conv => rhs; rw [← List.map_id x]
  exact List.map_congr_left fun d hd => (h d hd).1
theorem Fine.filter {x : List D} (h : Fine x) (f : D → Bool) : Fine (x.filter f) := fun d hd => h d ((List.mem_filter.1 hd).1)
theorem Fine.all {x : List D} (h : Fine x) : x.all outsFew = true := List.all_eq_true.2 fun d hd => (h d hd).2
theorem fine_short {d : D} (h : cpy d = d) (h2 : outsFew d = true) : shortB (d.at 12).xs.length = true := by
  unfold outsFew at h2
  cases hn : (d.at 12).nl with
  | false =>
    rw [hn, Bool.false_or] at h2
    simp only [fewB, decide_eq_true_eq] at h2
    unfold shortB
    exact decide_eq_true (by omega)
  | true =>
    rw [← h]
    unfold cpy
    rw [hn]
    rfl
theorem same_self (d : D) : same_f (d.at 0).int (d.at 1).int (d.at 2).int (d.at 3).int (d.at 4).int (d.at 5).int (d.at 6).int (d.at 7).int (d.at 8).int (d.at 9).int (d.at 10).int (d.at 11).int (d.at 12).xs (d.at 0).int (d.at 1).int (d.at 2).int (d.at 3).int (d.at 4).int (d.at 5).int (d.at 6).int (d.at 7).int (d.at 8).int (d.at 9).int (d.at 10).int (d.at 11).int (d.at 12).xs = true := by
  simp [same_f, sameO_self]
/-- A loop that counts. -/
theorem count_loop {B : St → Tree (Ex × St)} {tm : Nat → St} {n : Nat} {fin : Ex × St} (step : ∀ k, k < n → (B (tm k)).run = some (.normal, tm (k + 1))) (stop : (B (tm n)).run = some fin) (hn : fin.1 ≠ .normal) : ∃ m, iterC B m (tm 0) = some fin := by
  have : ∀ j k, k + j = n → ∃ m, iterC B m (tm k) = some fin := by
    intro j
    induction j with
    | zero => intro k h; have hk : k = n := by omega
              subst hk; exact iterC_stop (ex := fin.1) (st' := fin.2) stop hn
    | succ j ih => intro k h; exact iterC_step (step k (by omega)) (ih (k + 1) (by omega))
  exact this n 0 (by omega)
theorem bringI_range (i : Int) {n : Int} (h : 0 < n) (h2 : n ≤ 1000) : 0 ≤ bringI i n ∧ bringI i n < n := by
  have h3 := Int.tmod_lt_of_pos i h
  have h4 := Int.lt_tmod_of_pos i h
  unfold bringI
  by_cases hq : Int.tmod i n < 0
  · rw [decide_eq_true hq, cond_true, wrap64 (by omega) (by omega)]
    omega
  · rw [decide_eq_false hq, cond_false]
    omega
theorem andNot_band (i b : Int) : bits .andNot .u8 (band i b) b = 0 := by
  unfold band
  rw [and_un, andNot_un, bv_un, un_zero, bv_ext]
  intro k hk
  simp only [BitVec.getLsbD_and, BitVec.getLsbD_not, BitVec.getLsbD_zero]
  cases (bv i).getLsbD k <;> cases (bv b).getLsbD k <;> simp
def mdR (d : D) : Rk := bif Int.tmod (d.at 0).int 4 == 0 then ctlR d else datR d
def mdD (d : D) : D := bif Int.tmod (d.at 0).int 4 == 0 then cpD (ctlR d) true [] else cpD (datR d) false (datO d)
theorem chkR_ctl (d : D) : chkR (ctlR d) [] = 0 := by
  have h1 := bringI_range (d.at 2).int (n := 7) (by omega) (by omega)
  have h2 := bringI_range (d.at 3).int (n := 5) (by omega) (by omega)
  unfold chkR chk_f ctlR
  have d1 : decide (0 ≤ bringI (d.at 2).int 7) = true := decide_eq_true h1.1
  have d2 : decide (bringI (d.at 2).int 7 ≤ 6) = true := decide_eq_true (by omega)
  have d3 : decide (0 ≤ bringI (d.at 3).int 5) = true := decide_eq_true h2.1
  have d4 : decide (bringI (d.at 3).int 5 ≤ 4) = true := decide_eq_true (by omega)
  simp only [d1, d2, d3, d4]
  rfl
theorem chkR_dat (d : D) : chkR (datR d) (datO d) = 0 := by
  have h1 := bringI_range (d.at 1).int (n := 4) (by omega) (by omega)
  have h2 := bringI_range (d.at 3).int (n := 5) (by omega) (by omega)
  have h3 := bringI_range (d.at 4).int (n := 3) (by omega) (by omega)
  have h4 := bringI_range (d.at 5).int (n := 6) (by omega) (by omega)
  unfold chkR chk_f mtch_f datR
  simp only [andNot_band]
  have d1 : decide (0 ≤ bringI (d.at 1).int 4) = true := decide_eq_true h1.1
  have d2 : decide (bringI (d.at 1).int 4 ≤ 65535) = true := decide_eq_true (by omega)
  have d3 : decide (0 ≤ bringI (d.at 4).int 3) = true := decide_eq_true h3.1
  have d4 : decide (bringI (d.at 4).int 3 ≤ 200) = true := decide_eq_true (by omega)
  have e5 : IntKind.wrap .i64 (bringI (d.at 5).int 6 - 1) = bringI (d.at 5).int 6 - 1 := wrap64 (by omega) (by omega)
  have d5 : decide (-1 ≤ bringI (d.at 5).int 6 - 1) = true := decide_eq_true (by omega)
  have d6 : decide (bringI (d.at 5).int 6 - 1 ≤ 4) = true := decide_eq_true (by omega)
  have d7 : decide (0 ≤ bringI (d.at 3).int 5) = true := decide_eq_true h2.1
  have d8 : decide (bringI (d.at 3).int 5 ≤ 4) = true := decide_eq_true (by omega)
  have b1 : (datO d).any badO = false := by
    have e1 : mayO (.a [.i (bringI (d.at 3).int 5), .i (-1), .i (-1), .i (-1)]) = true := by
      show outmay_f (bringI (d.at 3).int 5) (-1) (-1) (-1) = true
      unfold outmay_f
      rw [d7, d8]
      rfl
    unfold datO
    simp only [List.any_cons, List.any_nil, badO, e1]
    rfl
  simp only [d1, d2, d3, d4, e5, d5, d6, b1]
  rfl
theorem mdD_at (d : D) : rkD (mdD d) = mdR d ∧ cpy (mdD d) = mdD d ∧ outsFew (mdD d) = true ∧ chkR (rkD (mdD d)) ((mdD d).at 12).xs = 0 := by
  unfold mdD mdR
  cases h : (Int.tmod (d.at 0).int 4 == 0) with
  | true =>
    simp only [cond_true]
    refine ⟨rfl, cpy_cpD _ _ _, rfl, ?_⟩
    exact chkR_ctl d
  | false =>
    simp only [cond_false]
    refine ⟨rfl, cpy_cpD _ _ _, rfl, ?_⟩
    exact chkR_dat d
theorem outs_few {d : D} (h : cpy d = d) (h2 : outsFew d = true) : fewB (d.at 12).xs.length = true := by
  have h3 := fine_short h h2
  unfold outsFew at h2
  cases hn : (d.at 12).nl with
  | false => rw [hn, Bool.false_or] at h2; exact h2
  | true => rw [← h]; unfold cpy; rw [hn]; rfl
theorem rk_fold (d : D) : ({ k := D.int (D.at d 0), pr := D.int (D.at d 1), to := D.int (D.at d 2), po := D.int (D.at d 3), v := D.int (D.at d 4), p := D.int (D.at d 5), b0 := D.int (D.at d 6), b1 := D.int (D.at d 7), b2 := D.int (D.at d 8), i0 := D.int (D.at d 9), i1 := D.int (D.at d 10), i2 := D.int (D.at d 11) } : Rk) = rkD d := rfl
theorem cpy_fold (d : D) : cpD (rkD d) (D.nl (D.at d 12)) (D.xs (D.at d 12)) = cpy d := rfl
end Go.Proofs.Ytgodelllnilcfaa
