/-
  Functions of the program, by their runs.
  No statement of the seat is proved here. Conditions: none.
-/
import Derived.Test.YtgodelllnilcfaaY25
import Derived.Test.YtgodelllnilcfaaTab09
import Derived.Test.YtgodelllnilcfaaX09
import Derived.Test.YtgodelllnilcfaaF09
set_option linter.unusedSimpArgs false
set_option linter.unusedVariables false
set_option maxRecDepth 100000
namespace Go.Proofs.Ytgodelllnilcfaa
open Go.Sy Go.RowKit
def mdR (d : D) : Rk := bif Int.tmod (d.at 0).int 4 == 0 then ctlR d else datR d
def mdD (d : D) : D := bif Int.tmod (d.at 0).int 4 == 0 then cpD (ctlR d) true [] else cpD (datR d) false (datO d)
def farB (r : Rk) (e : D) : Bool := cR e r != 0
/-- The rules, each once. -/
def oStep (w : List D) (d : D) : List D := bif w.all (farB (mdR d)) then w ++ [mdD d] else w
def oAll (l : List D) : List D := (l.take 60).foldl oStep []
theorem bringI_tree (i n : Int) : callG tab (envOf (P := Try.prog) [] [] []) 20 12 36 [SV.si IntKind.i64 i, SV.si IntKind.i64 n] [] =
    (Tree.need (!n == (0 : Int)) (Tree.ite (decide (Int.tmod i n < (0 : Int))) (Tree.ret ((SV.si IntKind.i64 (IntKind.wrap IntKind.i64 (Int.tmod i n + n))), [])) (Tree.ret ((SV.si IntKind.i64 (Int.tmod i n)), [])))) := by kernel_rfl
theorem bringI_run (i n : Int) (hpre : (!n == 0) = true) : (callG tab (envOf (P := Try.prog) [] [] []) 20 12 36 [SV.si IntKind.i64 i, SV.si IntKind.i64 n] []).run = some ((.si .i64 (bringI i n) : SV), []) := by
  rw [bringI_tree]
  simp only [Tree.run_ret', Tree.run_need', Tree.run_ite']
  rw [hpre]
  simp only [cond_true, bringI]
  cases decide (Int.tmod i n < 0) <;> rfl
def bringI_spec : PSpec := ⟨[(.int .i64), (.int .i64)], fun
  | [.i i, .i n] => some (!n == 0, .si .i64 (bringI i n))
  | _ => none⟩
noncomputable def bringI_pc : PC Try.prog := PC.run2 (T := tab) follows 20 12 36 bringI_spec (by
  intro ds pre r h hp
  unfold bringI_spec at h
  simp only at h
  split at h
  · rename_i i n
    simp only [Option.some.injEq, Prod.mk.injEq] at h
    obtain ⟨hq, rfl⟩ := h
    exact ⟨_, _, envOf_good _ _ _, bringI_run i n (hq.trans hp), rfl⟩
  · cases h) (enters_of (c := codeOf Try.f36) Try.func36 (by kernel_rfl) (by kernel_rfl))
theorem all_fold {f : D → Bool} : ∀ (l : List D) (b : Bool), l.foldl (fun b d => b && f d) b = (b && l.all f)
  | [], b => by simp
  | a :: r, b => by simp [all_fold r, Bool.and_assoc]
noncomputable def mo0_tm (l_nl : Bool) (l : List D) (turn room i : Int) (own_nl : Bool) (own : List D) : St :=
  ⟨(Tm.at 200 [(0, (Slot.is (SV.lst (Sh.agg [(Sh.int IntKind.i64), (Sh.int IntKind.i64), (Sh.int IntKind.i64), (Sh.int IntKind.i64), (Sh.int IntKind.i64), (Sh.int IntKind.i64), (Sh.int IntKind.u8), (Sh.int IntKind.u8), (Sh.int IntKind.u8), (Sh.int IntKind.u8), (Sh.int IntKind.u8), (Sh.int IntKind.u8), (Sh.list (Sh.agg [(Sh.int IntKind.i64), (Sh.int IntKind.i64), (Sh.int IntKind.i64), (Sh.int IntKind.i64)]))]) (l_nl) (l)))), (1, (Slot.is (SV.si IntKind.i64 (turn)))), (7, (Slot.is (SV.ref 0 0))), (9, (Slot.is (SV.ref 1 0))), (11, (Slot.is (SV.si IntKind.i64 (bringI room (65 : Int))))), (12, (Slot.is (SV.ref 2 0))), (14, (Slot.is (SV.own 3))), (15, (Slot.is (SV.si IntKind.i64 (i))))]), [(Option.some (Blk.mk (Con.cells [(SV.val (Value.slice none (nat_lit 0) (nat_lit 0))), (SV.li IntKind.i64 (64)), (SV.lb true)]) 64 (false))), (Option.some (Blk.mk (Con.cells [(SV.val (Value.slice none (nat_lit 0) (nat_lit 0))), (SV.li IntKind.i64 (64)), (SV.lb true)]) 64 (false))), (Option.some (Blk.mk (Con.cells [(SV.val (Value.slice none (nat_lit 0) (nat_lit 0))), (SV.si IntKind.i64 (bringI room (65 : Int))), (SV.lb true)]) 64 (false))), (Option.some (Blk.mk (Con.rows (Sh.agg [(Sh.int IntKind.i64), (Sh.int IntKind.i64), (Sh.int IntKind.i64), (Sh.int IntKind.i64), (Sh.int IntKind.i64), (Sh.int IntKind.i64), (Sh.int IntKind.u8), (Sh.int IntKind.u8), (Sh.int IntKind.u8), (Sh.int IntKind.u8), (Sh.int IntKind.u8), (Sh.int IntKind.u8), (Sh.list (Sh.agg [(Sh.int IntKind.i64), (Sh.int IntKind.i64), (Sh.int IntKind.i64), (Sh.int IntKind.i64)]))]) (own_nl) (own)) 35 (false)))]⟩
def mo0_lp : LP := { base := 3, mv := [], mask := 55939, maskX := 23170, nm := 49152, nb := [], kl := [], klX := [], ow := [⟨none, 14, (.agg [.int .i64, .int .i64, .int .i64, .int .i64, .int .i64, .int .i64, .int .u8, .int .u8, .int .u8, .int .u8, .int .u8, .int .u8, .list (.agg [.int .i64, .int .i64, .int .i64, .int .i64])]), 35⟩] }
noncomputable def mia_tm (l_nl : Bool) (l : List D) (turn room i : Int) (own_nl : Bool) (own : List D) (new : Bool) (k : Int) : St :=
  ⟨(Tm.at 200 [(0, (Slot.is (SV.lst (Sh.agg [(Sh.int IntKind.i64), (Sh.int IntKind.i64), (Sh.int IntKind.i64), (Sh.int IntKind.i64), (Sh.int IntKind.i64), (Sh.int IntKind.i64), (Sh.int IntKind.u8), (Sh.int IntKind.u8), (Sh.int IntKind.u8), (Sh.int IntKind.u8), (Sh.int IntKind.u8), (Sh.int IntKind.u8), (Sh.list (Sh.agg [(Sh.int IntKind.i64), (Sh.int IntKind.i64), (Sh.int IntKind.i64), (Sh.int IntKind.i64)]))]) (l_nl) (l)))), (1, (Slot.is (SV.si IntKind.i64 (turn)))), (7, (Slot.is (SV.ref 0 0))), (9, (Slot.is (SV.ref 1 0))), (11, (Slot.is (SV.si IntKind.i64 (bringI room (65 : Int))))), (12, (Slot.is (SV.ref 2 0))), (14, (Slot.is (SV.own 3))), (15, (Slot.is (SV.si IntKind.i64 (i)))), (16, (Slot.is (SV.ref 4 0))), (17, (Slot.is (SV.sb (new)))), (18, (Slot.is (SV.si IntKind.i64 (k))))]), [(Option.some (Blk.mk (Con.cells [(SV.val (Value.slice none (nat_lit 0) (nat_lit 0))), (SV.li IntKind.i64 (64)), (SV.lb true)]) 64 (false))), (Option.some (Blk.mk (Con.cells [(SV.val (Value.slice none (nat_lit 0) (nat_lit 0))), (SV.li IntKind.i64 (64)), (SV.lb true)]) 64 (false))), (Option.some (Blk.mk (Con.cells [(SV.val (Value.slice none (nat_lit 0) (nat_lit 0))), (SV.si IntKind.i64 (bringI room (65 : Int))), (SV.lb true)]) 64 (false))), (Option.some (Blk.mk (Con.rows (Sh.agg [(Sh.int IntKind.i64), (Sh.int IntKind.i64), (Sh.int IntKind.i64), (Sh.int IntKind.i64), (Sh.int IntKind.i64), (Sh.int IntKind.i64), (Sh.int IntKind.u8), (Sh.int IntKind.u8), (Sh.int IntKind.u8), (Sh.int IntKind.u8), (Sh.int IntKind.u8), (Sh.int IntKind.u8), (Sh.list (Sh.agg [(Sh.int IntKind.i64), (Sh.int IntKind.i64), (Sh.int IntKind.i64), (Sh.int IntKind.i64)]))]) (own_nl) (own)) 35 (false))), (Option.some (Blk.mk (Con.cells [(SV.si IntKind.i64 ((2 : Int))), (SV.si IntKind.i64 ((0 : Int))), (SV.si IntKind.i64 (bringI (D.int (D.at (List.getD l (Int.toNat i) default) (2 : Nat))) (7 : Int))), (SV.si IntKind.i64 (bringI (D.int (D.at (List.getD l (Int.toNat i) default) (3 : Nat))) (5 : Int))), (SV.si IntKind.i64 ((0 : Int))), (SV.si IntKind.i64 ((0 : Int))), (SV.si IntKind.u8 ((0 : Int))), (SV.si IntKind.u8 ((0 : Int))), (SV.si IntKind.u8 ((0 : Int))), (SV.si IntKind.u8 ((0 : Int))), (SV.si IntKind.u8 ((0 : Int))), (SV.si IntKind.u8 ((0 : Int))), (SV.val (Value.slice none (nat_lit 0) (nat_lit 0)))]) 35 (false)))]⟩
def mia_lp : LP := { base := 5, mv := [], mask := 514691, maskX := 252547, nm := 393216, nb := [], kl := [], klX := [], ow := [] }
noncomputable def mia_x0 (l_nl : Bool) (l : List D) (turn room i : Int) (own_nl : Bool) (own : List D) (new : Bool) (k : Int) : St :=
  ⟨(Tm.at 200 [(0, (Slot.is (SV.lst (Sh.agg [(Sh.int IntKind.i64), (Sh.int IntKind.i64), (Sh.int IntKind.i64), (Sh.int IntKind.i64), (Sh.int IntKind.i64), (Sh.int IntKind.i64), (Sh.int IntKind.u8), (Sh.int IntKind.u8), (Sh.int IntKind.u8), (Sh.int IntKind.u8), (Sh.int IntKind.u8), (Sh.int IntKind.u8), (Sh.list (Sh.agg [(Sh.int IntKind.i64), (Sh.int IntKind.i64), (Sh.int IntKind.i64), (Sh.int IntKind.i64)]))]) (l_nl) (l)))), (1, (Slot.is (SV.si IntKind.i64 (turn)))), (7, (Slot.is (SV.ref 0 0))), (9, (Slot.is (SV.ref 1 0))), (11, (Slot.is (SV.si IntKind.i64 (bringI room (65 : Int))))), (12, (Slot.is (SV.ref 2 0))), (14, (Slot.is (SV.own 3))), (15, (Slot.is (SV.si IntKind.i64 (i)))), (16, (Slot.is (SV.ref 4 0))), (17, (Slot.is (SV.sb (new))))]), [(Option.some (Blk.mk (Con.cells [(SV.val (Value.slice none (nat_lit 0) (nat_lit 0))), (SV.li IntKind.i64 (64)), (SV.lb true)]) 64 (false))), (Option.some (Blk.mk (Con.cells [(SV.val (Value.slice none (nat_lit 0) (nat_lit 0))), (SV.li IntKind.i64 (64)), (SV.lb true)]) 64 (false))), (Option.some (Blk.mk (Con.cells [(SV.val (Value.slice none (nat_lit 0) (nat_lit 0))), (SV.si IntKind.i64 (bringI room (65 : Int))), (SV.lb true)]) 64 (false))), (Option.some (Blk.mk (Con.rows (Sh.agg [(Sh.int IntKind.i64), (Sh.int IntKind.i64), (Sh.int IntKind.i64), (Sh.int IntKind.i64), (Sh.int IntKind.i64), (Sh.int IntKind.i64), (Sh.int IntKind.u8), (Sh.int IntKind.u8), (Sh.int IntKind.u8), (Sh.int IntKind.u8), (Sh.int IntKind.u8), (Sh.int IntKind.u8), (Sh.list (Sh.agg [(Sh.int IntKind.i64), (Sh.int IntKind.i64), (Sh.int IntKind.i64), (Sh.int IntKind.i64)]))]) (own_nl) (own)) 35 (false))), (Option.some (Blk.mk (Con.cells [(SV.si IntKind.i64 ((2 : Int))), (SV.si IntKind.i64 ((0 : Int))), (SV.si IntKind.i64 (bringI (D.int (D.at (List.getD l (Int.toNat i) default) (2 : Nat))) (7 : Int))), (SV.si IntKind.i64 (bringI (D.int (D.at (List.getD l (Int.toNat i) default) (3 : Nat))) (5 : Int))), (SV.si IntKind.i64 ((0 : Int))), (SV.si IntKind.i64 ((0 : Int))), (SV.si IntKind.u8 ((0 : Int))), (SV.si IntKind.u8 ((0 : Int))), (SV.si IntKind.u8 ((0 : Int))), (SV.si IntKind.u8 ((0 : Int))), (SV.si IntKind.u8 ((0 : Int))), (SV.si IntKind.u8 ((0 : Int))), (SV.val (Value.slice none (nat_lit 0) (nat_lit 0)))]) 35 (false)))]⟩
theorem mia_round (l_nl : Bool) (l : List D) (turn room i : Int) (own_nl : Bool) (own : List D) (new : Bool) (k : Int) : roundC (bodyF tab (envOf (P := Try.prog) [bringI_pc, cmpr_pc, same_pc, works_pc] [made_ct, add_ct, rules_ct, len_ct] []) 20 12 7 1 (loopOf (codeOf Try.f7) 1)) mia_lp (mia_tm l_nl l turn room i own_nl own new k) =
    (Tree.ite (decide (k < (↑(List.length own) : Int))) (Tree.need (bif new then decide ((0 : Int) ≤ k) && decide (k < (↑(List.length own) : Int)) && (true && true) else true) (Tree.ret (Ex.normal, (mia_tm (l_nl) (l) (turn) (room) (i) (own_nl) (own) (new && lexC (keyOf { k := D.int (D.at (List.getD own (Int.toNat k) default) (0 : Nat)), pr := D.int (D.at (List.getD own (Int.toNat k) default) (1 : Nat)), to := D.int (D.at (List.getD own (Int.toNat k) default) (2 : Nat)), po := D.int (D.at (List.getD own (Int.toNat k) default) (3 : Nat)), v := D.int (D.at (List.getD own (Int.toNat k) default) (4 : Nat)), p := D.int (D.at (List.getD own (Int.toNat k) default) (5 : Nat)), b0 := D.int (D.at (List.getD own (Int.toNat k) default) (6 : Nat)), b1 := D.int (D.at (List.getD own (Int.toNat k) default) (7 : Nat)), b2 := D.int (D.at (List.getD own (Int.toNat k) default) (8 : Nat)), i0 := D.int (D.at (List.getD own (Int.toNat k) default) (9 : Nat)), i1 := D.int (D.at (List.getD own (Int.toNat k) default) (10 : Nat)), i2 := D.int (D.at (List.getD own (Int.toNat k) default) (11 : Nat)) }) (keyOf { k := (2 : Int), pr := (0 : Int), to := bringI (D.int (D.at (List.getD l (Int.toNat i) default) (2 : Nat))) (7 : Int), po := bringI (D.int (D.at (List.getD l (Int.toNat i) default) (3 : Nat))) (5 : Int), v := (0 : Int), p := (0 : Int), b0 := (0 : Int), b1 := (0 : Int), b2 := (0 : Int), i0 := (0 : Int), i1 := (0 : Int), i2 := (0 : Int) }) != (0 : Int)) (IntKind.wrap IntKind.i64 (k + (1 : Int))))))) (Tree.ret ((Ex.exit 2), (mia_x0 (l_nl) (l) (turn) (room) (i) (own_nl) (own) (new) (k))))) := by kernel_rfl
noncomputable def mia_res (l_nl : Bool) (l : List D) (turn room : Int) (i : Int) (own_nl : Bool) (own : List D) (new : Bool) (k : Int) : Tree (Ex × St) := .need (decide (k = 0) && (new && fewB own.length)) (.ret (.exit 2, mia_x0 l_nl l turn room i own_nl own (own.all (farB (ctlR (l.getD i.toNat default)))) (own.length : Nat)))
theorem mia_ok (l_nl : Bool) (l : List D) (turn room : Int) (i : Int) (own_nl : Bool) (own : List D) (new : Bool) (k : Int) (ex : Ex) (st' : St) (hrun_ : (mia_res l_nl l turn room i own_nl own new k).run = some (ex, st')) : ∃ n, iterC (roundC (bodyF tab (envOf (P := Try.prog) [bringI_pc, cmpr_pc, same_pc, works_pc] [made_ct, add_ct, rules_ct, len_ct] []) 20 12 7 1 (loopOf (codeOf Try.f7) 1)) mia_lp) n (mia_tm l_nl l turn room i own_nl own new k) = some (ex, st') := by
  obtain ⟨hp_, h_⟩ := Tree.run_need hrun_
  simp only [Bool.and_eq_true, decide_eq_true_eq] at hp_
  obtain ⟨e_, e1_, e2_⟩ := hp_
  simp only [Tree.run, Option.some.injEq, Prod.mk.injEq] at h_
  obtain ⟨rfl, rfl⟩ := h_
  subst e_
  subst e1_
  have hx_ : own.length ≤ 1000 := by simpa [fewB] using e2_
  have main_ := fold_loop0 (B := roundC (bodyF tab (envOf (P := Try.prog) [bringI_pc, cmpr_pc, same_pc, works_pc] [made_ct, add_ct, rules_ct, len_ct] []) 20 12 7 1 (loopOf (codeOf Try.f7) 1)) mia_lp) (tm := fun t_ (o_ : Bool) => mia_tm l_nl l turn room i own_nl own o_ t_) (s := own) (g := fun b d => b && farB (ctlR (l.getD i.toNat default)) d) (fin := fun o_ => (.exit 2, mia_x0 l_nl l turn room i own_nl own o_ (own.length : Nat))) (I := fun _ _ => True) (x := true) trivial ?_ ?_ (fun _ => by simp)
  · rw [all_fold, Bool.true_and] at main_
    exact main_
  · intro k_ x_ hk_ hi_
    refine ⟨?_, trivial⟩
    have d1_ : decide ((k_ : Int) < (own.length : Nat)) = true := decide_eq_true (by omega)
    have d2_ : decide ((0 : Int) ≤ (k_ : Int)) = true := decide_eq_true (by omega)
    simp only [mia_round, Tree.run_ret', Tree.run_need', Tree.run_ite', d1_, d2_, Bool.and_self, cond_true, cond_self', Int.toNat_natCast, wrap64 (n := (k_ : Int) + 1) (by omega) (by omega)]
    rfl
  · intro x_ hi_
    have d1_ : decide (((own.length : Nat) : Int) < (own.length : Nat)) = false := decide_eq_false (by omega)
    simp only [mia_round, Tree.run_ite', d1_]
    rfl
noncomputable def mia_run (l_nl : Bool) (l : List D) (turn room : Int) (st : St) : Tree (Ex × St) := .need (chkSt st (mia_tm l_nl l turn room (iOf (slotV st 15)) (nlOf (rowsV st 3)) (xsOf (rowsV st 3)) (bOf (slotV st 17)) (iOf (slotV st 18)))) (mia_res l_nl l turn room (iOf (slotV st 15)) (nlOf (rowsV st 3)) (xsOf (rowsV st 3)) (bOf (slotV st 17)) (iOf (slotV st 18)))
noncomputable def mia_lc (l_nl : Bool) (l : List D) (turn room : Int) : LC Try.prog := LC.of (T := tab) follows (envOf_good _ _ _) 20 12 7 1 Try.f7 Try.func7 (codeOf Try.f7) (loopOf (codeOf Try.f7) 1) (by kernel_rfl) (by kernel_rfl) mia_lp (mia_run l_nl l turn room)
  (inner_loops (c := codeOf Try.f7) Try.func7 (by kernel_rfl) (by kernel_rfl))
  (by
    intro st ex st' h
    obtain ⟨hc, h⟩ := Tree.run_need h
    have e := chk_iff.1 hc
    have := mia_ok l_nl l turn room _ _ _ _ _ ex st' h
    rw [← e] at this
    exact this)
noncomputable def mib_tm (l_nl : Bool) (l : List D) (turn room i : Int) (own_nl : Bool) (own : List D) (new : Bool) (k : Int) : St :=
  ⟨(Tm.at 200 [(0, (Slot.is (SV.lst (Sh.agg [(Sh.int IntKind.i64), (Sh.int IntKind.i64), (Sh.int IntKind.i64), (Sh.int IntKind.i64), (Sh.int IntKind.i64), (Sh.int IntKind.i64), (Sh.int IntKind.u8), (Sh.int IntKind.u8), (Sh.int IntKind.u8), (Sh.int IntKind.u8), (Sh.int IntKind.u8), (Sh.int IntKind.u8), (Sh.list (Sh.agg [(Sh.int IntKind.i64), (Sh.int IntKind.i64), (Sh.int IntKind.i64), (Sh.int IntKind.i64)]))]) (l_nl) (l)))), (1, (Slot.is (SV.si IntKind.i64 (turn)))), (7, (Slot.is (SV.ref 0 0))), (9, (Slot.is (SV.ref 1 0))), (11, (Slot.is (SV.si IntKind.i64 (bringI room (65 : Int))))), (12, (Slot.is (SV.ref 2 0))), (14, (Slot.is (SV.own 3))), (15, (Slot.is (SV.si IntKind.i64 (i)))), (16, (Slot.is (SV.ref 5 0))), (17, (Slot.is (SV.sb (new)))), (18, (Slot.is (SV.si IntKind.i64 (k))))]), [(Option.some (Blk.mk (Con.cells [(SV.val (Value.slice none (nat_lit 0) (nat_lit 0))), (SV.li IntKind.i64 (64)), (SV.lb true)]) 64 (false))), (Option.some (Blk.mk (Con.cells [(SV.val (Value.slice none (nat_lit 0) (nat_lit 0))), (SV.li IntKind.i64 (64)), (SV.lb true)]) 64 (false))), (Option.some (Blk.mk (Con.cells [(SV.val (Value.slice none (nat_lit 0) (nat_lit 0))), (SV.si IntKind.i64 (bringI room (65 : Int))), (SV.lb true)]) 64 (false))), (Option.some (Blk.mk (Con.rows (Sh.agg [(Sh.int IntKind.i64), (Sh.int IntKind.i64), (Sh.int IntKind.i64), (Sh.int IntKind.i64), (Sh.int IntKind.i64), (Sh.int IntKind.i64), (Sh.int IntKind.u8), (Sh.int IntKind.u8), (Sh.int IntKind.u8), (Sh.int IntKind.u8), (Sh.int IntKind.u8), (Sh.int IntKind.u8), (Sh.list (Sh.agg [(Sh.int IntKind.i64), (Sh.int IntKind.i64), (Sh.int IntKind.i64), (Sh.int IntKind.i64)]))]) (own_nl) (own)) 35 (false))), (Option.some (Blk.mk (Con.cells [(SV.si IntKind.i64 (bringI (D.int (D.at (List.getD l (Int.toNat i) default) (3 : Nat))) (5 : Int))), (SV.si IntKind.i64 ((-1 : Int))), (SV.si IntKind.i64 ((-1 : Int))), (SV.si IntKind.i64 ((-1 : Int)))]) 57 (false))), (Option.some (Blk.mk (Con.cells [(SV.si IntKind.i64 ((1 : Int))), (SV.si IntKind.i64 (bringI (D.int (D.at (List.getD l (Int.toNat i) default) (1 : Nat))) (4 : Int))), (SV.si IntKind.i64 ((0 : Int))), (SV.si IntKind.i64 ((0 : Int))), (SV.si IntKind.i64 (bringI (D.int (D.at (List.getD l (Int.toNat i) default) (4 : Nat))) (3 : Int))), (SV.si IntKind.i64 (IntKind.wrap IntKind.i64 (bringI (D.int (D.at (List.getD l (Int.toNat i) default) (5 : Nat))) (6 : Int) - (1 : Int)))), (SV.si IntKind.u8 (band (D.int (D.at (List.getD l (Int.toNat i) default) (6 : Nat))) (3 : Int))), (SV.si IntKind.u8 (band (D.int (D.at (List.getD l (Int.toNat i) default) (7 : Nat))) (3 : Int))), (SV.si IntKind.u8 (band (D.int (D.at (List.getD l (Int.toNat i) default) (8 : Nat))) (3 : Int))), (SV.si IntKind.u8 (band (D.int (D.at (List.getD l (Int.toNat i) default) (9 : Nat))) (band (D.int (D.at (List.getD l (Int.toNat i) default) (6 : Nat))) (3 : Int)))), (SV.si IntKind.u8 (band (D.int (D.at (List.getD l (Int.toNat i) default) (10 : Nat))) (band (D.int (D.at (List.getD l (Int.toNat i) default) (7 : Nat))) (3 : Int)))), (SV.si IntKind.u8 (band (D.int (D.at (List.getD l (Int.toNat i) default) (11 : Nat))) (band (D.int (D.at (List.getD l (Int.toNat i) default) (8 : Nat))) (3 : Int)))), (SV.sl 4 0 1 1)]) 35 (false)))]⟩
def mib_lp : LP := { base := 6, mv := [], mask := 514691, maskX := 252547, nm := 393216, nb := [], kl := [], klX := [], ow := [] }
noncomputable def mib_x0 (l_nl : Bool) (l : List D) (turn room i : Int) (own_nl : Bool) (own : List D) (new : Bool) (k : Int) : St :=
  ⟨(Tm.at 200 [(0, (Slot.is (SV.lst (Sh.agg [(Sh.int IntKind.i64), (Sh.int IntKind.i64), (Sh.int IntKind.i64), (Sh.int IntKind.i64), (Sh.int IntKind.i64), (Sh.int IntKind.i64), (Sh.int IntKind.u8), (Sh.int IntKind.u8), (Sh.int IntKind.u8), (Sh.int IntKind.u8), (Sh.int IntKind.u8), (Sh.int IntKind.u8), (Sh.list (Sh.agg [(Sh.int IntKind.i64), (Sh.int IntKind.i64), (Sh.int IntKind.i64), (Sh.int IntKind.i64)]))]) (l_nl) (l)))), (1, (Slot.is (SV.si IntKind.i64 (turn)))), (7, (Slot.is (SV.ref 0 0))), (9, (Slot.is (SV.ref 1 0))), (11, (Slot.is (SV.si IntKind.i64 (bringI room (65 : Int))))), (12, (Slot.is (SV.ref 2 0))), (14, (Slot.is (SV.own 3))), (15, (Slot.is (SV.si IntKind.i64 (i)))), (16, (Slot.is (SV.ref 5 0))), (17, (Slot.is (SV.sb (new))))]), [(Option.some (Blk.mk (Con.cells [(SV.val (Value.slice none (nat_lit 0) (nat_lit 0))), (SV.li IntKind.i64 (64)), (SV.lb true)]) 64 (false))), (Option.some (Blk.mk (Con.cells [(SV.val (Value.slice none (nat_lit 0) (nat_lit 0))), (SV.li IntKind.i64 (64)), (SV.lb true)]) 64 (false))), (Option.some (Blk.mk (Con.cells [(SV.val (Value.slice none (nat_lit 0) (nat_lit 0))), (SV.si IntKind.i64 (bringI room (65 : Int))), (SV.lb true)]) 64 (false))), (Option.some (Blk.mk (Con.rows (Sh.agg [(Sh.int IntKind.i64), (Sh.int IntKind.i64), (Sh.int IntKind.i64), (Sh.int IntKind.i64), (Sh.int IntKind.i64), (Sh.int IntKind.i64), (Sh.int IntKind.u8), (Sh.int IntKind.u8), (Sh.int IntKind.u8), (Sh.int IntKind.u8), (Sh.int IntKind.u8), (Sh.int IntKind.u8), (Sh.list (Sh.agg [(Sh.int IntKind.i64), (Sh.int IntKind.i64), (Sh.int IntKind.i64), (Sh.int IntKind.i64)]))]) (own_nl) (own)) 35 (false))), (Option.some (Blk.mk (Con.cells [(SV.si IntKind.i64 (bringI (D.int (D.at (List.getD l (Int.toNat i) default) (3 : Nat))) (5 : Int))), (SV.si IntKind.i64 ((-1 : Int))), (SV.si IntKind.i64 ((-1 : Int))), (SV.si IntKind.i64 ((-1 : Int)))]) 57 (false))), (Option.some (Blk.mk (Con.cells [(SV.si IntKind.i64 ((1 : Int))), (SV.si IntKind.i64 (bringI (D.int (D.at (List.getD l (Int.toNat i) default) (1 : Nat))) (4 : Int))), (SV.si IntKind.i64 ((0 : Int))), (SV.si IntKind.i64 ((0 : Int))), (SV.si IntKind.i64 (bringI (D.int (D.at (List.getD l (Int.toNat i) default) (4 : Nat))) (3 : Int))), (SV.si IntKind.i64 (IntKind.wrap IntKind.i64 (bringI (D.int (D.at (List.getD l (Int.toNat i) default) (5 : Nat))) (6 : Int) - (1 : Int)))), (SV.si IntKind.u8 (band (D.int (D.at (List.getD l (Int.toNat i) default) (6 : Nat))) (3 : Int))), (SV.si IntKind.u8 (band (D.int (D.at (List.getD l (Int.toNat i) default) (7 : Nat))) (3 : Int))), (SV.si IntKind.u8 (band (D.int (D.at (List.getD l (Int.toNat i) default) (8 : Nat))) (3 : Int))), (SV.si IntKind.u8 (band (D.int (D.at (List.getD l (Int.toNat i) default) (9 : Nat))) (band (D.int (D.at (List.getD l (Int.toNat i) default) (6 : Nat))) (3 : Int)))), (SV.si IntKind.u8 (band (D.int (D.at (List.getD l (Int.toNat i) default) (10 : Nat))) (band (D.int (D.at (List.getD l (Int.toNat i) default) (7 : Nat))) (3 : Int)))), (SV.si IntKind.u8 (band (D.int (D.at (List.getD l (Int.toNat i) default) (11 : Nat))) (band (D.int (D.at (List.getD l (Int.toNat i) default) (8 : Nat))) (3 : Int)))), (SV.sl 4 0 1 1)]) 35 (false)))]⟩
theorem mib_round (l_nl : Bool) (l : List D) (turn room i : Int) (own_nl : Bool) (own : List D) (new : Bool) (k : Int) : roundC (bodyF tab (envOf (P := Try.prog) [bringI_pc, cmpr_pc, same_pc, works_pc] [made_ct, add_ct, rules_ct, len_ct] []) 20 12 7 1 (loopOf (codeOf Try.f7) 1)) mib_lp (mib_tm l_nl l turn room i own_nl own new k) =
    (Tree.ite (decide (k < (↑(List.length own) : Int))) (Tree.need (bif new then decide ((0 : Int) ≤ k) && decide (k < (↑(List.length own) : Int)) && (true && true) else true) (Tree.ret (Ex.normal, (mib_tm (l_nl) (l) (turn) (room) (i) (own_nl) (own) (new && lexC (keyOf { k := D.int (D.at (List.getD own (Int.toNat k) default) (0 : Nat)), pr := D.int (D.at (List.getD own (Int.toNat k) default) (1 : Nat)), to := D.int (D.at (List.getD own (Int.toNat k) default) (2 : Nat)), po := D.int (D.at (List.getD own (Int.toNat k) default) (3 : Nat)), v := D.int (D.at (List.getD own (Int.toNat k) default) (4 : Nat)), p := D.int (D.at (List.getD own (Int.toNat k) default) (5 : Nat)), b0 := D.int (D.at (List.getD own (Int.toNat k) default) (6 : Nat)), b1 := D.int (D.at (List.getD own (Int.toNat k) default) (7 : Nat)), b2 := D.int (D.at (List.getD own (Int.toNat k) default) (8 : Nat)), i0 := D.int (D.at (List.getD own (Int.toNat k) default) (9 : Nat)), i1 := D.int (D.at (List.getD own (Int.toNat k) default) (10 : Nat)), i2 := D.int (D.at (List.getD own (Int.toNat k) default) (11 : Nat)) }) (keyOf { k := (1 : Int), pr := bringI (D.int (D.at (List.getD l (Int.toNat i) default) (1 : Nat))) (4 : Int), to := (0 : Int), po := (0 : Int), v := bringI (D.int (D.at (List.getD l (Int.toNat i) default) (4 : Nat))) (3 : Int), p := IntKind.wrap IntKind.i64 (bringI (D.int (D.at (List.getD l (Int.toNat i) default) (5 : Nat))) (6 : Int) - (1 : Int)), b0 := band (D.int (D.at (List.getD l (Int.toNat i) default) (6 : Nat))) (3 : Int), b1 := band (D.int (D.at (List.getD l (Int.toNat i) default) (7 : Nat))) (3 : Int), b2 := band (D.int (D.at (List.getD l (Int.toNat i) default) (8 : Nat))) (3 : Int), i0 := band (D.int (D.at (List.getD l (Int.toNat i) default) (9 : Nat))) (band (D.int (D.at (List.getD l (Int.toNat i) default) (6 : Nat))) (3 : Int)), i1 := band (D.int (D.at (List.getD l (Int.toNat i) default) (10 : Nat))) (band (D.int (D.at (List.getD l (Int.toNat i) default) (7 : Nat))) (3 : Int)), i2 := band (D.int (D.at (List.getD l (Int.toNat i) default) (11 : Nat))) (band (D.int (D.at (List.getD l (Int.toNat i) default) (8 : Nat))) (3 : Int)) }) != (0 : Int)) (IntKind.wrap IntKind.i64 (k + (1 : Int))))))) (Tree.ret ((Ex.exit 2), (mib_x0 (l_nl) (l) (turn) (room) (i) (own_nl) (own) (new) (k))))) := by kernel_rfl
noncomputable def mib_res (l_nl : Bool) (l : List D) (turn room : Int) (i : Int) (own_nl : Bool) (own : List D) (new : Bool) (k : Int) : Tree (Ex × St) := .need (decide (k = 0) && (new && fewB own.length)) (.ret (.exit 2, mib_x0 l_nl l turn room i own_nl own (own.all (farB (datR (l.getD i.toNat default)))) (own.length : Nat)))
theorem mib_ok (l_nl : Bool) (l : List D) (turn room : Int) (i : Int) (own_nl : Bool) (own : List D) (new : Bool) (k : Int) (ex : Ex) (st' : St) (hrun_ : (mib_res l_nl l turn room i own_nl own new k).run = some (ex, st')) : ∃ n, iterC (roundC (bodyF tab (envOf (P := Try.prog) [bringI_pc, cmpr_pc, same_pc, works_pc] [made_ct, add_ct, rules_ct, len_ct] []) 20 12 7 1 (loopOf (codeOf Try.f7) 1)) mib_lp) n (mib_tm l_nl l turn room i own_nl own new k) = some (ex, st') := by
  obtain ⟨hp_, h_⟩ := Tree.run_need hrun_
  simp only [Bool.and_eq_true, decide_eq_true_eq] at hp_
  obtain ⟨e_, e1_, e2_⟩ := hp_
  simp only [Tree.run, Option.some.injEq, Prod.mk.injEq] at h_
  obtain ⟨rfl, rfl⟩ := h_
  subst e_
  subst e1_
  have hx_ : own.length ≤ 1000 := by simpa [fewB] using e2_
  have main_ := fold_loop0 (B := roundC (bodyF tab (envOf (P := Try.prog) [bringI_pc, cmpr_pc, same_pc, works_pc] [made_ct, add_ct, rules_ct, len_ct] []) 20 12 7 1 (loopOf (codeOf Try.f7) 1)) mib_lp) (tm := fun t_ (o_ : Bool) => mib_tm l_nl l turn room i own_nl own o_ t_) (s := own) (g := fun b d => b && farB (datR (l.getD i.toNat default)) d) (fin := fun o_ => (.exit 2, mib_x0 l_nl l turn room i own_nl own o_ (own.length : Nat))) (I := fun _ _ => True) (x := true) trivial ?_ ?_ (fun _ => by simp)
  · rw [all_fold, Bool.true_and] at main_
    exact main_
  · intro k_ x_ hk_ hi_
    refine ⟨?_, trivial⟩
    have d1_ : decide ((k_ : Int) < (own.length : Nat)) = true := decide_eq_true (by omega)
    have d2_ : decide ((0 : Int) ≤ (k_ : Int)) = true := decide_eq_true (by omega)
    simp only [mib_round, Tree.run_ret', Tree.run_need', Tree.run_ite', d1_, d2_, Bool.and_self, cond_true, cond_self', Int.toNat_natCast, wrap64 (n := (k_ : Int) + 1) (by omega) (by omega)]
    rfl
  · intro x_ hi_
    have d1_ : decide (((own.length : Nat) : Int) < (own.length : Nat)) = false := decide_eq_false (by omega)
    simp only [mib_round, Tree.run_ite', d1_]
    rfl
noncomputable def mib_run (l_nl : Bool) (l : List D) (turn room : Int) (st : St) : Tree (Ex × St) := .need (chkSt st (mib_tm l_nl l turn room (iOf (slotV st 15)) (nlOf (rowsV st 3)) (xsOf (rowsV st 3)) (bOf (slotV st 17)) (iOf (slotV st 18)))) (mib_res l_nl l turn room (iOf (slotV st 15)) (nlOf (rowsV st 3)) (xsOf (rowsV st 3)) (bOf (slotV st 17)) (iOf (slotV st 18)))
noncomputable def mib_lc (l_nl : Bool) (l : List D) (turn room : Int) : LC Try.prog := LC.of (T := tab) follows (envOf_good _ _ _) 20 12 7 1 Try.f7 Try.func7 (codeOf Try.f7) (loopOf (codeOf Try.f7) 1) (by kernel_rfl) (by kernel_rfl) mib_lp (mib_run l_nl l turn room)
  (inner_loops (c := codeOf Try.f7) Try.func7 (by kernel_rfl) (by kernel_rfl))
  (by
    intro st ex st' h
    obtain ⟨hc, h⟩ := Tree.run_need h
    have e := chk_iff.1 hc
    have := mib_ok l_nl l turn room _ _ _ _ _ ex st' h
    rw [← e] at this
    exact this)
noncomputable def mo0_x0 (l_nl : Bool) (l : List D) (turn room i : Int) (own_nl : Bool) (own : List D) : St :=
  ⟨(Tm.at 200 [(1, (Slot.is (SV.si IntKind.i64 (turn)))), (7, (Slot.is (SV.ref 0 0))), (9, (Slot.is (SV.ref 1 0))), (11, (Slot.is (SV.si IntKind.i64 (bringI room (65 : Int))))), (12, (Slot.is (SV.ref 2 0))), (14, (Slot.is (SV.own 3)))]), [(Option.some (Blk.mk (Con.cells [(SV.val (Value.slice none (nat_lit 0) (nat_lit 0))), (SV.li IntKind.i64 (64)), (SV.lb true)]) 64 (false))), (Option.some (Blk.mk (Con.cells [(SV.val (Value.slice none (nat_lit 0) (nat_lit 0))), (SV.li IntKind.i64 (64)), (SV.lb true)]) 64 (false))), (Option.some (Blk.mk (Con.cells [(SV.val (Value.slice none (nat_lit 0) (nat_lit 0))), (SV.si IntKind.i64 (bringI room (65 : Int))), (SV.lb true)]) 64 (false))), (Option.some (Blk.mk (Con.rows (Sh.agg [(Sh.int IntKind.i64), (Sh.int IntKind.i64), (Sh.int IntKind.i64), (Sh.int IntKind.i64), (Sh.int IntKind.i64), (Sh.int IntKind.i64), (Sh.int IntKind.u8), (Sh.int IntKind.u8), (Sh.int IntKind.u8), (Sh.int IntKind.u8), (Sh.int IntKind.u8), (Sh.int IntKind.u8), (Sh.list (Sh.agg [(Sh.int IntKind.i64), (Sh.int IntKind.i64), (Sh.int IntKind.i64), (Sh.int IntKind.i64)]))]) (own_nl) (own)) 35 (false)))]⟩
theorem mo0_round (l_nl : Bool) (l : List D) (turn room i : Int) (own_nl : Bool) (own : List D) : roundC (bodyF tab (envOf (P := Try.prog) [bringI_pc, cmpr_pc, same_pc, works_pc] [made_ct, add_ct, rules_ct, len_ct] [(mia_lc l_nl l turn room), (mib_lc l_nl l turn room)]) 20 12 7 0 (loopOf (codeOf Try.f7) 0)) mo0_lp (mo0_tm l_nl l turn room i own_nl own) =
    (Tree.ite (decide (i < (↑(List.length l) : Int)) && decide (i < (60 : Int))) (Tree.need (decide ((0 : Int) ≤ i) && decide (i < (↑(List.length l) : Int))) (Tree.ite (Int.tmod (D.int (D.at (List.getD l (Int.toNat i) default) (0 : Nat))) (4 : Int) == (0 : Int)) (Tree.need (chkSt (mia_tm l_nl l turn room i own_nl own true (0 : Int)) (mia_tm l_nl l turn room i own_nl own true (0 : Int))) (Tree.need (decide ((0 : Int) = (0 : Int)) && (true && fewB (List.length own))) (Tree.ite (List.all own (farB (ctlR (List.getD l (Int.toNat i) default)))) (Tree.need (decide ((List.length own + (1 : Nat)) * (80 : Nat) ≤ (140737488355328 : Nat)) && decide (List.length own + (1 : Nat) ≤ (4611686018427387904 : Nat))) (Tree.ret (Ex.normal, (mo0_tm (l_nl) (l) (turn) (room) (IntKind.wrap IntKind.i64 (i + (1 : Int))) (own_nl && false) (own ++ [D.a [D.i (2 : Int), D.i (0 : Int), D.i (bringI (D.int (D.at (List.getD l (Int.toNat i) default) (2 : Nat))) (7 : Int)), D.i (bringI (D.int (D.at (List.getD l (Int.toNat i) default) (3 : Nat))) (5 : Int)), D.i (0 : Int), D.i (0 : Int), D.i (0 : Int), D.i (0 : Int), D.i (0 : Int), D.i (0 : Int), D.i (0 : Int), D.i (0 : Int), D.l true []]]))))) (Tree.ret (Ex.normal, (mo0_tm (l_nl) (l) (turn) (room) (IntKind.wrap IntKind.i64 (i + (1 : Int))) (own_nl) (own))))))) (Tree.need (chkSt (mib_tm l_nl l turn room i own_nl own true (0 : Int)) (mib_tm l_nl l turn room i own_nl own true (0 : Int))) (Tree.need (decide ((0 : Int) = (0 : Int)) && (true && fewB (List.length own))) (Tree.ite (List.all own (farB (datR (List.getD l (Int.toNat i) default)))) (Tree.need (decide ((List.length own + (1 : Nat)) * (80 : Nat) ≤ (140737488355328 : Nat)) && decide (List.length own + (1 : Nat) ≤ (4611686018427387904 : Nat))) (Tree.ret (Ex.normal, (mo0_tm (l_nl) (l) (turn) (room) (IntKind.wrap IntKind.i64 (i + (1 : Int))) (own_nl && false) (own ++ [D.a [D.i (1 : Int), D.i (bringI (D.int (D.at (List.getD l (Int.toNat i) default) (1 : Nat))) (4 : Int)), D.i (0 : Int), D.i (0 : Int), D.i (bringI (D.int (D.at (List.getD l (Int.toNat i) default) (4 : Nat))) (3 : Int)), D.i (IntKind.wrap IntKind.i64 (bringI (D.int (D.at (List.getD l (Int.toNat i) default) (5 : Nat))) (6 : Int) - (1 : Int))), D.i (band (D.int (D.at (List.getD l (Int.toNat i) default) (6 : Nat))) (3 : Int)), D.i (band (D.int (D.at (List.getD l (Int.toNat i) default) (7 : Nat))) (3 : Int)), D.i (band (D.int (D.at (List.getD l (Int.toNat i) default) (8 : Nat))) (3 : Int)), D.i (band (D.int (D.at (List.getD l (Int.toNat i) default) (9 : Nat))) (band (D.int (D.at (List.getD l (Int.toNat i) default) (6 : Nat))) (3 : Int))), D.i (band (D.int (D.at (List.getD l (Int.toNat i) default) (10 : Nat))) (band (D.int (D.at (List.getD l (Int.toNat i) default) (7 : Nat))) (3 : Int))), D.i (band (D.int (D.at (List.getD l (Int.toNat i) default) (11 : Nat))) (band (D.int (D.at (List.getD l (Int.toNat i) default) (8 : Nat))) (3 : Int))), D.l false [D.a [D.i (bringI (D.int (D.at (List.getD l (Int.toNat i) default) (3 : Nat))) (5 : Int)), D.i (-1 : Int), D.i (-1 : Int), D.i (-1 : Int)]]]]))))) (Tree.ret (Ex.normal, (mo0_tm (l_nl) (l) (turn) (room) (IntKind.wrap IntKind.i64 (i + (1 : Int))) (own_nl) (own))))))))) (Tree.ret ((Ex.exit 0), (mo0_x0 (l_nl) (l) (turn) (room) (i) (own_nl) (own))))) := by kernel_rfl
noncomputable def mo0_res (l_nl : Bool) (l : List D) (turn room : Int) (i : Int) (own_nl : Bool) (own : List D) : Tree (Ex × St) := .need (decide (i = 0) && (own_nl && own.isEmpty)) (.ret (.exit 0, mo0_x0 l_nl l turn room ((l.take 60).length : Nat) (oAll l).isEmpty (oAll l)))
theorem oStep_length (w : List D) (d : D) : (oStep w d).length ≤ w.length + 1 := by
  unfold oStep
  cases w.all (farB (mdR d)) <;> simp
theorem mo0_ok (l_nl : Bool) (l : List D) (turn room : Int) (i : Int) (own_nl : Bool) (own : List D) (ex : Ex) (st' : St) (hrun_ : (mo0_res l_nl l turn room i own_nl own).run = some (ex, st')) : ∃ n, iterC (roundC (bodyF tab (envOf (P := Try.prog) [bringI_pc, cmpr_pc, same_pc, works_pc] [made_ct, add_ct, rules_ct, len_ct] [(mia_lc l_nl l turn room), (mib_lc l_nl l turn room)]) 20 12 7 0 (loopOf (codeOf Try.f7) 0)) mo0_lp) n (mo0_tm l_nl l turn room i own_nl own) = some (ex, st') := by
  obtain ⟨hp_, h_⟩ := Tree.run_need hrun_
  simp only [Bool.and_eq_true, decide_eq_true_eq] at hp_
  obtain ⟨e_, e1_, e2_⟩ := hp_
  simp only [Tree.run, Option.some.injEq, Prod.mk.injEq] at h_
  obtain ⟨rfl, rfl⟩ := h_
  subst e_
  subst e1_
  have e3_ : own = [] := by simpa using e2_
  subst e3_
  refine fold_loop0 (B := roundC (bodyF tab (envOf (P := Try.prog) [bringI_pc, cmpr_pc, same_pc, works_pc] [made_ct, add_ct, rules_ct, len_ct] [(mia_lc l_nl l turn room), (mib_lc l_nl l turn room)]) 20 12 7 0 (loopOf (codeOf Try.f7) 0)) mo0_lp) (tm := fun t_ (o_ : List D) => mo0_tm l_nl l turn room t_ o_.isEmpty o_) (s := l.take 60) (g := oStep) (fin := fun o_ => (.exit 0, mo0_x0 l_nl l turn room ((l.take 60).length : Nat) o_.isEmpty o_)) (I := fun k o => o.length ≤ k) (x := []) (by simp) ?_ ?_ (fun _ => by simp)
  · intro k_ x_ hk_ hi_
    have hk2_ : k_ < l.length ∧ k_ < 60 := by simp at hk_; omega
    refine ⟨?_, Nat.le_trans (oStep_length _ _) (by omega)⟩
    have d0_ : decide ((k_ : Int) < 60) = true := decide_eq_true (by omega)
    have d1_ : decide ((k_ : Int) < (l.length : Nat)) = true := decide_eq_true (by omega)
    have d2_ : decide ((0 : Int) ≤ (k_ : Int)) = true := decide_eq_true (by omega)
    have d3_ : fewB x_.length = true := by unfold fewB; exact decide_eq_true (by omega)
    have d4_ : decide ((x_.length + 1) * 80 ≤ 140737488355328) = true := decide_eq_true (by omega)
    have d6_ : decide (x_.length + 1 ≤ 4611686018427387904) = true := decide_eq_true (by omega)
    have d5_ : (l.take 60).getD k_ default = l.getD k_ default := by rw [getD_at hk_, getD_at hk2_.1]; simp
    rw [mo0_round, d5_]
    simp only [Tree.run_ret', Tree.run_need', Tree.run_ite', chk_self, d0_, d1_, d2_, d3_, d4_, d6_, Bool.and_self, decide_true, cond_true, cond_false, Int.toNat_natCast, wrap64 (n := (k_ : Int) + 1) (by omega) (by omega), Bool.and_false]
    generalize l.getD k_ default = d_
    unfold oStep mdR mdD
    cases (Int.tmod (d_.at 0).int 4 == 0) with
    | true =>
      simp only [cond_true]
      cases x_.all (farB (ctlR d_)) with
      | true => simp only [cond_true, emp_snoc]; rfl
      | false => rfl
    | false =>
      simp only [cond_false]
      cases x_.all (farB (datR d_)) with
      | true => simp only [cond_true, emp_snoc]; rfl
      | false => rfl
  · intro x_ hi_
    have d1_ : (decide ((((l.take 60).length : Nat) : Int) < (l.length : Nat)) && decide ((((l.take 60).length : Nat) : Int) < 60)) = false := by simp; omega
    simp only [mo0_round, Tree.run_ite', d1_]
    rfl
noncomputable def mo0_run (l_nl : Bool) (l : List D) (turn room : Int) (st : St) : Tree (Ex × St) := .need (chkSt st (mo0_tm l_nl l turn room (iOf (slotV st 15)) (nlOf (rowsV st 3)) (xsOf (rowsV st 3)))) (mo0_res l_nl l turn room (iOf (slotV st 15)) (nlOf (rowsV st 3)) (xsOf (rowsV st 3)))
noncomputable def mo0_lc (l_nl : Bool) (l : List D) (turn room : Int) : LC Try.prog := LC.of (T := tab) follows (envOf_good _ _ _) 20 12 7 0 Try.f7 Try.func7 (codeOf Try.f7) (loopOf (codeOf Try.f7) 0) (by kernel_rfl) (by kernel_rfl) mo0_lp (mo0_run l_nl l turn room)
  (inner_loops (c := codeOf Try.f7) Try.func7 (by kernel_rfl) (by kernel_rfl))
  (by
    intro st ex st' h
    obtain ⟨hc, h⟩ := Tree.run_need h
    have e := chk_iff.1 hc
    have := mo0_ok l_nl l turn room _ _ _ ex st' h
    rw [← e] at this
    exact this)
end Go.Proofs.Ytgodelllnilcfaa
