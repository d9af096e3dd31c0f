/-
  Functions of the program, by their runs.
  No statement of the seat is proved here. Conditions: none.
-/
import Derived.Test.YtgodelllnilcfaaY25
import Derived.Test.YtgodelllnilcfaaTab09
import Derived.Test.YtgodelllnilcfaaV09
set_option linter.unusedSimpArgs false
set_option linter.unusedVariables false
set_option maxRecDepth 100000
namespace Go.Proofs.Ytgodelllnilcfaa
open Go.Sy Go.RowKit
def delD (x : List D) (n : Nat) : List D := x.take n ++ x.drop (n + 1)
def ctlB (to : Int) (d : D) : Bool := (d.at 0).int == 2 && (d.at 2).int == to
def datB (ver port h0 h1 h2 : Int) (d : D) : Bool := (d.at 0).int == 1 && fits_f (d.at 4).int (d.at 5).int (d.at 6).int (d.at 7).int (d.at 8).int (d.at 9).int (d.at 10).int (d.at 11).int ver port h0 h1 h2
def tblD (nl : Bool) (x : List D) (room : Int) (md : Bool) : Hp := [none, some ⟨.cells [.own 2, .si .i64 room, .sb md], 64, false⟩, some ⟨.rows (.agg [.int .i64, .int .i64, .int .i64, .int .i64, .int .i64, .int .i64, .int .u8, .int .u8, .int .u8, .int .u8, .int .u8, .int .u8, .list (.agg [.int .i64, .int .i64, .int .i64, .int .i64])]) nl x, 35, false⟩]
theorem del_tree (x_nl : Bool) (x : List D) (room : Int) (md : Bool) (rk rpr rto rpo rv rp rb0 rb1 rb2 ri0 ri1 ri2 : Int) (ro_nl : Bool) (ro : List D) : callG tab (envOf (P := Try.prog) [cmpr_pc, chk_pc] [bs_ct, insert_ct] []) 20 12 12 [SV.ref 1 0, SV.agg [SV.si IntKind.i64 rk, SV.si IntKind.i64 rpr, SV.si IntKind.i64 rto, SV.si IntKind.i64 rpo, SV.si IntKind.i64 rv, SV.si IntKind.i64 rp, SV.si IntKind.u8 rb0, SV.si IntKind.u8 rb1, SV.si IntKind.u8 rb2, SV.si IntKind.u8 ri0, SV.si IntKind.u8 ri1, SV.si IntKind.u8 ri2, SV.lst (.agg [.int .i64, .int .i64, .int .i64, .int .i64]) ro_nl ro]] [some ⟨.rows (.agg [.int .i64, .int .i64, .int .i64, .int .i64, .int .i64, .int .i64, .int .u8, .int .u8, .int .u8, .int .u8, .int .u8, .int .u8, .list (.agg [.int .i64, .int .i64, .int .i64, .int .i64])]) x_nl x, 35, false⟩, some ⟨.cells [SV.own 0, SV.si IntKind.i64 room, SV.sb md], 64, false⟩] =
    (Tree.ite (!md) (Tree.ret ((SV.si IntKind.i64 ((1 : Int))), [(Option.some (Blk.mk (Con.rows (Sh.agg [(Sh.int IntKind.i64), (Sh.int IntKind.i64), (Sh.int IntKind.i64), (Sh.int IntKind.i64), (Sh.int IntKind.i64), (Sh.int IntKind.i64), (Sh.int IntKind.u8), (Sh.int IntKind.u8), (Sh.int IntKind.u8), (Sh.int IntKind.u8), (Sh.int IntKind.u8), (Sh.int IntKind.u8), (Sh.list (Sh.agg [(Sh.int IntKind.i64), (Sh.int IntKind.i64), (Sh.int IntKind.i64), (Sh.int IntKind.i64)]))]) (x_nl) (x)) 35 (false))), (Option.some (Blk.mk (Con.cells [(SV.own 0), (SV.si IntKind.i64 (room)), (SV.sb (md))]) 64 (false)))])) (Tree.need (shortB (List.length ro)) (Tree.ite (chk_f rk rpr rto rpo rv rp rb0 rb1 rb2 ri0 ri1 ri2 ro != (0 : Int)) (Tree.ret ((SV.si IntKind.i64 (chk_f rk rpr rto rpo rv rp rb0 rb1 rb2 ri0 ri1 ri2 ro)), [(Option.some (Blk.mk (Con.rows (Sh.agg [(Sh.int IntKind.i64), (Sh.int IntKind.i64), (Sh.int IntKind.i64), (Sh.int IntKind.i64), (Sh.int IntKind.i64), (Sh.int IntKind.i64), (Sh.int IntKind.u8), (Sh.int IntKind.u8), (Sh.int IntKind.u8), (Sh.int IntKind.u8), (Sh.int IntKind.u8), (Sh.int IntKind.u8), (Sh.list (Sh.agg [(Sh.int IntKind.i64), (Sh.int IntKind.i64), (Sh.int IntKind.i64), (Sh.int IntKind.i64)]))]) (x_nl) (x)) 35 (false))), (Option.some (Blk.mk (Con.cells [(SV.own 0), (SV.si IntKind.i64 (room)), (SV.sb (md))]) 64 (false)))])) (Tree.need (shortB (List.length x)) (Tree.ite (!hitB x { k := rk, pr := rpr, to := rto, po := rpo, v := rv, p := rp, b0 := rb0, b1 := rb1, b2 := rb2, i0 := ri0, i1 := ri1, i2 := ri2 }) (Tree.ret ((SV.si IntKind.i64 ((91 : Int))), [(Option.some (Blk.mk (Con.rows (Sh.agg [(Sh.int IntKind.i64), (Sh.int IntKind.i64), (Sh.int IntKind.i64), (Sh.int IntKind.i64), (Sh.int IntKind.i64), (Sh.int IntKind.i64), (Sh.int IntKind.u8), (Sh.int IntKind.u8), (Sh.int IntKind.u8), (Sh.int IntKind.u8), (Sh.int IntKind.u8), (Sh.int IntKind.u8), (Sh.list (Sh.agg [(Sh.int IntKind.i64), (Sh.int IntKind.i64), (Sh.int IntKind.i64), (Sh.int IntKind.i64)]))]) (x_nl) (x)) 35 (false))), (Option.some (Blk.mk (Con.cells [(SV.own 0), (SV.si IntKind.i64 (room)), (SV.sb (md))]) 64 (false)))])) (Tree.need (decide ((0 : Int) ≤ (0 : Int)) && (decide ((0 : Int) ≤ (↑(bsN x { k := rk, pr := rpr, to := rto, po := rpo, v := rv, p := rp, b0 := rb0, b1 := rb1, b2 := rb2, i0 := ri0, i1 := ri1, i2 := ri2 }) : Int)) && (decide ((↑(bsN x { k := rk, pr := rpr, to := rto, po := rpo, v := rv, p := rp, b0 := rb0, b1 := rb1, b2 := rb2, i0 := ri0, i1 := ri1, i2 := ri2 }) : Int) = (↑(bsN x { k := rk, pr := rpr, to := rto, po := rpo, v := rv, p := rp, b0 := rb0, b1 := rb1, b2 := rb2, i0 := ri0, i1 := ri1, i2 := ri2 }) : Int)) && decide ((↑(bsN x { k := rk, pr := rpr, to := rto, po := rpo, v := rv, p := rp, b0 := rb0, b1 := rb1, b2 := rb2, i0 := ri0, i1 := ri1, i2 := ri2 }) : Int) ≤ (↑(List.length x) : Int))))) (Tree.need (decide ((0 : Int) ≤ IntKind.wrap IntKind.i64 ((↑(bsN x { k := rk, pr := rpr, to := rto, po := rpo, v := rv, p := rp, b0 := rb0, b1 := rb1, b2 := rb2, i0 := ri0, i1 := ri1, i2 := ri2 }) : Int) + (1 : Int))) && (decide (IntKind.wrap IntKind.i64 ((↑(bsN x { k := rk, pr := rpr, to := rto, po := rpo, v := rv, p := rp, b0 := rb0, b1 := rb1, b2 := rb2, i0 := ri0, i1 := ri1, i2 := ri2 }) : Int) + (1 : Int)) ≤ (↑(List.length x) : Int)) && decide ((↑(List.length x) : Int) ≤ (↑(List.length x) : Int)))) (Tree.need (decide ((Int.toNat (↑(bsN x { k := rk, pr := rpr, to := rto, po := rpo, v := rv, p := rp, b0 := rb0, b1 := rb1, b2 := rb2, i0 := ri0, i1 := ri1, i2 := ri2 }) : Int) - (0 : Nat) + List.length (List.drop (Int.toNat (IntKind.wrap IntKind.i64 ((↑(bsN x { k := rk, pr := rpr, to := rto, po := rpo, v := rv, p := rp, b0 := rb0, b1 := rb1, b2 := rb2, i0 := ri0, i1 := ri1, i2 := ri2 }) : Int) + (1 : Int)))) (List.take (Int.toNat (↑(List.length x) : Int)) x))) * (80 : Nat) ≤ (140737488355328 : Nat)) && decide (Int.toNat (↑(bsN x { k := rk, pr := rpr, to := rto, po := rpo, v := rv, p := rp, b0 := rb0, b1 := rb1, b2 := rb2, i0 := ri0, i1 := ri1, i2 := ri2 }) : Int) - (0 : Nat) + List.length (List.drop (Int.toNat (IntKind.wrap IntKind.i64 ((↑(bsN x { k := rk, pr := rpr, to := rto, po := rpo, v := rv, p := rp, b0 := rb0, b1 := rb1, b2 := rb2, i0 := ri0, i1 := ri1, i2 := ri2 }) : Int) + (1 : Int)))) (List.take (Int.toNat (↑(List.length x) : Int)) x)) ≤ (4611686018427387904 : Nat))) (Tree.ret ((SV.si IntKind.i64 ((0 : Int))), [Option.none, (Option.some (Blk.mk (Con.cells [(SV.own 2), (SV.si IntKind.i64 (room)), (SV.sb (md))]) 64 (false))), (Option.some (Blk.mk (Con.rows (Sh.agg [(Sh.int IntKind.i64), (Sh.int IntKind.i64), (Sh.int IntKind.i64), (Sh.int IntKind.i64), (Sh.int IntKind.i64), (Sh.int IntKind.i64), (Sh.int IntKind.u8), (Sh.int IntKind.u8), (Sh.int IntKind.u8), (Sh.int IntKind.u8), (Sh.int IntKind.u8), (Sh.int IntKind.u8), (Sh.list (Sh.agg [(Sh.int IntKind.i64), (Sh.int IntKind.i64), (Sh.int IntKind.i64), (Sh.int IntKind.i64)]))]) (x_nl && List.isEmpty (List.drop (Int.toNat (IntKind.wrap IntKind.i64 ((↑(bsN x { k := rk, pr := rpr, to := rto, po := rpo, v := rv, p := rp, b0 := rb0, b1 := rb1, b2 := rb2, i0 := ri0, i1 := ri1, i2 := ri2 }) : Int) + (1 : Int)))) (List.take (Int.toNat (↑(List.length x) : Int)) x))) (List.drop (0 : Nat) (List.take (Int.toNat (↑(bsN x { k := rk, pr := rpr, to := rto, po := rpo, v := rv, p := rp, b0 := rb0, b1 := rb1, b2 := rb2, i0 := ri0, i1 := ri1, i2 := ri2 }) : Int)) x) ++ List.drop (Int.toNat (IntKind.wrap IntKind.i64 ((↑(bsN x { k := rk, pr := rpr, to := rto, po := rpo, v := rv, p := rp, b0 := rb0, b1 := rb1, b2 := rb2, i0 := ri0, i1 := ri1, i2 := ri2 }) : Int) + (1 : Int)))) (List.take (Int.toNat (↑(List.length x) : Int)) x))) 35 (false)))])))))))))) := by kernel_rfl
theorem del_run (x_nl : Bool) (x : List D) (room : Int) (md : Bool) (rk rpr rto rpo rv rp rb0 rb1 rb2 ri0 ri1 ri2 : Int) (ro_nl : Bool) (ro : List D) {r : SV} {H' : Hp} (h : (.need (fewB x.length && fewB ro.length) (.ite (!md) (.ret (.si .i64 1, tblH x_nl x room md)) (.ite (chkR (⟨rk, rpr, rto, rpo, rv, rp, rb0, rb1, rb2, ri0, ri1, ri2⟩ : Rk) ro != 0) (.ret (.si .i64 (chkR (⟨rk, rpr, rto, rpo, rv, rp, rb0, rb1, rb2, ri0, ri1, ri2⟩ : Rk) ro), tblH x_nl x room md)) (.ite (hitB x (⟨rk, rpr, rto, rpo, rv, rp, rb0, rb1, rb2, ri0, ri1, ri2⟩ : Rk)) (.ret (.si .i64 0, tblD (x_nl && (x.drop (bsN x (⟨rk, rpr, rto, rpo, rv, rp, rb0, rb1, rb2, ri0, ri1, ri2⟩ : Rk) + 1)).isEmpty) (delD x (bsN x (⟨rk, rpr, rto, rpo, rv, rp, rb0, rb1, rb2, ri0, ri1, ri2⟩ : Rk))) room md)) (.ret (.si .i64 91, tblH x_nl x room md))))) : Tree (SV × Hp)).run = some (r, H')) : (callG tab (envOf (P := Try.prog) [cmpr_pc, chk_pc] [bs_ct, insert_ct] []) 20 12 12 [SV.ref 1 0, SV.agg [SV.si IntKind.i64 rk, SV.si IntKind.i64 rpr, SV.si IntKind.i64 rto, SV.si IntKind.i64 rpo, SV.si IntKind.i64 rv, SV.si IntKind.i64 rp, SV.si IntKind.u8 rb0, SV.si IntKind.u8 rb1, SV.si IntKind.u8 rb2, SV.si IntKind.u8 ri0, SV.si IntKind.u8 ri1, SV.si IntKind.u8 ri2, SV.lst (.agg [.int .i64, .int .i64, .int .i64, .int .i64]) ro_nl ro]] [some ⟨.rows (.agg [.int .i64, .int .i64, .int .i64, .int .i64, .int .i64, .int .i64, .int .u8, .int .u8, .int .u8, .int .u8, .int .u8, .int .u8, .list (.agg [.int .i64, .int .i64, .int .i64, .int .i64])]) x_nl x, 35, false⟩, some ⟨.cells [SV.own 0, SV.si IntKind.i64 room, SV.sb md], 64, false⟩]).run = some (r, H') := by
  rw [del_tree]
  obtain ⟨hp_, h_⟩ := Tree.run_need h
  simp only [fewB, Bool.and_eq_true, decide_eq_true_eq] at hp_
  obtain ⟨hx_, ho_⟩ := hp_
  rw [← h_]
  have s1_ : shortB x.length = true := decide_eq_true (by omega)
  have s2_ : shortB ro.length = true := decide_eq_true (by omega)
  show _ = Tree.run _
  unfold chkR
  simp only [Tree.run_ret', Tree.run_need', Tree.run_ite', s1_, s2_, cond_true]
  cases md with
  | false => rfl
  | true =>
    simp only [Bool.not_true, cond_false]
    cases (chk_f rk rpr rto rpo rv rp rb0 rb1 rb2 ri0 ri1 ri2 ro != 0) with
    | true => rfl
    | false =>
      simp only [cond_false]
      cases hq_ : hitB x (⟨rk, rpr, rto, rpo, rv, rp, rb0, rb1, rb2, ri0, ri1, ri2⟩ : Rk) with
      | false => rfl
      | true =>
        have hl_ := hit_lt hq_
        have w_ : IntKind.wrap .i64 ((bsN x (⟨rk, rpr, rto, rpo, rv, rp, rb0, rb1, rb2, ri0, ri1, ri2⟩ : Rk) : Int) + 1) = ((bsN x (⟨rk, rpr, rto, rpo, rv, rp, rb0, rb1, rb2, ri0, ri1, ri2⟩ : Rk) + 1 : Nat) : Int) := by rw [wrap64 (by omega) (by omega)]; rfl
        have e1_ : x.take (x.length) = x := List.take_length
        have l1_ : (x.drop (bsN x (⟨rk, rpr, rto, rpo, rv, rp, rb0, rb1, rb2, ri0, ri1, ri2⟩ : Rk) + 1)).length ≤ 1000 := by rw [List.length_drop]; omega
        simp only [Bool.not_true, cond_false, cond_true, w_, Int.toNat_natCast, e1_, List.drop_zero, Nat.sub_zero]
        generalize hk_ : bsN x (⟨rk, rpr, rto, rpo, rv, rp, rb0, rb1, rb2, ri0, ri1, ri2⟩ : Rk) = k_ at *
        have q1_ : decide ((0 : Int) ≤ 0) = true := rfl
        have q2_ : decide ((0 : Int) ≤ (k_ : Int)) = true := decide_eq_true (by omega)
        have q3_ : decide ((k_ : Int) = (k_ : Int)) = true := decide_eq_true rfl
        have q4_ : decide ((k_ : Int) ≤ (x.length : Int)) = true := decide_eq_true (by omega)
        have q5_ : decide ((0 : Int) ≤ ((k_ + 1 : Nat) : Int)) = true := decide_eq_true (by omega)
        have q6_ : decide (((k_ + 1 : Nat) : Int) ≤ (x.length : Int)) = true := decide_eq_true (by omega)
        have q7_ : decide ((x.length : Int) ≤ (x.length : Int)) = true := decide_eq_true (by omega)
        have q8_ : decide ((k_ + (x.drop (k_ + 1)).length) * 80 ≤ 140737488355328) = true := decide_eq_true (by omega)
        have q9_ : decide (k_ + (x.drop (k_ + 1)).length ≤ 4611686018427387904) = true := decide_eq_true (by omega)
        simp only [q1_, q2_, q3_, q4_, q5_, q6_, q7_, q8_, q9_, Bool.and_self, cond_true]
        rfl
def del_tr : List D → Option (Tree (SV × Hp))
  | [.l x_nl x, .i room, .b md, .a [.i rk, .i rpr, .i rto, .i rpo, .i rv, .i rp, .i rb0, .i rb1, .i rb2, .i ri0, .i ri1, .i ri2, .l ro_nl ro]] => some (.need (fewB x.length && fewB ro.length) (.ite (!md) (.ret (.si .i64 1, tblH x_nl x room md)) (.ite (chkR (⟨rk, rpr, rto, rpo, rv, rp, rb0, rb1, rb2, ri0, ri1, ri2⟩ : Rk) ro != 0) (.ret (.si .i64 (chkR (⟨rk, rpr, rto, rpo, rv, rp, rb0, rb1, rb2, ri0, ri1, ri2⟩ : Rk) ro), tblH x_nl x room md)) (.ite (hitB x (⟨rk, rpr, rto, rpo, rv, rp, rb0, rb1, rb2, ri0, ri1, ri2⟩ : Rk)) (.ret (.si .i64 0, tblD (x_nl && (x.drop (bsN x (⟨rk, rpr, rto, rpo, rv, rp, rb0, rb1, rb2, ri0, ri1, ri2⟩ : Rk) + 1)).isEmpty) (delD x (bsN x (⟨rk, rpr, rto, rpo, rv, rp, rb0, rb1, rb2, ri0, ri1, ri2⟩ : Rk))) room md)) (.ret (.si .i64 91, tblH x_nl x room md))))))
  | _ => none
noncomputable def del_ct : Ct Try.prog := Ct.runF (T := tab) follows 20 12 12 [.p 64 [.own 35 (.agg [.int .i64, .int .i64, .int .i64, .int .i64, .int .i64, .int .i64, .int .u8, .int .u8, .int .u8, .int .u8, .int .u8, .int .u8, .list (.agg [.int .i64, .int .i64, .int .i64, .int .i64])]), .d (.int .i64), .d .bool], .d (.agg [(.int .i64), (.int .i64), (.int .i64), (.int .i64), (.int .i64), (.int .i64), (.int .u8), (.int .u8), (.int .u8), (.int .u8), (.int .u8), (.int .u8), (.list (.agg [.int .i64, .int .i64, .int .i64, .int .i64]))])] del_tr (by
  intro ds t r H' ht hr
  unfold del_tr at ht
  split at ht
  · rename_i x_nl x room md rk rpr rto rpo rv rp rb0 rb1 rb2 ri0 ri1 ri2 ro_nl ro
    simp only [Option.some.injEq] at ht
    subst ht
    exact ⟨_, _, _, envOf_good _ _ _, del_run x_nl x room md rk rpr rto rpo rv rp rb0 rb1 rb2 ri0 ri1 ri2 ro_nl ro hr, rfl, rfl⟩
  · cases ht) (enters_of (c := codeOf Try.f12) Try.func12 (by kernel_rfl) (by kernel_rfl))
noncomputable def ixc_tm (s_nl : Bool) (s : List D) (to t8 : Int) : St :=
  ⟨(Tm.at 19 [(0, (Slot.is (SV.lst (Sh.agg [(Sh.int IntKind.i64), (Sh.int IntKind.i64), (Sh.int IntKind.i64), (Sh.int IntKind.i64), (Sh.int IntKind.i64), (Sh.int IntKind.i64), (Sh.int IntKind.u8), (Sh.int IntKind.u8), (Sh.int IntKind.u8), (Sh.int IntKind.u8), (Sh.int IntKind.u8), (Sh.int IntKind.u8), (Sh.list (Sh.agg [(Sh.int IntKind.i64), (Sh.int IntKind.i64), (Sh.int IntKind.i64), (Sh.int IntKind.i64)]))]) (s_nl) (s)))), (1, (Slot.is (SV.clo (Fn.func 56) [] [(SV.ref 0 0)]))), (7, (Slot.is (SV.si IntKind.i64 ((↑(List.length s) : Int))))), (8, (Slot.is (SV.si IntKind.i64 (t8))))]), [(Option.some (Blk.mk (Con.cells [(SV.si IntKind.i64 (to))]) 3 (true)))]⟩
def ixc_lp : LP := { base := 1, mv := [], mask := 387, maskX := 16, nm := 256, nb := [], kl := [], klX := [], ow := [] }
noncomputable def ixc_x0 (s_nl : Bool) (s : List D) (to t8 : Int) : St :=
  ⟨(Tm.at 19 [(4, (Slot.is (SV.si IntKind.i64 (t8))))]), [(Option.some (Blk.mk (Con.cells [(SV.si IntKind.i64 (to))]) 3 (true)))]⟩
noncomputable def ixc_x1 (s_nl : Bool) (s : List D) (to t8 : Int) : St :=
  ⟨(Tm.at 19 []), [(Option.some (Blk.mk (Con.cells [(SV.si IntKind.i64 (to))]) 3 (true)))]⟩
theorem ixc_round (s_nl : Bool) (s : List D) (to t8 : Int) : roundC (bodyF tab (envOf (P := Try.prog) [] [] []) 20 12 76 0 (loopOf (codeOf Try.f76) 0)) ixc_lp (ixc_tm s_nl s to t8) =
    (Tree.ite (decide (t8 < (↑(List.length s) : Int))) (Tree.need (decide ((0 : Int) ≤ t8) && decide (t8 < (↑(List.length s) : Int))) (Tree.ite (D.int (D.at (List.getD s (Int.toNat t8) default) (0 : Nat)) == (2 : Int) && D.int (D.at (List.getD s (Int.toNat t8) default) (2 : Nat)) == to) (Tree.ret (Ex.ret, (ixc_x0 (s_nl) (s) (to) (t8)))) (Tree.ret (Ex.normal, (ixc_tm (s_nl) (s) (to) (IntKind.wrap IntKind.i64 (t8 + (1 : Int)))))))) (Tree.ret ((Ex.exit 0), (ixc_x1 (s_nl) (s) (to) (t8))))) := by kernel_rfl
noncomputable def ixc_res (s_nl : Bool) (s : List D) (to : Int) (t8 : Int) : Tree (Ex × St) := .need (decide (t8 = 0) && shortB s.length) (.ite (s.any (ctlB to)) (.ret (.ret, ixc_x0 s_nl s to (s.findIdx (ctlB to) : Nat))) (.ret (.exit 0, ixc_x1 s_nl s to (s.length : Nat))))
theorem ixc_ok (s_nl : Bool) (s : List D) (to : Int) (t8 : Int) (ex : Ex) (st' : St) (hrun_ : (ixc_res s_nl s to t8).run = some (ex, st')) : ∃ n, iterC (roundC (bodyF tab (envOf (P := Try.prog) [] [] []) 20 12 76 0 (loopOf (codeOf Try.f76) 0)) ixc_lp) n (ixc_tm s_nl s to t8) = some (ex, st') := by
  obtain ⟨hp_, h_⟩ := Tree.run_need hrun_
  simp only [shortB, Bool.and_eq_true, decide_eq_true_eq, beq_iff_eq] at hp_
  obtain ⟨e_, hl_⟩ := hp_
  subst e_
  have sl_ := search_loop0 (B := roundC (bodyF tab (envOf (P := Try.prog) [] [] []) 20 12 76 0 (loopOf (codeOf Try.f76) 0)) ixc_lp) (tm := fun t_ => ixc_tm s_nl s to t_) (s := s) (f := ctlB to) (yes := fun t_ => (.ret, ixc_x0 s_nl s to t_)) (no := (.exit 0, ixc_x1 s_nl s to (s.length : Nat))) ?_ ?_ (fun _ => by simp) (by simp)
  · obtain ⟨m_, hm_⟩ := sl_
    refine ⟨m_, hm_.trans ?_⟩
    rw [Tree.run_ite'] at h_
    revert h_
    cases s.any (ctlB to) <;> exact id
  · intro k_ hk_
    skip
    have d1_ : decide ((k_ : Int) < (s.length : Nat)) = true := by simp; omega
    have d2_ : decide ((0 : Int) ≤ (k_ : Int)) = true := by simp
    simp only [ixc_round, Tree.run_ret', Tree.run_need', Tree.run_ite', d1_, d2_, Bool.and_self, cond_true, Int.toNat_natCast, wrap64 (n := (k_ : Int) + 1) (by omega) (by omega), cond_self']
    all_goals exact bif_some _ _ _
  · skip
    have d1_ : decide (((s.length : Nat) : Int) < (s.length : Nat)) = false := by simp
    simp only [ixc_round, Tree.run_ite', d1_]
    rfl
noncomputable def ixc_run (s_nl : Bool) (s : List D) (to : Int) (st : St) : Tree (Ex × St) := .need (chkSt st (ixc_tm s_nl s to (iOf (slotV st 8)))) (ixc_res s_nl s to (iOf (slotV st 8)))
noncomputable def ixc_lc (s_nl : Bool) (s : List D) (to : Int) : LC Try.prog := LC.of (T := tab) follows (envOf_good _ _ _) 20 12 76 0 Try.f76 Try.func76 (codeOf Try.f76) (loopOf (codeOf Try.f76) 0) (by kernel_rfl) (by kernel_rfl) ixc_lp (ixc_run s_nl s to)
  (inner_loops (c := codeOf Try.f76) Try.func76 (by kernel_rfl) (by kernel_rfl))
  (by
    intro st ex st' h
    obtain ⟨hc, h⟩ := Tree.run_need h
    have e := chk_iff.1 hc
    have := ixc_ok s_nl s to _ ex st' h
    rw [← e] at this
    exact this)
theorem ixfc_tree (s_nl : Bool) (s : List D) (to : Int) : callG tab (envOf (P := Try.prog) [] [] [(ixc_lc s_nl s to)]) 20 12 76 [SV.lst (.agg [.int .i64, .int .i64, .int .i64, .int .i64, .int .i64, .int .i64, .int .u8, .int .u8, .int .u8, .int .u8, .int .u8, .int .u8, .list (.agg [.int .i64, .int .i64, .int .i64, .int .i64])]) s_nl s, SV.clo (.func 56) [] [SV.ref 0 0]] [some ⟨.cells [SV.si IntKind.i64 to], 3, true⟩] =
    (Tree.need (chkSt (ixc_tm s_nl s to (0 : Int)) (ixc_tm s_nl s to (0 : Int))) (Tree.need (decide ((0 : Int) = (0 : Int)) && shortB (List.length s)) (Tree.ite (List.any s (ctlB to)) (Tree.ret ((SV.si IntKind.i64 ((↑(List.findIdx (ctlB to) s) : Int))), [(Option.some (Blk.mk (Con.cells [(SV.si IntKind.i64 (to))]) 3 (true)))])) (Tree.ret ((SV.si IntKind.i64 ((-1 : Int))), [(Option.some (Blk.mk (Con.cells [(SV.si IntKind.i64 (to))]) 3 (true)))]))))) := by kernel_rfl
theorem ixfc_run (s_nl : Bool) (s : List D) (to : Int) {r : SV} {H' : Hp} (h : (.need (shortB s.length) (.ret (.si .i64 (bif s.any (ctlB to) then (s.findIdx (ctlB to) : Nat) else -1), [some ⟨.cells [SV.si IntKind.i64 to], 3, true⟩])) : Tree (SV × Hp)).run = some (r, H')) : (callG tab (envOf (P := Try.prog) [] [] [(ixc_lc s_nl s to)]) 20 12 76 [SV.lst (.agg [.int .i64, .int .i64, .int .i64, .int .i64, .int .i64, .int .i64, .int .u8, .int .u8, .int .u8, .int .u8, .int .u8, .int .u8, .list (.agg [.int .i64, .int .i64, .int .i64, .int .i64])]) s_nl s, SV.clo (.func 56) [] [SV.ref 0 0]] [some ⟨.cells [SV.si IntKind.i64 to], 3, true⟩]).run = some (r, H') := by
  rw [ixfc_tree]
  obtain ⟨hp_, h_⟩ := Tree.run_need h
  simp only [Tree.run, Option.some.injEq, Prod.mk.injEq] at h_
  obtain ⟨rfl, rfl⟩ := h_
  simp only [Tree.run_ret', Tree.run_need', Tree.run_ite', chk_self, hp_, decide_true, Bool.and_self, cond_true]
  cases s.any (ctlB to) <;> rfl
def ixfc_tr : List D → Option (Tree (SV × Hp))
  | [.l s_nl s, .i to] => some (.need (shortB s.length) (.ret (.si .i64 (bif s.any (ctlB to) then (s.findIdx (ctlB to) : Nat) else -1), [some ⟨.cells [SV.si IntKind.i64 to], 3, true⟩])))
  | _ => none
noncomputable def ixfc_ct : Ct Try.prog := Ct.run (T := tab) follows 20 12 76 [.d (.list (.agg [.int .i64, .int .i64, .int .i64, .int .i64, .int .i64, .int .i64, .int .u8, .int .u8, .int .u8, .int .u8, .int .u8, .int .u8, .list (.agg [.int .i64, .int .i64, .int .i64, .int .i64])])), .fn 56 [] [.p 3 [.d (.int .i64)]]] ixfc_tr (by
  intro ds t r H' ht hr
  unfold ixfc_tr at ht
  split at ht
  · rename_i s_nl s to
    simp only [Option.some.injEq] at ht
    subst ht
    exact ⟨_, _, _, envOf_good _ _ _, ixfc_run s_nl s to hr, rfl, rfl⟩
  · cases ht) (enters_of (c := codeOf Try.f76) Try.func76 (by kernel_rfl) (by kernel_rfl))
noncomputable def ixd_tm (s_nl : Bool) (s : List D) (ver port h0 h1 h2 t8 : Int) : St :=
  ⟨(Tm.at 19 [(0, (Slot.is (SV.lst (Sh.agg [(Sh.int IntKind.i64), (Sh.int IntKind.i64), (Sh.int IntKind.i64), (Sh.int IntKind.i64), (Sh.int IntKind.i64), (Sh.int IntKind.i64), (Sh.int IntKind.u8), (Sh.int IntKind.u8), (Sh.int IntKind.u8), (Sh.int IntKind.u8), (Sh.int IntKind.u8), (Sh.int IntKind.u8), (Sh.list (Sh.agg [(Sh.int IntKind.i64), (Sh.int IntKind.i64), (Sh.int IntKind.i64), (Sh.int IntKind.i64)]))]) (s_nl) (s)))), (1, (Slot.is (SV.clo (Fn.func 53) [] [(SV.ref 0 0), (SV.ref 1 0), (SV.ref 2 0)]))), (7, (Slot.is (SV.si IntKind.i64 ((↑(List.length s) : Int))))), (8, (Slot.is (SV.si IntKind.i64 (t8))))]), [(Option.some (Blk.mk (Con.cells [(SV.si IntKind.i64 (ver))]) 3 (true))), (Option.some (Blk.mk (Con.cells [(SV.si IntKind.i64 (port))]) 3 (true))), (Option.some (Blk.mk (Con.cells [(SV.si IntKind.u8 (h0)), (SV.si IntKind.u8 (h1)), (SV.si IntKind.u8 (h2))]) 25 (true)))]⟩
def ixd_lp : LP := { base := 3, mv := [], mask := 387, maskX := 16, nm := 256, nb := [], kl := [], klX := [], ow := [] }
noncomputable def ixd_x0 (s_nl : Bool) (s : List D) (ver port h0 h1 h2 t8 : Int) : St :=
  ⟨(Tm.at 19 [(4, (Slot.is (SV.si IntKind.i64 (t8))))]), [(Option.some (Blk.mk (Con.cells [(SV.si IntKind.i64 (ver))]) 3 (true))), (Option.some (Blk.mk (Con.cells [(SV.si IntKind.i64 (port))]) 3 (true))), (Option.some (Blk.mk (Con.cells [(SV.si IntKind.u8 (h0)), (SV.si IntKind.u8 (h1)), (SV.si IntKind.u8 (h2))]) 25 (true)))]⟩
noncomputable def ixd_x1 (s_nl : Bool) (s : List D) (ver port h0 h1 h2 t8 : Int) : St :=
  ⟨(Tm.at 19 []), [(Option.some (Blk.mk (Con.cells [(SV.si IntKind.i64 (ver))]) 3 (true))), (Option.some (Blk.mk (Con.cells [(SV.si IntKind.i64 (port))]) 3 (true))), (Option.some (Blk.mk (Con.cells [(SV.si IntKind.u8 (h0)), (SV.si IntKind.u8 (h1)), (SV.si IntKind.u8 (h2))]) 25 (true)))]⟩
theorem ixd_round (s_nl : Bool) (s : List D) (ver port h0 h1 h2 t8 : Int) : roundC (bodyF tab (envOf (P := Try.prog) [fits_pc] [] []) 20 12 76 0 (loopOf (codeOf Try.f76) 0)) ixd_lp (ixd_tm s_nl s ver port h0 h1 h2 t8) =
    (Tree.ite (decide (t8 < (↑(List.length s) : Int))) (Tree.need (decide ((0 : Int) ≤ t8) && decide (t8 < (↑(List.length s) : Int))) (Tree.need (bif D.int (D.at (List.getD s (Int.toNat t8) default) (0 : Nat)) == (1 : Int) then true && true else true) (Tree.ite (D.int (D.at (List.getD s (Int.toNat t8) default) (0 : Nat)) == (1 : Int) && fits_f (D.int (D.at (List.getD s (Int.toNat t8) default) (4 : Nat))) (D.int (D.at (List.getD s (Int.toNat t8) default) (5 : Nat))) (D.int (D.at (List.getD s (Int.toNat t8) default) (6 : Nat))) (D.int (D.at (List.getD s (Int.toNat t8) default) (7 : Nat))) (D.int (D.at (List.getD s (Int.toNat t8) default) (8 : Nat))) (D.int (D.at (List.getD s (Int.toNat t8) default) (9 : Nat))) (D.int (D.at (List.getD s (Int.toNat t8) default) (10 : Nat))) (D.int (D.at (List.getD s (Int.toNat t8) default) (11 : Nat))) ver port h0 h1 h2) (Tree.ret (Ex.ret, (ixd_x0 (s_nl) (s) (ver) (port) (h0) (h1) (h2) (t8)))) (Tree.ret (Ex.normal, (ixd_tm (s_nl) (s) (ver) (port) (h0) (h1) (h2) (IntKind.wrap IntKind.i64 (t8 + (1 : Int))))))))) (Tree.ret ((Ex.exit 0), (ixd_x1 (s_nl) (s) (ver) (port) (h0) (h1) (h2) (t8))))) := by kernel_rfl
noncomputable def ixd_res (s_nl : Bool) (s : List D) (ver port h0 h1 h2 : Int) (t8 : Int) : Tree (Ex × St) := .need (decide (t8 = 0) && shortB s.length) (.ite (s.any (datB ver port h0 h1 h2)) (.ret (.ret, ixd_x0 s_nl s ver port h0 h1 h2 (s.findIdx (datB ver port h0 h1 h2) : Nat))) (.ret (.exit 0, ixd_x1 s_nl s ver port h0 h1 h2 (s.length : Nat))))
theorem ixd_ok (s_nl : Bool) (s : List D) (ver port h0 h1 h2 : Int) (t8 : Int) (ex : Ex) (st' : St) (hrun_ : (ixd_res s_nl s ver port h0 h1 h2 t8).run = some (ex, st')) : ∃ n, iterC (roundC (bodyF tab (envOf (P := Try.prog) [fits_pc] [] []) 20 12 76 0 (loopOf (codeOf Try.f76) 0)) ixd_lp) n (ixd_tm s_nl s ver port h0 h1 h2 t8) = some (ex, st') := by
  obtain ⟨hp_, h_⟩ := Tree.run_need hrun_
  simp only [shortB, Bool.and_eq_true, decide_eq_true_eq, beq_iff_eq] at hp_
  obtain ⟨e_, hl_⟩ := hp_
  subst e_
  have sl_ := search_loop0 (B := roundC (bodyF tab (envOf (P := Try.prog) [fits_pc] [] []) 20 12 76 0 (loopOf (codeOf Try.f76) 0)) ixd_lp) (tm := fun t_ => ixd_tm s_nl s ver port h0 h1 h2 t_) (s := s) (f := datB ver port h0 h1 h2) (yes := fun t_ => (.ret, ixd_x0 s_nl s ver port h0 h1 h2 t_)) (no := (.exit 0, ixd_x1 s_nl s ver port h0 h1 h2 (s.length : Nat))) ?_ ?_ (fun _ => by simp) (by simp)
  · obtain ⟨m_, hm_⟩ := sl_
    refine ⟨m_, hm_.trans ?_⟩
    rw [Tree.run_ite'] at h_
    revert h_
    cases s.any (datB ver port h0 h1 h2) <;> exact id
  · intro k_ hk_
    skip
    have d1_ : decide ((k_ : Int) < (s.length : Nat)) = true := by simp; omega
    have d2_ : decide ((0 : Int) ≤ (k_ : Int)) = true := by simp
    simp only [ixd_round, Tree.run_ret', Tree.run_need', Tree.run_ite', d1_, d2_, Bool.and_self, cond_true, Int.toNat_natCast, wrap64 (n := (k_ : Int) + 1) (by omega) (by omega), cond_self']
    all_goals exact bif_some _ _ _
  · skip
    have d1_ : decide (((s.length : Nat) : Int) < (s.length : Nat)) = false := by simp
    simp only [ixd_round, Tree.run_ite', d1_]
    rfl
noncomputable def ixd_run (s_nl : Bool) (s : List D) (ver port h0 h1 h2 : Int) (st : St) : Tree (Ex × St) := .need (chkSt st (ixd_tm s_nl s ver port h0 h1 h2 (iOf (slotV st 8)))) (ixd_res s_nl s ver port h0 h1 h2 (iOf (slotV st 8)))
noncomputable def ixd_lc (s_nl : Bool) (s : List D) (ver port h0 h1 h2 : Int) : LC Try.prog := LC.of (T := tab) follows (envOf_good _ _ _) 20 12 76 0 Try.f76 Try.func76 (codeOf Try.f76) (loopOf (codeOf Try.f76) 0) (by kernel_rfl) (by kernel_rfl) ixd_lp (ixd_run s_nl s ver port h0 h1 h2)
  (inner_loops (c := codeOf Try.f76) Try.func76 (by kernel_rfl) (by kernel_rfl))
  (by
    intro st ex st' h
    obtain ⟨hc, h⟩ := Tree.run_need h
    have e := chk_iff.1 hc
    have := ixd_ok s_nl s ver port h0 h1 h2 _ ex st' h
    rw [← e] at this
    exact this)
theorem ixfd_tree (s_nl : Bool) (s : List D) (ver port h0 h1 h2 : Int) : callG tab (envOf (P := Try.prog) [fits_pc] [] [(ixd_lc s_nl s ver port h0 h1 h2)]) 20 12 76 [SV.lst (.agg [.int .i64, .int .i64, .int .i64, .int .i64, .int .i64, .int .i64, .int .u8, .int .u8, .int .u8, .int .u8, .int .u8, .int .u8, .list (.agg [.int .i64, .int .i64, .int .i64, .int .i64])]) s_nl s, SV.clo (.func 53) [] [SV.ref 0 0, SV.ref 1 0, SV.ref 2 0]] [some ⟨.cells [SV.si IntKind.i64 ver], 3, true⟩, some ⟨.cells [SV.si IntKind.i64 port], 3, true⟩, some ⟨.cells [SV.si IntKind.u8 h0, SV.si IntKind.u8 h1, SV.si IntKind.u8 h2], 25, true⟩] =
    (Tree.need (chkSt (ixd_tm s_nl s ver port h0 h1 h2 (0 : Int)) (ixd_tm s_nl s ver port h0 h1 h2 (0 : Int))) (Tree.need (decide ((0 : Int) = (0 : Int)) && shortB (List.length s)) (Tree.ite (List.any s (datB ver port h0 h1 h2)) (Tree.ret ((SV.si IntKind.i64 ((↑(List.findIdx (datB ver port h0 h1 h2) s) : Int))), [(Option.some (Blk.mk (Con.cells [(SV.si IntKind.i64 (ver))]) 3 (true))), (Option.some (Blk.mk (Con.cells [(SV.si IntKind.i64 (port))]) 3 (true))), (Option.some (Blk.mk (Con.cells [(SV.si IntKind.u8 (h0)), (SV.si IntKind.u8 (h1)), (SV.si IntKind.u8 (h2))]) 25 (true)))])) (Tree.ret ((SV.si IntKind.i64 ((-1 : Int))), [(Option.some (Blk.mk (Con.cells [(SV.si IntKind.i64 (ver))]) 3 (true))), (Option.some (Blk.mk (Con.cells [(SV.si IntKind.i64 (port))]) 3 (true))), (Option.some (Blk.mk (Con.cells [(SV.si IntKind.u8 (h0)), (SV.si IntKind.u8 (h1)), (SV.si IntKind.u8 (h2))]) 25 (true)))]))))) := by kernel_rfl
theorem ixfd_run (s_nl : Bool) (s : List D) (ver port h0 h1 h2 : Int) {r : SV} {H' : Hp} (h : (.need (shortB s.length) (.ret (.si .i64 (bif s.any (datB ver port h0 h1 h2) then (s.findIdx (datB ver port h0 h1 h2) : Nat) else -1), [some ⟨.cells [SV.si IntKind.i64 ver], 3, true⟩, some ⟨.cells [SV.si IntKind.i64 port], 3, true⟩, some ⟨.cells [SV.si IntKind.u8 h0, SV.si IntKind.u8 h1, SV.si IntKind.u8 h2], 25, true⟩])) : Tree (SV × Hp)).run = some (r, H')) : (callG tab (envOf (P := Try.prog) [fits_pc] [] [(ixd_lc s_nl s ver port h0 h1 h2)]) 20 12 76 [SV.lst (.agg [.int .i64, .int .i64, .int .i64, .int .i64, .int .i64, .int .i64, .int .u8, .int .u8, .int .u8, .int .u8, .int .u8, .int .u8, .list (.agg [.int .i64, .int .i64, .int .i64, .int .i64])]) s_nl s, SV.clo (.func 53) [] [SV.ref 0 0, SV.ref 1 0, SV.ref 2 0]] [some ⟨.cells [SV.si IntKind.i64 ver], 3, true⟩, some ⟨.cells [SV.si IntKind.i64 port], 3, true⟩, some ⟨.cells [SV.si IntKind.u8 h0, SV.si IntKind.u8 h1, SV.si IntKind.u8 h2], 25, true⟩]).run = some (r, H') := by
  rw [ixfd_tree]
  obtain ⟨hp_, h_⟩ := Tree.run_need h
  simp only [Tree.run, Option.some.injEq, Prod.mk.injEq] at h_
  obtain ⟨rfl, rfl⟩ := h_
  simp only [Tree.run_ret', Tree.run_need', Tree.run_ite', chk_self, hp_, decide_true, Bool.and_self, cond_true]
  cases s.any (datB ver port h0 h1 h2) <;> rfl
def ixfd_tr : List D → Option (Tree (SV × Hp))
  | [.l s_nl s, .i ver, .i port, .i h0, .i h1, .i h2] => some (.need (shortB s.length) (.ret (.si .i64 (bif s.any (datB ver port h0 h1 h2) then (s.findIdx (datB ver port h0 h1 h2) : Nat) else -1), [some ⟨.cells [SV.si IntKind.i64 ver], 3, true⟩, some ⟨.cells [SV.si IntKind.i64 port], 3, true⟩, some ⟨.cells [SV.si IntKind.u8 h0, SV.si IntKind.u8 h1, SV.si IntKind.u8 h2], 25, true⟩])))
  | _ => none
noncomputable def ixfd_ct : Ct Try.prog := Ct.run (T := tab) follows 20 12 76 [.d (.list (.agg [.int .i64, .int .i64, .int .i64, .int .i64, .int .i64, .int .i64, .int .u8, .int .u8, .int .u8, .int .u8, .int .u8, .int .u8, .list (.agg [.int .i64, .int .i64, .int .i64, .int .i64])])), .fn 53 [] [.p 3 [.d (.int .i64)], .p 3 [.d (.int .i64)], .p 25 [.d (.int .u8), .d (.int .u8), .d (.int .u8)]]] ixfd_tr (by
  intro ds t r H' ht hr
  unfold ixfd_tr at ht
  split at ht
  · rename_i s_nl s ver port h0 h1 h2
    simp only [Option.some.injEq] at ht
    subst ht
    exact ⟨_, _, _, envOf_good _ _ _, ixfd_run s_nl s ver port h0 h1 h2 hr, rfl, rfl⟩
  · cases ht) (enters_of (c := codeOf Try.f76) Try.func76 (by kernel_rfl) (by kernel_rfl))
/-- A rule's words, its outputs elsewhere. -/
def rowS (d : D) (o : SV) : SV := .agg [.si .i64 (d.at 0).int, .si .i64 (d.at 1).int, .si .i64 (d.at 2).int, .si .i64 (d.at 3).int, .si .i64 (d.at 4).int, .si .i64 (d.at 5).int, .si .u8 (d.at 6).int, .si .u8 (d.at 7).int, .si .u8 (d.at 8).int, .si .u8 (d.at 9).int, .si .u8 (d.at 10).int, .si .u8 (d.at 11).int, o]
def dataOwn (d : D) : Bool := (d.at 0).int != 1 || (!(d.at 12).nl && fewB (d.at 12).xs.length)
def noRule : SV := .agg [.si .i64 0, .si .i64 0, .si .i64 0, .si .i64 0, .si .i64 0, .si .i64 0, .si .u8 0, .si .u8 0, .si .u8 0, .si .u8 0, .si .u8 0, .si .u8 0, .val (.slice none 0 0)]
theorem idx_lt (b : Bool) (n : Nat) : decide ((bif b then (n : Int) else -1) < 0) = !b := by
  cases b with
  | true => exact decide_eq_false (by simp only [cond_true]; omega)
  | false => rfl
theorem control_tree (x_nl : Bool) (x : List D) (room : Int) (md : Bool) (to : Int) : callG tab (envOf (P := Try.prog) [] [ixfc_ct] []) 20 12 18 [SV.ref 1 0, SV.si IntKind.i64 to] [some ⟨.rows (.agg [.int .i64, .int .i64, .int .i64, .int .i64, .int .i64, .int .i64, .int .u8, .int .u8, .int .u8, .int .u8, .int .u8, .int .u8, .list (.agg [.int .i64, .int .i64, .int .i64, .int .i64])]) x_nl x, 35, true⟩, some ⟨.cells [SV.own 0, SV.si IntKind.i64 room, SV.sb md], 64, true⟩] =
    (Tree.ite (!md) (Tree.ret ((SV.tup [(SV.si IntKind.i64 ((0 : Int))), (SV.sb (false))]), [(Option.some (Blk.mk (Con.rows (Sh.agg [(Sh.int IntKind.i64), (Sh.int IntKind.i64), (Sh.int IntKind.i64), (Sh.int IntKind.i64), (Sh.int IntKind.i64), (Sh.int IntKind.i64), (Sh.int IntKind.u8), (Sh.int IntKind.u8), (Sh.int IntKind.u8), (Sh.int IntKind.u8), (Sh.int IntKind.u8), (Sh.int IntKind.u8), (Sh.list (Sh.agg [(Sh.int IntKind.i64), (Sh.int IntKind.i64), (Sh.int IntKind.i64), (Sh.int IntKind.i64)]))]) (x_nl) (x)) 35 (true))), (Option.some (Blk.mk (Con.cells [(SV.own 0), (SV.si IntKind.i64 (room)), (SV.sb (md))]) 64 (true)))])) (Tree.need (shortB (List.length x)) (Tree.ite (decide ((bif List.any x (ctlB to) then (↑(List.findIdx (ctlB to) x) : Int) else (-1 : Int)) < (0 : Int))) (Tree.ret ((SV.tup [(SV.si IntKind.i64 ((0 : Int))), (SV.sb (false))]), [(Option.some (Blk.mk (Con.rows (Sh.agg [(Sh.int IntKind.i64), (Sh.int IntKind.i64), (Sh.int IntKind.i64), (Sh.int IntKind.i64), (Sh.int IntKind.i64), (Sh.int IntKind.i64), (Sh.int IntKind.u8), (Sh.int IntKind.u8), (Sh.int IntKind.u8), (Sh.int IntKind.u8), (Sh.int IntKind.u8), (Sh.int IntKind.u8), (Sh.list (Sh.agg [(Sh.int IntKind.i64), (Sh.int IntKind.i64), (Sh.int IntKind.i64), (Sh.int IntKind.i64)]))]) (x_nl) (x)) 35 (true))), (Option.some (Blk.mk (Con.cells [(SV.own 0), (SV.si IntKind.i64 (room)), (SV.sb (md))]) 64 (true)))])) (Tree.need (decide ((0 : Int) ≤ bif List.any x (ctlB to) then (↑(List.findIdx (ctlB to) x) : Int) else (-1 : Int)) && decide ((bif List.any x (ctlB to) then (↑(List.findIdx (ctlB to) x) : Int) else (-1 : Int)) < (↑(List.length x) : Int))) (Tree.ite (D.nl (D.at (List.getD x (Int.toNat (bif List.any x (ctlB to) then (↑(List.findIdx (ctlB to) x) : Int) else (-1 : Int))) default) (12 : Nat))) (Tree.ret ((SV.tup [(SV.si IntKind.i64 (D.int (D.at (List.getD x (Int.toNat (bif List.any x (ctlB to) then (↑(List.findIdx (ctlB to) x) : Int) else (-1 : Int))) default) (3 : Nat)))), (SV.sb (true))]), [(Option.some (Blk.mk (Con.rows (Sh.agg [(Sh.int IntKind.i64), (Sh.int IntKind.i64), (Sh.int IntKind.i64), (Sh.int IntKind.i64), (Sh.int IntKind.i64), (Sh.int IntKind.i64), (Sh.int IntKind.u8), (Sh.int IntKind.u8), (Sh.int IntKind.u8), (Sh.int IntKind.u8), (Sh.int IntKind.u8), (Sh.int IntKind.u8), (Sh.list (Sh.agg [(Sh.int IntKind.i64), (Sh.int IntKind.i64), (Sh.int IntKind.i64), (Sh.int IntKind.i64)]))]) (x_nl) (x)) 35 (true))), (Option.some (Blk.mk (Con.cells [(SV.own 0), (SV.si IntKind.i64 (room)), (SV.sb (md))]) 64 (true)))])) (Tree.need (decide (List.length (D.xs (D.at (List.getD x (Int.toNat (bif List.any x (ctlB to) then (↑(List.findIdx (ctlB to) x) : Int) else (-1 : Int))) default) (12 : Nat))) * (32 : Nat) ≤ (140737488355328 : Nat)) && decide (List.length (D.xs (D.at (List.getD x (Int.toNat (bif List.any x (ctlB to) then (↑(List.findIdx (ctlB to) x) : Int) else (-1 : Int))) default) (12 : Nat))) ≤ (4611686018427387904 : Nat))) (Tree.ret ((SV.tup [(SV.si IntKind.i64 (D.int (D.at (List.getD x (Int.toNat (bif List.any x (ctlB to) then (↑(List.findIdx (ctlB to) x) : Int) else (-1 : Int))) default) (3 : Nat)))), (SV.sb (true))]), [(Option.some (Blk.mk (Con.rows (Sh.agg [(Sh.int IntKind.i64), (Sh.int IntKind.i64), (Sh.int IntKind.i64), (Sh.int IntKind.i64), (Sh.int IntKind.i64), (Sh.int IntKind.i64), (Sh.int IntKind.u8), (Sh.int IntKind.u8), (Sh.int IntKind.u8), (Sh.int IntKind.u8), (Sh.int IntKind.u8), (Sh.int IntKind.u8), (Sh.list (Sh.agg [(Sh.int IntKind.i64), (Sh.int IntKind.i64), (Sh.int IntKind.i64), (Sh.int IntKind.i64)]))]) (x_nl) (x)) 35 (true))), (Option.some (Blk.mk (Con.cells [(SV.own 0), (SV.si IntKind.i64 (room)), (SV.sb (md))]) 64 (true)))])))))))) := by kernel_rfl
theorem control_run (x_nl : Bool) (x : List D) (room : Int) (md : Bool) (to : Int) {r : SV} {H' : Hp} (h : (.need (fewB x.length && x.all outsFew) (.ret (.tup [.si .i64 (bif md && x.any (ctlB to) then ((x.getD (x.findIdx (ctlB to)) default).at 3).int else 0), .sb (md && x.any (ctlB to))], [some ⟨.rows (.agg [.int .i64, .int .i64, .int .i64, .int .i64, .int .i64, .int .i64, .int .u8, .int .u8, .int .u8, .int .u8, .int .u8, .int .u8, .list (.agg [.int .i64, .int .i64, .int .i64, .int .i64])]) x_nl x, 35, true⟩, some ⟨.cells [SV.own 0, SV.si IntKind.i64 room, SV.sb md], 64, true⟩])) : Tree (SV × Hp)).run = some (r, H')) : (callG tab (envOf (P := Try.prog) [] [ixfc_ct] []) 20 12 18 [SV.ref 1 0, SV.si IntKind.i64 to] [some ⟨.rows (.agg [.int .i64, .int .i64, .int .i64, .int .i64, .int .i64, .int .i64, .int .u8, .int .u8, .int .u8, .int .u8, .int .u8, .int .u8, .list (.agg [.int .i64, .int .i64, .int .i64, .int .i64])]) x_nl x, 35, true⟩, some ⟨.cells [SV.own 0, SV.si IntKind.i64 room, SV.sb md], 64, true⟩]).run = some (r, H') := by
  rw [control_tree]
  obtain ⟨hp_, h_⟩ := Tree.run_need h
  simp only [Bool.and_eq_true] at hp_
  obtain ⟨hx_, ho_⟩ := hp_
  simp only [Tree.run, Option.some.injEq, Prod.mk.injEq] at h_
  obtain ⟨rfl, rfl⟩ := h_
  have hx2_ : x.length ≤ 1000 := by simpa [fewB] using hx_
  have s1_ : shortB x.length = true := decide_eq_true (by omega)
  simp only [Tree.run_ret', Tree.run_need', Tree.run_ite', s1_, cond_true, idx_lt]
  cases md with
  | false => rfl
  | true =>
    cases ha_ : x.any (ctlB to) with
    | false => rfl
    | true =>
      have hi_ := any_idx ha_
      have q1_ : decide ((0 : Int) ≤ ((x.findIdx (ctlB to) : Nat) : Int)) = true := decide_eq_true (by omega)
      have q2_ : decide (((x.findIdx (ctlB to) : Nat) : Int) < (x.length : Int)) = true := decide_eq_true (by omega)
      have q3_ := List.all_eq_true.1 ho_ (x.getD (x.findIdx (ctlB to)) default) (by rw [getD_at hi_]; exact List.getElem_mem _)
      simp only [Bool.not_true, cond_false, cond_true, q1_, q2_, Bool.and_self, Int.toNat_natCast]
      unfold outsFew at q3_
      cases hn_ : ((x.getD (x.findIdx (ctlB to)) default).at 12).nl with
      | true => rfl
      | false =>
        rw [hn_] at q3_
        simp only [Bool.false_or, fewB, decide_eq_true_eq] at q3_
        have q4_ : decide (((x.getD (x.findIdx (ctlB to)) default).at 12).xs.length * 32 ≤ 140737488355328) = true := decide_eq_true (by omega)
        have q5_ : decide (((x.getD (x.findIdx (ctlB to)) default).at 12).xs.length ≤ 4611686018427387904) = true := decide_eq_true (by omega)
        simp only [q4_, q5_, Bool.and_self, cond_true, cond_false]
def control_tr : List D → Option (Tree (SV × Hp))
  | [.l x_nl x, .i room, .b md, .i to] => some (.need (fewB x.length && x.all outsFew) (.ret (.tup [.si .i64 (bif md && x.any (ctlB to) then ((x.getD (x.findIdx (ctlB to)) default).at 3).int else 0), .sb (md && x.any (ctlB to))], [some ⟨.rows (.agg [.int .i64, .int .i64, .int .i64, .int .i64, .int .i64, .int .i64, .int .u8, .int .u8, .int .u8, .int .u8, .int .u8, .int .u8, .list (.agg [.int .i64, .int .i64, .int .i64, .int .i64])]) x_nl x, 35, true⟩, some ⟨.cells [SV.own 0, SV.si IntKind.i64 room, SV.sb md], 64, true⟩])))
  | _ => none
noncomputable def control_ct : Ct Try.prog := Ct.run (T := tab) follows 20 12 18 [.p 64 [.own 35 (.agg [.int .i64, .int .i64, .int .i64, .int .i64, .int .i64, .int .i64, .int .u8, .int .u8, .int .u8, .int .u8, .int .u8, .int .u8, .list (.agg [.int .i64, .int .i64, .int .i64, .int .i64])]), .d (.int .i64), .d .bool], .d (.int .i64)] control_tr (by
  intro ds t r H' ht hr
  unfold control_tr at ht
  split at ht
  · rename_i x_nl x room md to
    simp only [Option.some.injEq] at ht
    subst ht
    exact ⟨_, _, _, envOf_good _ _ _, control_run x_nl x room md to hr, rfl, rfl⟩
  · cases ht) (enters_of (c := codeOf Try.f18) Try.func18 (by kernel_rfl) (by kernel_rfl))
theorem data_tree (x_nl : Bool) (x : List D) (room : Int) (md : Bool) (ver port h0 h1 h2 : Int) : callG tab (envOf (P := Try.prog) [] [ixfd_ct] []) 20 12 15 [SV.ref 1 0, SV.si IntKind.i64 ver, SV.si IntKind.i64 port, SV.agg [SV.si IntKind.u8 h0, SV.si IntKind.u8 h1, SV.si IntKind.u8 h2]] [some ⟨.rows (.agg [.int .i64, .int .i64, .int .i64, .int .i64, .int .i64, .int .i64, .int .u8, .int .u8, .int .u8, .int .u8, .int .u8, .int .u8, .list (.agg [.int .i64, .int .i64, .int .i64, .int .i64])]) x_nl x, 35, true⟩, some ⟨.cells [SV.own 0, SV.si IntKind.i64 room, SV.sb md], 64, true⟩] =
    (Tree.ite (!md) (Tree.ret ((SV.tup [(SV.agg [(SV.si IntKind.i64 ((0 : Int))), (SV.si IntKind.i64 ((0 : Int))), (SV.si IntKind.i64 ((0 : Int))), (SV.si IntKind.i64 ((0 : Int))), (SV.si IntKind.i64 ((0 : Int))), (SV.si IntKind.i64 ((0 : Int))), (SV.si IntKind.u8 ((0 : Int))), (SV.si IntKind.u8 ((0 : Int))), (SV.si IntKind.u8 ((0 : Int))), (SV.si IntKind.u8 ((0 : Int))), (SV.si IntKind.u8 ((0 : Int))), (SV.si IntKind.u8 ((0 : Int))), (SV.val (Value.slice none (nat_lit 0) (nat_lit 0)))]), (SV.sb (false))]), [(Option.some (Blk.mk (Con.rows (Sh.agg [(Sh.int IntKind.i64), (Sh.int IntKind.i64), (Sh.int IntKind.i64), (Sh.int IntKind.i64), (Sh.int IntKind.i64), (Sh.int IntKind.i64), (Sh.int IntKind.u8), (Sh.int IntKind.u8), (Sh.int IntKind.u8), (Sh.int IntKind.u8), (Sh.int IntKind.u8), (Sh.int IntKind.u8), (Sh.list (Sh.agg [(Sh.int IntKind.i64), (Sh.int IntKind.i64), (Sh.int IntKind.i64), (Sh.int IntKind.i64)]))]) (x_nl) (x)) 35 (true))), (Option.some (Blk.mk (Con.cells [(SV.own 0), (SV.si IntKind.i64 (room)), (SV.sb (md))]) 64 (true)))])) (Tree.need (shortB (List.length x)) (Tree.ite (decide ((bif List.any x (datB ver port h0 h1 h2) then (↑(List.findIdx (datB ver port h0 h1 h2) x) : Int) else (-1 : Int)) < (0 : Int))) (Tree.ret ((SV.tup [(SV.agg [(SV.si IntKind.i64 ((0 : Int))), (SV.si IntKind.i64 ((0 : Int))), (SV.si IntKind.i64 ((0 : Int))), (SV.si IntKind.i64 ((0 : Int))), (SV.si IntKind.i64 ((0 : Int))), (SV.si IntKind.i64 ((0 : Int))), (SV.si IntKind.u8 ((0 : Int))), (SV.si IntKind.u8 ((0 : Int))), (SV.si IntKind.u8 ((0 : Int))), (SV.si IntKind.u8 ((0 : Int))), (SV.si IntKind.u8 ((0 : Int))), (SV.si IntKind.u8 ((0 : Int))), (SV.val (Value.slice none (nat_lit 0) (nat_lit 0)))]), (SV.sb (false))]), [(Option.some (Blk.mk (Con.rows (Sh.agg [(Sh.int IntKind.i64), (Sh.int IntKind.i64), (Sh.int IntKind.i64), (Sh.int IntKind.i64), (Sh.int IntKind.i64), (Sh.int IntKind.i64), (Sh.int IntKind.u8), (Sh.int IntKind.u8), (Sh.int IntKind.u8), (Sh.int IntKind.u8), (Sh.int IntKind.u8), (Sh.int IntKind.u8), (Sh.list (Sh.agg [(Sh.int IntKind.i64), (Sh.int IntKind.i64), (Sh.int IntKind.i64), (Sh.int IntKind.i64)]))]) (x_nl) (x)) 35 (true))), (Option.some (Blk.mk (Con.cells [(SV.own 0), (SV.si IntKind.i64 (room)), (SV.sb (md))]) 64 (true)))])) (Tree.need (decide ((0 : Int) ≤ bif List.any x (datB ver port h0 h1 h2) then (↑(List.findIdx (datB ver port h0 h1 h2) x) : Int) else (-1 : Int)) && decide ((bif List.any x (datB ver port h0 h1 h2) then (↑(List.findIdx (datB ver port h0 h1 h2) x) : Int) else (-1 : Int)) < (↑(List.length x) : Int))) (Tree.ite (D.nl (D.at (List.getD x (Int.toNat (bif List.any x (datB ver port h0 h1 h2) then (↑(List.findIdx (datB ver port h0 h1 h2) x) : Int) else (-1 : Int))) default) (12 : Nat))) (Tree.ret ((SV.tup [(SV.agg [(SV.si IntKind.i64 (D.int (D.at (List.getD x (Int.toNat (bif List.any x (datB ver port h0 h1 h2) then (↑(List.findIdx (datB ver port h0 h1 h2) x) : Int) else (-1 : Int))) default) (0 : Nat)))), (SV.si IntKind.i64 (D.int (D.at (List.getD x (Int.toNat (bif List.any x (datB ver port h0 h1 h2) then (↑(List.findIdx (datB ver port h0 h1 h2) x) : Int) else (-1 : Int))) default) (1 : Nat)))), (SV.si IntKind.i64 (D.int (D.at (List.getD x (Int.toNat (bif List.any x (datB ver port h0 h1 h2) then (↑(List.findIdx (datB ver port h0 h1 h2) x) : Int) else (-1 : Int))) default) (2 : Nat)))), (SV.si IntKind.i64 (D.int (D.at (List.getD x (Int.toNat (bif List.any x (datB ver port h0 h1 h2) then (↑(List.findIdx (datB ver port h0 h1 h2) x) : Int) else (-1 : Int))) default) (3 : Nat)))), (SV.si IntKind.i64 (D.int (D.at (List.getD x (Int.toNat (bif List.any x (datB ver port h0 h1 h2) then (↑(List.findIdx (datB ver port h0 h1 h2) x) : Int) else (-1 : Int))) default) (4 : Nat)))), (SV.si IntKind.i64 (D.int (D.at (List.getD x (Int.toNat (bif List.any x (datB ver port h0 h1 h2) then (↑(List.findIdx (datB ver port h0 h1 h2) x) : Int) else (-1 : Int))) default) (5 : Nat)))), (SV.si IntKind.u8 (D.int (D.at (List.getD x (Int.toNat (bif List.any x (datB ver port h0 h1 h2) then (↑(List.findIdx (datB ver port h0 h1 h2) x) : Int) else (-1 : Int))) default) (6 : Nat)))), (SV.si IntKind.u8 (D.int (D.at (List.getD x (Int.toNat (bif List.any x (datB ver port h0 h1 h2) then (↑(List.findIdx (datB ver port h0 h1 h2) x) : Int) else (-1 : Int))) default) (7 : Nat)))), (SV.si IntKind.u8 (D.int (D.at (List.getD x (Int.toNat (bif List.any x (datB ver port h0 h1 h2) then (↑(List.findIdx (datB ver port h0 h1 h2) x) : Int) else (-1 : Int))) default) (8 : Nat)))), (SV.si IntKind.u8 (D.int (D.at (List.getD x (Int.toNat (bif List.any x (datB ver port h0 h1 h2) then (↑(List.findIdx (datB ver port h0 h1 h2) x) : Int) else (-1 : Int))) default) (9 : Nat)))), (SV.si IntKind.u8 (D.int (D.at (List.getD x (Int.toNat (bif List.any x (datB ver port h0 h1 h2) then (↑(List.findIdx (datB ver port h0 h1 h2) x) : Int) else (-1 : Int))) default) (10 : Nat)))), (SV.si IntKind.u8 (D.int (D.at (List.getD x (Int.toNat (bif List.any x (datB ver port h0 h1 h2) then (↑(List.findIdx (datB ver port h0 h1 h2) x) : Int) else (-1 : Int))) default) (11 : Nat)))), (SV.val (Value.slice none (nat_lit 0) (nat_lit 0)))]), (SV.sb (true))]), [(Option.some (Blk.mk (Con.rows (Sh.agg [(Sh.int IntKind.i64), (Sh.int IntKind.i64), (Sh.int IntKind.i64), (Sh.int IntKind.i64), (Sh.int IntKind.i64), (Sh.int IntKind.i64), (Sh.int IntKind.u8), (Sh.int IntKind.u8), (Sh.int IntKind.u8), (Sh.int IntKind.u8), (Sh.int IntKind.u8), (Sh.int IntKind.u8), (Sh.list (Sh.agg [(Sh.int IntKind.i64), (Sh.int IntKind.i64), (Sh.int IntKind.i64), (Sh.int IntKind.i64)]))]) (x_nl) (x)) 35 (true))), (Option.some (Blk.mk (Con.cells [(SV.own 0), (SV.si IntKind.i64 (room)), (SV.sb (md))]) 64 (true)))])) (Tree.need (decide (List.length (D.xs (D.at (List.getD x (Int.toNat (bif List.any x (datB ver port h0 h1 h2) then (↑(List.findIdx (datB ver port h0 h1 h2) x) : Int) else (-1 : Int))) default) (12 : Nat))) * (32 : Nat) ≤ (140737488355328 : Nat)) && decide (List.length (D.xs (D.at (List.getD x (Int.toNat (bif List.any x (datB ver port h0 h1 h2) then (↑(List.findIdx (datB ver port h0 h1 h2) x) : Int) else (-1 : Int))) default) (12 : Nat))) ≤ (4611686018427387904 : Nat))) (Tree.ret ((SV.tup [(SV.agg [(SV.si IntKind.i64 (D.int (D.at (List.getD x (Int.toNat (bif List.any x (datB ver port h0 h1 h2) then (↑(List.findIdx (datB ver port h0 h1 h2) x) : Int) else (-1 : Int))) default) (0 : Nat)))), (SV.si IntKind.i64 (D.int (D.at (List.getD x (Int.toNat (bif List.any x (datB ver port h0 h1 h2) then (↑(List.findIdx (datB ver port h0 h1 h2) x) : Int) else (-1 : Int))) default) (1 : Nat)))), (SV.si IntKind.i64 (D.int (D.at (List.getD x (Int.toNat (bif List.any x (datB ver port h0 h1 h2) then (↑(List.findIdx (datB ver port h0 h1 h2) x) : Int) else (-1 : Int))) default) (2 : Nat)))), (SV.si IntKind.i64 (D.int (D.at (List.getD x (Int.toNat (bif List.any x (datB ver port h0 h1 h2) then (↑(List.findIdx (datB ver port h0 h1 h2) x) : Int) else (-1 : Int))) default) (3 : Nat)))), (SV.si IntKind.i64 (D.int (D.at (List.getD x (Int.toNat (bif List.any x (datB ver port h0 h1 h2) then (↑(List.findIdx (datB ver port h0 h1 h2) x) : Int) else (-1 : Int))) default) (4 : Nat)))), (SV.si IntKind.i64 (D.int (D.at (List.getD x (Int.toNat (bif List.any x (datB ver port h0 h1 h2) then (↑(List.findIdx (datB ver port h0 h1 h2) x) : Int) else (-1 : Int))) default) (5 : Nat)))), (SV.si IntKind.u8 (D.int (D.at (List.getD x (Int.toNat (bif List.any x (datB ver port h0 h1 h2) then (↑(List.findIdx (datB ver port h0 h1 h2) x) : Int) else (-1 : Int))) default) (6 : Nat)))), (SV.si IntKind.u8 (D.int (D.at (List.getD x (Int.toNat (bif List.any x (datB ver port h0 h1 h2) then (↑(List.findIdx (datB ver port h0 h1 h2) x) : Int) else (-1 : Int))) default) (7 : Nat)))), (SV.si IntKind.u8 (D.int (D.at (List.getD x (Int.toNat (bif List.any x (datB ver port h0 h1 h2) then (↑(List.findIdx (datB ver port h0 h1 h2) x) : Int) else (-1 : Int))) default) (8 : Nat)))), (SV.si IntKind.u8 (D.int (D.at (List.getD x (Int.toNat (bif List.any x (datB ver port h0 h1 h2) then (↑(List.findIdx (datB ver port h0 h1 h2) x) : Int) else (-1 : Int))) default) (9 : Nat)))), (SV.si IntKind.u8 (D.int (D.at (List.getD x (Int.toNat (bif List.any x (datB ver port h0 h1 h2) then (↑(List.findIdx (datB ver port h0 h1 h2) x) : Int) else (-1 : Int))) default) (10 : Nat)))), (SV.si IntKind.u8 (D.int (D.at (List.getD x (Int.toNat (bif List.any x (datB ver port h0 h1 h2) then (↑(List.findIdx (datB ver port h0 h1 h2) x) : Int) else (-1 : Int))) default) (11 : Nat)))), (SV.own 2)]), (SV.sb (true))]), [(Option.some (Blk.mk (Con.rows (Sh.agg [(Sh.int IntKind.i64), (Sh.int IntKind.i64), (Sh.int IntKind.i64), (Sh.int IntKind.i64), (Sh.int IntKind.i64), (Sh.int IntKind.i64), (Sh.int IntKind.u8), (Sh.int IntKind.u8), (Sh.int IntKind.u8), (Sh.int IntKind.u8), (Sh.int IntKind.u8), (Sh.int IntKind.u8), (Sh.list (Sh.agg [(Sh.int IntKind.i64), (Sh.int IntKind.i64), (Sh.int IntKind.i64), (Sh.int IntKind.i64)]))]) (x_nl) (x)) 35 (true))), (Option.some (Blk.mk (Con.cells [(SV.own 0), (SV.si IntKind.i64 (room)), (SV.sb (md))]) 64 (true))), (Option.some (Blk.mk (Con.rows (Sh.agg [(Sh.int IntKind.i64), (Sh.int IntKind.i64), (Sh.int IntKind.i64), (Sh.int IntKind.i64)]) (false && List.isEmpty (D.xs (D.at (List.getD x (Int.toNat (bif List.any x (datB ver port h0 h1 h2) then (↑(List.findIdx (datB ver port h0 h1 h2) x) : Int) else (-1 : Int))) default) (12 : Nat)))) (D.xs (D.at (List.getD x (Int.toNat (bif List.any x (datB ver port h0 h1 h2) then (↑(List.findIdx (datB ver port h0 h1 h2) x) : Int) else (-1 : Int))) default) (12 : Nat)))) 57 (false)))])))))))) := by kernel_rfl
theorem data_run (x_nl : Bool) (x : List D) (room : Int) (md : Bool) (ver port h0 h1 h2 : Int) {r : SV} {H' : Hp} (h : (.need (fewB x.length && x.all dataOwn) (.ite (md && x.any (datB ver port h0 h1 h2)) (.ret (.tup [rowS (x.getD (x.findIdx (datB ver port h0 h1 h2)) default) (.own 2), .sb true], [some ⟨.rows (.agg [.int .i64, .int .i64, .int .i64, .int .i64, .int .i64, .int .i64, .int .u8, .int .u8, .int .u8, .int .u8, .int .u8, .int .u8, .list (.agg [.int .i64, .int .i64, .int .i64, .int .i64])]) x_nl x, 35, true⟩, some ⟨.cells [SV.own 0, SV.si IntKind.i64 room, SV.sb md], 64, true⟩, some ⟨.rows (.agg [.int .i64, .int .i64, .int .i64, .int .i64]) false ((x.getD (x.findIdx (datB ver port h0 h1 h2)) default).at 12).xs, 57, false⟩])) (.ret (.tup [noRule, .sb false], [some ⟨.rows (.agg [.int .i64, .int .i64, .int .i64, .int .i64, .int .i64, .int .i64, .int .u8, .int .u8, .int .u8, .int .u8, .int .u8, .int .u8, .list (.agg [.int .i64, .int .i64, .int .i64, .int .i64])]) x_nl x, 35, true⟩, some ⟨.cells [SV.own 0, SV.si IntKind.i64 room, SV.sb md], 64, true⟩]))) : Tree (SV × Hp)).run = some (r, H')) : (callG tab (envOf (P := Try.prog) [] [ixfd_ct] []) 20 12 15 [SV.ref 1 0, SV.si IntKind.i64 ver, SV.si IntKind.i64 port, SV.agg [SV.si IntKind.u8 h0, SV.si IntKind.u8 h1, SV.si IntKind.u8 h2]] [some ⟨.rows (.agg [.int .i64, .int .i64, .int .i64, .int .i64, .int .i64, .int .i64, .int .u8, .int .u8, .int .u8, .int .u8, .int .u8, .int .u8, .list (.agg [.int .i64, .int .i64, .int .i64, .int .i64])]) x_nl x, 35, true⟩, some ⟨.cells [SV.own 0, SV.si IntKind.i64 room, SV.sb md], 64, true⟩]).run = some (r, H') := by
  rw [data_tree]
  obtain ⟨hp_, h_⟩ := Tree.run_need h
  simp only [Bool.and_eq_true] at hp_
  obtain ⟨hx_, ho_⟩ := hp_
  rw [← h_]
  have hx2_ : x.length ≤ 1000 := by simpa [fewB] using hx_
  have s1_ : shortB x.length = true := decide_eq_true (by omega)
  simp only [Tree.run_ret', Tree.run_need', Tree.run_ite', s1_, cond_true, idx_lt]
  cases md with
  | false => rfl
  | true =>
    cases ha_ : x.any (datB ver port h0 h1 h2) with
    | false => rfl
    | true =>
      have hi_ := any_idx ha_
      have q0_ : (datB ver port h0 h1 h2) x[x.findIdx (datB ver port h0 h1 h2)] = true := List.findIdx_getElem
      have q1_ : decide ((0 : Int) ≤ ((x.findIdx (datB ver port h0 h1 h2) : Nat) : Int)) = true := decide_eq_true (by omega)
      have q2_ : decide (((x.findIdx (datB ver port h0 h1 h2) : Nat) : Int) < (x.length : Int)) = true := decide_eq_true (by omega)
      have q3_ := List.all_eq_true.1 ho_ (x.getD (x.findIdx (datB ver port h0 h1 h2)) default) (by rw [getD_at hi_]; exact List.getElem_mem _)
      rw [← getD_at (d := default) hi_] at q0_
      simp only [Bool.not_true, cond_false, cond_true, q1_, q2_, Bool.and_self, Int.toNat_natCast]
      unfold dataOwn at q3_
      unfold datB at q0_
      simp only [Bool.and_eq_true, beq_iff_eq] at q0_
      have e1_ : (((x.getD (x.findIdx (datB ver port h0 h1 h2)) default).at 0).int != 1) = false := by rw [show ((x.getD (x.findIdx (datB ver port h0 h1 h2)) default).at 0).int = 1 from q0_.1]; rfl
      rw [e1_, Bool.false_or, Bool.and_eq_true, Bool.not_eq_true'] at q3_
      obtain ⟨hn_, q3_⟩ := q3_
      simp only [fewB, decide_eq_true_eq] at q3_
      have q4_ : decide (((x.getD (x.findIdx (datB ver port h0 h1 h2)) default).at 12).xs.length * 32 ≤ 140737488355328) = true := decide_eq_true (by omega)
      have q5_ : decide (((x.getD (x.findIdx (datB ver port h0 h1 h2)) default).at 12).xs.length ≤ 4611686018427387904) = true := decide_eq_true (by omega)
      simp only [q4_, q5_, hn_, Bool.and_self, Bool.false_and, cond_true, cond_false]
      rfl
def data_tr : List D → Option (Tree (SV × Hp))
  | [.l x_nl x, .i room, .b md, .i ver, .i port, .a [.i h0, .i h1, .i h2]] => some (.need (fewB x.length && x.all dataOwn) (.ite (md && x.any (datB ver port h0 h1 h2)) (.ret (.tup [rowS (x.getD (x.findIdx (datB ver port h0 h1 h2)) default) (.own 2), .sb true], [some ⟨.rows (.agg [.int .i64, .int .i64, .int .i64, .int .i64, .int .i64, .int .i64, .int .u8, .int .u8, .int .u8, .int .u8, .int .u8, .int .u8, .list (.agg [.int .i64, .int .i64, .int .i64, .int .i64])]) x_nl x, 35, true⟩, some ⟨.cells [SV.own 0, SV.si IntKind.i64 room, SV.sb md], 64, true⟩, some ⟨.rows (.agg [.int .i64, .int .i64, .int .i64, .int .i64]) false ((x.getD (x.findIdx (datB ver port h0 h1 h2)) default).at 12).xs, 57, false⟩])) (.ret (.tup [noRule, .sb false], [some ⟨.rows (.agg [.int .i64, .int .i64, .int .i64, .int .i64, .int .i64, .int .i64, .int .u8, .int .u8, .int .u8, .int .u8, .int .u8, .int .u8, .list (.agg [.int .i64, .int .i64, .int .i64, .int .i64])]) x_nl x, 35, true⟩, some ⟨.cells [SV.own 0, SV.si IntKind.i64 room, SV.sb md], 64, true⟩]))))
  | _ => none
noncomputable def data_ct : Ct Try.prog := Ct.run (T := tab) follows 20 12 15 [.p 64 [.own 35 (.agg [.int .i64, .int .i64, .int .i64, .int .i64, .int .i64, .int .i64, .int .u8, .int .u8, .int .u8, .int .u8, .int .u8, .int .u8, .list (.agg [.int .i64, .int .i64, .int .i64, .int .i64])]), .d (.int .i64), .d .bool], .d (.int .i64), .d (.int .i64), .d (.agg [(.int .u8), (.int .u8), (.int .u8)])] data_tr (by
  intro ds t r H' ht hr
  unfold data_tr at ht
  split at ht
  · rename_i x_nl x room md ver port h0 h1 h2
    simp only [Option.some.injEq] at ht
    subst ht
    exact ⟨_, _, _, envOf_good _ _ _, data_run x_nl x room md ver port h0 h1 h2 hr, rfl, rfl⟩
  · cases ht) (enters_of (c := codeOf Try.f15) Try.func15 (by kernel_rfl) (by kernel_rfl))
end Go.Proofs.Ytgodelllnilcfaa
