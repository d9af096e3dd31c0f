/-
  Functions of the program, by their runs.
  No statement of the seat is proved here. Conditions: none.
-/
import Derived.Test.YtgodelllnilcfaaY25
import Derived.Test.YtgodelllnilcfaaTab09
import Derived.Test.YtgodelllnilcfaaC09
set_option linter.unusedSimpArgs false
set_option linter.unusedVariables false
set_option maxRecDepth 100000
namespace Go.Proofs.Ytgodelllnilcfaa
open Go.Sy Go.RowKit
def fewB (n : Nat) : Bool := decide (n ≤ 1000)
/-- A rule, as a copy of it. -/
def cpD (r : Rk) (nl : Bool) (o : List D) : D := .a [.i r.k, .i r.pr, .i r.to, .i r.po, .i r.v, .i r.p, .i r.b0, .i r.b1, .i r.b2, .i r.i0, .i r.i1, .i r.i2, bif nl then .l true [] else .l false o]
def insD (x : List D) (n : Nat) (d : D) : List D := x.take n ++ [d] ++ x.drop n
def chkR (r : Rk) (o : List D) : Int := chk_f r.k r.pr r.to r.po r.v r.p r.b0 r.b1 r.b2 r.i0 r.i1 r.i2 o
/-- What an Add answers. -/
def addE (md : Bool) (room : Int) (x : List D) (r : Rk) (o : List D) : Int := bif !md then 1 else bif chkR r o != 0 then chkR r o else bif hitB x r then 0 else bif decide ((x.length : Int) ≥ room) then 90 else 0
def tblH (nl : Bool) (x : List D) (room : Int) (md : Bool) : Hp := [some ⟨.rows (.agg [.int .i64, .int .i64, .int .i64, .int .i64, .int .i64, .int .i64, .int .u8, .int .u8, .int .u8, .int .u8, .int .u8, .int .u8, .list (.agg [.int .i64, .int .i64, .int .i64, .int .i64])]) nl x, 35, false⟩, some ⟨.cells [.own 0, .si .i64 room, .sb md], 64, false⟩]
def tblN (x : List D) (room : Int) (md : Bool) : Hp := [none, some ⟨.cells [.own 2, .si .i64 room, .sb md], 64, false⟩, some ⟨.rows (.agg [.int .i64, .int .i64, .int .i64, .int .i64, .int .i64, .int .i64, .int .u8, .int .u8, .int .u8, .int .u8, .int .u8, .int .u8, .list (.agg [.int .i64, .int .i64, .int .i64, .int .i64])]) false x, 35, false⟩]
theorem bsW_le (lt : Nat → Bool) : ∀ (f i j : Nat), i ≤ j → bsW lt f i j ≤ j
  | 0, i, j, h => h
  | f + 1, i, j, h => by
    unfold bsW
    cases hb : Nat.blt i j with
    | false => exact h
    | true =>
      have hlt := nlt.1 hb
      simp only
      cases lt ((i + j) / 2) with
      | true => exact bsW_le lt f _ j (by omega)
      | false => exact Nat.le_trans (bsW_le lt f i _ (by omega)) (by omega)
theorem bsN_le (x : List D) (r : Rk) : bsN x r ≤ x.length := bsW_le _ _ _ _ (Nat.zero_le _)
theorem hit_lt {x : List D} {r : Rk} (h : hitB x r = true) : bsN x r < x.length := by
  unfold hitB at h
  cases hq : decide (((bsN x r : Nat) : Int) < (x.length : Int)) with
  | true => simpa using hq
  | false => rw [hq] at h; cases h
theorem add_tree (x_nl : Bool) (x : List D) (room : Int) (md : Bool) (rk rpr rto rpo rv rp rb0 rb1 rb2 ri0 ri1 ri2 : Int) (ro_nl : Bool) (ro : List D) : callG tab (envOf (P := Try.prog) [cmpr_pc, chk_pc] [bs_ct, insert_ct] []) 20 12 13 [SV.ref 1 0, SV.agg [SV.si IntKind.i64 rk, SV.si IntKind.i64 rpr, SV.si IntKind.i64 rto, SV.si IntKind.i64 rpo, SV.si IntKind.i64 rv, SV.si IntKind.i64 rp, SV.si IntKind.u8 rb0, SV.si IntKind.u8 rb1, SV.si IntKind.u8 rb2, SV.si IntKind.u8 ri0, SV.si IntKind.u8 ri1, SV.si IntKind.u8 ri2, SV.lst (.agg [.int .i64, .int .i64, .int .i64, .int .i64]) ro_nl ro]] [some ⟨.rows (.agg [.int .i64, .int .i64, .int .i64, .int .i64, .int .i64, .int .i64, .int .u8, .int .u8, .int .u8, .int .u8, .int .u8, .int .u8, .list (.agg [.int .i64, .int .i64, .int .i64, .int .i64])]) x_nl x, 35, false⟩, some ⟨.cells [SV.own 0, SV.si IntKind.i64 room, SV.sb md], 64, false⟩] =
    (Tree.ite (!md) (Tree.ret ((SV.si IntKind.i64 ((1 : Int))), [(Option.some (Blk.mk (Con.rows (Sh.agg [(Sh.int IntKind.i64), (Sh.int IntKind.i64), (Sh.int IntKind.i64), (Sh.int IntKind.i64), (Sh.int IntKind.i64), (Sh.int IntKind.i64), (Sh.int IntKind.u8), (Sh.int IntKind.u8), (Sh.int IntKind.u8), (Sh.int IntKind.u8), (Sh.int IntKind.u8), (Sh.int IntKind.u8), (Sh.list (Sh.agg [(Sh.int IntKind.i64), (Sh.int IntKind.i64), (Sh.int IntKind.i64), (Sh.int IntKind.i64)]))]) (x_nl) (x)) 35 (false))), (Option.some (Blk.mk (Con.cells [(SV.own 0), (SV.si IntKind.i64 (room)), (SV.sb (md))]) 64 (false)))])) (Tree.need (shortB (List.length ro)) (Tree.ite (chk_f rk rpr rto rpo rv rp rb0 rb1 rb2 ri0 ri1 ri2 ro != (0 : Int)) (Tree.ret ((SV.si IntKind.i64 (chk_f rk rpr rto rpo rv rp rb0 rb1 rb2 ri0 ri1 ri2 ro)), [(Option.some (Blk.mk (Con.rows (Sh.agg [(Sh.int IntKind.i64), (Sh.int IntKind.i64), (Sh.int IntKind.i64), (Sh.int IntKind.i64), (Sh.int IntKind.i64), (Sh.int IntKind.i64), (Sh.int IntKind.u8), (Sh.int IntKind.u8), (Sh.int IntKind.u8), (Sh.int IntKind.u8), (Sh.int IntKind.u8), (Sh.int IntKind.u8), (Sh.list (Sh.agg [(Sh.int IntKind.i64), (Sh.int IntKind.i64), (Sh.int IntKind.i64), (Sh.int IntKind.i64)]))]) (x_nl) (x)) 35 (false))), (Option.some (Blk.mk (Con.cells [(SV.own 0), (SV.si IntKind.i64 (room)), (SV.sb (md))]) 64 (false)))])) (Tree.need (shortB (List.length x)) (Tree.ite (hitB x { k := rk, pr := rpr, to := rto, po := rpo, v := rv, p := rp, b0 := rb0, b1 := rb1, b2 := rb2, i0 := ri0, i1 := ri1, i2 := ri2 }) (Tree.ite (ro_nl) (Tree.need (decide ((0 : Int) ≤ (↑(bsN x { k := rk, pr := rpr, to := rto, po := rpo, v := rv, p := rp, b0 := rb0, b1 := rb1, b2 := rb2, i0 := ri0, i1 := ri1, i2 := ri2 }) : Int)) && decide ((↑(bsN x { k := rk, pr := rpr, to := rto, po := rpo, v := rv, p := rp, b0 := rb0, b1 := rb1, b2 := rb2, i0 := ri0, i1 := ri1, i2 := ri2 }) : Int) < (↑(List.length x) : Int))) (Tree.ret ((SV.si IntKind.i64 ((0 : Int))), [(Option.some (Blk.mk (Con.rows (Sh.agg [(Sh.int IntKind.i64), (Sh.int IntKind.i64), (Sh.int IntKind.i64), (Sh.int IntKind.i64), (Sh.int IntKind.i64), (Sh.int IntKind.i64), (Sh.int IntKind.u8), (Sh.int IntKind.u8), (Sh.int IntKind.u8), (Sh.int IntKind.u8), (Sh.int IntKind.u8), (Sh.int IntKind.u8), (Sh.list (Sh.agg [(Sh.int IntKind.i64), (Sh.int IntKind.i64), (Sh.int IntKind.i64), (Sh.int IntKind.i64)]))]) (x_nl) (List.set x (Int.toNat (↑(bsN x { k := rk, pr := rpr, to := rto, po := rpo, v := rv, p := rp, b0 := rb0, b1 := rb1, b2 := rb2, i0 := ri0, i1 := ri1, i2 := ri2 }) : Int)) (D.a (updD (List.getD x (Int.toNat (↑(bsN x { k := rk, pr := rpr, to := rto, po := rpo, v := rv, p := rp, b0 := rb0, b1 := rb1, b2 := rb2, i0 := ri0, i1 := ri1, i2 := ri2 }) : Int)) default) (0 : Nat) [D.i rk, D.i rpr, D.i rto, D.i rpo, D.i rv, D.i rp, D.i rb0, D.i rb1, D.i rb2, D.i ri0, D.i ri1, D.i ri2, D.l true []] (13 : Nat) (0 : Nat))))) 35 (false))), (Option.some (Blk.mk (Con.cells [(SV.own 0), (SV.si IntKind.i64 (room)), (SV.sb (md))]) 64 (false)))]))) (Tree.need (decide (List.length ro * (32 : Nat) ≤ (140737488355328 : Nat)) && decide (List.length ro ≤ (4611686018427387904 : Nat))) (Tree.need (decide ((0 : Int) ≤ (↑(bsN x { k := rk, pr := rpr, to := rto, po := rpo, v := rv, p := rp, b0 := rb0, b1 := rb1, b2 := rb2, i0 := ri0, i1 := ri1, i2 := ri2 }) : Int)) && decide ((↑(bsN x { k := rk, pr := rpr, to := rto, po := rpo, v := rv, p := rp, b0 := rb0, b1 := rb1, b2 := rb2, i0 := ri0, i1 := ri1, i2 := ri2 }) : Int) < (↑(List.length x) : Int))) (Tree.ret ((SV.si IntKind.i64 ((0 : Int))), [(Option.some (Blk.mk (Con.rows (Sh.agg [(Sh.int IntKind.i64), (Sh.int IntKind.i64), (Sh.int IntKind.i64), (Sh.int IntKind.i64), (Sh.int IntKind.i64), (Sh.int IntKind.i64), (Sh.int IntKind.u8), (Sh.int IntKind.u8), (Sh.int IntKind.u8), (Sh.int IntKind.u8), (Sh.int IntKind.u8), (Sh.int IntKind.u8), (Sh.list (Sh.agg [(Sh.int IntKind.i64), (Sh.int IntKind.i64), (Sh.int IntKind.i64), (Sh.int IntKind.i64)]))]) (x_nl) (List.set x (Int.toNat (↑(bsN x { k := rk, pr := rpr, to := rto, po := rpo, v := rv, p := rp, b0 := rb0, b1 := rb1, b2 := rb2, i0 := ri0, i1 := ri1, i2 := ri2 }) : Int)) (D.a (updD (List.getD x (Int.toNat (↑(bsN x { k := rk, pr := rpr, to := rto, po := rpo, v := rv, p := rp, b0 := rb0, b1 := rb1, b2 := rb2, i0 := ri0, i1 := ri1, i2 := ri2 }) : Int)) default) (0 : Nat) [D.i rk, D.i rpr, D.i rto, D.i rpo, D.i rv, D.i rp, D.i rb0, D.i rb1, D.i rb2, D.i ri0, D.i ri1, D.i ri2, D.l (false && List.isEmpty ro) ro] (13 : Nat) (0 : Nat))))) 35 (false))), (Option.some (Blk.mk (Con.cells [(SV.own 0), (SV.si IntKind.i64 (room)), (SV.sb (md))]) 64 (false)))]))))) (Tree.ite (decide ((↑(List.length x) : Int) ≥ room)) (Tree.ret ((SV.si IntKind.i64 ((90 : Int))), [(Option.some (Blk.mk (Con.rows (Sh.agg [(Sh.int IntKind.i64), (Sh.int IntKind.i64), (Sh.int IntKind.i64), (Sh.int IntKind.i64), (Sh.int IntKind.i64), (Sh.int IntKind.i64), (Sh.int IntKind.u8), (Sh.int IntKind.u8), (Sh.int IntKind.u8), (Sh.int IntKind.u8), (Sh.int IntKind.u8), (Sh.int IntKind.u8), (Sh.list (Sh.agg [(Sh.int IntKind.i64), (Sh.int IntKind.i64), (Sh.int IntKind.i64), (Sh.int IntKind.i64)]))]) (x_nl) (x)) 35 (false))), (Option.some (Blk.mk (Con.cells [(SV.own 0), (SV.si IntKind.i64 (room)), (SV.sb (md))]) 64 (false)))])) (Tree.ite (ro_nl) (Tree.need (decide ((0 : Int) ≤ (↑(bsN x { k := rk, pr := rpr, to := rto, po := rpo, v := rv, p := rp, b0 := rb0, b1 := rb1, b2 := rb2, i0 := ri0, i1 := ri1, i2 := ri2 }) : Int)) && (decide ((↑(bsN x { k := rk, pr := rpr, to := rto, po := rpo, v := rv, p := rp, b0 := rb0, b1 := rb1, b2 := rb2, i0 := ri0, i1 := ri1, i2 := ri2 }) : Int) ≤ (↑(List.length x - (0 : Nat)) : Int)) && (decide ((List.length x - (0 : Nat) + (1 : Nat)) * (80 : Nat) ≤ (140737488355328 : Nat)) && decide (List.length x - (0 : Nat) + (1 : Nat) ≤ (4611686018427387904 : Nat))))) (Tree.ret ((SV.si IntKind.i64 ((0 : Int))), [Option.none, (Option.some (Blk.mk (Con.cells [(SV.own 2), (SV.si IntKind.i64 (room)), (SV.sb (md))]) 64 (false))), (Option.some (Blk.mk (Con.rows (Sh.agg [(Sh.int IntKind.i64), (Sh.int IntKind.i64), (Sh.int IntKind.i64), (Sh.int IntKind.i64), (Sh.int IntKind.i64), (Sh.int IntKind.i64), (Sh.int IntKind.u8), (Sh.int IntKind.u8), (Sh.int IntKind.u8), (Sh.int IntKind.u8), (Sh.int IntKind.u8), (Sh.int IntKind.u8), (Sh.list (Sh.agg [(Sh.int IntKind.i64), (Sh.int IntKind.i64), (Sh.int IntKind.i64), (Sh.int IntKind.i64)]))]) (false) (List.take (Int.toNat (↑(bsN x { k := rk, pr := rpr, to := rto, po := rpo, v := rv, p := rp, b0 := rb0, b1 := rb1, b2 := rb2, i0 := ri0, i1 := ri1, i2 := ri2 }) : Int)) (List.drop (0 : Nat) (List.take (List.length x) x)) ++ [D.a [D.i rk, D.i rpr, D.i rto, D.i rpo, D.i rv, D.i rp, D.i rb0, D.i rb1, D.i rb2, D.i ri0, D.i ri1, D.i ri2, D.l true []]] ++ List.drop (Int.toNat (↑(bsN x { k := rk, pr := rpr, to := rto, po := rpo, v := rv, p := rp, b0 := rb0, b1 := rb1, b2 := rb2, i0 := ri0, i1 := ri1, i2 := ri2 }) : Int)) (List.drop (0 : Nat) (List.take (List.length x) x)))) 35 (false)))]))) (Tree.need (decide (List.length ro * (32 : Nat) ≤ (140737488355328 : Nat)) && decide (List.length ro ≤ (4611686018427387904 : Nat))) (Tree.need (decide ((0 : Int) ≤ (↑(bsN x { k := rk, pr := rpr, to := rto, po := rpo, v := rv, p := rp, b0 := rb0, b1 := rb1, b2 := rb2, i0 := ri0, i1 := ri1, i2 := ri2 }) : Int)) && (decide ((↑(bsN x { k := rk, pr := rpr, to := rto, po := rpo, v := rv, p := rp, b0 := rb0, b1 := rb1, b2 := rb2, i0 := ri0, i1 := ri1, i2 := ri2 }) : Int) ≤ (↑(List.length x - (0 : Nat)) : Int)) && (decide ((List.length x - (0 : Nat) + (1 : Nat)) * (80 : Nat) ≤ (140737488355328 : Nat)) && decide (List.length x - (0 : Nat) + (1 : Nat) ≤ (4611686018427387904 : Nat))))) (Tree.ret ((SV.si IntKind.i64 ((0 : Int))), [Option.none, (Option.some (Blk.mk (Con.cells [(SV.own 2), (SV.si IntKind.i64 (room)), (SV.sb (md))]) 64 (false))), (Option.some (Blk.mk (Con.rows (Sh.agg [(Sh.int IntKind.i64), (Sh.int IntKind.i64), (Sh.int IntKind.i64), (Sh.int IntKind.i64), (Sh.int IntKind.i64), (Sh.int IntKind.i64), (Sh.int IntKind.u8), (Sh.int IntKind.u8), (Sh.int IntKind.u8), (Sh.int IntKind.u8), (Sh.int IntKind.u8), (Sh.int IntKind.u8), (Sh.list (Sh.agg [(Sh.int IntKind.i64), (Sh.int IntKind.i64), (Sh.int IntKind.i64), (Sh.int IntKind.i64)]))]) (false) (List.take (Int.toNat (↑(bsN x { k := rk, pr := rpr, to := rto, po := rpo, v := rv, p := rp, b0 := rb0, b1 := rb1, b2 := rb2, i0 := ri0, i1 := ri1, i2 := ri2 }) : Int)) (List.drop (0 : Nat) (List.take (List.length x) x)) ++ [D.a [D.i rk, D.i rpr, D.i rto, D.i rpo, D.i rv, D.i rp, D.i rb0, D.i rb1, D.i rb2, D.i ri0, D.i ri1, D.i ri2, D.l (false && List.isEmpty ro) ro]] ++ List.drop (Int.toNat (↑(bsN x { k := rk, pr := rpr, to := rto, po := rpo, v := rv, p := rp, b0 := rb0, b1 := rb1, b2 := rb2, i0 := ri0, i1 := ri1, i2 := ri2 }) : Int)) (List.drop (0 : Nat) (List.take (List.length x) x)))) 35 (false)))]))))))))))) := by kernel_rfl
theorem add_run (x_nl : Bool) (x : List D) (room : Int) (md : Bool) (rk rpr rto rpo rv rp rb0 rb1 rb2 ri0 ri1 ri2 : Int) (ro_nl : Bool) (ro : List D) {r : SV} {H' : Hp} (h : (.need (fewB x.length && fewB ro.length) (.ite (!md) (.ret (.si .i64 1, tblH x_nl x room md)) (.ite (chkR (⟨rk, rpr, rto, rpo, rv, rp, rb0, rb1, rb2, ri0, ri1, ri2⟩ : Rk) ro != 0) (.ret (.si .i64 (chkR (⟨rk, rpr, rto, rpo, rv, rp, rb0, rb1, rb2, ri0, ri1, ri2⟩ : Rk) ro), tblH x_nl x room md)) (.ite (hitB x (⟨rk, rpr, rto, rpo, rv, rp, rb0, rb1, rb2, ri0, ri1, ri2⟩ : Rk)) (.ret (.si .i64 0, tblH x_nl (x.set (bsN x (⟨rk, rpr, rto, rpo, rv, rp, rb0, rb1, rb2, ri0, ri1, ri2⟩ : Rk)) (cpD (⟨rk, rpr, rto, rpo, rv, rp, rb0, rb1, rb2, ri0, ri1, ri2⟩ : Rk) ro_nl ro)) room md)) (.ite (decide ((x.length : Int) ≥ room)) (.ret (.si .i64 90, tblH x_nl x room md)) (.ret (.si .i64 0, tblN (insD x (bsN x (⟨rk, rpr, rto, rpo, rv, rp, rb0, rb1, rb2, ri0, ri1, ri2⟩ : Rk)) (cpD (⟨rk, rpr, rto, rpo, rv, rp, rb0, rb1, rb2, ri0, ri1, ri2⟩ : Rk) ro_nl ro)) room md)))))) : Tree (SV × Hp)).run = some (r, H')) : (callG tab (envOf (P := Try.prog) [cmpr_pc, chk_pc] [bs_ct, insert_ct] []) 20 12 13 [SV.ref 1 0, SV.agg [SV.si IntKind.i64 rk, SV.si IntKind.i64 rpr, SV.si IntKind.i64 rto, SV.si IntKind.i64 rpo, SV.si IntKind.i64 rv, SV.si IntKind.i64 rp, SV.si IntKind.u8 rb0, SV.si IntKind.u8 rb1, SV.si IntKind.u8 rb2, SV.si IntKind.u8 ri0, SV.si IntKind.u8 ri1, SV.si IntKind.u8 ri2, SV.lst (.agg [.int .i64, .int .i64, .int .i64, .int .i64]) ro_nl ro]] [some ⟨.rows (.agg [.int .i64, .int .i64, .int .i64, .int .i64, .int .i64, .int .i64, .int .u8, .int .u8, .int .u8, .int .u8, .int .u8, .int .u8, .list (.agg [.int .i64, .int .i64, .int .i64, .int .i64])]) x_nl x, 35, false⟩, some ⟨.cells [SV.own 0, SV.si IntKind.i64 room, SV.sb md], 64, false⟩]).run = some (r, H') := by
  rw [add_tree]
  obtain ⟨hp_, h_⟩ := Tree.run_need h
  simp only [fewB, Bool.and_eq_true, decide_eq_true_eq] at hp_
  obtain ⟨hx_, ho_⟩ := hp_
  rw [← h_]
  have s1_ : shortB x.length = true := by simp [shortB]; omega
  have s2_ : shortB ro.length = true := by simp [shortB]; omega
  have hb_ := bsN_le x (⟨rk, rpr, rto, rpo, rv, rp, rb0, rb1, rb2, ri0, ri1, ri2⟩ : Rk)
  have d0_ : decide ((0 : Int) ≤ ((bsN x (⟨rk, rpr, rto, rpo, rv, rp, rb0, rb1, rb2, ri0, ri1, ri2⟩ : Rk) : Nat) : Int)) = true := by simp
  have d1_ : decide (((bsN x (⟨rk, rpr, rto, rpo, rv, rp, rb0, rb1, rb2, ri0, ri1, ri2⟩ : Rk) : Nat) : Int) ≤ ((x.length - 0 : Nat) : Int)) = true := by simp; omega
  have d2_ : decide ((x.length - 0 + 1) * 80 ≤ 140737488355328) = true := by simp; omega
  have d3_ : decide (x.length - 0 + 1 ≤ 4611686018427387904) = true := by simp; omega
  have d4_ : decide (ro.length * 32 ≤ 140737488355328) = true := by simp; omega
  have d5_ : decide (ro.length ≤ 4611686018427387904) = true := by simp; omega
  have e1_ : chkR (⟨rk, rpr, rto, rpo, rv, rp, rb0, rb1, rb2, ri0, ri1, ri2⟩ : Rk) ro = chk_f rk rpr rto rpo rv rp rb0 rb1 rb2 ri0 ri1 ri2 ro := rfl
  rw [e1_]
  simp only [Tree.run_ret', Tree.run_need', Tree.run_ite', s1_, s2_, cond_true]
  cases md with
  | false => rfl
  | true =>
  simp only [Bool.not_true, cond_false]
  cases (chk_f rk rpr rto rpo rv rp rb0 rb1 rb2 ri0 ri1 ri2 ro != (0 : Int)) with
  | true => rfl
  | false =>
  simp only [cond_false]
  cases hh_ : hitB x (⟨rk, rpr, rto, rpo, rv, rp, rb0, rb1, rb2, ri0, ri1, ri2⟩ : Rk) with
  | true =>
    have hl_ := hit_lt hh_
    have d6_ : decide (((bsN x (⟨rk, rpr, rto, rpo, rv, rp, rb0, rb1, rb2, ri0, ri1, ri2⟩ : Rk) : Nat) : Int) < (x.length : Int)) = true := by simp; omega
    simp only [cond_true, d0_, d4_, d5_, d6_, Bool.and_self, Int.toNat_natCast]
    cases ro_nl with
    | true => rfl
    | false =>
      simp only [Bool.false_and, cond_false]
      rfl
  | false =>
    simp only [cond_false]
    cases decide ((x.length : Int) ≥ room) with
    | true => rfl
    | false =>
      simp only [cond_false, d0_, d1_, d2_, d3_, d4_, d5_, Bool.and_self, cond_true, Int.toNat_natCast, List.drop_zero, List.take_length]
      cases ro_nl with
      | true => rfl
      | false =>
        simp only [Bool.false_and, cond_false]
        rfl
def add_tr : List D → Option (Tree (SV × Hp))
  | [.l x_nl x, .i room, .b md, .a [.i rk, .i rpr, .i rto, .i rpo, .i rv, .i rp, .i rb0, .i rb1, .i rb2, .i ri0, .i ri1, .i ri2, .l ro_nl ro]] => some (.need (fewB x.length && fewB ro.length) (.ite (!md) (.ret (.si .i64 1, tblH x_nl x room md)) (.ite (chkR (⟨rk, rpr, rto, rpo, rv, rp, rb0, rb1, rb2, ri0, ri1, ri2⟩ : Rk) ro != 0) (.ret (.si .i64 (chkR (⟨rk, rpr, rto, rpo, rv, rp, rb0, rb1, rb2, ri0, ri1, ri2⟩ : Rk) ro), tblH x_nl x room md)) (.ite (hitB x (⟨rk, rpr, rto, rpo, rv, rp, rb0, rb1, rb2, ri0, ri1, ri2⟩ : Rk)) (.ret (.si .i64 0, tblH x_nl (x.set (bsN x (⟨rk, rpr, rto, rpo, rv, rp, rb0, rb1, rb2, ri0, ri1, ri2⟩ : Rk)) (cpD (⟨rk, rpr, rto, rpo, rv, rp, rb0, rb1, rb2, ri0, ri1, ri2⟩ : Rk) ro_nl ro)) room md)) (.ite (decide ((x.length : Int) ≥ room)) (.ret (.si .i64 90, tblH x_nl x room md)) (.ret (.si .i64 0, tblN (insD x (bsN x (⟨rk, rpr, rto, rpo, rv, rp, rb0, rb1, rb2, ri0, ri1, ri2⟩ : Rk)) (cpD (⟨rk, rpr, rto, rpo, rv, rp, rb0, rb1, rb2, ri0, ri1, ri2⟩ : Rk) ro_nl ro)) room md)))))))
  | _ => none
noncomputable def add_ct : Ct Try.prog := Ct.runF (T := tab) follows 20 12 13 [.p 64 [.own 35 (.agg [.int .i64, .int .i64, .int .i64, .int .i64, .int .i64, .int .i64, .int .u8, .int .u8, .int .u8, .int .u8, .int .u8, .int .u8, .list (.agg [.int .i64, .int .i64, .int .i64, .int .i64])]), .d (.int .i64), .d .bool], .d (.agg [(.int .i64), (.int .i64), (.int .i64), (.int .i64), (.int .i64), (.int .i64), (.int .u8), (.int .u8), (.int .u8), (.int .u8), (.int .u8), (.int .u8), (.list (.agg [.int .i64, .int .i64, .int .i64, .int .i64]))])] add_tr (by
  intro ds t r H' ht hr
  unfold add_tr at ht
  split at ht
  · rename_i x_nl x room md rk rpr rto rpo rv rp rb0 rb1 rb2 ri0 ri1 ri2 ro_nl ro
    simp only [Option.some.injEq] at ht
    subst ht
    exact ⟨_, _, _, envOf_good _ _ _, add_run x_nl x room md rk rpr rto rpo rv rp rb0 rb1 rb2 ri0 ri1 ri2 ro_nl ro hr, rfl, rfl⟩
  · cases ht) (enters_of (c := codeOf Try.f13) Try.func13 (by kernel_rfl) (by kernel_rfl))
end Go.Proofs.Ytgodelllnilcfaa
