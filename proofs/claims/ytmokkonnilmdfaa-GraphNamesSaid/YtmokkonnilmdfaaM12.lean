/-
  Functions of the program, by their runs.
  No statement of the seat is proved here. Conditions: none.
-/
import Derived.Test.YtmokkonnilmdfaaY25
import Derived.Test.YtmokkonnilmdfaaTab12
set_option linter.unusedSimpArgs false
set_option linter.unusedVariables false
set_option maxRecDepth 100000
namespace Go.Proofs.Ytmokkonnilmdfaa
open Go.Sy Go.RowKit
def shortB (n : Nat) : Bool := decide (n ≤ 9223372036854775806)
/-- An end, a link's two ends, what is beside them. -/
def kE (s p : Int) : D := .a [.i s, .i p]
def kA (l : D) : D := kE (l.at 0).int (l.at 1).int
def kB (l : D) : D := kE (l.at 2).int (l.at 3).int
def vA (l : D) (i : Int) : D := .a [.i (l.at 2).int, .i (l.at 3).int, .i i]
def vB (l : D) (i : Int) : D := .a [.i (l.at 0).int, .i (l.at 1).int, .i i]
/-- The map behind so many links. -/
def mA (ls : List D) (i : Nat) (m : List D) : List D := setK mp47.3 m (kA (ls.getD i default)) (vA (ls.getD i default) i)
def mAt (ls : List D) : Nat → List D
  | 0 => []
  | i + 1 => setK mp47.3 (mA ls i (mAt ls i)) (kB (ls.getD i default)) (vB (ls.getD i default) i)
/-- An end that may not be. -/
def outB (n s p : Int) : Bool := decide (s < 1) || (decide (s > n) || (decide (p < 1) || decide (p > 4)))
def badA (n : Int) (ls : List D) (i : Nat) : Bool := hasK mp47.3 (mAt ls i) (kA (ls.getD i default)) || outB n ((ls.getD i default).at 0).int ((ls.getD i default).at 1).int
def badB (n : Int) (ls : List D) (i : Nat) : Bool := hasK mp47.3 (mA ls i (mAt ls i)) (kB (ls.getD i default)) || outB n ((ls.getD i default).at 2).int ((ls.getD i default).at 3).int
def badS (ls : List D) (i : Nat) : Bool := ((ls.getD i default).at 0).int == ((ls.getD i default).at 2).int
def badL (n : Int) (ls : List D) (i : Nat) : Bool := badA n ls i || (badB n ls i || badS ls i)
def badG (n : Int) (ls : List D) : Bool := (decide (n < 1) || decide (n > 6)) || (List.range ls.length).any (badL n ls)
noncomputable def sd0_tm (sw : Int) (ls_nl : Bool) (ls : List D) (t24 : Int) (all : List D) : St :=
  ⟨(Tm.at 91 [(1, (Slot.is (SV.ref 0 0))), (4, (Slot.is (SV.mp 1))), (22, (Slot.is (SV.lst (Sh.agg [(Sh.int IntKind.i64), (Sh.int IntKind.i64), (Sh.int IntKind.i64), (Sh.int IntKind.i64)]) (ls_nl) (ls)))), (23, (Slot.is (SV.si IntKind.i64 ((↑(List.length ls) : Int))))), (24, (Slot.is (SV.si IntKind.i64 (t24))))]), [(Option.some (Blk.mk (Con.cells [(SV.si IntKind.i64 (sw)), (SV.lst (Sh.agg [(Sh.int IntKind.i64), (Sh.int IntKind.i64), (Sh.int IntKind.i64), (Sh.int IntKind.i64)]) (ls_nl) (ls))]) 24 (false))), (Option.some (Blk.mk (Con.mapc (Sh.agg [(Sh.int IntKind.i64), (Sh.int IntKind.i64)]) (Sh.agg [(Sh.int IntKind.i64), (Sh.int IntKind.i64), (Sh.int IntKind.i64)]) (all)) 47 (false)))]⟩
def sd0_lp : LP := { base := 2, mv := [], mask := 29360146, maskX := 28, nm := 16777216, nb := [1], kl := [], klX := [0], ow := [] }
noncomputable def sd0_x0 (sw : Int) (ls_nl : Bool) (ls : List D) (t24 : Int) (all : List D) : St :=
  ⟨(Tm.at 91 [(2, (Slot.is (SV.val (Value.map none)))), (3, (Slot.is (SV.lb false))), (4, (Slot.is (SV.mp 1)))]), [Option.none, (Option.some (Blk.mk (Con.mapc (Sh.agg [(Sh.int IntKind.i64), (Sh.int IntKind.i64)]) (Sh.agg [(Sh.int IntKind.i64), (Sh.int IntKind.i64), (Sh.int IntKind.i64)]) (all)) 47 (false)))]⟩
noncomputable def sd0_x1 (sw : Int) (ls_nl : Bool) (ls : List D) (t24 : Int) (all : List D) : St :=
  ⟨(Tm.at 91 [(2, (Slot.is (SV.val (Value.map none)))), (3, (Slot.is (SV.lb false))), (4, (Slot.is (SV.mp 1)))]), [Option.none, (Option.some (Blk.mk (Con.mapc (Sh.agg [(Sh.int IntKind.i64), (Sh.int IntKind.i64)]) (Sh.agg [(Sh.int IntKind.i64), (Sh.int IntKind.i64), (Sh.int IntKind.i64)]) (setK mp47.3 all (D.a [D.i (D.int (D.at (List.getD ls (Int.toNat t24) default) (0 : Nat))), D.i (D.int (D.at (List.getD ls (Int.toNat t24) default) (1 : Nat)))]) (D.a [D.i (D.int (D.at (List.getD ls (Int.toNat t24) default) (2 : Nat))), D.i (D.int (D.at (List.getD ls (Int.toNat t24) default) (3 : Nat))), D.i t24]))) 47 (false)))]⟩
noncomputable def sd0_x2 (sw : Int) (ls_nl : Bool) (ls : List D) (t24 : Int) (all : List D) : St :=
  ⟨(Tm.at 91 [(2, (Slot.is (SV.val (Value.map none)))), (3, (Slot.is (SV.lb false))), (4, (Slot.is (SV.mp 1)))]), [Option.none, (Option.some (Blk.mk (Con.mapc (Sh.agg [(Sh.int IntKind.i64), (Sh.int IntKind.i64)]) (Sh.agg [(Sh.int IntKind.i64), (Sh.int IntKind.i64), (Sh.int IntKind.i64)]) (setK mp47.3 (setK mp47.3 all (D.a [D.i (D.int (D.at (List.getD ls (Int.toNat t24) default) (0 : Nat))), D.i (D.int (D.at (List.getD ls (Int.toNat t24) default) (1 : Nat)))]) (D.a [D.i (D.int (D.at (List.getD ls (Int.toNat t24) default) (2 : Nat))), D.i (D.int (D.at (List.getD ls (Int.toNat t24) default) (3 : Nat))), D.i t24])) (D.a [D.i (D.int (D.at (List.getD ls (Int.toNat t24) default) (2 : Nat))), D.i (D.int (D.at (List.getD ls (Int.toNat t24) default) (3 : Nat)))]) (D.a [D.i (D.int (D.at (List.getD ls (Int.toNat t24) default) (2 : Nat))), D.i (D.int (D.at (List.getD ls (Int.toNat t24) default) (3 : Nat))), D.i t24]))) 47 (false)))]⟩
noncomputable def sd0_x3 (sw : Int) (ls_nl : Bool) (ls : List D) (t24 : Int) (all : List D) : St :=
  ⟨(Tm.at 91 [(2, (Slot.is (SV.val (Value.map none)))), (3, (Slot.is (SV.lb false))), (4, (Slot.is (SV.mp 1)))]), [Option.none, (Option.some (Blk.mk (Con.mapc (Sh.agg [(Sh.int IntKind.i64), (Sh.int IntKind.i64)]) (Sh.agg [(Sh.int IntKind.i64), (Sh.int IntKind.i64), (Sh.int IntKind.i64)]) (setK mp47.3 (setK mp47.3 all (D.a [D.i (D.int (D.at (List.getD ls (Int.toNat t24) default) (0 : Nat))), D.i (D.int (D.at (List.getD ls (Int.toNat t24) default) (1 : Nat)))]) (D.a [D.i (D.int (D.at (List.getD ls (Int.toNat t24) default) (2 : Nat))), D.i (D.int (D.at (List.getD ls (Int.toNat t24) default) (3 : Nat))), D.i t24])) (D.a [D.i (D.int (D.at (List.getD ls (Int.toNat t24) default) (2 : Nat))), D.i (D.int (D.at (List.getD ls (Int.toNat t24) default) (3 : Nat)))]) (D.a [D.i (D.int (D.at (List.getD ls (Int.toNat t24) default) (0 : Nat))), D.i (D.int (D.at (List.getD ls (Int.toNat t24) default) (1 : Nat))), D.i t24]))) 47 (false)))]⟩
noncomputable def sd0_x4 (sw : Int) (ls_nl : Bool) (ls : List D) (t24 : Int) (all : List D) : St :=
  ⟨(Tm.at 91 [(2, (Slot.is (SV.val (Value.map none)))), (3, (Slot.is (SV.lb false))), (4, (Slot.is (SV.mp 1)))]), [Option.none, (Option.some (Blk.mk (Con.mapc (Sh.agg [(Sh.int IntKind.i64), (Sh.int IntKind.i64)]) (Sh.agg [(Sh.int IntKind.i64), (Sh.int IntKind.i64), (Sh.int IntKind.i64)]) (setK mp47.3 all (D.a [D.i (D.int (D.at (List.getD ls (Int.toNat t24) default) (0 : Nat))), D.i (D.int (D.at (List.getD ls (Int.toNat t24) default) (1 : Nat)))]) (D.a [D.i (D.int (D.at (List.getD ls (Int.toNat t24) default) (0 : Nat))), D.i (D.int (D.at (List.getD ls (Int.toNat t24) default) (1 : Nat))), D.i t24]))) 47 (false)))]⟩
noncomputable def sd0_x5 (sw : Int) (ls_nl : Bool) (ls : List D) (t24 : Int) (all : List D) : St :=
  ⟨(Tm.at 91 [(2, (Slot.is (SV.val (Value.map none)))), (3, (Slot.is (SV.lb false))), (4, (Slot.is (SV.mp 1)))]), [Option.none, (Option.some (Blk.mk (Con.mapc (Sh.agg [(Sh.int IntKind.i64), (Sh.int IntKind.i64)]) (Sh.agg [(Sh.int IntKind.i64), (Sh.int IntKind.i64), (Sh.int IntKind.i64)]) (setK mp47.3 (setK mp47.3 all (D.a [D.i (D.int (D.at (List.getD ls (Int.toNat t24) default) (0 : Nat))), D.i (D.int (D.at (List.getD ls (Int.toNat t24) default) (1 : Nat)))]) (D.a [D.i (D.int (D.at (List.getD ls (Int.toNat t24) default) (0 : Nat))), D.i (D.int (D.at (List.getD ls (Int.toNat t24) default) (1 : Nat))), D.i t24])) (D.a [D.i (D.int (D.at (List.getD ls (Int.toNat t24) default) (2 : Nat))), D.i (D.int (D.at (List.getD ls (Int.toNat t24) default) (3 : Nat)))]) (D.a [D.i (D.int (D.at (List.getD ls (Int.toNat t24) default) (2 : Nat))), D.i (D.int (D.at (List.getD ls (Int.toNat t24) default) (3 : Nat))), D.i t24]))) 47 (false)))]⟩
noncomputable def sd0_x6 (sw : Int) (ls_nl : Bool) (ls : List D) (t24 : Int) (all : List D) : St :=
  ⟨(Tm.at 91 [(2, (Slot.is (SV.val (Value.map none)))), (3, (Slot.is (SV.lb false))), (4, (Slot.is (SV.mp 1)))]), [Option.none, (Option.some (Blk.mk (Con.mapc (Sh.agg [(Sh.int IntKind.i64), (Sh.int IntKind.i64)]) (Sh.agg [(Sh.int IntKind.i64), (Sh.int IntKind.i64), (Sh.int IntKind.i64)]) (setK mp47.3 (setK mp47.3 all (D.a [D.i (D.int (D.at (List.getD ls (Int.toNat t24) default) (0 : Nat))), D.i (D.int (D.at (List.getD ls (Int.toNat t24) default) (1 : Nat)))]) (D.a [D.i (D.int (D.at (List.getD ls (Int.toNat t24) default) (0 : Nat))), D.i (D.int (D.at (List.getD ls (Int.toNat t24) default) (1 : Nat))), D.i t24])) (D.a [D.i (D.int (D.at (List.getD ls (Int.toNat t24) default) (2 : Nat))), D.i (D.int (D.at (List.getD ls (Int.toNat t24) default) (3 : Nat)))]) (D.a [D.i (D.int (D.at (List.getD ls (Int.toNat t24) default) (0 : Nat))), D.i (D.int (D.at (List.getD ls (Int.toNat t24) default) (1 : Nat))), D.i t24]))) 47 (false)))]⟩
noncomputable def sd0_x7 (sw : Int) (ls_nl : Bool) (ls : List D) (t24 : Int) (all : List D) : St :=
  ⟨(Tm.at 91 [(4, (Slot.is (SV.mp 1)))]), [Option.none, (Option.some (Blk.mk (Con.mapc (Sh.agg [(Sh.int IntKind.i64), (Sh.int IntKind.i64)]) (Sh.agg [(Sh.int IntKind.i64), (Sh.int IntKind.i64), (Sh.int IntKind.i64)]) (all)) 47 (false)))]⟩
theorem sd0_round (sw : Int) (ls_nl : Bool) (ls : List D) (t24 : Int) (all : List D) : roundC (bodyF tab (envOf (P := Try.prog) [] [] []) 20 12 24 0 (loopOf (codeOf Try.f24) 0)) sd0_lp (sd0_tm sw ls_nl ls t24 all) =
    (Tree.ite (decide (t24 < (↑(List.length ls) : Int))) (Tree.need (decide ((0 : Int) ≤ t24) && decide (t24 < (↑(List.length ls) : Int))) (Tree.ite (hasK mp47.3 all (D.a [D.i (D.int (D.at (List.getD ls (Int.toNat t24) default) (0 : Nat))), D.i (D.int (D.at (List.getD ls (Int.toNat t24) default) (1 : Nat)))]) || (decide (D.int (D.at (List.getD ls (Int.toNat t24) default) (0 : Nat)) < (1 : Int)) || (decide (D.int (D.at (List.getD ls (Int.toNat t24) default) (0 : Nat)) > sw) || (decide (D.int (D.at (List.getD ls (Int.toNat t24) default) (1 : Nat)) < (1 : Int)) || decide (D.int (D.at (List.getD ls (Int.toNat t24) default) (1 : Nat)) > (4 : Int)))))) (Tree.ret (Ex.ret, (sd0_x0 (sw) (ls_nl) (ls) (t24) (all)))) (Tree.ite (D.int (D.at (List.getD ls (Int.toNat t24) default) (0 : Nat)) == D.int (D.at (List.getD ls (Int.toNat t24) default) (0 : Nat)) && (D.int (D.at (List.getD ls (Int.toNat t24) default) (1 : Nat)) == D.int (D.at (List.getD ls (Int.toNat t24) default) (1 : Nat)) && true)) (Tree.ite (hasK mp47.3 (setK mp47.3 all (D.a [D.i (D.int (D.at (List.getD ls (Int.toNat t24) default) (0 : Nat))), D.i (D.int (D.at (List.getD ls (Int.toNat t24) default) (1 : Nat)))]) (D.a [D.i (D.int (D.at (List.getD ls (Int.toNat t24) default) (2 : Nat))), D.i (D.int (D.at (List.getD ls (Int.toNat t24) default) (3 : Nat))), D.i t24])) (D.a [D.i (D.int (D.at (List.getD ls (Int.toNat t24) default) (2 : Nat))), D.i (D.int (D.at (List.getD ls (Int.toNat t24) default) (3 : Nat)))]) || (decide (D.int (D.at (List.getD ls (Int.toNat t24) default) (2 : Nat)) < (1 : Int)) || (decide (D.int (D.at (List.getD ls (Int.toNat t24) default) (2 : Nat)) > sw) || (decide (D.int (D.at (List.getD ls (Int.toNat t24) default) (3 : Nat)) < (1 : Int)) || decide (D.int (D.at (List.getD ls (Int.toNat t24) default) (3 : Nat)) > (4 : Int)))))) (Tree.ret (Ex.ret, (sd0_x1 (sw) (ls_nl) (ls) (t24) (all)))) (Tree.ite (D.int (D.at (List.getD ls (Int.toNat t24) default) (2 : Nat)) == D.int (D.at (List.getD ls (Int.toNat t24) default) (0 : Nat)) && (D.int (D.at (List.getD ls (Int.toNat t24) default) (3 : Nat)) == D.int (D.at (List.getD ls (Int.toNat t24) default) (1 : Nat)) && true)) (Tree.ite (D.int (D.at (List.getD ls (Int.toNat t24) default) (0 : Nat)) == D.int (D.at (List.getD ls (Int.toNat t24) default) (2 : Nat))) (Tree.ret (Ex.ret, (sd0_x2 (sw) (ls_nl) (ls) (t24) (all)))) (Tree.ret (Ex.normal, (sd0_tm (sw) (ls_nl) (ls) (IntKind.wrap IntKind.i64 (t24 + (1 : Int))) (setK mp47.3 (setK mp47.3 all (D.a [D.i (D.int (D.at (List.getD ls (Int.toNat t24) default) (0 : Nat))), D.i (D.int (D.at (List.getD ls (Int.toNat t24) default) (1 : Nat)))]) (D.a [D.i (D.int (D.at (List.getD ls (Int.toNat t24) default) (2 : Nat))), D.i (D.int (D.at (List.getD ls (Int.toNat t24) default) (3 : Nat))), D.i t24])) (D.a [D.i (D.int (D.at (List.getD ls (Int.toNat t24) default) (2 : Nat))), D.i (D.int (D.at (List.getD ls (Int.toNat t24) default) (3 : Nat)))]) (D.a [D.i (D.int (D.at (List.getD ls (Int.toNat t24) default) (2 : Nat))), D.i (D.int (D.at (List.getD ls (Int.toNat t24) default) (3 : Nat))), D.i t24])))))) (Tree.ite (D.int (D.at (List.getD ls (Int.toNat t24) default) (0 : Nat)) == D.int (D.at (List.getD ls (Int.toNat t24) default) (2 : Nat))) (Tree.ret (Ex.ret, (sd0_x3 (sw) (ls_nl) (ls) (t24) (all)))) (Tree.ret (Ex.normal, (sd0_tm (sw) (ls_nl) (ls) (IntKind.wrap IntKind.i64 (t24 + (1 : Int))) (setK mp47.3 (setK mp47.3 all (D.a [D.i (D.int (D.at (List.getD ls (Int.toNat t24) default) (0 : Nat))), D.i (D.int (D.at (List.getD ls (Int.toNat t24) default) (1 : Nat)))]) (D.a [D.i (D.int (D.at (List.getD ls (Int.toNat t24) default) (2 : Nat))), D.i (D.int (D.at (List.getD ls (Int.toNat t24) default) (3 : Nat))), D.i t24])) (D.a [D.i (D.int (D.at (List.getD ls (Int.toNat t24) default) (2 : Nat))), D.i (D.int (D.at (List.getD ls (Int.toNat t24) default) (3 : Nat)))]) (D.a [D.i (D.int (D.at (List.getD ls (Int.toNat t24) default) (0 : Nat))), D.i (D.int (D.at (List.getD ls (Int.toNat t24) default) (1 : Nat))), D.i t24])))))))) (Tree.ite (hasK mp47.3 (setK mp47.3 all (D.a [D.i (D.int (D.at (List.getD ls (Int.toNat t24) default) (0 : Nat))), D.i (D.int (D.at (List.getD ls (Int.toNat t24) default) (1 : Nat)))]) (D.a [D.i (D.int (D.at (List.getD ls (Int.toNat t24) default) (0 : Nat))), D.i (D.int (D.at (List.getD ls (Int.toNat t24) default) (1 : Nat))), D.i t24])) (D.a [D.i (D.int (D.at (List.getD ls (Int.toNat t24) default) (2 : Nat))), D.i (D.int (D.at (List.getD ls (Int.toNat t24) default) (3 : Nat)))]) || (decide (D.int (D.at (List.getD ls (Int.toNat t24) default) (2 : Nat)) < (1 : Int)) || (decide (D.int (D.at (List.getD ls (Int.toNat t24) default) (2 : Nat)) > sw) || (decide (D.int (D.at (List.getD ls (Int.toNat t24) default) (3 : Nat)) < (1 : Int)) || decide (D.int (D.at (List.getD ls (Int.toNat t24) default) (3 : Nat)) > (4 : Int)))))) (Tree.ret (Ex.ret, (sd0_x4 (sw) (ls_nl) (ls) (t24) (all)))) (Tree.ite (D.int (D.at (List.getD ls (Int.toNat t24) default) (2 : Nat)) == D.int (D.at (List.getD ls (Int.toNat t24) default) (0 : Nat)) && (D.int (D.at (List.getD ls (Int.toNat t24) default) (3 : Nat)) == D.int (D.at (List.getD ls (Int.toNat t24) default) (1 : Nat)) && true)) (Tree.ite (D.int (D.at (List.getD ls (Int.toNat t24) default) (0 : Nat)) == D.int (D.at (List.getD ls (Int.toNat t24) default) (2 : Nat))) (Tree.ret (Ex.ret, (sd0_x5 (sw) (ls_nl) (ls) (t24) (all)))) (Tree.ret (Ex.normal, (sd0_tm (sw) (ls_nl) (ls) (IntKind.wrap IntKind.i64 (t24 + (1 : Int))) (setK mp47.3 (setK mp47.3 all (D.a [D.i (D.int (D.at (List.getD ls (Int.toNat t24) default) (0 : Nat))), D.i (D.int (D.at (List.getD ls (Int.toNat t24) default) (1 : Nat)))]) (D.a [D.i (D.int (D.at (List.getD ls (Int.toNat t24) default) (0 : Nat))), D.i (D.int (D.at (List.getD ls (Int.toNat t24) default) (1 : Nat))), D.i t24])) (D.a [D.i (D.int (D.at (List.getD ls (Int.toNat t24) default) (2 : Nat))), D.i (D.int (D.at (List.getD ls (Int.toNat t24) default) (3 : Nat)))]) (D.a [D.i (D.int (D.at (List.getD ls (Int.toNat t24) default) (2 : Nat))), D.i (D.int (D.at (List.getD ls (Int.toNat t24) default) (3 : Nat))), D.i t24])))))) (Tree.ite (D.int (D.at (List.getD ls (Int.toNat t24) default) (0 : Nat)) == D.int (D.at (List.getD ls (Int.toNat t24) default) (2 : Nat))) (Tree.ret (Ex.ret, (sd0_x6 (sw) (ls_nl) (ls) (t24) (all)))) (Tree.ret (Ex.normal, (sd0_tm (sw) (ls_nl) (ls) (IntKind.wrap IntKind.i64 (t24 + (1 : Int))) (setK mp47.3 (setK mp47.3 all (D.a [D.i (D.int (D.at (List.getD ls (Int.toNat t24) default) (0 : Nat))), D.i (D.int (D.at (List.getD ls (Int.toNat t24) default) (1 : Nat)))]) (D.a [D.i (D.int (D.at (List.getD ls (Int.toNat t24) default) (0 : Nat))), D.i (D.int (D.at (List.getD ls (Int.toNat t24) default) (1 : Nat))), D.i t24])) (D.a [D.i (D.int (D.at (List.getD ls (Int.toNat t24) default) (2 : Nat))), D.i (D.int (D.at (List.getD ls (Int.toNat t24) default) (3 : Nat)))]) (D.a [D.i (D.int (D.at (List.getD ls (Int.toNat t24) default) (0 : Nat))), D.i (D.int (D.at (List.getD ls (Int.toNat t24) default) (1 : Nat))), D.i t24]))))))))))) (Tree.ret ((Ex.exit 0), (sd0_x7 (sw) (ls_nl) (ls) (t24) (all))))) := by kernel_rfl
def fstBad (n : Int) (ls : List D) : Nat := (List.range ls.length).findIdx (badL n ls)
noncomputable def sd0_yes (sw : Int) (ls_nl : Bool) (ls : List D) (j : Nat) : Tree (Ex × St) := .ite (badA sw ls j) (.ret (.ret, sd0_x0 sw ls_nl ls (j : Nat) (mAt ls j))) (.ite (badB sw ls j) (.ret (.ret, sd0_x1 sw ls_nl ls (j : Nat) (mAt ls j))) (.ret (.ret, sd0_x3 sw ls_nl ls (j : Nat) (mAt ls j))))
noncomputable def sd0_res (sw : Int) (ls_nl : Bool) (ls : List D) (t24 : Int) (all : List D) : Tree (Ex × St) := .need (decide (t24 = 0) && (all.isEmpty && shortB ls.length)) (.ite ((List.range ls.length).any (badL sw ls)) (sd0_yes sw ls_nl ls (fstBad sw ls)) (.ret (.exit 0, sd0_x7 sw ls_nl ls (ls.length : Nat) (mAt ls ls.length))))
theorem keyB_self2 (s p : Int) : keyB mp47.3 (kE s p) (kE s p) = true := by simp [keyB, keyBL, mp47, kE, D.at, D.int]
theorem hasK_setK {m : List D} {k v : D} (h : keyB mp47.3 k k = true) : hasK mp47.3 (setK mp47.3 m k v) k = true := by
  unfold setK
  cases hq : hasK mp47.3 m k with
  | true =>
    simp only [cond_true]
    have hi : (m.findIdx fun (e : D) => keyB mp47.3 k (e.at 0)) < m.length := List.findIdx_lt_length.2 (by unfold hasK at hq; simpa using List.any_eq_true.1 hq)
    exact List.any_eq_true.2 ⟨_, List.mem_set hi _, h⟩
  | false =>
    simp only [cond_false]
    exact List.any_eq_true.2 ⟨_, List.mem_append_right _ (List.mem_singleton.2 rfl), h⟩
noncomputable def sd0_yR (sw : Int) (ls_nl : Bool) (ls : List D) (j : Nat) : Ex × St := bif badA sw ls j then (.ret, sd0_x0 sw ls_nl ls (j : Nat) (mAt ls j)) else bif badB sw ls j then (.ret, sd0_x1 sw ls_nl ls (j : Nat) (mAt ls j)) else (.ret, sd0_x3 sw ls_nl ls (j : Nat) (mAt ls j))
theorem sd0_yes_run (sw : Int) (ls_nl : Bool) (ls : List D) (j : Nat) : (sd0_yes sw ls_nl ls j).run = some (sd0_yR sw ls_nl ls j) := by
  unfold sd0_yes sd0_yR
  simp only [Tree.run_ite', Tree.run_ret']
  cases badA sw ls j <;> cases badB sw ls j <;> rfl
theorem sd0_ok (sw : Int) (ls_nl : Bool) (ls : List D) (t24 : Int) (all : List D) (ex : Ex) (st' : St) (hrun_ : (sd0_res sw ls_nl ls t24 all).run = some (ex, st')) : ∃ n, iterC (roundC (bodyF tab (envOf (P := Try.prog) [] [] []) 20 12 24 0 (loopOf (codeOf Try.f24) 0)) sd0_lp) n (sd0_tm sw ls_nl ls t24 all) = some (ex, st') := by
  obtain ⟨hp_, h_⟩ := Tree.run_need hrun_
  simp only [shortB, Bool.and_eq_true, decide_eq_true_eq, List.isEmpty_iff] at hp_
  obtain ⟨rfl, rfl, hl_⟩ := hp_
  have sl_ := search_loop0 (B := roundC (bodyF tab (envOf (P := Try.prog) [] [] []) 20 12 24 0 (loopOf (codeOf Try.f24) 0)) sd0_lp) (tm := fun t_ => sd0_tm sw ls_nl ls t_ (mAt ls t_.toNat)) (s := List.range ls.length) (f := badL sw ls) (yes := fun t_ => sd0_yR sw ls_nl ls t_.toNat) (no := (.exit 0, sd0_x7 sw ls_nl ls (ls.length : Nat) (mAt ls ls.length))) ?_ ?_ ?_ (by simp)
  · obtain ⟨m_, hm_⟩ := sl_
    refine ⟨m_, ?_⟩
    have hm2_ : iterC (roundC (bodyF tab (envOf (P := Try.prog) [] [] []) 20 12 24 0 (loopOf (codeOf Try.f24) 0)) sd0_lp) m_ (sd0_tm sw ls_nl ls 0 []) = _ := hm_
    rw [hm2_, ← h_, Tree.run_ite', sd0_yes_run, Tree.run_ret', Int.toNat_natCast]
    unfold fstBad
    cases (List.range ls.length).any (badL sw ls) <;> rfl
  · intro k_ hk_
    have hk_ : k_ < ls.length := by simpa using hk_
    rw [getD_range hk_]
    have d1_ : decide ((k_ : Int) < (ls.length : Nat)) = true := by simp; omega
    have d2_ : decide ((0 : Int) ≤ (k_ : Int)) = true := by simp
    have w_ := wrap64 (n := (k_ : Int) + 1) (by omega) (by omega)
    have e0_ : ((k_ : Nat) : Int).toNat = k_ := Int.toNat_natCast _
    have e1_ : (((k_ + 1 : Nat) : Nat) : Int).toNat = k_ + 1 := Int.toNat_natCast _
    simp only [e0_, e1_]
    rw [sd0_round]
    simp only [Tree.run_ret', Tree.run_need', Tree.run_ite', d1_, d2_, Bool.and_self, cond_true, Int.toNat_natCast, w_]
    have hA_ : (hasK mp47.3 (mAt ls k_) (D.a [D.i ((ls.getD k_ default).at 0).int, D.i ((ls.getD k_ default).at 1).int]) || (decide (((ls.getD k_ default).at 0).int < 1) || (decide (((ls.getD k_ default).at 0).int > sw) || (decide (((ls.getD k_ default).at 1).int < 1) || decide (((ls.getD k_ default).at 1).int > 4))))) = badA sw ls k_ := rfl
    have hB_ : (hasK mp47.3 (setK mp47.3 (mAt ls k_) (D.a [D.i ((ls.getD k_ default).at 0).int, D.i ((ls.getD k_ default).at 1).int]) (D.a [D.i ((ls.getD k_ default).at 2).int, D.i ((ls.getD k_ default).at 3).int, D.i (k_ : Int)])) (D.a [D.i ((ls.getD k_ default).at 2).int, D.i ((ls.getD k_ default).at 3).int]) || (decide (((ls.getD k_ default).at 2).int < 1) || (decide (((ls.getD k_ default).at 2).int > sw) || (decide (((ls.getD k_ default).at 3).int < 1) || decide (((ls.getD k_ default).at 3).int > 4))))) = badB sw ls k_ := rfl
    have hS_ : (((ls.getD k_ default).at 0).int == ((ls.getD k_ default).at 2).int) = badS ls k_ := rfl
    have s1_ : (((ls.getD k_ default).at 0).int == ((ls.getD k_ default).at 0).int && (((ls.getD k_ default).at 1).int == ((ls.getD k_ default).at 1).int && true)) = true := by simp
    rw [hA_, s1_]
    unfold badL sd0_yR
    cases qA_ : badA sw ls k_ with
    | true => rfl
    | false =>
      simp only [cond_false, cond_true, Bool.false_or]
      rw [hB_]
      cases qB_ : badB sw ls k_ with
      | true => rfl
      | false =>
        simp only [cond_false, Bool.false_or]
        have s2_ : (((ls.getD k_ default).at 2).int == ((ls.getD k_ default).at 0).int && (((ls.getD k_ default).at 3).int == ((ls.getD k_ default).at 1).int && true)) = false := by
          rw [← Bool.not_eq_true]
          intro hq_
          simp only [Bool.and_true, Bool.and_eq_true, beq_iff_eq] at hq_
          have hk3_ : kB (ls.getD k_ default) = kA (ls.getD k_ default) := by unfold kA kB; rw [hq_.1, hq_.2]
          unfold badB at qB_
          rw [hk3_] at qB_
          unfold mA at qB_
          rw [hasK_setK (m := mAt ls k_) (k := kA (ls.getD k_ default)) (v := vA (ls.getD k_ default) k_) (keyB_self2 _ _)] at qB_
          cases qB_
        rw [s2_, hS_]
        simp only [cond_false]
        cases badS ls k_ <;> rfl
  · rw [List.length_range]
    have d1_ : decide (((ls.length : Nat) : Int) < (ls.length : Nat)) = false := by simp
    simp only [sd0_round, Tree.run_ite', d1_]
    rfl
  · intro t_
    unfold sd0_yR
    cases badA sw ls t_.toNat <;> cases badB sw ls t_.toNat <;> simp
noncomputable def sd0_run (sw : Int) (ls_nl : Bool) (ls : List D) (st : St) : Tree (Ex × St) := .need (chkSt st (sd0_tm sw ls_nl ls (iOf (slotV st 24)) (xsOf (rowsV st 1)))) (sd0_res sw ls_nl ls (iOf (slotV st 24)) (xsOf (rowsV st 1)))
noncomputable def sd0_lc (sw : Int) (ls_nl : Bool) (ls : List D) : LC Try.prog := LC.of (T := tab) follows (envOf_good _ _ _) 20 12 24 0 Try.f24 Try.func24 (codeOf Try.f24) (loopOf (codeOf Try.f24) 0) (by kernel_rfl) (by kernel_rfl) sd0_lp (sd0_run sw ls_nl ls)
  (inner_loops (c := codeOf Try.f24) Try.func24 (by kernel_rfl) (by kernel_rfl))
  (by
    intro st ex st' h
    obtain ⟨hc, h⟩ := Tree.run_need h
    have e := chk_iff.1 hc
    have := sd0_ok sw ls_nl ls _ _ ex st' h
    rw [← e] at this
    exact this)
theorem sides_tree (sw : Int) (ls_nl : Bool) (ls : List D) : callG tab (envOf (P := Try.prog) [] [] [(sd0_lc sw ls_nl ls)]) 20 12 24 [SV.agg [SV.si IntKind.i64 sw, SV.lst (.agg [.int .i64, .int .i64, .int .i64, .int .i64]) ls_nl ls]] [] =
    (Tree.ite (decide (sw < (1 : Int)) || decide (sw > (6 : Int))) (Tree.ret ((SV.tup [(SV.val (Value.map none)), (SV.sb (false))]), [])) (Tree.need (chkSt (sd0_tm sw ls_nl ls (0 : Int) []) (sd0_tm sw ls_nl ls (0 : Int) [])) (Tree.need (decide ((0 : Int) = (0 : Int)) && (true && shortB (List.length ls))) (Tree.ite (List.any (List.range (List.length ls)) (badL sw ls)) (Tree.ite (badA sw ls (fstBad sw ls)) (Tree.ret ((SV.tup [(SV.val (Value.map none)), (SV.sb (false))]), [])) (Tree.ite (badB sw ls (fstBad sw ls)) (Tree.ret ((SV.tup [(SV.val (Value.map none)), (SV.sb (false))]), [])) (Tree.ret ((SV.tup [(SV.val (Value.map none)), (SV.sb (false))]), [])))) (Tree.ret ((SV.tup [(SV.mp 0), (SV.sb (true))]), [(Option.some (Blk.mk (Con.mapc (Sh.agg [(Sh.int IntKind.i64), (Sh.int IntKind.i64)]) (Sh.agg [(Sh.int IntKind.i64), (Sh.int IntKind.i64), (Sh.int IntKind.i64)]) (mAt ls (List.length ls))) 47 (false)))])))))) := by kernel_rfl
theorem sides_run (sw : Int) (ls_nl : Bool) (ls : List D) {r : SV} {H' : Hp} (h : (.need (shortB ls.length) (.ite (badG sw ls) (.ret (.tup [.val (.map none), .sb false], [])) (.ret (.tup [.mp 0, .sb true], [some ⟨.mapc mp47.3 mp47.4 (mAt ls ls.length), 47, false⟩]))) : Tree (SV × Hp)).run = some (r, H')) : (callG tab (envOf (P := Try.prog) [] [] [(sd0_lc sw ls_nl ls)]) 20 12 24 [SV.agg [SV.si IntKind.i64 sw, SV.lst (.agg [.int .i64, .int .i64, .int .i64, .int .i64]) ls_nl ls]] []).run = some (r, H') := by
  rw [sides_tree]
  obtain ⟨hp_, h_⟩ := Tree.run_need h
  rw [← h_]
  unfold badG
  simp only [Tree.run_ret', Tree.run_need', Tree.run_ite', sd0_yes, chk_self, hp_, decide_true, List.isEmpty_nil, Bool.and_self, cond_true]
  cases (decide (sw < 1) || decide (sw > 6)) with
  | true => rfl
  | false =>
    cases (List.range ls.length).any (badL sw ls) with
    | true =>
      simp only [cond_true, cond_false, Bool.or_true]
      cases badA sw ls (fstBad sw ls) <;> cases badB sw ls (fstBad sw ls) <;> rfl
    | false => rfl
def sides_tr : List D → Option (Tree (SV × Hp))
  | [.a [.i sw, .l ls_nl ls]] => some (.need (shortB ls.length) (.ite (badG sw ls) (.ret (.tup [.val (.map none), .sb false], [])) (.ret (.tup [.mp 0, .sb true], [some ⟨.mapc mp47.3 mp47.4 (mAt ls ls.length), 47, false⟩]))))
  | _ => none
noncomputable def sides_ct : Ct Try.prog := Ct.run (T := tab) follows 20 12 24 [.d (.agg [(.int .i64), (.list (.agg [.int .i64, .int .i64, .int .i64, .int .i64]))])] sides_tr (by
  intro ds t r H' ht hr
  unfold sides_tr at ht
  split at ht
  · rename_i sw ls_nl ls
    simp only [Option.some.injEq] at ht
    subst ht
    exact ⟨_, _, _, envOf_good _ _ _, sides_run sw ls_nl ls hr, rfl, rfl⟩
  · cases ht) (enters_of (c := codeOf Try.f24) Try.func24 (by kernel_rfl) (by kernel_rfl))
end Go.Proofs.Ytmokkonnilmdfaa
