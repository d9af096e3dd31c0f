/-
  Functions of the program, by their runs.
  No statement of the seat is proved here. Conditions: none.
-/
import Derived.Test.YtgodelllnilcfaaY25
import Derived.Test.YtgodelllnilcfaaTab09
import Derived.Test.YtgodelllnilcfaaV09
import Derived.Test.YtgodelllnilcfaaK09w
set_option linter.unusedSimpArgs false
set_option linter.unusedVariables false
set_option maxRecDepth 100000
namespace Go.Proofs.Ytgodelllnilcfaa
open Go.Sy Go.RowKit
def bringI (i n : Int) : Int := bif decide (Int.tmod i n < 0) then IntKind.wrap .i64 (Int.tmod i n + n) else Int.tmod i n
def band (a b : Int) : Int := bits .and .u8 a b
theorem made_tree (rk rpr rto rpo rv rp rb0 rb1 rb2 ri0 ri1 ri2 : Int) (ro_nl : Bool) (ro : List D) : callG tab (envOf (P := Try.prog) [bring_pc] [] []) 20 12 10 [SV.agg [SV.si IntKind.i64 rk, SV.si IntKind.i64 rpr, SV.si IntKind.i64 rto, SV.si IntKind.i64 rpo, SV.si IntKind.i64 rv, SV.si IntKind.i64 rp, SV.si IntKind.u8 rb0, SV.si IntKind.u8 rb1, SV.si IntKind.u8 rb2, SV.si IntKind.u8 ri0, SV.si IntKind.u8 ri1, SV.si IntKind.u8 ri2, SV.lst (.agg [.int .i64, .int .i64, .int .i64, .int .i64]) ro_nl ro]] [] =
    (Tree.ite (Int.tmod rk (4 : Int) == (0 : Int)) (Tree.need (!(7 : Int) == (0 : Int)) (Tree.need (!(5 : Int) == (0 : Int)) (Tree.ret ((SV.agg [(SV.si IntKind.i64 ((2 : Int))), (SV.si IntKind.i64 ((0 : Int))), (SV.si IntKind.i64 (bif decide (Int.tmod rto (7 : Int) < (0 : Int)) then IntKind.wrap IntKind.i64 (Int.tmod rto (7 : Int) + (7 : Int)) else Int.tmod rto (7 : Int))), (SV.si IntKind.i64 (bif decide (Int.tmod rpo (5 : Int) < (0 : Int)) then IntKind.wrap IntKind.i64 (Int.tmod rpo (5 : Int) + (5 : Int)) else Int.tmod rpo (5 : Int))), (SV.si IntKind.i64 ((0 : Int))), (SV.si IntKind.i64 ((0 : Int))), (SV.si IntKind.u8 ((0 : Int))), (SV.si IntKind.u8 ((0 : Int))), (SV.si IntKind.u8 ((0 : Int))), (SV.si IntKind.u8 ((0 : Int))), (SV.si IntKind.u8 ((0 : Int))), (SV.si IntKind.u8 ((0 : Int))), (SV.val (Value.slice none (nat_lit 0) (nat_lit 0)))]), [])))) (Tree.need (!(3 : Int) == (0 : Int)) (Tree.need (!(6 : Int) == (0 : Int)) (Tree.need (!(4 : Int) == (0 : Int)) (Tree.need (!(5 : Int) == (0 : Int)) (Tree.ret ((SV.agg [(SV.si IntKind.i64 ((1 : Int))), (SV.si IntKind.i64 (bif decide (Int.tmod rpr (4 : Int) < (0 : Int)) then IntKind.wrap IntKind.i64 (Int.tmod rpr (4 : Int) + (4 : Int)) else Int.tmod rpr (4 : Int))), (SV.si IntKind.i64 ((0 : Int))), (SV.si IntKind.i64 ((0 : Int))), (SV.si IntKind.i64 (bif decide (Int.tmod rv (3 : Int) < (0 : Int)) then IntKind.wrap IntKind.i64 (Int.tmod rv (3 : Int) + (3 : Int)) else Int.tmod rv (3 : Int))), (SV.si IntKind.i64 (IntKind.wrap IntKind.i64 ((bif decide (Int.tmod rp (6 : Int) < (0 : Int)) then IntKind.wrap IntKind.i64 (Int.tmod rp (6 : Int) + (6 : Int)) else Int.tmod rp (6 : Int)) - (1 : Int)))), (SV.si IntKind.u8 (bits BinOp.and IntKind.u8 rb0 (3 : Int))), (SV.si IntKind.u8 (bits BinOp.and IntKind.u8 rb1 (3 : Int))), (SV.si IntKind.u8 (bits BinOp.and IntKind.u8 rb2 (3 : Int))), (SV.si IntKind.u8 (bits BinOp.and IntKind.u8 ri0 (bits BinOp.and IntKind.u8 rb0 (3 : Int)))), (SV.si IntKind.u8 (bits BinOp.and IntKind.u8 ri1 (bits BinOp.and IntKind.u8 rb1 (3 : Int)))), (SV.si IntKind.u8 (bits BinOp.and IntKind.u8 ri2 (bits BinOp.and IntKind.u8 rb2 (3 : Int)))), (SV.sl 0 0 1 1)]), [(Option.some (Blk.mk (Con.cells [(SV.si IntKind.i64 (bif decide (Int.tmod rpo (5 : Int) < (0 : Int)) then IntKind.wrap IntKind.i64 (Int.tmod rpo (5 : Int) + (5 : Int)) else Int.tmod rpo (5 : Int))), (SV.si IntKind.i64 ((-1 : Int))), (SV.si IntKind.i64 ((-1 : Int))), (SV.si IntKind.i64 ((-1 : Int)))]) 57 (false)))]))))))) := by kernel_rfl
theorem made_run (rk rpr rto rpo rv rp rb0 rb1 rb2 ri0 ri1 ri2 : Int) (ro_nl : Bool) (ro : List D) {r : SV} {H' : Hp} (h : (.ite (Int.tmod rk 4 == 0) (.ret (.agg [.si .i64 2, .si .i64 0, .si .i64 (bringI rto 7), .si .i64 (bringI rpo 5), .si .i64 0, .si .i64 0, .si .u8 0, .si .u8 0, .si .u8 0, .si .u8 0, .si .u8 0, .si .u8 0, .val (.slice none 0 0)], [])) (.ret (.agg [.si .i64 1, .si .i64 (bringI rpr 4), .si .i64 0, .si .i64 0, .si .i64 (bringI rv 3), .si .i64 (IntKind.wrap .i64 (bringI rp 6 - 1)), .si .u8 (band rb0 3), .si .u8 (band rb1 3), .si .u8 (band rb2 3), .si .u8 (band ri0 (band rb0 3)), .si .u8 (band ri1 (band rb1 3)), .si .u8 (band ri2 (band rb2 3)), .sl 0 0 1 1], [some ⟨.cells [.si .i64 (bringI rpo 5), .si .i64 (-1), .si .i64 (-1), .si .i64 (-1)], 57, false⟩])) : Tree (SV × Hp)).run = some (r, H')) : (callG tab (envOf (P := Try.prog) [bring_pc] [] []) 20 12 10 [SV.agg [SV.si IntKind.i64 rk, SV.si IntKind.i64 rpr, SV.si IntKind.i64 rto, SV.si IntKind.i64 rpo, SV.si IntKind.i64 rv, SV.si IntKind.i64 rp, SV.si IntKind.u8 rb0, SV.si IntKind.u8 rb1, SV.si IntKind.u8 rb2, SV.si IntKind.u8 ri0, SV.si IntKind.u8 ri1, SV.si IntKind.u8 ri2, SV.lst (.agg [.int .i64, .int .i64, .int .i64, .int .i64]) ro_nl ro]] []).run = some (r, H') := by
  rw [made_tree]
  rw [← h]
  simp only [Tree.run_ret', Tree.run_need', Tree.run_ite']
  rfl
def made_tr : List D → Option (Tree (SV × Hp))
  | [.a [.i rk, .i rpr, .i rto, .i rpo, .i rv, .i rp, .i rb0, .i rb1, .i rb2, .i ri0, .i ri1, .i ri2, .l ro_nl ro]] => some (.ite (Int.tmod rk 4 == 0) (.ret (.agg [.si .i64 2, .si .i64 0, .si .i64 (bringI rto 7), .si .i64 (bringI rpo 5), .si .i64 0, .si .i64 0, .si .u8 0, .si .u8 0, .si .u8 0, .si .u8 0, .si .u8 0, .si .u8 0, .val (.slice none 0 0)], [])) (.ret (.agg [.si .i64 1, .si .i64 (bringI rpr 4), .si .i64 0, .si .i64 0, .si .i64 (bringI rv 3), .si .i64 (IntKind.wrap .i64 (bringI rp 6 - 1)), .si .u8 (band rb0 3), .si .u8 (band rb1 3), .si .u8 (band rb2 3), .si .u8 (band ri0 (band rb0 3)), .si .u8 (band ri1 (band rb1 3)), .si .u8 (band ri2 (band rb2 3)), .sl 0 0 1 1], [some ⟨.cells [.si .i64 (bringI rpo 5), .si .i64 (-1), .si .i64 (-1), .si .i64 (-1)], 57, false⟩])))
  | _ => none
noncomputable def made_ct : Ct Try.prog := Ct.runF (T := tab) follows 20 12 10 [.d (.agg [(.int .i64), (.int .i64), (.int .i64), (.int .i64), (.int .i64), (.int .i64), (.int .u8), (.int .u8), (.int .u8), (.int .u8), (.int .u8), (.int .u8), (.list (.agg [.int .i64, .int .i64, .int .i64, .int .i64]))])] made_tr (by
  intro ds t r H' ht hr
  unfold made_tr at ht
  split at ht
  · rename_i rk rpr rto rpo rv rp rb0 rb1 rb2 ri0 ri1 ri2 ro_nl ro
    simp only [Option.some.injEq] at ht
    subst ht
    exact ⟨_, _, _, envOf_good _ _ _, made_run rk rpr rto rpo rv rp rb0 rb1 rb2 ri0 ri1 ri2 ro_nl ro hr, rfl, rfl⟩
  · cases ht) (enters_of (c := codeOf Try.f10) Try.func10 (by kernel_rfl) (by kernel_rfl))
/-- A rule that may be, out of any. -/
def ctlR (d : D) : Rk := ⟨2, 0, bringI (d.at 2).int 7, bringI (d.at 3).int 5, 0, 0, 0, 0, 0, 0, 0, 0⟩
def datR (d : D) : Rk := ⟨1, bringI (d.at 1).int 4, 0, 0, bringI (d.at 4).int 3, IntKind.wrap .i64 (bringI (d.at 5).int 6 - 1), band (d.at 6).int 3, band (d.at 7).int 3, band (d.at 8).int 3, band (d.at 9).int (band (d.at 6).int 3), band (d.at 10).int (band (d.at 7).int 3), band (d.at 11).int (band (d.at 8).int 3)⟩
def datO (d : D) : List D := [.a [.i (bringI (d.at 3).int 5), .i (-1), .i (-1), .i (-1)]]
/-- A table's rules behind an Add. -/
def addL (room : Int) (p : Bool × List D) (r : Rk) (nl : Bool) (o : List D) : Bool × List D :=
  bif chkR r o != 0 then p else bif hitB p.2 r then (p.1, p.2.set (bsN p.2 r) (cpD r nl o)) else bif decide ((p.2.length : Int) ≥ room) then p else (false, insD p.2 (bsN p.2 r) (cpD r nl o))
def mAdd (p : Bool × List D) (d : D) : Bool × List D := bif Int.tmod (d.at 0).int 4 == 0 then addL 64 p (ctlR d) true [] else addL 64 p (datR d) false (datO d)
def mAll (l : List D) : Bool × List D := (l.take 60).foldl mAdd (true, [])
theorem addL_run {X : Type} (T : Bool → List D → X) (room : Int) (p : Bool × List D) (r : Rk) (nl : Bool) (o : List D) : (bif (chkR r o != 0) then some (T p.1 p.2) else bif hitB p.2 r then some (T p.1 (p.2.set (bsN p.2 r) (cpD r nl o))) else bif decide ((p.2.length : Int) ≥ room) then some (T p.1 p.2) else some (T false (insD p.2 (bsN p.2 r) (cpD r nl o)))) = some (T (addL room p r nl o).1 (addL room p r nl o).2) := by
  unfold addL
  cases (chkR r o != 0) <;> cases hitB p.2 r <;> cases decide ((p.2.length : Int) ≥ room) <;> rfl
theorem insD_length (x : List D) (n : Nat) (d : D) : (insD x n d).length ≤ x.length + 1 := by unfold insD; simp; omega
theorem cpy_cpD (r : Rk) (nl : Bool) (o : List D) : cpy (cpD r nl o) = cpD r nl o := by cases nl <;> rfl
/-- Rows are as a copy leaves them. -/
def Fine (x : List D) : Prop := ∀ d ∈ x, cpy d = d ∧ outsFew d = true
theorem Fine.ins {x : List D} (h : Fine x) {n : Nat} {d : D} (h1 : cpy d = d) (h2 : outsFew d = true) : Fine (insD x n d) := by
  intro e he
  unfold insD at he
  simp only [List.mem_append, List.mem_singleton] at he
  rcases he with (he | he) | he
  · exact h e (List.mem_of_mem_take he)
  · rw [he]; exact ⟨h1, h2⟩
  · exact h e (List.mem_of_mem_drop he)
theorem Fine.set {x : List D} (h : Fine x) {n : Nat} {d : D} (h1 : cpy d = d) (h2 : outsFew d = true) : Fine (x.set n d) := by
  intro e he
  rcases List.mem_or_eq_of_mem_set he with he | he
  · exact h e he
  · rw [he]; exact ⟨h1, h2⟩
theorem addL_fine {room : Int} {p : Bool × List D} {r : Rk} {nl : Bool} {o : List D} (h : Fine p.2) (ho : nl = true ∨ o.length ≤ 1000) : Fine (addL room p r nl o).2 ∧ (addL room p r nl o).2.length ≤ p.2.length + 1 := by
  have h1 := cpy_cpD r nl o
  have h2 : outsFew (cpD r nl o) = true := by
    rcases ho with ho | ho
    · rw [ho]; rfl
    · cases nl with
      | true => rfl
      | false => unfold outsFew cpD; simp [D.at, D.nl, D.xs, fewB, ho]
  unfold addL
  cases (chkR r o != 0) with
  | true => exact ⟨h, by simp⟩
  | false =>
    cases hitB p.2 r with
    | true => exact ⟨h.set h1 h2, by simp⟩
    | false =>
      cases decide ((p.2.length : Int) ≥ room) with
      | true => exact ⟨h, by simp⟩
      | false => exact ⟨h.ins h1 h2, insD_length _ _ _⟩
theorem mAdd_fine {p : Bool × List D} {d : D} (h : Fine p.2) : Fine (mAdd p d).2 ∧ (mAdd p d).2.length ≤ p.2.length + 1 := by
  unfold mAdd
  cases (Int.tmod (d.at 0).int 4 == 0) with
  | true => exact addL_fine h (.inl rfl)
  | false => exact addL_fine h (.inr (by simp [datO]))
theorem foldA_fine : ∀ (l : List D) (p : Bool × List D), Fine p.2 → Fine (l.foldl mAdd p).2 ∧ (l.foldl mAdd p).2.length ≤ p.2.length + l.length
  | [], p, h => ⟨h, by simp⟩
  | a :: r, p, h => by
    have h1 := mAdd_fine (d := a) h
    have h2 := foldA_fine r (mAdd p a) h1.1
    exact ⟨h2.1, by simp only [List.foldl_cons, List.length_cons]; omega⟩
theorem mAll_fine (l : List D) : Fine (mAll l).2 ∧ (mAll l).2.length ≤ 60 := by
  have := foldA_fine (l.take 60) (true, []) (by intro e he; cases he)
  exact ⟨this.1, by have h2 := this.2; simp at h2; unfold mAll; omega⟩
noncomputable def lo0_tm (l_nl : Bool) (l : List D) (mv mp mb0 mb1 mb2 mi0 mi1 mi2 i b1_1 : Int) (b1_2 l2_nl : Bool) (l2 : List D) : St :=
  ⟨(Tm.at 113 [(0, (Slot.is (SV.lst (Sh.agg [(Sh.int IntKind.i64), (Sh.int IntKind.i64), (Sh.int IntKind.i64), (Sh.int IntKind.i64), (Sh.int IntKind.i64), (Sh.int IntKind.i64), (Sh.int IntKind.u8), (Sh.int IntKind.u8), (Sh.int IntKind.u8), (Sh.int IntKind.u8), (Sh.int IntKind.u8), (Sh.int IntKind.u8), (Sh.list (Sh.agg [(Sh.int IntKind.i64), (Sh.int IntKind.i64), (Sh.int IntKind.i64), (Sh.int IntKind.i64)]))]) (l_nl) (l)))), (3, (Slot.is (SV.ref 0 0))), (5, (Slot.is (SV.ref 1 0))), (7, (Slot.is (SV.si IntKind.i64 (i))))]), [(Option.some (Blk.mk (Con.cells [(SV.si IntKind.i64 (mv)), (SV.si IntKind.i64 (mp)), (SV.si IntKind.u8 (mb0)), (SV.si IntKind.u8 (mb1)), (SV.si IntKind.u8 (mb2)), (SV.si IntKind.u8 (mi0)), (SV.si IntKind.u8 (mi1)), (SV.si IntKind.u8 (mi2))]) 32 (false))), (Option.some (Blk.mk (Con.cells [(SV.own 2), (SV.si IntKind.i64 (b1_1)), (SV.sb (b1_2))]) 64 (false))), (Option.some (Blk.mk (Con.rows (Sh.agg [(Sh.int IntKind.i64), (Sh.int IntKind.i64), (Sh.int IntKind.i64), (Sh.int IntKind.i64), (Sh.int IntKind.i64), (Sh.int IntKind.i64), (Sh.int IntKind.u8), (Sh.int IntKind.u8), (Sh.int IntKind.u8), (Sh.int IntKind.u8), (Sh.int IntKind.u8), (Sh.int IntKind.u8), (Sh.list (Sh.agg [(Sh.int IntKind.i64), (Sh.int IntKind.i64), (Sh.int IntKind.i64), (Sh.int IntKind.i64)]))]) (l2_nl) (l2)) 35 (false)))]⟩
def lo0_lp : LP := { base := 2, mv := [], mask := 169, maskX := 40, nm := 128, nb := [1], kl := [], klX := [], ow := [⟨some 1, 0, (.agg [.int .i64, .int .i64, .int .i64, .int .i64, .int .i64, .int .i64, .int .u8, .int .u8, .int .u8, .int .u8, .int .u8, .int .u8, .list (.agg [.int .i64, .int .i64, .int .i64, .int .i64])]), 35⟩] }
noncomputable def lo0_x0 (l_nl : Bool) (l : List D) (mv mp mb0 mb1 mb2 mi0 mi1 mi2 i b1_1 : Int) (b1_2 l2_nl : Bool) (l2 : List D) : St :=
  ⟨(Tm.at 113 [(3, (Slot.is (SV.ref 0 0))), (5, (Slot.is (SV.ref 1 0)))]), [(Option.some (Blk.mk (Con.cells [(SV.si IntKind.i64 (mv)), (SV.si IntKind.i64 (mp)), (SV.si IntKind.u8 (mb0)), (SV.si IntKind.u8 (mb1)), (SV.si IntKind.u8 (mb2)), (SV.si IntKind.u8 (mi0)), (SV.si IntKind.u8 (mi1)), (SV.si IntKind.u8 (mi2))]) 32 (false))), (Option.some (Blk.mk (Con.cells [(SV.own 2), (SV.si IntKind.i64 (b1_1)), (SV.sb (b1_2))]) 64 (false))), (Option.some (Blk.mk (Con.rows (Sh.agg [(Sh.int IntKind.i64), (Sh.int IntKind.i64), (Sh.int IntKind.i64), (Sh.int IntKind.i64), (Sh.int IntKind.i64), (Sh.int IntKind.i64), (Sh.int IntKind.u8), (Sh.int IntKind.u8), (Sh.int IntKind.u8), (Sh.int IntKind.u8), (Sh.int IntKind.u8), (Sh.int IntKind.u8), (Sh.list (Sh.agg [(Sh.int IntKind.i64), (Sh.int IntKind.i64), (Sh.int IntKind.i64), (Sh.int IntKind.i64)]))]) (l2_nl) (l2)) 35 (false)))]⟩
theorem lo0_round (l_nl : Bool) (l : List D) (mv mp mb0 mb1 mb2 mi0 mi1 mi2 i b1_1 : Int) (b1_2 l2_nl : Bool) (l2 : List D) : roundC (bodyF tab (envOf (P := Try.prog) [bring_pc, same_pc, covers_pc, works_pc] [made_ct, add_ct, loose_ct, wipe_ct, rules_ct, len_ct] []) 20 12 6 0 (loopOf (codeOf Try.f6) 0)) lo0_lp (lo0_tm l_nl l mv mp mb0 mb1 mb2 mi0 mi1 mi2 i b1_1 b1_2 l2_nl l2) =
    (Tree.ite (decide (i < (↑(List.length l) : Int)) && decide (i < (60 : Int))) (Tree.need (decide ((0 : Int) ≤ i) && decide (i < (↑(List.length l) : Int))) (Tree.ite (Int.tmod (D.int (D.at (List.getD l (Int.toNat i) default) (0 : Nat))) (4 : Int) == (0 : Int)) (Tree.need (fewB (List.length l2) && fewB (0 : Nat)) (Tree.ite (!b1_2) (Tree.ret (Ex.normal, (lo0_tm (l_nl) (l) (mv) (mp) (mb0) (mb1) (mb2) (mi0) (mi1) (mi2) (IntKind.wrap IntKind.i64 (i + (1 : Int))) (b1_1) (b1_2) (l2_nl) (l2)))) (Tree.ite (chkR { k := (2 : Int), pr := (0 : Int), to := bringI (D.int (D.at (List.getD l (Int.toNat i) default) (2 : Nat))) (7 : Int), po := bringI (D.int (D.at (List.getD l (Int.toNat i) default) (3 : Nat))) (5 : Int), v := (0 : Int), p := (0 : Int), b0 := (0 : Int), b1 := (0 : Int), b2 := (0 : Int), i0 := (0 : Int), i1 := (0 : Int), i2 := (0 : Int) } [] != (0 : Int)) (Tree.ret (Ex.normal, (lo0_tm (l_nl) (l) (mv) (mp) (mb0) (mb1) (mb2) (mi0) (mi1) (mi2) (IntKind.wrap IntKind.i64 (i + (1 : Int))) (b1_1) (b1_2) (l2_nl) (l2)))) (Tree.ite (hitB l2 { k := (2 : Int), pr := (0 : Int), to := bringI (D.int (D.at (List.getD l (Int.toNat i) default) (2 : Nat))) (7 : Int), po := bringI (D.int (D.at (List.getD l (Int.toNat i) default) (3 : Nat))) (5 : Int), v := (0 : Int), p := (0 : Int), b0 := (0 : Int), b1 := (0 : Int), b2 := (0 : Int), i0 := (0 : Int), i1 := (0 : Int), i2 := (0 : Int) }) (Tree.ret (Ex.normal, (lo0_tm (l_nl) (l) (mv) (mp) (mb0) (mb1) (mb2) (mi0) (mi1) (mi2) (IntKind.wrap IntKind.i64 (i + (1 : Int))) (b1_1) (b1_2) (l2_nl) (List.set l2 (bsN l2 { k := (2 : Int), pr := (0 : Int), to := bringI (D.int (D.at (List.getD l (Int.toNat i) default) (2 : Nat))) (7 : Int), po := bringI (D.int (D.at (List.getD l (Int.toNat i) default) (3 : Nat))) (5 : Int), v := (0 : Int), p := (0 : Int), b0 := (0 : Int), b1 := (0 : Int), b2 := (0 : Int), i0 := (0 : Int), i1 := (0 : Int), i2 := (0 : Int) }) (cpD { k := (2 : Int), pr := (0 : Int), to := bringI (D.int (D.at (List.getD l (Int.toNat i) default) (2 : Nat))) (7 : Int), po := bringI (D.int (D.at (List.getD l (Int.toNat i) default) (3 : Nat))) (5 : Int), v := (0 : Int), p := (0 : Int), b0 := (0 : Int), b1 := (0 : Int), b2 := (0 : Int), i0 := (0 : Int), i1 := (0 : Int), i2 := (0 : Int) } true []))))) (Tree.ite (decide ((↑(List.length l2) : Int) ≥ b1_1)) (Tree.ret (Ex.normal, (lo0_tm (l_nl) (l) (mv) (mp) (mb0) (mb1) (mb2) (mi0) (mi1) (mi2) (IntKind.wrap IntKind.i64 (i + (1 : Int))) (b1_1) (b1_2) (l2_nl) (l2)))) (Tree.ret (Ex.normal, (lo0_tm (l_nl) (l) (mv) (mp) (mb0) (mb1) (mb2) (mi0) (mi1) (mi2) (IntKind.wrap IntKind.i64 (i + (1 : Int))) (b1_1) (b1_2) (false) (insD l2 (bsN l2 { k := (2 : Int), pr := (0 : Int), to := bringI (D.int (D.at (List.getD l (Int.toNat i) default) (2 : Nat))) (7 : Int), po := bringI (D.int (D.at (List.getD l (Int.toNat i) default) (3 : Nat))) (5 : Int), v := (0 : Int), p := (0 : Int), b0 := (0 : Int), b1 := (0 : Int), b2 := (0 : Int), i0 := (0 : Int), i1 := (0 : Int), i2 := (0 : Int) }) (cpD { k := (2 : Int), pr := (0 : Int), to := bringI (D.int (D.at (List.getD l (Int.toNat i) default) (2 : Nat))) (7 : Int), po := bringI (D.int (D.at (List.getD l (Int.toNat i) default) (3 : Nat))) (5 : Int), v := (0 : Int), p := (0 : Int), b0 := (0 : Int), b1 := (0 : Int), b2 := (0 : Int), i0 := (0 : Int), i1 := (0 : Int), i2 := (0 : Int) } true [])))))))))) (Tree.need (fewB (List.length l2) && fewB (1 : Nat)) (Tree.ite (!b1_2) (Tree.ret (Ex.normal, (lo0_tm (l_nl) (l) (mv) (mp) (mb0) (mb1) (mb2) (mi0) (mi1) (mi2) (IntKind.wrap IntKind.i64 (i + (1 : Int))) (b1_1) (b1_2) (l2_nl) (l2)))) (Tree.ite (chkR { k := (1 : Int), pr := bringI (D.int (D.at (List.getD l (Int.toNat i) default) (1 : Nat))) (4 : Int), to := (0 : Int), po := (0 : Int), v := bringI (D.int (D.at (List.getD l (Int.toNat i) default) (4 : Nat))) (3 : Int), p := IntKind.wrap IntKind.i64 (bringI (D.int (D.at (List.getD l (Int.toNat i) default) (5 : Nat))) (6 : Int) - (1 : Int)), b0 := band (D.int (D.at (List.getD l (Int.toNat i) default) (6 : Nat))) (3 : Int), b1 := band (D.int (D.at (List.getD l (Int.toNat i) default) (7 : Nat))) (3 : Int), b2 := band (D.int (D.at (List.getD l (Int.toNat i) default) (8 : Nat))) (3 : Int), i0 := band (D.int (D.at (List.getD l (Int.toNat i) default) (9 : Nat))) (band (D.int (D.at (List.getD l (Int.toNat i) default) (6 : Nat))) (3 : Int)), i1 := band (D.int (D.at (List.getD l (Int.toNat i) default) (10 : Nat))) (band (D.int (D.at (List.getD l (Int.toNat i) default) (7 : Nat))) (3 : Int)), i2 := band (D.int (D.at (List.getD l (Int.toNat i) default) (11 : Nat))) (band (D.int (D.at (List.getD l (Int.toNat i) default) (8 : Nat))) (3 : Int)) } [D.a [D.i (bringI (D.int (D.at (List.getD l (Int.toNat i) default) (3 : Nat))) (5 : Int)), D.i (-1 : Int), D.i (-1 : Int), D.i (-1 : Int)]] != (0 : Int)) (Tree.ret (Ex.normal, (lo0_tm (l_nl) (l) (mv) (mp) (mb0) (mb1) (mb2) (mi0) (mi1) (mi2) (IntKind.wrap IntKind.i64 (i + (1 : Int))) (b1_1) (b1_2) (l2_nl) (l2)))) (Tree.ite (hitB l2 { k := (1 : Int), pr := bringI (D.int (D.at (List.getD l (Int.toNat i) default) (1 : Nat))) (4 : Int), to := (0 : Int), po := (0 : Int), v := bringI (D.int (D.at (List.getD l (Int.toNat i) default) (4 : Nat))) (3 : Int), p := IntKind.wrap IntKind.i64 (bringI (D.int (D.at (List.getD l (Int.toNat i) default) (5 : Nat))) (6 : Int) - (1 : Int)), b0 := band (D.int (D.at (List.getD l (Int.toNat i) default) (6 : Nat))) (3 : Int), b1 := band (D.int (D.at (List.getD l (Int.toNat i) default) (7 : Nat))) (3 : Int), b2 := band (D.int (D.at (List.getD l (Int.toNat i) default) (8 : Nat))) (3 : Int), i0 := band (D.int (D.at (List.getD l (Int.toNat i) default) (9 : Nat))) (band (D.int (D.at (List.getD l (Int.toNat i) default) (6 : Nat))) (3 : Int)), i1 := band (D.int (D.at (List.getD l (Int.toNat i) default) (10 : Nat))) (band (D.int (D.at (List.getD l (Int.toNat i) default) (7 : Nat))) (3 : Int)), i2 := band (D.int (D.at (List.getD l (Int.toNat i) default) (11 : Nat))) (band (D.int (D.at (List.getD l (Int.toNat i) default) (8 : Nat))) (3 : Int)) }) (Tree.ret (Ex.normal, (lo0_tm (l_nl) (l) (mv) (mp) (mb0) (mb1) (mb2) (mi0) (mi1) (mi2) (IntKind.wrap IntKind.i64 (i + (1 : Int))) (b1_1) (b1_2) (l2_nl) (List.set l2 (bsN l2 { k := (1 : Int), pr := bringI (D.int (D.at (List.getD l (Int.toNat i) default) (1 : Nat))) (4 : Int), to := (0 : Int), po := (0 : Int), v := bringI (D.int (D.at (List.getD l (Int.toNat i) default) (4 : Nat))) (3 : Int), p := IntKind.wrap IntKind.i64 (bringI (D.int (D.at (List.getD l (Int.toNat i) default) (5 : Nat))) (6 : Int) - (1 : Int)), b0 := band (D.int (D.at (List.getD l (Int.toNat i) default) (6 : Nat))) (3 : Int), b1 := band (D.int (D.at (List.getD l (Int.toNat i) default) (7 : Nat))) (3 : Int), b2 := band (D.int (D.at (List.getD l (Int.toNat i) default) (8 : Nat))) (3 : Int), i0 := band (D.int (D.at (List.getD l (Int.toNat i) default) (9 : Nat))) (band (D.int (D.at (List.getD l (Int.toNat i) default) (6 : Nat))) (3 : Int)), i1 := band (D.int (D.at (List.getD l (Int.toNat i) default) (10 : Nat))) (band (D.int (D.at (List.getD l (Int.toNat i) default) (7 : Nat))) (3 : Int)), i2 := band (D.int (D.at (List.getD l (Int.toNat i) default) (11 : Nat))) (band (D.int (D.at (List.getD l (Int.toNat i) default) (8 : Nat))) (3 : Int)) }) (cpD { k := (1 : Int), pr := bringI (D.int (D.at (List.getD l (Int.toNat i) default) (1 : Nat))) (4 : Int), to := (0 : Int), po := (0 : Int), v := bringI (D.int (D.at (List.getD l (Int.toNat i) default) (4 : Nat))) (3 : Int), p := IntKind.wrap IntKind.i64 (bringI (D.int (D.at (List.getD l (Int.toNat i) default) (5 : Nat))) (6 : Int) - (1 : Int)), b0 := band (D.int (D.at (List.getD l (Int.toNat i) default) (6 : Nat))) (3 : Int), b1 := band (D.int (D.at (List.getD l (Int.toNat i) default) (7 : Nat))) (3 : Int), b2 := band (D.int (D.at (List.getD l (Int.toNat i) default) (8 : Nat))) (3 : Int), i0 := band (D.int (D.at (List.getD l (Int.toNat i) default) (9 : Nat))) (band (D.int (D.at (List.getD l (Int.toNat i) default) (6 : Nat))) (3 : Int)), i1 := band (D.int (D.at (List.getD l (Int.toNat i) default) (10 : Nat))) (band (D.int (D.at (List.getD l (Int.toNat i) default) (7 : Nat))) (3 : Int)), i2 := band (D.int (D.at (List.getD l (Int.toNat i) default) (11 : Nat))) (band (D.int (D.at (List.getD l (Int.toNat i) default) (8 : Nat))) (3 : Int)) } false [D.a [D.i (bringI (D.int (D.at (List.getD l (Int.toNat i) default) (3 : Nat))) (5 : Int)), D.i (-1 : Int), D.i (-1 : Int), D.i (-1 : Int)]]))))) (Tree.ite (decide ((↑(List.length l2) : Int) ≥ b1_1)) (Tree.ret (Ex.normal, (lo0_tm (l_nl) (l) (mv) (mp) (mb0) (mb1) (mb2) (mi0) (mi1) (mi2) (IntKind.wrap IntKind.i64 (i + (1 : Int))) (b1_1) (b1_2) (l2_nl) (l2)))) (Tree.ret (Ex.normal, (lo0_tm (l_nl) (l) (mv) (mp) (mb0) (mb1) (mb2) (mi0) (mi1) (mi2) (IntKind.wrap IntKind.i64 (i + (1 : Int))) (b1_1) (b1_2) (false) (insD l2 (bsN l2 { k := (1 : Int), pr := bringI (D.int (D.at (List.getD l (Int.toNat i) default) (1 : Nat))) (4 : Int), to := (0 : Int), po := (0 : Int), v := bringI (D.int (D.at (List.getD l (Int.toNat i) default) (4 : Nat))) (3 : Int), p := IntKind.wrap IntKind.i64 (bringI (D.int (D.at (List.getD l (Int.toNat i) default) (5 : Nat))) (6 : Int) - (1 : Int)), b0 := band (D.int (D.at (List.getD l (Int.toNat i) default) (6 : Nat))) (3 : Int), b1 := band (D.int (D.at (List.getD l (Int.toNat i) default) (7 : Nat))) (3 : Int), b2 := band (D.int (D.at (List.getD l (Int.toNat i) default) (8 : Nat))) (3 : Int), i0 := band (D.int (D.at (List.getD l (Int.toNat i) default) (9 : Nat))) (band (D.int (D.at (List.getD l (Int.toNat i) default) (6 : Nat))) (3 : Int)), i1 := band (D.int (D.at (List.getD l (Int.toNat i) default) (10 : Nat))) (band (D.int (D.at (List.getD l (Int.toNat i) default) (7 : Nat))) (3 : Int)), i2 := band (D.int (D.at (List.getD l (Int.toNat i) default) (11 : Nat))) (band (D.int (D.at (List.getD l (Int.toNat i) default) (8 : Nat))) (3 : Int)) }) (cpD { k := (1 : Int), pr := bringI (D.int (D.at (List.getD l (Int.toNat i) default) (1 : Nat))) (4 : Int), to := (0 : Int), po := (0 : Int), v := bringI (D.int (D.at (List.getD l (Int.toNat i) default) (4 : Nat))) (3 : Int), p := IntKind.wrap IntKind.i64 (bringI (D.int (D.at (List.getD l (Int.toNat i) default) (5 : Nat))) (6 : Int) - (1 : Int)), b0 := band (D.int (D.at (List.getD l (Int.toNat i) default) (6 : Nat))) (3 : Int), b1 := band (D.int (D.at (List.getD l (Int.toNat i) default) (7 : Nat))) (3 : Int), b2 := band (D.int (D.at (List.getD l (Int.toNat i) default) (8 : Nat))) (3 : Int), i0 := band (D.int (D.at (List.getD l (Int.toNat i) default) (9 : Nat))) (band (D.int (D.at (List.getD l (Int.toNat i) default) (6 : Nat))) (3 : Int)), i1 := band (D.int (D.at (List.getD l (Int.toNat i) default) (10 : Nat))) (band (D.int (D.at (List.getD l (Int.toNat i) default) (7 : Nat))) (3 : Int)), i2 := band (D.int (D.at (List.getD l (Int.toNat i) default) (11 : Nat))) (band (D.int (D.at (List.getD l (Int.toNat i) default) (8 : Nat))) (3 : Int)) } false [D.a [D.i (bringI (D.int (D.at (List.getD l (Int.toNat i) default) (3 : Nat))) (5 : Int)), D.i (-1 : Int), D.i (-1 : Int), D.i (-1 : Int)]])))))))))))) (Tree.ret ((Ex.exit 0), (lo0_x0 (l_nl) (l) (mv) (mp) (mb0) (mb1) (mb2) (mi0) (mi1) (mi2) (i) (b1_1) (b1_2) (l2_nl) (l2))))) := by kernel_rfl
noncomputable def lo0_res (l_nl : Bool) (l : List D) (mv mp mb0 mb1 mb2 mi0 mi1 mi2 : Int) (i b1_1 : Int) (b1_2 l2_nl : Bool) (l2 : List D) : Tree (Ex × St) := .need (decide (i = 0) && (decide (b1_1 = 64) && (b1_2 && (l2.isEmpty && l2_nl)))) (.ret (.exit 0, lo0_x0 l_nl l mv mp mb0 mb1 mb2 mi0 mi1 mi2 ((l.take 60).length : Nat) 64 true (mAll l).1 (mAll l).2))
theorem lo0_ok (l_nl : Bool) (l : List D) (mv mp mb0 mb1 mb2 mi0 mi1 mi2 : Int) (i b1_1 : Int) (b1_2 l2_nl : Bool) (l2 : List D) (ex : Ex) (st' : St) (hrun_ : (lo0_res l_nl l mv mp mb0 mb1 mb2 mi0 mi1 mi2 i b1_1 b1_2 l2_nl l2).run = some (ex, st')) : ∃ n, iterC (roundC (bodyF tab (envOf (P := Try.prog) [bring_pc, same_pc, covers_pc, works_pc] [made_ct, add_ct, loose_ct, wipe_ct, rules_ct, len_ct] []) 20 12 6 0 (loopOf (codeOf Try.f6) 0)) lo0_lp) n (lo0_tm l_nl l mv mp mb0 mb1 mb2 mi0 mi1 mi2 i b1_1 b1_2 l2_nl l2) = some (ex, st') := by
  obtain ⟨hp_, h_⟩ := Tree.run_need hrun_
  simp only [Bool.and_eq_true, decide_eq_true_eq] at hp_
  obtain ⟨e_, e1_, e2_, e4_, e5_⟩ := hp_
  simp only [Tree.run, Option.some.injEq, Prod.mk.injEq] at h_
  obtain ⟨rfl, rfl⟩ := h_
  subst e_
  subst e1_
  subst e2_
  have e3_ : l2 = [] := by simpa using e4_
  subst e3_
  subst e5_
  refine fold_loop0 (B := roundC (bodyF tab (envOf (P := Try.prog) [bring_pc, same_pc, covers_pc, works_pc] [made_ct, add_ct, loose_ct, wipe_ct, rules_ct, len_ct] []) 20 12 6 0 (loopOf (codeOf Try.f6) 0)) lo0_lp) (tm := fun t_ (o_ : Bool × List D) => lo0_tm l_nl l mv mp mb0 mb1 mb2 mi0 mi1 mi2 t_ 64 true o_.1 o_.2) (s := l.take 60) (g := mAdd) (fin := fun o_ => (.exit 0, lo0_x0 l_nl l mv mp mb0 mb1 mb2 mi0 mi1 mi2 ((l.take 60).length : Nat) 64 true o_.1 o_.2)) (I := fun k o => o.2.length ≤ k) (x := (true, [])) (by simp) ?_ ?_ (fun _ => by simp)
  · intro k_ x_ hk_ hi_
    have hk2_ : k_ < l.length ∧ k_ < 60 := by simp at hk_; omega
    have hl_ : (mAdd x_ ((l.take 60).getD k_ default)).2.length ≤ k_ + 1 := by
      have h_ : ∀ (p : Bool × List D) (d : D), (mAdd p d).2.length ≤ p.2.length + 1 := by
        intro p d
        unfold mAdd addL
        cases (Int.tmod (d.at 0).int 4 == 0) <;> simp only [cond_true, cond_false]
        · cases (chkR (datR d) (datO d) != 0) <;> cases hitB p.2 (datR d) <;> cases decide ((p.2.length : Int) ≥ 64) <;> simp [insD_length]
        · cases (chkR (ctlR d) [] != 0) <;> cases hitB p.2 (ctlR d) <;> cases decide ((p.2.length : Int) ≥ 64) <;> simp [insD_length]
      have := h_ x_ ((l.take 60).getD k_ default)
      omega
    refine ⟨?_, hl_⟩
    have d0_ : decide ((k_ : Int) < 60) = true := decide_eq_true (by omega)
    have d1_ : decide ((k_ : Int) < (l.length : Nat)) = true := decide_eq_true (by omega)
    have d2_ : decide ((0 : Int) ≤ (k_ : Int)) = true := decide_eq_true (by omega)
    have d3_ : fewB x_.2.length = true := by unfold fewB; exact decide_eq_true (by omega)
    have d4_ : fewB 0 = true := rfl
    have d6_ : fewB 1 = true := rfl
    have d5_ : (l.take 60).getD k_ default = l.getD k_ default := by rw [getD_at hk_, getD_at hk2_.1]; simp
    rw [lo0_round, d5_]
    simp only [Tree.run_ret', Tree.run_need', Tree.run_ite', d0_, d1_, d2_, d3_, d4_, d6_, Bool.and_self, cond_true, cond_false, Bool.not_true, Int.toNat_natCast, wrap64 (n := (k_ : Int) + 1) (by omega) (by omega)]
    generalize l.getD k_ default = d_
    unfold mAdd
    cases (Int.tmod (d_.at 0).int 4 == 0) with
    | true => exact addL_run (fun a b => (Ex.normal, lo0_tm l_nl l mv mp mb0 mb1 mb2 mi0 mi1 mi2 ((k_ + 1 : Nat) : Int) 64 true a b)) 64 x_ (ctlR d_) true []
    | false => exact addL_run (fun a b => (Ex.normal, lo0_tm l_nl l mv mp mb0 mb1 mb2 mi0 mi1 mi2 ((k_ + 1 : Nat) : Int) 64 true a b)) 64 x_ (datR d_) false (datO d_)
  · intro x_ hi_
    have d1_ : (decide ((((l.take 60).length : Nat) : Int) < (l.length : Nat)) && decide ((((l.take 60).length : Nat) : Int) < 60)) = false := by simp; omega
    simp only [lo0_round, Tree.run_ite', d1_]
    rfl
noncomputable def lo0_run (l_nl : Bool) (l : List D) (mv mp mb0 mb1 mb2 mi0 mi1 mi2 : Int) (st : St) : Tree (Ex × St) := .need (chkSt st (lo0_tm l_nl l mv mp mb0 mb1 mb2 mi0 mi1 mi2 (iOf (slotV st 7)) (iOf (cellV st 1 1)) (bOf (cellV st 1 2)) (nlOf (rowsV st 2)) (xsOf (rowsV st 2)))) (lo0_res l_nl l mv mp mb0 mb1 mb2 mi0 mi1 mi2 (iOf (slotV st 7)) (iOf (cellV st 1 1)) (bOf (cellV st 1 2)) (nlOf (rowsV st 2)) (xsOf (rowsV st 2)))
noncomputable def lo0_lc (l_nl : Bool) (l : List D) (mv mp mb0 mb1 mb2 mi0 mi1 mi2 : Int) : LC Try.prog := LC.of (T := tab) follows (envOf_good _ _ _) 20 12 6 0 Try.f6 Try.func6 (codeOf Try.f6) (loopOf (codeOf Try.f6) 0) (by kernel_rfl) (by kernel_rfl) lo0_lp (lo0_run l_nl l mv mp mb0 mb1 mb2 mi0 mi1 mi2)
  (inner_loops (c := codeOf Try.f6) Try.func6 (by kernel_rfl) (by kernel_rfl))
  (by
    intro st ex st' h
    obtain ⟨hc, h⟩ := Tree.run_need h
    have e := chk_iff.1 hc
    have := lo0_ok l_nl l mv mp mb0 mb1 mb2 mi0 mi1 mi2 _ _ _ _ _ ex st' h
    rw [← e] at this
    exact this)
theorem cmp_loop {f : D → Bool} {B : St → Tree (Ex × St)} {tm : Int → Int → St} {fin : Int → Ex × St} {X : List D}
    (skip : ∀ (a i : Nat), i < X.length → f (X.getD i default) = true → (B (tm a i)).run = some (.normal, tm a ((i + 1 : Nat) : Int)))
    (keep : ∀ (a i : Nat), i < X.length → f (X.getD i default) = false → a < (X.filter fun d => !f d).length → (X.filter fun d => !f d).getD a default = X.getD i default → (B (tm a i)).run = some (.normal, tm ((a + 1 : Nat) : Int) ((i + 1 : Nat) : Int)))
    (stop : ∀ (a : Nat), (B (tm a X.length)).run = some (fin a)) (hn : ∀ a, (fin a).1 ≠ .normal) :
    ∀ (k i : Nat), i + k = X.length → ∃ m, iterC B m (tm (((X.take i).filter fun d => !f d).length : Nat) i) = some (fin ((X.filter fun d => !f d).length : Nat))
  | 0, i, h => by
    have hi : i = X.length := by omega
    subst hi
    rw [List.take_length]
    exact iterC_stop (ex := (fin _).1) (st' := (fin _).2) (stop _) (hn _)
  | k + 1, i, h => by
    have hi : i < X.length := by omega
    have hx : X = X.take i ++ X.getD i default :: X.drop (i + 1) := by
      rw [getD_at hi, ← List.drop_eq_getElem_cons hi, List.take_append_drop]
    have ht : X.take (i + 1) = X.take i ++ [X.getD i default] := by rw [getD_at hi, List.take_succ_eq_append_getElem hi]
    have IH := cmp_loop skip keep stop hn k (i + 1) (by omega)
    rw [ht, List.filter_append] at IH
    cases hf : f (X.getD i default) with
    | true =>
      rw [List.filter_cons] at IH
      simp only [hf, Bool.not_true, Bool.false_eq_true, if_false, List.filter_nil, List.append_nil] at IH
      exact iterC_step (skip _ i hi hf) IH
    | false =>
      rw [List.filter_cons] at IH
      simp only [hf, Bool.not_false, if_true, List.filter_nil, List.length_append, List.length_singleton] at IH
      have hX : (X.filter fun d => !f d) = ((X.take i).filter fun d => !f d) ++ X.getD i default :: ((X.drop (i + 1)).filter fun d => !f d) := by
        conv => lhs; rw [hx]
        rw [List.filter_append, List.filter_cons]
        simp only [hf, Bool.not_false, if_true]
      have hl : ((X.take i).filter fun d => !f d).length < (X.filter fun d => !f d).length := by rw [hX]; simp
      refine iterC_step (keep _ i hi hf hl ?_) IH
      rw [getD_at hl]
      simp only [hX]
      simp
theorem kept_fine {f : D → Bool} {x : List D} (h : Fine x) (ha : x.any f = true) : kept f x = x.filter fun d => !f d := by
  have hr : ∀ d ∈ x, reD d = d := by
    intro d hd
    have h1 := (h d hd).1
    have h2 : reD (cpy d) = cpy d := by unfold cpy; cases (d.at 12).nl <;> rfl
    rwa [h1] at h2
  have hi := any_idx ha
  have hx : x = x.take (x.findIdx f) ++ x[x.findIdx f] :: x.drop (x.findIdx f + 1) := by
    rw [← List.drop_eq_getElem_cons hi, List.take_append_drop]
  have h3 : f x[x.findIdx f] = true := List.findIdx_getElem
  have h4 : (x.take (x.findIdx f)).filter (fun d => !f d) = x.take (x.findIdx f) := by
    rw [List.filter_eq_self]
    intro d hd
    obtain ⟨j, hj, rfl⟩ := List.getElem_of_mem hd
    rw [List.getElem_take]
    rw [List.length_take] at hj
    have := List.not_of_lt_findIdx (p := f) (xs := x) (i := j) (by omega)
    simp [this]
  conv => rhs; rw [hx]
  rw [List.filter_append, List.filter_cons, h4]
  simp only [h3, Bool.not_true, Bool.false_eq_true, if_false]
  unfold kept
  congr 1
  conv => rhs; rw [← List.map_id (List.filter _ _)]
  refine List.map_congr_left fun d hd => ?_
  exact hr d (List.mem_of_mem_drop ((List.mem_filter.1 hd).1))
theorem none_fine {f : D → Bool} {x : List D} (ha : x.any f = false) : x.filter (fun d => !f d) = x := by
  rw [List.filter_eq_self]
  intro d hd
  have := List.any_eq_false.1 ha d hd
  simp [this]
theorem Fine.map {x : List D} (h : Fine x) : x.map cpy = x := by
  conv => rhs; rw [← List.map_id x]
  exact List.map_congr_left fun d hd => (h d hd).1
theorem Fine.filter {x : List D} (h : Fine x) (f : D → Bool) : Fine (x.filter f) := fun d hd => h d ((List.mem_filter.1 hd).1)
theorem Fine.all {x : List D} (h : Fine x) : x.all outsFew = true := List.all_eq_true.2 fun d hd => (h d hd).2
theorem fine_short {d : D} (h : cpy d = d) (h2 : outsFew d = true) : shortB (d.at 12).xs.length = true := by
  unfold outsFew at h2
  cases hn : (d.at 12).nl with
  | false =>
    rw [hn, Bool.false_or] at h2
    simp only [fewB, decide_eq_true_eq] at h2
    unfold shortB
    exact decide_eq_true (by omega)
  | true =>
    rw [← h]
    unfold cpy
    rw [hn]
    rfl
theorem same_self (d : D) : same_f (d.at 0).int (d.at 1).int (d.at 2).int (d.at 3).int (d.at 4).int (d.at 5).int (d.at 6).int (d.at 7).int (d.at 8).int (d.at 9).int (d.at 10).int (d.at 11).int (d.at 12).xs (d.at 0).int (d.at 1).int (d.at 2).int (d.at 3).int (d.at 4).int (d.at 5).int (d.at 6).int (d.at 7).int (d.at 8).int (d.at 9).int (d.at 10).int (d.at 11).int (d.at 12).xs = true := by
  simp [same_f, sameO_self]
noncomputable def lo1a_tm (l_nl : Bool) (l : List D) (mv mp mb0 mb1 mb2 mi0 mi1 mi2 at_ i : Int) : St :=
  ⟨(Tm.at 113 [(3, (Slot.is (SV.ref 0 0))), (5, (Slot.is (SV.ref 1 0))), (8, (Slot.is (SV.own 3))), (9, (Slot.is (SV.si IntKind.i64 ((↑(List.length (mAll l).2) : Int) - (↑(List.length (kept (looseB mv mp mb0 mb1 mb2 mi0 mi1 mi2) (mAll l).2)) : Int))))), (10, (Slot.is (SV.own 5))), (11, (Slot.is (SV.si IntKind.i64 (at_)))), (12, (Slot.is (SV.si IntKind.i64 (i))))]), [(Option.some (Blk.mk (Con.cells [(SV.si IntKind.i64 (mv)), (SV.si IntKind.i64 (mp)), (SV.si IntKind.u8 (mb0)), (SV.si IntKind.u8 (mb1)), (SV.si IntKind.u8 (mb2)), (SV.si IntKind.u8 (mi0)), (SV.si IntKind.u8 (mi1)), (SV.si IntKind.u8 (mi2))]) 32 (false))), (Option.some (Blk.mk (Con.cells [(SV.own 4), (SV.si IntKind.i64 ((64 : Int))), (SV.sb (true))]) 64 (false))), Option.none, (Option.some (Blk.mk (Con.rows (Sh.agg [(Sh.int IntKind.i64), (Sh.int IntKind.i64), (Sh.int IntKind.i64), (Sh.int IntKind.i64), (Sh.int IntKind.i64), (Sh.int IntKind.i64), (Sh.int IntKind.u8), (Sh.int IntKind.u8), (Sh.int IntKind.u8), (Sh.int IntKind.u8), (Sh.int IntKind.u8), (Sh.int IntKind.u8), (Sh.list (Sh.agg [(Sh.int IntKind.i64), (Sh.int IntKind.i64), (Sh.int IntKind.i64), (Sh.int IntKind.i64)]))]) (List.isEmpty (List.map cpy (mAll l).2)) (List.map cpy (mAll l).2)) 35 (false))), (Option.some (Blk.mk (Con.rows (Sh.agg [(Sh.int IntKind.i64), (Sh.int IntKind.i64), (Sh.int IntKind.i64), (Sh.int IntKind.i64), (Sh.int IntKind.i64), (Sh.int IntKind.i64), (Sh.int IntKind.u8), (Sh.int IntKind.u8), (Sh.int IntKind.u8), (Sh.int IntKind.u8), (Sh.int IntKind.u8), (Sh.int IntKind.u8), (Sh.list (Sh.agg [(Sh.int IntKind.i64), (Sh.int IntKind.i64), (Sh.int IntKind.i64), (Sh.int IntKind.i64)]))]) ((mAll l).1) (kept (looseB mv mp mb0 mb1 mb2 mi0 mi1 mi2) (mAll l).2)) 35 (false))), (Option.some (Blk.mk (Con.rows (Sh.agg [(Sh.int IntKind.i64), (Sh.int IntKind.i64), (Sh.int IntKind.i64), (Sh.int IntKind.i64), (Sh.int IntKind.i64), (Sh.int IntKind.i64), (Sh.int IntKind.u8), (Sh.int IntKind.u8), (Sh.int IntKind.u8), (Sh.int IntKind.u8), (Sh.int IntKind.u8), (Sh.int IntKind.u8), (Sh.list (Sh.agg [(Sh.int IntKind.i64), (Sh.int IntKind.i64), (Sh.int IntKind.i64), (Sh.int IntKind.i64)]))]) (List.isEmpty (List.map cpy (kept (looseB mv mp mb0 mb1 mb2 mi0 mi1 mi2) (mAll l).2))) (List.map cpy (kept (looseB mv mp mb0 mb1 mb2 mi0 mi1 mi2) (mAll l).2))) 35 (false)))]⟩
def lo1a_lp : LP := { base := 6, mv := [], mask := 7976, maskX := 3888, nm := 6144, nb := [], kl := [], klX := [0, 2], ow := [] }
noncomputable def lo1a_x0 (l_nl : Bool) (l : List D) (mv mp mb0 mb1 mb2 mi0 mi1 mi2 at_ i : Int) : St :=
  ⟨(Tm.at 113 [(4, (Slot.is (SV.lb false))), (5, (Slot.is (SV.ref 1 0))), (8, (Slot.is (SV.own 3))), (9, (Slot.is (SV.si IntKind.i64 ((↑(List.length (mAll l).2) : Int) - (↑(List.length (kept (looseB mv mp mb0 mb1 mb2 mi0 mi1 mi2) (mAll l).2)) : Int))))), (10, (Slot.is (SV.own 5))), (11, (Slot.is (SV.si IntKind.i64 (at_))))]), [Option.none, (Option.some (Blk.mk (Con.cells [(SV.own 4), (SV.si IntKind.i64 ((64 : Int))), (SV.sb (true))]) 64 (false))), Option.none, (Option.some (Blk.mk (Con.rows (Sh.agg [(Sh.int IntKind.i64), (Sh.int IntKind.i64), (Sh.int IntKind.i64), (Sh.int IntKind.i64), (Sh.int IntKind.i64), (Sh.int IntKind.i64), (Sh.int IntKind.u8), (Sh.int IntKind.u8), (Sh.int IntKind.u8), (Sh.int IntKind.u8), (Sh.int IntKind.u8), (Sh.int IntKind.u8), (Sh.list (Sh.agg [(Sh.int IntKind.i64), (Sh.int IntKind.i64), (Sh.int IntKind.i64), (Sh.int IntKind.i64)]))]) (List.isEmpty (List.map cpy (mAll l).2)) (List.map cpy (mAll l).2)) 35 (false))), (Option.some (Blk.mk (Con.rows (Sh.agg [(Sh.int IntKind.i64), (Sh.int IntKind.i64), (Sh.int IntKind.i64), (Sh.int IntKind.i64), (Sh.int IntKind.i64), (Sh.int IntKind.i64), (Sh.int IntKind.u8), (Sh.int IntKind.u8), (Sh.int IntKind.u8), (Sh.int IntKind.u8), (Sh.int IntKind.u8), (Sh.int IntKind.u8), (Sh.list (Sh.agg [(Sh.int IntKind.i64), (Sh.int IntKind.i64), (Sh.int IntKind.i64), (Sh.int IntKind.i64)]))]) ((mAll l).1) (kept (looseB mv mp mb0 mb1 mb2 mi0 mi1 mi2) (mAll l).2)) 35 (false))), (Option.some (Blk.mk (Con.rows (Sh.agg [(Sh.int IntKind.i64), (Sh.int IntKind.i64), (Sh.int IntKind.i64), (Sh.int IntKind.i64), (Sh.int IntKind.i64), (Sh.int IntKind.i64), (Sh.int IntKind.u8), (Sh.int IntKind.u8), (Sh.int IntKind.u8), (Sh.int IntKind.u8), (Sh.int IntKind.u8), (Sh.int IntKind.u8), (Sh.list (Sh.agg [(Sh.int IntKind.i64), (Sh.int IntKind.i64), (Sh.int IntKind.i64), (Sh.int IntKind.i64)]))]) (List.isEmpty (List.map cpy (kept (looseB mv mp mb0 mb1 mb2 mi0 mi1 mi2) (mAll l).2))) (List.map cpy (kept (looseB mv mp mb0 mb1 mb2 mi0 mi1 mi2) (mAll l).2))) 35 (false)))]⟩
noncomputable def lo1a_x1 (l_nl : Bool) (l : List D) (mv mp mb0 mb1 mb2 mi0 mi1 mi2 at_ i : Int) : St :=
  ⟨(Tm.at 113 [(5, (Slot.is (SV.ref 1 0))), (8, (Slot.is (SV.own 3))), (9, (Slot.is (SV.si IntKind.i64 ((↑(List.length (mAll l).2) : Int) - (↑(List.length (kept (looseB mv mp mb0 mb1 mb2 mi0 mi1 mi2) (mAll l).2)) : Int))))), (10, (Slot.is (SV.own 5))), (11, (Slot.is (SV.si IntKind.i64 (at_))))]), [Option.none, (Option.some (Blk.mk (Con.cells [(SV.own 4), (SV.si IntKind.i64 ((64 : Int))), (SV.sb (true))]) 64 (false))), Option.none, (Option.some (Blk.mk (Con.rows (Sh.agg [(Sh.int IntKind.i64), (Sh.int IntKind.i64), (Sh.int IntKind.i64), (Sh.int IntKind.i64), (Sh.int IntKind.i64), (Sh.int IntKind.i64), (Sh.int IntKind.u8), (Sh.int IntKind.u8), (Sh.int IntKind.u8), (Sh.int IntKind.u8), (Sh.int IntKind.u8), (Sh.int IntKind.u8), (Sh.list (Sh.agg [(Sh.int IntKind.i64), (Sh.int IntKind.i64), (Sh.int IntKind.i64), (Sh.int IntKind.i64)]))]) (List.isEmpty (List.map cpy (mAll l).2)) (List.map cpy (mAll l).2)) 35 (false))), (Option.some (Blk.mk (Con.rows (Sh.agg [(Sh.int IntKind.i64), (Sh.int IntKind.i64), (Sh.int IntKind.i64), (Sh.int IntKind.i64), (Sh.int IntKind.i64), (Sh.int IntKind.i64), (Sh.int IntKind.u8), (Sh.int IntKind.u8), (Sh.int IntKind.u8), (Sh.int IntKind.u8), (Sh.int IntKind.u8), (Sh.int IntKind.u8), (Sh.list (Sh.agg [(Sh.int IntKind.i64), (Sh.int IntKind.i64), (Sh.int IntKind.i64), (Sh.int IntKind.i64)]))]) ((mAll l).1) (kept (looseB mv mp mb0 mb1 mb2 mi0 mi1 mi2) (mAll l).2)) 35 (false))), (Option.some (Blk.mk (Con.rows (Sh.agg [(Sh.int IntKind.i64), (Sh.int IntKind.i64), (Sh.int IntKind.i64), (Sh.int IntKind.i64), (Sh.int IntKind.i64), (Sh.int IntKind.i64), (Sh.int IntKind.u8), (Sh.int IntKind.u8), (Sh.int IntKind.u8), (Sh.int IntKind.u8), (Sh.int IntKind.u8), (Sh.int IntKind.u8), (Sh.list (Sh.agg [(Sh.int IntKind.i64), (Sh.int IntKind.i64), (Sh.int IntKind.i64), (Sh.int IntKind.i64)]))]) (List.isEmpty (List.map cpy (kept (looseB mv mp mb0 mb1 mb2 mi0 mi1 mi2) (mAll l).2))) (List.map cpy (kept (looseB mv mp mb0 mb1 mb2 mi0 mi1 mi2) (mAll l).2))) 35 (false)))]⟩
theorem lo1a_round (l_nl : Bool) (l : List D) (mv mp mb0 mb1 mb2 mi0 mi1 mi2 at_ i : Int) : roundC (bodyF tab (envOf (P := Try.prog) [bring_pc, same_pc, covers_pc, works_pc] [made_ct, add_ct, loose_ct, wipe_ct, rules_ct, len_ct] [(lo0_lc l_nl l mv mp mb0 mb1 mb2 mi0 mi1 mi2)]) 20 12 6 1 (loopOf (codeOf Try.f6) 1)) lo1a_lp (lo1a_tm l_nl l mv mp mb0 mb1 mb2 mi0 mi1 mi2 at_ i) =
    (Tree.ite (decide (i < (↑(List.length (List.map cpy (mAll l).2)) : Int))) (Tree.need (decide ((0 : Int) ≤ i) && decide (i < (↑(List.length (List.map cpy (mAll l).2)) : Int)) && bif D.int (D.at (List.getD (List.map cpy (mAll l).2) (Int.toNat i) default) (0 : Nat)) == (1 : Int) then decide ((0 : Int) ≤ i) && decide (i < (↑(List.length (List.map cpy (mAll l).2)) : Int)) && (true && true) else true) (Tree.ite (D.int (D.at (List.getD (List.map cpy (mAll l).2) (Int.toNat i) default) (0 : Nat)) == (1 : Int) && covers_f mv mp mb0 mb1 mb2 mi0 mi1 mi2 (D.int (D.at (List.getD (List.map cpy (mAll l).2) (Int.toNat i) default) (4 : Nat))) (D.int (D.at (List.getD (List.map cpy (mAll l).2) (Int.toNat i) default) (5 : Nat))) (D.int (D.at (List.getD (List.map cpy (mAll l).2) (Int.toNat i) default) (6 : Nat))) (D.int (D.at (List.getD (List.map cpy (mAll l).2) (Int.toNat i) default) (7 : Nat))) (D.int (D.at (List.getD (List.map cpy (mAll l).2) (Int.toNat i) default) (8 : Nat))) (D.int (D.at (List.getD (List.map cpy (mAll l).2) (Int.toNat i) default) (9 : Nat))) (D.int (D.at (List.getD (List.map cpy (mAll l).2) (Int.toNat i) default) (10 : Nat))) (D.int (D.at (List.getD (List.map cpy (mAll l).2) (Int.toNat i) default) (11 : Nat)))) (Tree.ret (Ex.normal, (lo1a_tm (l_nl) (l) (mv) (mp) (mb0) (mb1) (mb2) (mi0) (mi1) (mi2) (at_) (IntKind.wrap IntKind.i64 (i + (1 : Int)))))) (Tree.need (bif decide (at_ ≥ (↑(List.length (List.map cpy (kept (looseB mv mp mb0 mb1 mb2 mi0 mi1 mi2) (mAll l).2))) : Int)) then true else decide ((0 : Int) ≤ i) && decide (i < (↑(List.length (List.map cpy (mAll l).2)) : Int)) && (decide ((0 : Int) ≤ at_) && decide (at_ < (↑(List.length (List.map cpy (kept (looseB mv mp mb0 mb1 mb2 mi0 mi1 mi2) (mAll l).2))) : Int)) && (shortB (List.length (D.xs (D.at (List.getD (List.map cpy (mAll l).2) (Int.toNat i) default) (12 : Nat)))) && true))) (Tree.ite (decide (at_ ≥ (↑(List.length (List.map cpy (kept (looseB mv mp mb0 mb1 mb2 mi0 mi1 mi2) (mAll l).2))) : Int)) || !same_f (D.int (D.at (List.getD (List.map cpy (mAll l).2) (Int.toNat i) default) (0 : Nat))) (D.int (D.at (List.getD (List.map cpy (mAll l).2) (Int.toNat i) default) (1 : Nat))) (D.int (D.at (List.getD (List.map cpy (mAll l).2) (Int.toNat i) default) (2 : Nat))) (D.int (D.at (List.getD (List.map cpy (mAll l).2) (Int.toNat i) default) (3 : Nat))) (D.int (D.at (List.getD (List.map cpy (mAll l).2) (Int.toNat i) default) (4 : Nat))) (D.int (D.at (List.getD (List.map cpy (mAll l).2) (Int.toNat i) default) (5 : Nat))) (D.int (D.at (List.getD (List.map cpy (mAll l).2) (Int.toNat i) default) (6 : Nat))) (D.int (D.at (List.getD (List.map cpy (mAll l).2) (Int.toNat i) default) (7 : Nat))) (D.int (D.at (List.getD (List.map cpy (mAll l).2) (Int.toNat i) default) (8 : Nat))) (D.int (D.at (List.getD (List.map cpy (mAll l).2) (Int.toNat i) default) (9 : Nat))) (D.int (D.at (List.getD (List.map cpy (mAll l).2) (Int.toNat i) default) (10 : Nat))) (D.int (D.at (List.getD (List.map cpy (mAll l).2) (Int.toNat i) default) (11 : Nat))) (D.xs (D.at (List.getD (List.map cpy (mAll l).2) (Int.toNat i) default) (12 : Nat))) (D.int (D.at (List.getD (List.map cpy (kept (looseB mv mp mb0 mb1 mb2 mi0 mi1 mi2) (mAll l).2)) (Int.toNat at_) default) (0 : Nat))) (D.int (D.at (List.getD (List.map cpy (kept (looseB mv mp mb0 mb1 mb2 mi0 mi1 mi2) (mAll l).2)) (Int.toNat at_) default) (1 : Nat))) (D.int (D.at (List.getD (List.map cpy (kept (looseB mv mp mb0 mb1 mb2 mi0 mi1 mi2) (mAll l).2)) (Int.toNat at_) default) (2 : Nat))) (D.int (D.at (List.getD (List.map cpy (kept (looseB mv mp mb0 mb1 mb2 mi0 mi1 mi2) (mAll l).2)) (Int.toNat at_) default) (3 : Nat))) (D.int (D.at (List.getD (List.map cpy (kept (looseB mv mp mb0 mb1 mb2 mi0 mi1 mi2) (mAll l).2)) (Int.toNat at_) default) (4 : Nat))) (D.int (D.at (List.getD (List.map cpy (kept (looseB mv mp mb0 mb1 mb2 mi0 mi1 mi2) (mAll l).2)) (Int.toNat at_) default) (5 : Nat))) (D.int (D.at (List.getD (List.map cpy (kept (looseB mv mp mb0 mb1 mb2 mi0 mi1 mi2) (mAll l).2)) (Int.toNat at_) default) (6 : Nat))) (D.int (D.at (List.getD (List.map cpy (kept (looseB mv mp mb0 mb1 mb2 mi0 mi1 mi2) (mAll l).2)) (Int.toNat at_) default) (7 : Nat))) (D.int (D.at (List.getD (List.map cpy (kept (looseB mv mp mb0 mb1 mb2 mi0 mi1 mi2) (mAll l).2)) (Int.toNat at_) default) (8 : Nat))) (D.int (D.at (List.getD (List.map cpy (kept (looseB mv mp mb0 mb1 mb2 mi0 mi1 mi2) (mAll l).2)) (Int.toNat at_) default) (9 : Nat))) (D.int (D.at (List.getD (List.map cpy (kept (looseB mv mp mb0 mb1 mb2 mi0 mi1 mi2) (mAll l).2)) (Int.toNat at_) default) (10 : Nat))) (D.int (D.at (List.getD (List.map cpy (kept (looseB mv mp mb0 mb1 mb2 mi0 mi1 mi2) (mAll l).2)) (Int.toNat at_) default) (11 : Nat))) (D.xs (D.at (List.getD (List.map cpy (kept (looseB mv mp mb0 mb1 mb2 mi0 mi1 mi2) (mAll l).2)) (Int.toNat at_) default) (12 : Nat)))) (Tree.ret (Ex.ret, (lo1a_x0 (l_nl) (l) (mv) (mp) (mb0) (mb1) (mb2) (mi0) (mi1) (mi2) (at_) (i)))) (Tree.ret (Ex.normal, (lo1a_tm (l_nl) (l) (mv) (mp) (mb0) (mb1) (mb2) (mi0) (mi1) (mi2) (IntKind.wrap IntKind.i64 (at_ + (1 : Int))) (IntKind.wrap IntKind.i64 (i + (1 : Int)))))))))) (Tree.ret ((Ex.exit 2), (lo1a_x1 (l_nl) (l) (mv) (mp) (mb0) (mb1) (mb2) (mi0) (mi1) (mi2) (at_) (i))))) := by kernel_rfl
noncomputable def lo1a_res (l_nl : Bool) (l : List D) (mv mp mb0 mb1 mb2 mi0 mi1 mi2 : Int) (at_ i : Int) : Tree (Ex × St) := .need (decide (at_ = 0) && (decide (i = 0) && ((mAll l).2.any (looseB mv mp mb0 mb1 mb2 mi0 mi1 mi2)))) (.ret (.exit 2, lo1a_x1 l_nl l mv mp mb0 mb1 mb2 mi0 mi1 mi2 (((mAll l).2.filter fun d => !(looseB mv mp mb0 mb1 mb2 mi0 mi1 mi2) d).length : Nat) ((mAll l).2.length : Nat)))
theorem lo1a_ok (l_nl : Bool) (l : List D) (mv mp mb0 mb1 mb2 mi0 mi1 mi2 : Int) (at_ i : Int) (ex : Ex) (st' : St) (hrun_ : (lo1a_res l_nl l mv mp mb0 mb1 mb2 mi0 mi1 mi2 at_ i).run = some (ex, st')) : ∃ n, iterC (roundC (bodyF tab (envOf (P := Try.prog) [bring_pc, same_pc, covers_pc, works_pc] [made_ct, add_ct, loose_ct, wipe_ct, rules_ct, len_ct] [(lo0_lc l_nl l mv mp mb0 mb1 mb2 mi0 mi1 mi2)]) 20 12 6 1 (loopOf (codeOf Try.f6) 1)) lo1a_lp) n (lo1a_tm l_nl l mv mp mb0 mb1 mb2 mi0 mi1 mi2 at_ i) = some (ex, st') := by
  obtain ⟨hp_, h_⟩ := Tree.run_need hrun_
  simp only [Bool.and_eq_true, decide_eq_true_eq, Bool.not_eq_true'] at hp_
  obtain ⟨e_, e1_, ha_⟩ := hp_
  simp only [Tree.run, Option.some.injEq, Prod.mk.injEq] at h_
  obtain ⟨rfl, rfl⟩ := h_
  subst e_
  subst e1_
  have fi_ := (mAll_fine l).1
  have fl_ := (mAll_fine l).2
  have eX_ := fi_.map
  have eK_ : (kept (looseB mv mp mb0 mb1 mb2 mi0 mi1 mi2) (mAll l).2).map cpy = (mAll l).2.filter fun d => !(looseB mv mp mb0 mb1 mb2 mi0 mi1 mi2) d := by
    rw [kept_fine fi_ ha_]
    exact (fi_.filter _).map
  have main_ := cmp_loop (f := (looseB mv mp mb0 mb1 mb2 mi0 mi1 mi2)) (B := roundC (bodyF tab (envOf (P := Try.prog) [bring_pc, same_pc, covers_pc, works_pc] [made_ct, add_ct, loose_ct, wipe_ct, rules_ct, len_ct] [(lo0_lc l_nl l mv mp mb0 mb1 mb2 mi0 mi1 mi2)]) 20 12 6 1 (loopOf (codeOf Try.f6) 1)) lo1a_lp) (tm := fun a_ i_ => lo1a_tm l_nl l mv mp mb0 mb1 mb2 mi0 mi1 mi2 a_ i_) (fin := fun a_ => (.exit 2, lo1a_x1 l_nl l mv mp mb0 mb1 mb2 mi0 mi1 mi2 a_ ((mAll l).2.length : Nat))) (X := (mAll l).2) ?_ ?_ ?_ (fun _ => by simp) (mAll l).2.length 0 (by omega)
  · simpa using main_
  · intro a_ i_ hi_ hf_
    have d1_ : decide ((i_ : Int) < ((mAll l).2.length : Nat)) = true := decide_eq_true (by omega)
    have d2_ : decide ((0 : Int) ≤ (i_ : Int)) = true := decide_eq_true (by omega)
    unfold looseB at hf_
    simp only [lo1a_round, eX_, eK_, Tree.run_ret', Tree.run_need', Tree.run_ite', d1_, d2_, hf_, Bool.and_self, Bool.and_true, cond_true, cond_self', Int.toNat_natCast, wrap64 (n := (i_ : Int) + 1) (by omega) (by omega)]
    rfl
  · intro a_ i_ hi_ hf_ hl_ hg_
    have hll_ : ((mAll l).2.filter fun d => !(looseB mv mp mb0 mb1 mb2 mi0 mi1 mi2) d).length ≤ (mAll l).2.length := List.length_filter_le _ _
    have d1_ : decide ((i_ : Int) < ((mAll l).2.length : Nat)) = true := decide_eq_true (by omega)
    have d2_ : decide ((0 : Int) ≤ (i_ : Int)) = true := decide_eq_true (by omega)
    have d3_ : decide ((0 : Int) ≤ (a_ : Int)) = true := decide_eq_true (by omega)
    have d4_ : decide ((a_ : Int) < (((mAll l).2.filter fun d => !(looseB mv mp mb0 mb1 mb2 mi0 mi1 mi2) d).length : Nat)) = true := decide_eq_true (by omega)
    have d5_ : decide ((a_ : Int) ≥ (((mAll l).2.filter fun d => !(looseB mv mp mb0 mb1 mb2 mi0 mi1 mi2) d).length : Nat)) = false := decide_eq_false (by omega)
    have hm_ := fi_ ((mAll l).2.getD i_ default) (by rw [getD_at hi_]; exact List.getElem_mem hi_)
    have s1_ := fine_short hm_.1 hm_.2
    have s2_ := same_self ((mAll l).2.getD i_ default)
    skip
    unfold looseB at hf_
    simp only [lo1a_round, eX_, eK_, Tree.run_ret', Tree.run_need', Tree.run_ite', Int.toNat_natCast, hg_, d1_, d2_, d3_, d4_, d5_, hf_, s1_, s2_, Bool.and_self, Bool.and_true, Bool.not_true, Bool.or_self, cond_true, cond_false, cond_self', wrap64 (n := (i_ : Int) + 1) (by omega) (by omega), wrap64 (n := (a_ : Int) + 1) (by omega) (by omega)]
    rfl
  · intro a_
    have d1_ : decide (((mAll l).2.length : Int) < ((mAll l).2.length : Nat)) = false := decide_eq_false (by omega)
    simp only [lo1a_round, eX_, Tree.run_ite', d1_, cond_false]
    rfl
noncomputable def lo1a_run (l_nl : Bool) (l : List D) (mv mp mb0 mb1 mb2 mi0 mi1 mi2 : Int) (st : St) : Tree (Ex × St) := .need (chkSt st (lo1a_tm l_nl l mv mp mb0 mb1 mb2 mi0 mi1 mi2 (iOf (slotV st 11)) (iOf (slotV st 12)))) (lo1a_res l_nl l mv mp mb0 mb1 mb2 mi0 mi1 mi2 (iOf (slotV st 11)) (iOf (slotV st 12)))
noncomputable def lo1a_lc (l_nl : Bool) (l : List D) (mv mp mb0 mb1 mb2 mi0 mi1 mi2 : Int) : LC Try.prog := LC.of (T := tab) follows (envOf_good _ _ _) 20 12 6 1 Try.f6 Try.func6 (codeOf Try.f6) (loopOf (codeOf Try.f6) 1) (by kernel_rfl) (by kernel_rfl) lo1a_lp (lo1a_run l_nl l mv mp mb0 mb1 mb2 mi0 mi1 mi2)
  (inner_loops (c := codeOf Try.f6) Try.func6 (by kernel_rfl) (by kernel_rfl))
  (by
    intro st ex st' h
    obtain ⟨hc, h⟩ := Tree.run_need h
    have e := chk_iff.1 hc
    have := lo1a_ok l_nl l mv mp mb0 mb1 mb2 mi0 mi1 mi2 _ _ ex st' h
    rw [← e] at this
    exact this)
noncomputable def lo1b_tm (l_nl : Bool) (l : List D) (mv mp mb0 mb1 mb2 mi0 mi1 mi2 at_ i : Int) : St :=
  ⟨(Tm.at 113 [(3, (Slot.is (SV.ref 0 0))), (5, (Slot.is (SV.ref 1 0))), (8, (Slot.is (SV.own 3))), (9, (Slot.is (SV.si IntKind.i64 ((0 : Int))))), (10, (Slot.is (SV.own 4))), (11, (Slot.is (SV.si IntKind.i64 (at_)))), (12, (Slot.is (SV.si IntKind.i64 (i))))]), [(Option.some (Blk.mk (Con.cells [(SV.si IntKind.i64 (mv)), (SV.si IntKind.i64 (mp)), (SV.si IntKind.u8 (mb0)), (SV.si IntKind.u8 (mb1)), (SV.si IntKind.u8 (mb2)), (SV.si IntKind.u8 (mi0)), (SV.si IntKind.u8 (mi1)), (SV.si IntKind.u8 (mi2))]) 32 (false))), (Option.some (Blk.mk (Con.cells [(SV.own 2), (SV.si IntKind.i64 ((64 : Int))), (SV.sb (true))]) 64 (false))), (Option.some (Blk.mk (Con.rows (Sh.agg [(Sh.int IntKind.i64), (Sh.int IntKind.i64), (Sh.int IntKind.i64), (Sh.int IntKind.i64), (Sh.int IntKind.i64), (Sh.int IntKind.i64), (Sh.int IntKind.u8), (Sh.int IntKind.u8), (Sh.int IntKind.u8), (Sh.int IntKind.u8), (Sh.int IntKind.u8), (Sh.int IntKind.u8), (Sh.list (Sh.agg [(Sh.int IntKind.i64), (Sh.int IntKind.i64), (Sh.int IntKind.i64), (Sh.int IntKind.i64)]))]) ((mAll l).1) ((mAll l).2)) 35 (false))), (Option.some (Blk.mk (Con.rows (Sh.agg [(Sh.int IntKind.i64), (Sh.int IntKind.i64), (Sh.int IntKind.i64), (Sh.int IntKind.i64), (Sh.int IntKind.i64), (Sh.int IntKind.i64), (Sh.int IntKind.u8), (Sh.int IntKind.u8), (Sh.int IntKind.u8), (Sh.int IntKind.u8), (Sh.int IntKind.u8), (Sh.int IntKind.u8), (Sh.list (Sh.agg [(Sh.int IntKind.i64), (Sh.int IntKind.i64), (Sh.int IntKind.i64), (Sh.int IntKind.i64)]))]) (List.isEmpty (List.map cpy (mAll l).2)) (List.map cpy (mAll l).2)) 35 (false))), (Option.some (Blk.mk (Con.rows (Sh.agg [(Sh.int IntKind.i64), (Sh.int IntKind.i64), (Sh.int IntKind.i64), (Sh.int IntKind.i64), (Sh.int IntKind.i64), (Sh.int IntKind.i64), (Sh.int IntKind.u8), (Sh.int IntKind.u8), (Sh.int IntKind.u8), (Sh.int IntKind.u8), (Sh.int IntKind.u8), (Sh.int IntKind.u8), (Sh.list (Sh.agg [(Sh.int IntKind.i64), (Sh.int IntKind.i64), (Sh.int IntKind.i64), (Sh.int IntKind.i64)]))]) (List.isEmpty (List.map cpy (mAll l).2)) (List.map cpy (mAll l).2)) 35 (false)))]⟩
def lo1b_lp : LP := { base := 5, mv := [], mask := 7976, maskX := 3888, nm := 6144, nb := [], kl := [], klX := [0], ow := [] }
noncomputable def lo1b_x0 (l_nl : Bool) (l : List D) (mv mp mb0 mb1 mb2 mi0 mi1 mi2 at_ i : Int) : St :=
  ⟨(Tm.at 113 [(4, (Slot.is (SV.lb false))), (5, (Slot.is (SV.ref 1 0))), (8, (Slot.is (SV.own 3))), (9, (Slot.is (SV.si IntKind.i64 ((0 : Int))))), (10, (Slot.is (SV.own 4))), (11, (Slot.is (SV.si IntKind.i64 (at_))))]), [Option.none, (Option.some (Blk.mk (Con.cells [(SV.own 2), (SV.si IntKind.i64 ((64 : Int))), (SV.sb (true))]) 64 (false))), (Option.some (Blk.mk (Con.rows (Sh.agg [(Sh.int IntKind.i64), (Sh.int IntKind.i64), (Sh.int IntKind.i64), (Sh.int IntKind.i64), (Sh.int IntKind.i64), (Sh.int IntKind.i64), (Sh.int IntKind.u8), (Sh.int IntKind.u8), (Sh.int IntKind.u8), (Sh.int IntKind.u8), (Sh.int IntKind.u8), (Sh.int IntKind.u8), (Sh.list (Sh.agg [(Sh.int IntKind.i64), (Sh.int IntKind.i64), (Sh.int IntKind.i64), (Sh.int IntKind.i64)]))]) ((mAll l).1) ((mAll l).2)) 35 (false))), (Option.some (Blk.mk (Con.rows (Sh.agg [(Sh.int IntKind.i64), (Sh.int IntKind.i64), (Sh.int IntKind.i64), (Sh.int IntKind.i64), (Sh.int IntKind.i64), (Sh.int IntKind.i64), (Sh.int IntKind.u8), (Sh.int IntKind.u8), (Sh.int IntKind.u8), (Sh.int IntKind.u8), (Sh.int IntKind.u8), (Sh.int IntKind.u8), (Sh.list (Sh.agg [(Sh.int IntKind.i64), (Sh.int IntKind.i64), (Sh.int IntKind.i64), (Sh.int IntKind.i64)]))]) (List.isEmpty (List.map cpy (mAll l).2)) (List.map cpy (mAll l).2)) 35 (false))), (Option.some (Blk.mk (Con.rows (Sh.agg [(Sh.int IntKind.i64), (Sh.int IntKind.i64), (Sh.int IntKind.i64), (Sh.int IntKind.i64), (Sh.int IntKind.i64), (Sh.int IntKind.i64), (Sh.int IntKind.u8), (Sh.int IntKind.u8), (Sh.int IntKind.u8), (Sh.int IntKind.u8), (Sh.int IntKind.u8), (Sh.int IntKind.u8), (Sh.list (Sh.agg [(Sh.int IntKind.i64), (Sh.int IntKind.i64), (Sh.int IntKind.i64), (Sh.int IntKind.i64)]))]) (List.isEmpty (List.map cpy (mAll l).2)) (List.map cpy (mAll l).2)) 35 (false)))]⟩
noncomputable def lo1b_x1 (l_nl : Bool) (l : List D) (mv mp mb0 mb1 mb2 mi0 mi1 mi2 at_ i : Int) : St :=
  ⟨(Tm.at 113 [(5, (Slot.is (SV.ref 1 0))), (8, (Slot.is (SV.own 3))), (9, (Slot.is (SV.si IntKind.i64 ((0 : Int))))), (10, (Slot.is (SV.own 4))), (11, (Slot.is (SV.si IntKind.i64 (at_))))]), [Option.none, (Option.some (Blk.mk (Con.cells [(SV.own 2), (SV.si IntKind.i64 ((64 : Int))), (SV.sb (true))]) 64 (false))), (Option.some (Blk.mk (Con.rows (Sh.agg [(Sh.int IntKind.i64), (Sh.int IntKind.i64), (Sh.int IntKind.i64), (Sh.int IntKind.i64), (Sh.int IntKind.i64), (Sh.int IntKind.i64), (Sh.int IntKind.u8), (Sh.int IntKind.u8), (Sh.int IntKind.u8), (Sh.int IntKind.u8), (Sh.int IntKind.u8), (Sh.int IntKind.u8), (Sh.list (Sh.agg [(Sh.int IntKind.i64), (Sh.int IntKind.i64), (Sh.int IntKind.i64), (Sh.int IntKind.i64)]))]) ((mAll l).1) ((mAll l).2)) 35 (false))), (Option.some (Blk.mk (Con.rows (Sh.agg [(Sh.int IntKind.i64), (Sh.int IntKind.i64), (Sh.int IntKind.i64), (Sh.int IntKind.i64), (Sh.int IntKind.i64), (Sh.int IntKind.i64), (Sh.int IntKind.u8), (Sh.int IntKind.u8), (Sh.int IntKind.u8), (Sh.int IntKind.u8), (Sh.int IntKind.u8), (Sh.int IntKind.u8), (Sh.list (Sh.agg [(Sh.int IntKind.i64), (Sh.int IntKind.i64), (Sh.int IntKind.i64), (Sh.int IntKind.i64)]))]) (List.isEmpty (List.map cpy (mAll l).2)) (List.map cpy (mAll l).2)) 35 (false))), (Option.some (Blk.mk (Con.rows (Sh.agg [(Sh.int IntKind.i64), (Sh.int IntKind.i64), (Sh.int IntKind.i64), (Sh.int IntKind.i64), (Sh.int IntKind.i64), (Sh.int IntKind.i64), (Sh.int IntKind.u8), (Sh.int IntKind.u8), (Sh.int IntKind.u8), (Sh.int IntKind.u8), (Sh.int IntKind.u8), (Sh.int IntKind.u8), (Sh.list (Sh.agg [(Sh.int IntKind.i64), (Sh.int IntKind.i64), (Sh.int IntKind.i64), (Sh.int IntKind.i64)]))]) (List.isEmpty (List.map cpy (mAll l).2)) (List.map cpy (mAll l).2)) 35 (false)))]⟩
theorem lo1b_round (l_nl : Bool) (l : List D) (mv mp mb0 mb1 mb2 mi0 mi1 mi2 at_ i : Int) : roundC (bodyF tab (envOf (P := Try.prog) [bring_pc, same_pc, covers_pc, works_pc] [made_ct, add_ct, loose_ct, wipe_ct, rules_ct, len_ct] [(lo0_lc l_nl l mv mp mb0 mb1 mb2 mi0 mi1 mi2)]) 20 12 6 1 (loopOf (codeOf Try.f6) 1)) lo1b_lp (lo1b_tm l_nl l mv mp mb0 mb1 mb2 mi0 mi1 mi2 at_ i) =
    (Tree.ite (decide (i < (↑(List.length (List.map cpy (mAll l).2)) : Int))) (Tree.need (decide ((0 : Int) ≤ i) && decide (i < (↑(List.length (List.map cpy (mAll l).2)) : Int)) && bif D.int (D.at (List.getD (List.map cpy (mAll l).2) (Int.toNat i) default) (0 : Nat)) == (1 : Int) then decide ((0 : Int) ≤ i) && decide (i < (↑(List.length (List.map cpy (mAll l).2)) : Int)) && (true && true) else true) (Tree.ite (D.int (D.at (List.getD (List.map cpy (mAll l).2) (Int.toNat i) default) (0 : Nat)) == (1 : Int) && covers_f mv mp mb0 mb1 mb2 mi0 mi1 mi2 (D.int (D.at (List.getD (List.map cpy (mAll l).2) (Int.toNat i) default) (4 : Nat))) (D.int (D.at (List.getD (List.map cpy (mAll l).2) (Int.toNat i) default) (5 : Nat))) (D.int (D.at (List.getD (List.map cpy (mAll l).2) (Int.toNat i) default) (6 : Nat))) (D.int (D.at (List.getD (List.map cpy (mAll l).2) (Int.toNat i) default) (7 : Nat))) (D.int (D.at (List.getD (List.map cpy (mAll l).2) (Int.toNat i) default) (8 : Nat))) (D.int (D.at (List.getD (List.map cpy (mAll l).2) (Int.toNat i) default) (9 : Nat))) (D.int (D.at (List.getD (List.map cpy (mAll l).2) (Int.toNat i) default) (10 : Nat))) (D.int (D.at (List.getD (List.map cpy (mAll l).2) (Int.toNat i) default) (11 : Nat)))) (Tree.ret (Ex.normal, (lo1b_tm (l_nl) (l) (mv) (mp) (mb0) (mb1) (mb2) (mi0) (mi1) (mi2) (at_) (IntKind.wrap IntKind.i64 (i + (1 : Int)))))) (Tree.need (bif decide (at_ ≥ (↑(List.length (List.map cpy (mAll l).2)) : Int)) then true else decide ((0 : Int) ≤ i) && decide (i < (↑(List.length (List.map cpy (mAll l).2)) : Int)) && (decide ((0 : Int) ≤ at_) && decide (at_ < (↑(List.length (List.map cpy (mAll l).2)) : Int)) && (shortB (List.length (D.xs (D.at (List.getD (List.map cpy (mAll l).2) (Int.toNat i) default) (12 : Nat)))) && true))) (Tree.ite (decide (at_ ≥ (↑(List.length (List.map cpy (mAll l).2)) : Int)) || !same_f (D.int (D.at (List.getD (List.map cpy (mAll l).2) (Int.toNat i) default) (0 : Nat))) (D.int (D.at (List.getD (List.map cpy (mAll l).2) (Int.toNat i) default) (1 : Nat))) (D.int (D.at (List.getD (List.map cpy (mAll l).2) (Int.toNat i) default) (2 : Nat))) (D.int (D.at (List.getD (List.map cpy (mAll l).2) (Int.toNat i) default) (3 : Nat))) (D.int (D.at (List.getD (List.map cpy (mAll l).2) (Int.toNat i) default) (4 : Nat))) (D.int (D.at (List.getD (List.map cpy (mAll l).2) (Int.toNat i) default) (5 : Nat))) (D.int (D.at (List.getD (List.map cpy (mAll l).2) (Int.toNat i) default) (6 : Nat))) (D.int (D.at (List.getD (List.map cpy (mAll l).2) (Int.toNat i) default) (7 : Nat))) (D.int (D.at (List.getD (List.map cpy (mAll l).2) (Int.toNat i) default) (8 : Nat))) (D.int (D.at (List.getD (List.map cpy (mAll l).2) (Int.toNat i) default) (9 : Nat))) (D.int (D.at (List.getD (List.map cpy (mAll l).2) (Int.toNat i) default) (10 : Nat))) (D.int (D.at (List.getD (List.map cpy (mAll l).2) (Int.toNat i) default) (11 : Nat))) (D.xs (D.at (List.getD (List.map cpy (mAll l).2) (Int.toNat i) default) (12 : Nat))) (D.int (D.at (List.getD (List.map cpy (mAll l).2) (Int.toNat at_) default) (0 : Nat))) (D.int (D.at (List.getD (List.map cpy (mAll l).2) (Int.toNat at_) default) (1 : Nat))) (D.int (D.at (List.getD (List.map cpy (mAll l).2) (Int.toNat at_) default) (2 : Nat))) (D.int (D.at (List.getD (List.map cpy (mAll l).2) (Int.toNat at_) default) (3 : Nat))) (D.int (D.at (List.getD (List.map cpy (mAll l).2) (Int.toNat at_) default) (4 : Nat))) (D.int (D.at (List.getD (List.map cpy (mAll l).2) (Int.toNat at_) default) (5 : Nat))) (D.int (D.at (List.getD (List.map cpy (mAll l).2) (Int.toNat at_) default) (6 : Nat))) (D.int (D.at (List.getD (List.map cpy (mAll l).2) (Int.toNat at_) default) (7 : Nat))) (D.int (D.at (List.getD (List.map cpy (mAll l).2) (Int.toNat at_) default) (8 : Nat))) (D.int (D.at (List.getD (List.map cpy (mAll l).2) (Int.toNat at_) default) (9 : Nat))) (D.int (D.at (List.getD (List.map cpy (mAll l).2) (Int.toNat at_) default) (10 : Nat))) (D.int (D.at (List.getD (List.map cpy (mAll l).2) (Int.toNat at_) default) (11 : Nat))) (D.xs (D.at (List.getD (List.map cpy (mAll l).2) (Int.toNat at_) default) (12 : Nat)))) (Tree.ret (Ex.ret, (lo1b_x0 (l_nl) (l) (mv) (mp) (mb0) (mb1) (mb2) (mi0) (mi1) (mi2) (at_) (i)))) (Tree.ret (Ex.normal, (lo1b_tm (l_nl) (l) (mv) (mp) (mb0) (mb1) (mb2) (mi0) (mi1) (mi2) (IntKind.wrap IntKind.i64 (at_ + (1 : Int))) (IntKind.wrap IntKind.i64 (i + (1 : Int)))))))))) (Tree.ret ((Ex.exit 2), (lo1b_x1 (l_nl) (l) (mv) (mp) (mb0) (mb1) (mb2) (mi0) (mi1) (mi2) (at_) (i))))) := by kernel_rfl
noncomputable def lo1b_res (l_nl : Bool) (l : List D) (mv mp mb0 mb1 mb2 mi0 mi1 mi2 : Int) (at_ i : Int) : Tree (Ex × St) := .need (decide (at_ = 0) && (decide (i = 0) && !((mAll l).2.any (looseB mv mp mb0 mb1 mb2 mi0 mi1 mi2)))) (.ret (.exit 2, lo1b_x1 l_nl l mv mp mb0 mb1 mb2 mi0 mi1 mi2 (((mAll l).2.filter fun d => !(looseB mv mp mb0 mb1 mb2 mi0 mi1 mi2) d).length : Nat) ((mAll l).2.length : Nat)))
theorem lo1b_ok (l_nl : Bool) (l : List D) (mv mp mb0 mb1 mb2 mi0 mi1 mi2 : Int) (at_ i : Int) (ex : Ex) (st' : St) (hrun_ : (lo1b_res l_nl l mv mp mb0 mb1 mb2 mi0 mi1 mi2 at_ i).run = some (ex, st')) : ∃ n, iterC (roundC (bodyF tab (envOf (P := Try.prog) [bring_pc, same_pc, covers_pc, works_pc] [made_ct, add_ct, loose_ct, wipe_ct, rules_ct, len_ct] [(lo0_lc l_nl l mv mp mb0 mb1 mb2 mi0 mi1 mi2)]) 20 12 6 1 (loopOf (codeOf Try.f6) 1)) lo1b_lp) n (lo1b_tm l_nl l mv mp mb0 mb1 mb2 mi0 mi1 mi2 at_ i) = some (ex, st') := by
  obtain ⟨hp_, h_⟩ := Tree.run_need hrun_
  simp only [Bool.and_eq_true, decide_eq_true_eq, Bool.not_eq_true'] at hp_
  obtain ⟨e_, e1_, ha_⟩ := hp_
  simp only [Tree.run, Option.some.injEq, Prod.mk.injEq] at h_
  obtain ⟨rfl, rfl⟩ := h_
  subst e_
  subst e1_
  have fi_ := (mAll_fine l).1
  have fl_ := (mAll_fine l).2
  have eX_ := fi_.map
  have eK_ := none_fine ha_
  have main_ := cmp_loop (f := (looseB mv mp mb0 mb1 mb2 mi0 mi1 mi2)) (B := roundC (bodyF tab (envOf (P := Try.prog) [bring_pc, same_pc, covers_pc, works_pc] [made_ct, add_ct, loose_ct, wipe_ct, rules_ct, len_ct] [(lo0_lc l_nl l mv mp mb0 mb1 mb2 mi0 mi1 mi2)]) 20 12 6 1 (loopOf (codeOf Try.f6) 1)) lo1b_lp) (tm := fun a_ i_ => lo1b_tm l_nl l mv mp mb0 mb1 mb2 mi0 mi1 mi2 a_ i_) (fin := fun a_ => (.exit 2, lo1b_x1 l_nl l mv mp mb0 mb1 mb2 mi0 mi1 mi2 a_ ((mAll l).2.length : Nat))) (X := (mAll l).2) ?_ ?_ ?_ (fun _ => by simp) (mAll l).2.length 0 (by omega)
  · simpa using main_
  · intro a_ i_ hi_ hf_
    have d1_ : decide ((i_ : Int) < ((mAll l).2.length : Nat)) = true := decide_eq_true (by omega)
    have d2_ : decide ((0 : Int) ≤ (i_ : Int)) = true := decide_eq_true (by omega)
    unfold looseB at hf_
    simp only [lo1b_round, eX_, eK_, Tree.run_ret', Tree.run_need', Tree.run_ite', d1_, d2_, hf_, Bool.and_self, Bool.and_true, cond_true, cond_self', Int.toNat_natCast, wrap64 (n := (i_ : Int) + 1) (by omega) (by omega)]
    rfl
  · intro a_ i_ hi_ hf_ hl_ hg_
    have hll_ : ((mAll l).2.filter fun d => !(looseB mv mp mb0 mb1 mb2 mi0 mi1 mi2) d).length ≤ (mAll l).2.length := List.length_filter_le _ _
    have d1_ : decide ((i_ : Int) < ((mAll l).2.length : Nat)) = true := decide_eq_true (by omega)
    have d2_ : decide ((0 : Int) ≤ (i_ : Int)) = true := decide_eq_true (by omega)
    have d3_ : decide ((0 : Int) ≤ (a_ : Int)) = true := decide_eq_true (by omega)
    have d4_ : decide ((a_ : Int) < (((mAll l).2.filter fun d => !(looseB mv mp mb0 mb1 mb2 mi0 mi1 mi2) d).length : Nat)) = true := decide_eq_true (by omega)
    have d5_ : decide ((a_ : Int) ≥ (((mAll l).2.filter fun d => !(looseB mv mp mb0 mb1 mb2 mi0 mi1 mi2) d).length : Nat)) = false := decide_eq_false (by omega)
    have hm_ := fi_ ((mAll l).2.getD i_ default) (by rw [getD_at hi_]; exact List.getElem_mem hi_)
    have s1_ := fine_short hm_.1 hm_.2
    have s2_ := same_self ((mAll l).2.getD i_ default)
    simp only [eK_] at hg_ d4_ d5_
    unfold looseB at hf_
    simp only [lo1b_round, eX_, eK_, Tree.run_ret', Tree.run_need', Tree.run_ite', Int.toNat_natCast, hg_, d1_, d2_, d3_, d4_, d5_, hf_, s1_, s2_, Bool.and_self, Bool.and_true, Bool.not_true, Bool.or_self, cond_true, cond_false, cond_self', wrap64 (n := (i_ : Int) + 1) (by omega) (by omega), wrap64 (n := (a_ : Int) + 1) (by omega) (by omega)]
    rfl
  · intro a_
    have d1_ : decide (((mAll l).2.length : Int) < ((mAll l).2.length : Nat)) = false := decide_eq_false (by omega)
    simp only [lo1b_round, eX_, Tree.run_ite', d1_, cond_false]
    rfl
noncomputable def lo1b_run (l_nl : Bool) (l : List D) (mv mp mb0 mb1 mb2 mi0 mi1 mi2 : Int) (st : St) : Tree (Ex × St) := .need (chkSt st (lo1b_tm l_nl l mv mp mb0 mb1 mb2 mi0 mi1 mi2 (iOf (slotV st 11)) (iOf (slotV st 12)))) (lo1b_res l_nl l mv mp mb0 mb1 mb2 mi0 mi1 mi2 (iOf (slotV st 11)) (iOf (slotV st 12)))
noncomputable def lo1b_lc (l_nl : Bool) (l : List D) (mv mp mb0 mb1 mb2 mi0 mi1 mi2 : Int) : LC Try.prog := LC.of (T := tab) follows (envOf_good _ _ _) 20 12 6 1 Try.f6 Try.func6 (codeOf Try.f6) (loopOf (codeOf Try.f6) 1) (by kernel_rfl) (by kernel_rfl) lo1b_lp (lo1b_run l_nl l mv mp mb0 mb1 mb2 mi0 mi1 mi2)
  (inner_loops (c := codeOf Try.f6) Try.func6 (by kernel_rfl) (by kernel_rfl))
  (by
    intro st ex st' h
    obtain ⟨hc, h⟩ := Tree.run_need h
    have e := chk_iff.1 hc
    have := lo1b_ok l_nl l mv mp mb0 mb1 mb2 mi0 mi1 mi2 _ _ ex st' h
    rw [← e] at this
    exact this)
theorem tloose_tree (l_nl : Bool) (l : List D) (mv mp mb0 mb1 mb2 mi0 mi1 mi2 : Int) : callG tab (envOf (P := Try.prog) [bring_pc, same_pc, covers_pc, works_pc] [made_ct, add_ct, loose_ct, wipe_ct, rules_ct, len_ct] [(lo0_lc l_nl l mv mp mb0 mb1 mb2 mi0 mi1 mi2), (lo1a_lc l_nl l mv mp mb0 mb1 mb2 mi0 mi1 mi2), (lo1b_lc l_nl l mv mp mb0 mb1 mb2 mi0 mi1 mi2)]) 20 12 6 [SV.lst (.agg [.int .i64, .int .i64, .int .i64, .int .i64, .int .i64, .int .i64, .int .u8, .int .u8, .int .u8, .int .u8, .int .u8, .int .u8, .list (.agg [.int .i64, .int .i64, .int .i64, .int .i64])]) l_nl l, SV.agg [SV.si IntKind.i64 mv, SV.si IntKind.i64 mp, SV.si IntKind.u8 mb0, SV.si IntKind.u8 mb1, SV.si IntKind.u8 mb2, SV.si IntKind.u8 mi0, SV.si IntKind.u8 mi1, SV.si IntKind.u8 mi2]] [] =
    (Tree.need (chkSt (lo0_tm l_nl l mv mp mb0 mb1 mb2 mi0 mi1 mi2 (0 : Int) (64 : Int) true true []) (lo0_tm l_nl l mv mp mb0 mb1 mb2 mi0 mi1 mi2 (0 : Int) (64 : Int) true true [])) (Tree.need (decide ((0 : Int) = (0 : Int)) && (decide ((64 : Int) = (64 : Int)) && (true && (true && true)))) (Tree.need (fewB (List.length (mAll l).2) && List.all (mAll l).2 outsFew) (Tree.need (fewB (List.length (mAll l).2)) (Tree.ite (List.any (mAll l).2 (looseB mv mp mb0 mb1 mb2 mi0 mi1 mi2)) (Tree.need (fewB (List.length (kept (looseB mv mp mb0 mb1 mb2 mi0 mi1 mi2) (mAll l).2)) && List.all (kept (looseB mv mp mb0 mb1 mb2 mi0 mi1 mi2) (mAll l).2) outsFew) (Tree.need (chkSt (lo1a_tm l_nl l mv mp mb0 mb1 mb2 mi0 mi1 mi2 (0 : Int) (0 : Int)) (lo1a_tm l_nl l mv mp mb0 mb1 mb2 mi0 mi1 mi2 (0 : Int) (0 : Int))) (Tree.need (decide ((0 : Int) = (0 : Int)) && (decide ((0 : Int) = (0 : Int)) && List.any (mAll l).2 (looseB mv mp mb0 mb1 mb2 mi0 mi1 mi2))) (Tree.ite ((↑(List.length (List.filter (fun d => !looseB mv mp mb0 mb1 mb2 mi0 mi1 mi2 d) (mAll l).2)) : Int) == (↑(List.length (List.map cpy (kept (looseB mv mp mb0 mb1 mb2 mi0 mi1 mi2) (mAll l).2))) : Int)) (Tree.ite ((↑(List.length (mAll l).2) : Int) - (↑(List.length (kept (looseB mv mp mb0 mb1 mb2 mi0 mi1 mi2) (mAll l).2)) : Int) == IntKind.wrap IntKind.i64 ((↑(List.length (List.map cpy (mAll l).2)) : Int) - (↑(List.length (List.filter (fun d => !looseB mv mp mb0 mb1 mb2 mi0 mi1 mi2 d) (mAll l).2)) : Int))) (Tree.need (fewB (List.length (kept (looseB mv mp mb0 mb1 mb2 mi0 mi1 mi2) (mAll l).2))) (Tree.ite (List.any (kept (looseB mv mp mb0 mb1 mb2 mi0 mi1 mi2) (mAll l).2) allB) (Tree.ite ((↑(List.length (kept (looseB mv mp mb0 mb1 mb2 mi0 mi1 mi2) (mAll l).2)) : Int) - (↑(List.length (kept allB (kept (looseB mv mp mb0 mb1 mb2 mi0 mi1 mi2) (mAll l).2))) : Int) == (↑(List.length (List.filter (fun d => !looseB mv mp mb0 mb1 mb2 mi0 mi1 mi2 d) (mAll l).2)) : Int)) (Tree.ite ((bif true then (↑(List.length (kept allB (kept (looseB mv mp mb0 mb1 mb2 mi0 mi1 mi2) (mAll l).2))) : Int) else (0 : Int)) == (0 : Int)) (Tree.need (fewB (List.length (kept allB (kept (looseB mv mp mb0 mb1 mb2 mi0 mi1 mi2) (mAll l).2)))) (Tree.ite (List.any (kept allB (kept (looseB mv mp mb0 mb1 mb2 mi0 mi1 mi2) (mAll l).2)) allB) (Tree.ite ((↑(List.length (kept allB (kept (looseB mv mp mb0 mb1 mb2 mi0 mi1 mi2) (mAll l).2))) : Int) - (↑(List.length (kept allB (kept allB (kept (looseB mv mp mb0 mb1 mb2 mi0 mi1 mi2) (mAll l).2)))) : Int) == (0 : Int)) (Tree.need (true) (Tree.ret ((SV.sb (true)), []))) (Tree.ret ((SV.sb (false)), []))) (Tree.ite ((0 : Int) == (0 : Int)) (Tree.need (true) (Tree.ret ((SV.sb (true)), []))) (Tree.ret ((SV.sb (false)), []))))) (Tree.ret ((SV.sb (false)), []))) (Tree.ret ((SV.sb (false)), []))) (Tree.ite ((0 : Int) == (↑(List.length (List.filter (fun d => !looseB mv mp mb0 mb1 mb2 mi0 mi1 mi2 d) (mAll l).2)) : Int)) (Tree.ite ((bif true then (↑(List.length (kept (looseB mv mp mb0 mb1 mb2 mi0 mi1 mi2) (mAll l).2)) : Int) else (0 : Int)) == (0 : Int)) (Tree.need (fewB (List.length (kept (looseB mv mp mb0 mb1 mb2 mi0 mi1 mi2) (mAll l).2))) (Tree.ite (List.any (kept (looseB mv mp mb0 mb1 mb2 mi0 mi1 mi2) (mAll l).2) allB) (Tree.ite ((↑(List.length (kept (looseB mv mp mb0 mb1 mb2 mi0 mi1 mi2) (mAll l).2)) : Int) - (↑(List.length (kept allB (kept (looseB mv mp mb0 mb1 mb2 mi0 mi1 mi2) (mAll l).2))) : Int) == (0 : Int)) (Tree.need (true) (Tree.ret ((SV.sb (true)), []))) (Tree.ret ((SV.sb (false)), []))) (Tree.ite ((0 : Int) == (0 : Int)) (Tree.need (true) (Tree.ret ((SV.sb (true)), []))) (Tree.ret ((SV.sb (false)), []))))) (Tree.ret ((SV.sb (false)), []))) (Tree.ret ((SV.sb (false)), []))))) (Tree.ret ((SV.sb (false)), []))) (Tree.ret ((SV.sb (false)), [])))))) (Tree.need (fewB (List.length (mAll l).2) && List.all (mAll l).2 outsFew) (Tree.need (chkSt (lo1b_tm l_nl l mv mp mb0 mb1 mb2 mi0 mi1 mi2 (0 : Int) (0 : Int)) (lo1b_tm l_nl l mv mp mb0 mb1 mb2 mi0 mi1 mi2 (0 : Int) (0 : Int))) (Tree.need (decide ((0 : Int) = (0 : Int)) && (decide ((0 : Int) = (0 : Int)) && !List.any (mAll l).2 (looseB mv mp mb0 mb1 mb2 mi0 mi1 mi2))) (Tree.ite ((↑(List.length (List.filter (fun d => !looseB mv mp mb0 mb1 mb2 mi0 mi1 mi2 d) (mAll l).2)) : Int) == (↑(List.length (List.map cpy (mAll l).2)) : Int)) (Tree.ite ((0 : Int) == IntKind.wrap IntKind.i64 ((↑(List.length (List.map cpy (mAll l).2)) : Int) - (↑(List.length (List.filter (fun d => !looseB mv mp mb0 mb1 mb2 mi0 mi1 mi2 d) (mAll l).2)) : Int))) (Tree.need (fewB (List.length (mAll l).2)) (Tree.ite (List.any (mAll l).2 allB) (Tree.ite ((↑(List.length (mAll l).2) : Int) - (↑(List.length (kept allB (mAll l).2)) : Int) == (↑(List.length (List.filter (fun d => !looseB mv mp mb0 mb1 mb2 mi0 mi1 mi2 d) (mAll l).2)) : Int)) (Tree.ite ((bif true then (↑(List.length (kept allB (mAll l).2)) : Int) else (0 : Int)) == (0 : Int)) (Tree.need (fewB (List.length (kept allB (mAll l).2))) (Tree.ite (List.any (kept allB (mAll l).2) allB) (Tree.ite ((↑(List.length (kept allB (mAll l).2)) : Int) - (↑(List.length (kept allB (kept allB (mAll l).2))) : Int) == (0 : Int)) (Tree.need (true) (Tree.ret ((SV.sb (true)), []))) (Tree.ret ((SV.sb (false)), []))) (Tree.ite ((0 : Int) == (0 : Int)) (Tree.need (true) (Tree.ret ((SV.sb (true)), []))) (Tree.ret ((SV.sb (false)), []))))) (Tree.ret ((SV.sb (false)), []))) (Tree.ret ((SV.sb (false)), []))) (Tree.ite ((0 : Int) == (↑(List.length (List.filter (fun d => !looseB mv mp mb0 mb1 mb2 mi0 mi1 mi2 d) (mAll l).2)) : Int)) (Tree.ite ((bif true then (↑(List.length (mAll l).2) : Int) else (0 : Int)) == (0 : Int)) (Tree.need (fewB (List.length (mAll l).2)) (Tree.ite (List.any (mAll l).2 allB) (Tree.ite ((↑(List.length (mAll l).2) : Int) - (↑(List.length (kept allB (mAll l).2)) : Int) == (0 : Int)) (Tree.need (true) (Tree.ret ((SV.sb (true)), []))) (Tree.ret ((SV.sb (false)), []))) (Tree.ite ((0 : Int) == (0 : Int)) (Tree.need (true) (Tree.ret ((SV.sb (true)), []))) (Tree.ret ((SV.sb (false)), []))))) (Tree.ret ((SV.sb (false)), []))) (Tree.ret ((SV.sb (false)), []))))) (Tree.ret ((SV.sb (false)), []))) (Tree.ret ((SV.sb (false)), []))))))))))) := by kernel_rfl
theorem wipe_nil (x : List D) : kept allB x = [] := by
  cases x with
  | nil => simp [kept]
  | cons a r => simp [kept, allB, List.findIdx_cons]
theorem any_allB (x : List D) : x.any allB = !x.isEmpty := by
  cases x with
  | nil => rfl
  | cons a r => simp [allB]
theorem tloose_run (l_nl : Bool) (l : List D) (mv mp mb0 mb1 mb2 mi0 mi1 mi2 : Int) : (callG tab (envOf (P := Try.prog) [bring_pc, same_pc, covers_pc, works_pc] [made_ct, add_ct, loose_ct, wipe_ct, rules_ct, len_ct] [(lo0_lc l_nl l mv mp mb0 mb1 mb2 mi0 mi1 mi2), (lo1a_lc l_nl l mv mp mb0 mb1 mb2 mi0 mi1 mi2), (lo1b_lc l_nl l mv mp mb0 mb1 mb2 mi0 mi1 mi2)]) 20 12 6 [SV.lst (.agg [.int .i64, .int .i64, .int .i64, .int .i64, .int .i64, .int .i64, .int .u8, .int .u8, .int .u8, .int .u8, .int .u8, .int .u8, .list (.agg [.int .i64, .int .i64, .int .i64, .int .i64])]) l_nl l, SV.agg [SV.si IntKind.i64 mv, SV.si IntKind.i64 mp, SV.si IntKind.u8 mb0, SV.si IntKind.u8 mb1, SV.si IntKind.u8 mb2, SV.si IntKind.u8 mi0, SV.si IntKind.u8 mi1, SV.si IntKind.u8 mi2]] []).run = some ((.sb true : SV), []) := by
  rw [tloose_tree]
  have fi_ := (mAll_fine l).1
  have fl_ := (mAll_fine l).2
  generalize (mAll l).2 = X at fi_ fl_ ⊢
  have eX_ := fi_.map
  have s1_ : fewB X.length = true := by unfold fewB; exact decide_eq_true (by omega)
  have a1_ := fi_.all
  have w0_ : IntKind.wrap .i64 ((X.length : Int) - (X.length : Int)) = 0 := by rw [Int.sub_self]; rfl
  cases ha_ : X.any (looseB mv mp mb0 mb1 mb2 mi0 mi1 mi2) with
  | true =>
    have eK_ := kept_fine fi_ ha_
    have fk_ := fi_.filter (fun d => !(looseB mv mp mb0 mb1 mb2 mi0 mi1 mi2) d)
    have kl_ : (X.filter (fun d => !(looseB mv mp mb0 mb1 mb2 mi0 mi1 mi2) d)).length ≤ X.length := List.length_filter_le _ _
    have w1_ : IntKind.wrap .i64 ((X.length : Int) - ((X.filter (fun d => !(looseB mv mp mb0 mb1 mb2 mi0 mi1 mi2) d)).length : Int)) = (X.length : Int) - ((X.filter (fun d => !(looseB mv mp mb0 mb1 mb2 mi0 mi1 mi2) d)).length : Int) := wrap64 (by omega) (by omega)
    rw [eK_]
    generalize (X.filter (fun d => !(looseB mv mp mb0 mb1 mb2 mi0 mi1 mi2) d)) = Y at fk_ kl_ w1_ ⊢
    have eY_ := fk_.map
    have a2_ := fk_.all
    have s2_ : fewB Y.length = true := by unfold fewB; exact decide_eq_true (by omega)
    simp only [Tree.run_need', Tree.run_ite', Tree.run_ret', chk_self, ha_, eX_, eY_, a1_, a2_, s1_, s2_, w1_, wipe_nil, any_allB, List.isEmpty_nil, List.length_nil, Bool.and_self, decide_true, cond_true, cond_false, Bool.not_true, beq_self_eq_true]
    cases Y with
    | nil => rfl
    | cons y r => simp [fewB]
  | false =>
    have eK_ := none_fine ha_
    simp only [Tree.run_need', Tree.run_ite', Tree.run_ret', chk_self, ha_, eX_, eK_, a1_, s1_, w0_, wipe_nil, any_allB, List.isEmpty_nil, List.length_nil, Bool.and_self, decide_true, cond_true, cond_false, Bool.not_true, Bool.not_false, beq_self_eq_true]
    cases X with
    | nil => rfl
    | cons y r => simp [fewB]
end Go.Proofs.Ytgodelllnilcfaa
