/-
  Functions of the program, by their runs.
  No statement of the seat is proved here. Conditions: none.
-/
import Derived.Test.YtgodelllnilcfaaY25
import Derived.Test.YtgodelllnilcfaaTab09
import Derived.Test.YtgodelllnilcfaaA09
set_option linter.unusedSimpArgs false
set_option linter.unusedVariables false
set_option maxRecDepth 100000
namespace Go.Proofs.Ytgodelllnilcfaa
open Go.Sy Go.RowKit
/-- What Loose takes away. -/
def looseB (mv mp mb0 mb1 mb2 mi0 mi1 mi2 : Int) (d : D) : Bool := (d.at 0).int == 1 && covers_f mv mp mb0 mb1 mb2 mi0 mi1 mi2 (d.at 4).int (d.at 5).int (d.at 6).int (d.at 7).int (d.at 8).int (d.at 9).int (d.at 10).int (d.at 11).int
def allB (_ : D) : Bool := true
/-- A rule's parts. -/
def reD (d : D) : D := .a [.i (d.at 0).int, .i (d.at 1).int, .i (d.at 2).int, .i (d.at 3).int, .i (d.at 4).int, .i (d.at 5).int, .i (d.at 6).int, .i (d.at 7).int, .i (d.at 8).int, .i (d.at 9).int, .i (d.at 10).int, .i (d.at 11).int, .l (d.at 12).nl (d.at 12).xs]
/-- What is kept moves ahead. -/
def dlW (f : D → Bool) : Nat → Nat → Nat → List D → Nat × List D
  | 0, i, _, s => (i, s)
  | k + 1, i, j, s => match f (s.getD j default) with
    | true => dlW f k i (j + 1) s
    | false => dlW f k (i + 1) (j + 1) (s.set i (reD (s.getD j default)))
def dlI (f : D → Bool) (i j : Int) (s : List D) : Int := ((dlW f (s.length - j.toNat) i.toNat j.toNat s).1 : Nat)
def dlS (f : D → Bool) (i j : Int) (s : List D) : List D := (dlW f (s.length - j.toNat) i.toNat j.toNat s).2
theorem del_loop {f : D → Bool} {B : St → Tree (Ex × St)} {tm : Int → Int → List D → St} {fin : Int → List D → Ex × St}
    (keep : ∀ (i j : Nat) (s : List D), i < j → j < s.length → s.length ≤ 1000 → f (s.getD j default) = false → (B (tm i j s)).run = some (.normal, tm ((i + 1 : Nat) : Int) ((j + 1 : Nat) : Int) (s.set i (reD (s.getD j default)))))
    (drop : ∀ (i j : Nat) (s : List D), i < j → j < s.length → s.length ≤ 1000 → f (s.getD j default) = true → (B (tm i j s)).run = some (.normal, tm i ((j + 1 : Nat) : Int) s))
    (stop : ∀ (i j : Nat) (s : List D), j = s.length → (B (tm i j s)).run = some (fin i s)) (hn : ∀ i s, (fin i s).1 ≠ .normal) :
    ∀ (k i j : Nat) (s : List D), i < j → j + k = s.length → s.length ≤ 1000 → ∃ m, iterC B m (tm i j s) = some (fin ((dlW f k i j s).1 : Nat) (dlW f k i j s).2)
  | 0, i, j, s, h, hk, hl => iterC_stop (ex := (fin i s).1) (st' := (fin i s).2) (stop i j s (by omega)) (hn i s)
  | k + 1, i, j, s, h, hk, hl => by
    simp only [dlW]
    cases hf : f (s.getD j default) with
    | true => exact iterC_step (drop i j s h (by omega) hl hf) (del_loop keep drop stop hn k i (j + 1) s (by omega) (by omega) hl)
    | false => exact iterC_step (keep i j s h (by omega) hl hf) (del_loop keep drop stop hn k (i + 1) (j + 1) _ (by omega) (by simp; omega) (by simpa using hl))
def zeroR : D := .a [.i 0, .i 0, .i 0, .i 0, .i 0, .i 0, .i 0, .i 0, .i 0, .i 0, .i 0, .i 0, .l true []]
def delN (f : D → Bool) (x : List D) : Nat := (dlW f (x.length - (x.findIdx f + 1)) (x.findIdx f) (x.findIdx f + 1) x).1
def delS (f : D → Bool) (x : List D) : List D := (dlW f (x.length - (x.findIdx f + 1)) (x.findIdx f) (x.findIdx f + 1) x).2
def clrS (f : D → Bool) (x : List D) : List D := (delS f x).take (delN f x) ++ List.replicate ((delS f x).length - delN f x) zeroR ++ (delS f x).drop (delS f x).length
theorem dlW_spec (f : D → Bool) : ∀ (k i j : Nat) (s : List D), i < j → j + k = s.length → (dlW f k i j s).2.length = s.length ∧ (dlW f k i j s).1 ≤ s.length ∧ (dlW f k i j s).2.take (dlW f k i j s).1 = s.take i ++ ((s.drop j).filter (fun d => !f d)).map reD
  | 0, i, j, s, h, hk => by
    simp only [dlW]
    refine ⟨trivial, by omega, ?_⟩
    rw [List.drop_eq_nil_of_le (by omega)]; simp
  | k + 1, i, j, s, h, hk => by
    have hj : j < s.length := by omega
    simp only [dlW]
    rw [List.drop_eq_getElem_cons hj]
    have hg : s.getD j default = s[j] := by simp [List.getD_eq_getElem?_getD, List.getElem?_eq_getElem hj]
    rw [hg]
    cases hf : f s[j] with
    | true =>
      obtain ⟨h1, h2, h3⟩ := dlW_spec f k i (j + 1) s (by omega) (by omega)
      refine ⟨h1, h2, ?_⟩
      rw [h3, List.filter_cons]
      simp [hf]
    | false =>
      obtain ⟨h1, h2, h3⟩ := dlW_spec f k (i + 1) (j + 1) (s.set i (reD s[j])) (by omega) (by simp; omega)
      refine ⟨by simpa using h1, by simpa using h2, ?_⟩
      rw [h3, List.filter_cons]
      simp only [hf, Bool.not_false, if_true, List.map_cons]
      have e1 : (s.set i (reD s[j])).take (i + 1) = s.take i ++ [reD s[j]] := by
        rw [List.take_set, List.take_succ_eq_append_getElem (by omega), List.set_append_right _ _ (by simp; omega)]
        simp [Nat.min_eq_left (by omega : i ≤ s.length)]
      have e2 : (s.set i (reD s[j])).drop (j + 1) = s.drop (j + 1) := by
        rw [List.drop_set_of_lt (by omega)]
      rw [e1, e2, List.append_assoc]
      rfl
theorem any_idx {f : D → Bool} {x : List D} (h : x.any f = true) : x.findIdx f < x.length := by
  rw [List.findIdx_lt_length]
  obtain ⟨a, h1, h2⟩ := List.any_eq_true.1 h
  exact ⟨a, h1, h2⟩
theorem del_spec {f : D → Bool} {x : List D} (h : x.any f = true) : (delS f x).length = x.length ∧ delN f x ≤ x.length ∧ (delS f x).take (delN f x) = x.take (x.findIdx f) ++ ((x.drop (x.findIdx f + 1)).filter (fun d => !f d)).map reD := by
  have := any_idx h
  exact dlW_spec f _ _ _ x (by omega) (by omega)
noncomputable def ixl_tm (s_nl : Bool) (s : List D) (mv mp mb0 mb1 mb2 mi0 mi1 mi2 t8 : Int) : St :=
  ⟨(Tm.at 19 [(0, (Slot.is (SV.lst (Sh.agg [(Sh.int IntKind.i64), (Sh.int IntKind.i64), (Sh.int IntKind.i64), (Sh.int IntKind.i64), (Sh.int IntKind.i64), (Sh.int IntKind.i64), (Sh.int IntKind.u8), (Sh.int IntKind.u8), (Sh.int IntKind.u8), (Sh.int IntKind.u8), (Sh.int IntKind.u8), (Sh.int IntKind.u8), (Sh.list (Sh.agg [(Sh.int IntKind.i64), (Sh.int IntKind.i64), (Sh.int IntKind.i64), (Sh.int IntKind.i64)]))]) (s_nl) (s)))), (1, (Slot.is (SV.clo (Fn.func 66) [] [(SV.ref 0 0)]))), (7, (Slot.is (SV.si IntKind.i64 ((↑(List.length s) : Int))))), (8, (Slot.is (SV.si IntKind.i64 (t8))))]), [(Option.some (Blk.mk (Con.cells [(SV.si IntKind.i64 (mv)), (SV.si IntKind.i64 (mp)), (SV.si IntKind.u8 (mb0)), (SV.si IntKind.u8 (mb1)), (SV.si IntKind.u8 (mb2)), (SV.si IntKind.u8 (mi0)), (SV.si IntKind.u8 (mi1)), (SV.si IntKind.u8 (mi2))]) 32 (true)))]⟩
def ixl_lp : LP := { base := 1, mv := [], mask := 387, maskX := 16, nm := 256, nb := [], kl := [], klX := [], ow := [] }
noncomputable def ixl_x0 (s_nl : Bool) (s : List D) (mv mp mb0 mb1 mb2 mi0 mi1 mi2 t8 : Int) : St :=
  ⟨(Tm.at 19 [(4, (Slot.is (SV.si IntKind.i64 (t8))))]), [(Option.some (Blk.mk (Con.cells [(SV.si IntKind.i64 (mv)), (SV.si IntKind.i64 (mp)), (SV.si IntKind.u8 (mb0)), (SV.si IntKind.u8 (mb1)), (SV.si IntKind.u8 (mb2)), (SV.si IntKind.u8 (mi0)), (SV.si IntKind.u8 (mi1)), (SV.si IntKind.u8 (mi2))]) 32 (true)))]⟩
noncomputable def ixl_x1 (s_nl : Bool) (s : List D) (mv mp mb0 mb1 mb2 mi0 mi1 mi2 t8 : Int) : St :=
  ⟨(Tm.at 19 []), [(Option.some (Blk.mk (Con.cells [(SV.si IntKind.i64 (mv)), (SV.si IntKind.i64 (mp)), (SV.si IntKind.u8 (mb0)), (SV.si IntKind.u8 (mb1)), (SV.si IntKind.u8 (mb2)), (SV.si IntKind.u8 (mi0)), (SV.si IntKind.u8 (mi1)), (SV.si IntKind.u8 (mi2))]) 32 (true)))]⟩
theorem ixl_round (s_nl : Bool) (s : List D) (mv mp mb0 mb1 mb2 mi0 mi1 mi2 t8 : Int) : roundC (bodyF tab (envOf (P := Try.prog) [covers_pc] [] []) 20 12 76 0 (loopOf (codeOf Try.f76) 0)) ixl_lp (ixl_tm s_nl s mv mp mb0 mb1 mb2 mi0 mi1 mi2 t8) =
    (Tree.ite (decide (t8 < (↑(List.length s) : Int))) (Tree.need (decide ((0 : Int) ≤ t8) && decide (t8 < (↑(List.length s) : Int))) (Tree.need (bif D.int (D.at (List.getD s (Int.toNat t8) default) (0 : Nat)) == (1 : Int) then true && true else true) (Tree.ite (D.int (D.at (List.getD s (Int.toNat t8) default) (0 : Nat)) == (1 : Int) && covers_f mv mp mb0 mb1 mb2 mi0 mi1 mi2 (D.int (D.at (List.getD s (Int.toNat t8) default) (4 : Nat))) (D.int (D.at (List.getD s (Int.toNat t8) default) (5 : Nat))) (D.int (D.at (List.getD s (Int.toNat t8) default) (6 : Nat))) (D.int (D.at (List.getD s (Int.toNat t8) default) (7 : Nat))) (D.int (D.at (List.getD s (Int.toNat t8) default) (8 : Nat))) (D.int (D.at (List.getD s (Int.toNat t8) default) (9 : Nat))) (D.int (D.at (List.getD s (Int.toNat t8) default) (10 : Nat))) (D.int (D.at (List.getD s (Int.toNat t8) default) (11 : Nat)))) (Tree.ret (Ex.ret, (ixl_x0 (s_nl) (s) (mv) (mp) (mb0) (mb1) (mb2) (mi0) (mi1) (mi2) (t8)))) (Tree.ret (Ex.normal, (ixl_tm (s_nl) (s) (mv) (mp) (mb0) (mb1) (mb2) (mi0) (mi1) (mi2) (IntKind.wrap IntKind.i64 (t8 + (1 : Int))))))))) (Tree.ret ((Ex.exit 0), (ixl_x1 (s_nl) (s) (mv) (mp) (mb0) (mb1) (mb2) (mi0) (mi1) (mi2) (t8))))) := by kernel_rfl
noncomputable def ixl_res (s_nl : Bool) (s : List D) (mv mp mb0 mb1 mb2 mi0 mi1 mi2 : Int) (t8 : Int) : Tree (Ex × St) := .need (decide (t8 = 0) && shortB s.length) (.ite (s.any (looseB mv mp mb0 mb1 mb2 mi0 mi1 mi2)) (.ret (.ret, ixl_x0 s_nl s mv mp mb0 mb1 mb2 mi0 mi1 mi2 (s.findIdx (looseB mv mp mb0 mb1 mb2 mi0 mi1 mi2) : Nat))) (.ret (.exit 0, ixl_x1 s_nl s mv mp mb0 mb1 mb2 mi0 mi1 mi2 (s.length : Nat))))
theorem ixl_ok (s_nl : Bool) (s : List D) (mv mp mb0 mb1 mb2 mi0 mi1 mi2 : Int) (t8 : Int) (ex : Ex) (st' : St) (hrun_ : (ixl_res s_nl s mv mp mb0 mb1 mb2 mi0 mi1 mi2 t8).run = some (ex, st')) : ∃ n, iterC (roundC (bodyF tab (envOf (P := Try.prog) [covers_pc] [] []) 20 12 76 0 (loopOf (codeOf Try.f76) 0)) ixl_lp) n (ixl_tm s_nl s mv mp mb0 mb1 mb2 mi0 mi1 mi2 t8) = some (ex, st') := by
  obtain ⟨hp_, h_⟩ := Tree.run_need hrun_
  simp only [shortB, Bool.and_eq_true, decide_eq_true_eq, beq_iff_eq] at hp_
  obtain ⟨e_, hl_⟩ := hp_
  subst e_
  have sl_ := search_loop0 (B := roundC (bodyF tab (envOf (P := Try.prog) [covers_pc] [] []) 20 12 76 0 (loopOf (codeOf Try.f76) 0)) ixl_lp) (tm := fun t_ => ixl_tm s_nl s mv mp mb0 mb1 mb2 mi0 mi1 mi2 t_) (s := s) (f := looseB mv mp mb0 mb1 mb2 mi0 mi1 mi2) (yes := fun t_ => (.ret, ixl_x0 s_nl s mv mp mb0 mb1 mb2 mi0 mi1 mi2 t_)) (no := (.exit 0, ixl_x1 s_nl s mv mp mb0 mb1 mb2 mi0 mi1 mi2 (s.length : Nat))) ?_ ?_ (fun _ => by simp) (by simp)
  · obtain ⟨m_, hm_⟩ := sl_
    refine ⟨m_, hm_.trans ?_⟩
    rw [Tree.run_ite'] at h_
    revert h_
    cases s.any (looseB mv mp mb0 mb1 mb2 mi0 mi1 mi2) <;> exact id
  · intro k_ hk_
    skip
    have d1_ : decide ((k_ : Int) < (s.length : Nat)) = true := by simp; omega
    have d2_ : decide ((0 : Int) ≤ (k_ : Int)) = true := by simp
    simp only [ixl_round, Tree.run_ret', Tree.run_need', Tree.run_ite', d1_, d2_, Bool.and_self, cond_true, Int.toNat_natCast, wrap64 (n := (k_ : Int) + 1) (by omega) (by omega), cond_self']
    exact bif_some _ _ _
  · skip
    have d1_ : decide (((s.length : Nat) : Int) < (s.length : Nat)) = false := by simp
    simp only [ixl_round, Tree.run_ite', d1_]
    rfl
noncomputable def ixl_run (s_nl : Bool) (s : List D) (mv mp mb0 mb1 mb2 mi0 mi1 mi2 : Int) (st : St) : Tree (Ex × St) := .need (chkSt st (ixl_tm s_nl s mv mp mb0 mb1 mb2 mi0 mi1 mi2 (iOf (slotV st 8)))) (ixl_res s_nl s mv mp mb0 mb1 mb2 mi0 mi1 mi2 (iOf (slotV st 8)))
noncomputable def ixl_lc (s_nl : Bool) (s : List D) (mv mp mb0 mb1 mb2 mi0 mi1 mi2 : Int) : LC Try.prog := LC.of (T := tab) follows (envOf_good _ _ _) 20 12 76 0 Try.f76 Try.func76 (codeOf Try.f76) (loopOf (codeOf Try.f76) 0) (by kernel_rfl) (by kernel_rfl) ixl_lp (ixl_run s_nl s mv mp mb0 mb1 mb2 mi0 mi1 mi2)
  (inner_loops (c := codeOf Try.f76) Try.func76 (by kernel_rfl) (by kernel_rfl))
  (by
    intro st ex st' h
    obtain ⟨hc, h⟩ := Tree.run_need h
    have e := chk_iff.1 hc
    have := ixl_ok s_nl s mv mp mb0 mb1 mb2 mi0 mi1 mi2 _ ex st' h
    rw [← e] at this
    exact this)
theorem ixfl_tree (s_nl : Bool) (s : List D) (mv mp mb0 mb1 mb2 mi0 mi1 mi2 : Int) : callG tab (envOf (P := Try.prog) [covers_pc] [] [(ixl_lc s_nl s mv mp mb0 mb1 mb2 mi0 mi1 mi2)]) 20 12 76 [SV.lst (.agg [.int .i64, .int .i64, .int .i64, .int .i64, .int .i64, .int .i64, .int .u8, .int .u8, .int .u8, .int .u8, .int .u8, .int .u8, .list (.agg [.int .i64, .int .i64, .int .i64, .int .i64])]) s_nl s, SV.clo (.func 66) [] [SV.ref 0 0]] [some ⟨.cells [SV.si IntKind.i64 mv, SV.si IntKind.i64 mp, SV.si IntKind.u8 mb0, SV.si IntKind.u8 mb1, SV.si IntKind.u8 mb2, SV.si IntKind.u8 mi0, SV.si IntKind.u8 mi1, SV.si IntKind.u8 mi2], 32, true⟩] =
    (Tree.need (chkSt (ixl_tm s_nl s mv mp mb0 mb1 mb2 mi0 mi1 mi2 (0 : Int)) (ixl_tm s_nl s mv mp mb0 mb1 mb2 mi0 mi1 mi2 (0 : Int))) (Tree.need (decide ((0 : Int) = (0 : Int)) && shortB (List.length s)) (Tree.ite (List.any s (looseB mv mp mb0 mb1 mb2 mi0 mi1 mi2)) (Tree.ret ((SV.si IntKind.i64 ((↑(List.findIdx (looseB mv mp mb0 mb1 mb2 mi0 mi1 mi2) s) : Int))), [(Option.some (Blk.mk (Con.cells [(SV.si IntKind.i64 (mv)), (SV.si IntKind.i64 (mp)), (SV.si IntKind.u8 (mb0)), (SV.si IntKind.u8 (mb1)), (SV.si IntKind.u8 (mb2)), (SV.si IntKind.u8 (mi0)), (SV.si IntKind.u8 (mi1)), (SV.si IntKind.u8 (mi2))]) 32 (true)))])) (Tree.ret ((SV.si IntKind.i64 ((-1 : Int))), [(Option.some (Blk.mk (Con.cells [(SV.si IntKind.i64 (mv)), (SV.si IntKind.i64 (mp)), (SV.si IntKind.u8 (mb0)), (SV.si IntKind.u8 (mb1)), (SV.si IntKind.u8 (mb2)), (SV.si IntKind.u8 (mi0)), (SV.si IntKind.u8 (mi1)), (SV.si IntKind.u8 (mi2))]) 32 (true)))]))))) := by kernel_rfl
theorem ixfl_run (s_nl : Bool) (s : List D) (mv mp mb0 mb1 mb2 mi0 mi1 mi2 : Int) {r : SV} {H' : Hp} (h : (.need (shortB s.length) (.ret (.si .i64 (bif s.any (looseB mv mp mb0 mb1 mb2 mi0 mi1 mi2) then (s.findIdx (looseB mv mp mb0 mb1 mb2 mi0 mi1 mi2) : Nat) else -1), [some ⟨.cells [SV.si IntKind.i64 mv, SV.si IntKind.i64 mp, SV.si IntKind.u8 mb0, SV.si IntKind.u8 mb1, SV.si IntKind.u8 mb2, SV.si IntKind.u8 mi0, SV.si IntKind.u8 mi1, SV.si IntKind.u8 mi2], 32, true⟩])) : Tree (SV × Hp)).run = some (r, H')) : (callG tab (envOf (P := Try.prog) [covers_pc] [] [(ixl_lc s_nl s mv mp mb0 mb1 mb2 mi0 mi1 mi2)]) 20 12 76 [SV.lst (.agg [.int .i64, .int .i64, .int .i64, .int .i64, .int .i64, .int .i64, .int .u8, .int .u8, .int .u8, .int .u8, .int .u8, .int .u8, .list (.agg [.int .i64, .int .i64, .int .i64, .int .i64])]) s_nl s, SV.clo (.func 66) [] [SV.ref 0 0]] [some ⟨.cells [SV.si IntKind.i64 mv, SV.si IntKind.i64 mp, SV.si IntKind.u8 mb0, SV.si IntKind.u8 mb1, SV.si IntKind.u8 mb2, SV.si IntKind.u8 mi0, SV.si IntKind.u8 mi1, SV.si IntKind.u8 mi2], 32, true⟩]).run = some (r, H') := by
  rw [ixfl_tree]
  obtain ⟨hp_, h_⟩ := Tree.run_need h
  simp only [Tree.run, Option.some.injEq, Prod.mk.injEq] at h_
  obtain ⟨rfl, rfl⟩ := h_
  simp only [Tree.run_ret', Tree.run_need', Tree.run_ite', chk_self, hp_, decide_true, Bool.and_self, cond_true]
  cases s.any (looseB mv mp mb0 mb1 mb2 mi0 mi1 mi2) <;> rfl
def ixfl_tr : List D → Option (Tree (SV × Hp))
  | [.l s_nl s, .i mv, .i mp, .i mb0, .i mb1, .i mb2, .i mi0, .i mi1, .i mi2] => some (.need (shortB s.length) (.ret (.si .i64 (bif s.any (looseB mv mp mb0 mb1 mb2 mi0 mi1 mi2) then (s.findIdx (looseB mv mp mb0 mb1 mb2 mi0 mi1 mi2) : Nat) else -1), [some ⟨.cells [SV.si IntKind.i64 mv, SV.si IntKind.i64 mp, SV.si IntKind.u8 mb0, SV.si IntKind.u8 mb1, SV.si IntKind.u8 mb2, SV.si IntKind.u8 mi0, SV.si IntKind.u8 mi1, SV.si IntKind.u8 mi2], 32, true⟩])))
  | _ => none
noncomputable def ixfl_ct : Ct Try.prog := Ct.run (T := tab) follows 20 12 76 [.d (.list (.agg [.int .i64, .int .i64, .int .i64, .int .i64, .int .i64, .int .i64, .int .u8, .int .u8, .int .u8, .int .u8, .int .u8, .int .u8, .list (.agg [.int .i64, .int .i64, .int .i64, .int .i64])])), .fn 66 [] [.p 32 [.d (.int .i64), .d (.int .i64), .d (.int .u8), .d (.int .u8), .d (.int .u8), .d (.int .u8), .d (.int .u8), .d (.int .u8)]]] ixfl_tr (by
  intro ds t r H' ht hr
  unfold ixfl_tr at ht
  split at ht
  · rename_i s_nl s mv mp mb0 mb1 mb2 mi0 mi1 mi2
    simp only [Option.some.injEq] at ht
    subst ht
    exact ⟨_, _, _, envOf_good _ _ _, ixfl_run s_nl s mv mp mb0 mb1 mb2 mi0 mi1 mi2 hr, rfl, rfl⟩
  · cases ht) (enters_of (c := codeOf Try.f76) Try.func76 (by kernel_rfl) (by kernel_rfl))
noncomputable def dll_tm (x_nl : Bool) (x : List D) (mv mp mb0 mb1 mb2 mi0 mi1 mi2 i j : Int) (s_nl : Bool) (s : List D) : St :=
  ⟨(Tm.at 42 [(0, (Slot.is (SV.own 0))), (1, (Slot.is (SV.clo (Fn.func 66) [] [(SV.ref 1 0)]))), (5, (Slot.is (SV.si IntKind.i64 (i)))), (6, (Slot.is (SV.si IntKind.i64 (j))))]), [(Option.some (Blk.mk (Con.rows (Sh.agg [(Sh.int IntKind.i64), (Sh.int IntKind.i64), (Sh.int IntKind.i64), (Sh.int IntKind.i64), (Sh.int IntKind.i64), (Sh.int IntKind.i64), (Sh.int IntKind.u8), (Sh.int IntKind.u8), (Sh.int IntKind.u8), (Sh.int IntKind.u8), (Sh.int IntKind.u8), (Sh.int IntKind.u8), (Sh.list (Sh.agg [(Sh.int IntKind.i64), (Sh.int IntKind.i64), (Sh.int IntKind.i64), (Sh.int IntKind.i64)]))]) (s_nl) (s)) 35 (false))), (Option.some (Blk.mk (Con.cells [(SV.si IntKind.i64 (mv)), (SV.si IntKind.i64 (mp)), (SV.si IntKind.u8 (mb0)), (SV.si IntKind.u8 (mb1)), (SV.si IntKind.u8 (mb2)), (SV.si IntKind.u8 (mi0)), (SV.si IntKind.u8 (mi1)), (SV.si IntKind.u8 (mi2))]) 32 (false)))]⟩
def dll_lp : LP := { base := 2, mv := [], mask := 99, maskX := 33, nm := 96, nb := [0], kl := [], klX := [], ow := [] }
noncomputable def dll_x0 (x_nl : Bool) (x : List D) (mv mp mb0 mb1 mb2 mi0 mi1 mi2 i j : Int) (s_nl : Bool) (s : List D) : St :=
  ⟨(Tm.at 42 [(0, (Slot.is (SV.own 0))), (5, (Slot.is (SV.si IntKind.i64 (i))))]), [(Option.some (Blk.mk (Con.rows (Sh.agg [(Sh.int IntKind.i64), (Sh.int IntKind.i64), (Sh.int IntKind.i64), (Sh.int IntKind.i64), (Sh.int IntKind.i64), (Sh.int IntKind.i64), (Sh.int IntKind.u8), (Sh.int IntKind.u8), (Sh.int IntKind.u8), (Sh.int IntKind.u8), (Sh.int IntKind.u8), (Sh.int IntKind.u8), (Sh.list (Sh.agg [(Sh.int IntKind.i64), (Sh.int IntKind.i64), (Sh.int IntKind.i64), (Sh.int IntKind.i64)]))]) (s_nl) (s)) 35 (false))), (Option.some (Blk.mk (Con.cells [(SV.si IntKind.i64 (mv)), (SV.si IntKind.i64 (mp)), (SV.si IntKind.u8 (mb0)), (SV.si IntKind.u8 (mb1)), (SV.si IntKind.u8 (mb2)), (SV.si IntKind.u8 (mi0)), (SV.si IntKind.u8 (mi1)), (SV.si IntKind.u8 (mi2))]) 32 (false)))]⟩
theorem dll_round (x_nl : Bool) (x : List D) (mv mp mb0 mb1 mb2 mi0 mi1 mi2 i j : Int) (s_nl : Bool) (s : List D) : roundC (bodyF tab (envOf (P := Try.prog) [covers_pc] [] []) 20 12 80 0 (loopOf (codeOf Try.f80) 0)) dll_lp (dll_tm x_nl x mv mp mb0 mb1 mb2 mi0 mi1 mi2 i j s_nl s) =
    (Tree.ite (decide (j < (↑(List.length s) : Int))) (Tree.need (decide ((0 : Int) ≤ j) && decide (j < (↑(List.length s) : Int))) (Tree.need (bif D.int (D.at (List.getD s (Int.toNat j) default) (0 : Nat)) == (1 : Int) then true && true else true) (Tree.ite (!(D.int (D.at (List.getD s (Int.toNat j) default) (0 : Nat)) == (1 : Int) && covers_f mv mp mb0 mb1 mb2 mi0 mi1 mi2 (D.int (D.at (List.getD s (Int.toNat j) default) (4 : Nat))) (D.int (D.at (List.getD s (Int.toNat j) default) (5 : Nat))) (D.int (D.at (List.getD s (Int.toNat j) default) (6 : Nat))) (D.int (D.at (List.getD s (Int.toNat j) default) (7 : Nat))) (D.int (D.at (List.getD s (Int.toNat j) default) (8 : Nat))) (D.int (D.at (List.getD s (Int.toNat j) default) (9 : Nat))) (D.int (D.at (List.getD s (Int.toNat j) default) (10 : Nat))) (D.int (D.at (List.getD s (Int.toNat j) default) (11 : Nat))))) (Tree.need (decide ((0 : Int) ≤ i) && decide (i < (↑(List.length s) : Int))) (Tree.ret (Ex.normal, (dll_tm (x_nl) (x) (mv) (mp) (mb0) (mb1) (mb2) (mi0) (mi1) (mi2) (IntKind.wrap IntKind.i64 (i + (1 : Int))) (IntKind.wrap IntKind.i64 (j + (1 : Int))) (s_nl) (List.set s (Int.toNat i) (D.a (updD (List.getD s (Int.toNat i) default) (0 : Nat) [D.i (D.int (D.at (List.getD s (Int.toNat j) default) (0 : Nat))), D.i (D.int (D.at (List.getD s (Int.toNat j) default) (1 : Nat))), D.i (D.int (D.at (List.getD s (Int.toNat j) default) (2 : Nat))), D.i (D.int (D.at (List.getD s (Int.toNat j) default) (3 : Nat))), D.i (D.int (D.at (List.getD s (Int.toNat j) default) (4 : Nat))), D.i (D.int (D.at (List.getD s (Int.toNat j) default) (5 : Nat))), D.i (D.int (D.at (List.getD s (Int.toNat j) default) (6 : Nat))), D.i (D.int (D.at (List.getD s (Int.toNat j) default) (7 : Nat))), D.i (D.int (D.at (List.getD s (Int.toNat j) default) (8 : Nat))), D.i (D.int (D.at (List.getD s (Int.toNat j) default) (9 : Nat))), D.i (D.int (D.at (List.getD s (Int.toNat j) default) (10 : Nat))), D.i (D.int (D.at (List.getD s (Int.toNat j) default) (11 : Nat))), D.l (D.nl (D.at (List.getD s (Int.toNat j) default) (12 : Nat))) (D.xs (D.at (List.getD s (Int.toNat j) default) (12 : Nat)))] (13 : Nat) (0 : Nat)))))))) (Tree.ret (Ex.normal, (dll_tm (x_nl) (x) (mv) (mp) (mb0) (mb1) (mb2) (mi0) (mi1) (mi2) (i) (IntKind.wrap IntKind.i64 (j + (1 : Int))) (s_nl) (s))))))) (Tree.ret ((Ex.exit 0), (dll_x0 (x_nl) (x) (mv) (mp) (mb0) (mb1) (mb2) (mi0) (mi1) (mi2) (i) (j) (s_nl) (s))))) := by kernel_rfl
noncomputable def dll_res (x_nl : Bool) (x : List D) (mv mp mb0 mb1 mb2 mi0 mi1 mi2 : Int) (i j : Int) (s_nl : Bool) (s : List D) : Tree (Ex × St) := .need (decide (0 ≤ i) && (decide (i < j) && (decide (j ≤ (s.length : Int)) && fewB s.length))) (.ret (.exit 0, dll_x0 x_nl x mv mp mb0 mb1 mb2 mi0 mi1 mi2 (dlI (looseB mv mp mb0 mb1 mb2 mi0 mi1 mi2) i j s) 0 s_nl (dlS (looseB mv mp mb0 mb1 mb2 mi0 mi1 mi2) i j s)))
theorem dll_ok (x_nl : Bool) (x : List D) (mv mp mb0 mb1 mb2 mi0 mi1 mi2 : Int) (i j : Int) (s_nl : Bool) (s : List D) (ex : Ex) (st' : St) (hrun_ : (dll_res x_nl x mv mp mb0 mb1 mb2 mi0 mi1 mi2 i j s_nl s).run = some (ex, st')) : ∃ n, iterC (roundC (bodyF tab (envOf (P := Try.prog) [covers_pc] [] []) 20 12 80 0 (loopOf (codeOf Try.f80) 0)) dll_lp) n (dll_tm x_nl x mv mp mb0 mb1 mb2 mi0 mi1 mi2 i j s_nl s) = some (ex, st') := by
  obtain ⟨hp_, h_⟩ := Tree.run_need hrun_
  simp only [fewB, Bool.and_eq_true, decide_eq_true_eq] at hp_
  obtain ⟨h0_, h1_, h2_, h3_⟩ := hp_
  simp only [Tree.run, Option.some.injEq, Prod.mk.injEq] at h_
  obtain ⟨rfl, rfl⟩ := h_
  obtain ⟨a_, rfl⟩ : ∃ a : Nat, i = a := ⟨i.toNat, by omega⟩
  obtain ⟨b_, rfl⟩ : ∃ b : Nat, j = b := ⟨j.toNat, by omega⟩
  simp only [dlI, dlS, Int.toNat_natCast]
  refine del_loop (f := (looseB mv mp mb0 mb1 mb2 mi0 mi1 mi2)) (B := roundC (bodyF tab (envOf (P := Try.prog) [covers_pc] [] []) 20 12 80 0 (loopOf (codeOf Try.f80) 0)) dll_lp) (tm := fun a_ b_ s_ => dll_tm x_nl x mv mp mb0 mb1 mb2 mi0 mi1 mi2 a_ b_ s_nl s_) (fin := fun a_ s_ => (.exit 0, dll_x0 x_nl x mv mp mb0 mb1 mb2 mi0 mi1 mi2 a_ 0 s_nl s_)) ?_ ?_ ?_ (fun _ _ => by simp) (s.length - b_) a_ b_ s (by omega) (by omega) h3_
  · intro a_ b_ s hab_ hb_ hl_ hf_
    have d1_ : decide ((b_ : Int) < (s.length : Int)) = true := decide_eq_true (by omega)
    have d2_ : decide ((0 : Int) ≤ (b_ : Int)) = true := decide_eq_true (by omega)
    have d3_ : decide ((0 : Int) ≤ (a_ : Int)) = true := decide_eq_true (by omega)
    have d4_ : decide ((a_ : Int) < (s.length : Int)) = true := decide_eq_true (by omega)
    unfold looseB at hf_
    simp only [dll_round, Tree.run_ret', Tree.run_need', Tree.run_ite', Int.toNat_natCast, d1_, d2_, d3_, d4_, hf_, Bool.and_self, Bool.not_false, cond_self', cond_true, wrap64 (n := (a_ : Int) + 1) (by omega) (by omega), wrap64 (n := (b_ : Int) + 1) (by omega) (by omega)]
    rfl
  · intro a_ b_ s hab_ hb_ hl_ hf_
    have d1_ : decide ((b_ : Int) < (s.length : Int)) = true := decide_eq_true (by omega)
    have d2_ : decide ((0 : Int) ≤ (b_ : Int)) = true := decide_eq_true (by omega)
    unfold looseB at hf_
    simp only [dll_round, Tree.run_ret', Tree.run_need', Tree.run_ite', Int.toNat_natCast, d1_, d2_, hf_, Bool.and_self, Bool.not_true, cond_self', cond_true, cond_false, wrap64 (n := (b_ : Int) + 1) (by omega) (by omega)]
    rfl
  · intro a_ b_ s hb_
    have d1_ : decide ((b_ : Int) < (s.length : Int)) = false := by simp; omega
    simp only [dll_round, Tree.run_ret', Tree.run_ite', d1_, cond_false]
    rfl
noncomputable def dll_run (x_nl : Bool) (x : List D) (mv mp mb0 mb1 mb2 mi0 mi1 mi2 : Int) (st : St) : Tree (Ex × St) := .need (chkSt st (dll_tm x_nl x mv mp mb0 mb1 mb2 mi0 mi1 mi2 (iOf (slotV st 5)) (iOf (slotV st 6)) (nlOf (rowsV st 0)) (xsOf (rowsV st 0)))) (dll_res x_nl x mv mp mb0 mb1 mb2 mi0 mi1 mi2 (iOf (slotV st 5)) (iOf (slotV st 6)) (nlOf (rowsV st 0)) (xsOf (rowsV st 0)))
noncomputable def dll_lc (x_nl : Bool) (x : List D) (mv mp mb0 mb1 mb2 mi0 mi1 mi2 : Int) : LC Try.prog := LC.of (T := tab) follows (envOf_good _ _ _) 20 12 80 0 Try.f80 Try.func80 (codeOf Try.f80) (loopOf (codeOf Try.f80) 0) (by kernel_rfl) (by kernel_rfl) dll_lp (dll_run x_nl x mv mp mb0 mb1 mb2 mi0 mi1 mi2)
  (inner_loops (c := codeOf Try.f80) Try.func80 (by kernel_rfl) (by kernel_rfl))
  (by
    intro st ex st' h
    obtain ⟨hc, h⟩ := Tree.run_need h
    have e := chk_iff.1 hc
    have := dll_ok x_nl x mv mp mb0 mb1 mb2 mi0 mi1 mi2 _ _ _ _ ex st' h
    rw [← e] at this
    exact this)
theorem dell_tree (x_nl : Bool) (x : List D) (mv mp mb0 mb1 mb2 mi0 mi1 mi2 : Int) : callG tab (envOf (P := Try.prog) [covers_pc] [ixfl_ct] [(dll_lc x_nl x mv mp mb0 mb1 mb2 mi0 mi1 mi2)]) 20 12 80 [SV.own 0, SV.clo (.func 66) [] [SV.ref 1 0]] [some ⟨.rows (.agg [.int .i64, .int .i64, .int .i64, .int .i64, .int .i64, .int .i64, .int .u8, .int .u8, .int .u8, .int .u8, .int .u8, .int .u8, .list (.agg [.int .i64, .int .i64, .int .i64, .int .i64])]) x_nl x, 35, false⟩, some ⟨.cells [SV.si IntKind.i64 mv, SV.si IntKind.i64 mp, SV.si IntKind.u8 mb0, SV.si IntKind.u8 mb1, SV.si IntKind.u8 mb2, SV.si IntKind.u8 mi0, SV.si IntKind.u8 mi1, SV.si IntKind.u8 mi2], 32, false⟩] =
    (Tree.need (shortB (List.length x)) (Tree.ite ((bif List.any x (looseB mv mp mb0 mb1 mb2 mi0 mi1 mi2) then (↑(List.findIdx (looseB mv mp mb0 mb1 mb2 mi0 mi1 mi2) x) : Int) else (-1 : Int)) == (-1 : Int)) (Tree.ret ((SV.own 0), [(Option.some (Blk.mk (Con.rows (Sh.agg [(Sh.int IntKind.i64), (Sh.int IntKind.i64), (Sh.int IntKind.i64), (Sh.int IntKind.i64), (Sh.int IntKind.i64), (Sh.int IntKind.i64), (Sh.int IntKind.u8), (Sh.int IntKind.u8), (Sh.int IntKind.u8), (Sh.int IntKind.u8), (Sh.int IntKind.u8), (Sh.int IntKind.u8), (Sh.list (Sh.agg [(Sh.int IntKind.i64), (Sh.int IntKind.i64), (Sh.int IntKind.i64), (Sh.int IntKind.i64)]))]) (x_nl) (x)) 35 (false))), (Option.some (Blk.mk (Con.cells [(SV.si IntKind.i64 (mv)), (SV.si IntKind.i64 (mp)), (SV.si IntKind.u8 (mb0)), (SV.si IntKind.u8 (mb1)), (SV.si IntKind.u8 (mb2)), (SV.si IntKind.u8 (mi0)), (SV.si IntKind.u8 (mi1)), (SV.si IntKind.u8 (mi2))]) 32 (false)))])) (Tree.need (chkSt (dll_tm x_nl x mv mp mb0 mb1 mb2 mi0 mi1 mi2 (bif List.any x (looseB mv mp mb0 mb1 mb2 mi0 mi1 mi2) then (↑(List.findIdx (looseB mv mp mb0 mb1 mb2 mi0 mi1 mi2) x) : Int) else (-1 : Int)) (IntKind.wrap IntKind.i64 ((bif List.any x (looseB mv mp mb0 mb1 mb2 mi0 mi1 mi2) then (↑(List.findIdx (looseB mv mp mb0 mb1 mb2 mi0 mi1 mi2) x) : Int) else (-1 : Int)) + (1 : Int))) x_nl x) (dll_tm x_nl x mv mp mb0 mb1 mb2 mi0 mi1 mi2 (bif List.any x (looseB mv mp mb0 mb1 mb2 mi0 mi1 mi2) then (↑(List.findIdx (looseB mv mp mb0 mb1 mb2 mi0 mi1 mi2) x) : Int) else (-1 : Int)) (IntKind.wrap IntKind.i64 ((bif List.any x (looseB mv mp mb0 mb1 mb2 mi0 mi1 mi2) then (↑(List.findIdx (looseB mv mp mb0 mb1 mb2 mi0 mi1 mi2) x) : Int) else (-1 : Int)) + (1 : Int))) x_nl x)) (Tree.need (decide ((0 : Int) ≤ bif List.any x (looseB mv mp mb0 mb1 mb2 mi0 mi1 mi2) then (↑(List.findIdx (looseB mv mp mb0 mb1 mb2 mi0 mi1 mi2) x) : Int) else (-1 : Int)) && (decide ((bif List.any x (looseB mv mp mb0 mb1 mb2 mi0 mi1 mi2) then (↑(List.findIdx (looseB mv mp mb0 mb1 mb2 mi0 mi1 mi2) x) : Int) else (-1 : Int)) < IntKind.wrap IntKind.i64 ((bif List.any x (looseB mv mp mb0 mb1 mb2 mi0 mi1 mi2) then (↑(List.findIdx (looseB mv mp mb0 mb1 mb2 mi0 mi1 mi2) x) : Int) else (-1 : Int)) + (1 : Int))) && (decide (IntKind.wrap IntKind.i64 ((bif List.any x (looseB mv mp mb0 mb1 mb2 mi0 mi1 mi2) then (↑(List.findIdx (looseB mv mp mb0 mb1 mb2 mi0 mi1 mi2) x) : Int) else (-1 : Int)) + (1 : Int)) ≤ (↑(List.length x) : Int)) && fewB (List.length x)))) (Tree.need (decide ((0 : Int) ≤ dlI (looseB mv mp mb0 mb1 mb2 mi0 mi1 mi2) (bif List.any x (looseB mv mp mb0 mb1 mb2 mi0 mi1 mi2) then (↑(List.findIdx (looseB mv mp mb0 mb1 mb2 mi0 mi1 mi2) x) : Int) else (-1 : Int)) (IntKind.wrap IntKind.i64 ((bif List.any x (looseB mv mp mb0 mb1 mb2 mi0 mi1 mi2) then (↑(List.findIdx (looseB mv mp mb0 mb1 mb2 mi0 mi1 mi2) x) : Int) else (-1 : Int)) + (1 : Int))) x) && (decide (dlI (looseB mv mp mb0 mb1 mb2 mi0 mi1 mi2) (bif List.any x (looseB mv mp mb0 mb1 mb2 mi0 mi1 mi2) then (↑(List.findIdx (looseB mv mp mb0 mb1 mb2 mi0 mi1 mi2) x) : Int) else (-1 : Int)) (IntKind.wrap IntKind.i64 ((bif List.any x (looseB mv mp mb0 mb1 mb2 mi0 mi1 mi2) then (↑(List.findIdx (looseB mv mp mb0 mb1 mb2 mi0 mi1 mi2) x) : Int) else (-1 : Int)) + (1 : Int))) x ≤ (↑(List.length (dlS (looseB mv mp mb0 mb1 mb2 mi0 mi1 mi2) (bif List.any x (looseB mv mp mb0 mb1 mb2 mi0 mi1 mi2) then (↑(List.findIdx (looseB mv mp mb0 mb1 mb2 mi0 mi1 mi2) x) : Int) else (-1 : Int)) (IntKind.wrap IntKind.i64 ((bif List.any x (looseB mv mp mb0 mb1 mb2 mi0 mi1 mi2) then (↑(List.findIdx (looseB mv mp mb0 mb1 mb2 mi0 mi1 mi2) x) : Int) else (-1 : Int)) + (1 : Int))) x)) : Int)) && decide ((↑(List.length (dlS (looseB mv mp mb0 mb1 mb2 mi0 mi1 mi2) (bif List.any x (looseB mv mp mb0 mb1 mb2 mi0 mi1 mi2) then (↑(List.findIdx (looseB mv mp mb0 mb1 mb2 mi0 mi1 mi2) x) : Int) else (-1 : Int)) (IntKind.wrap IntKind.i64 ((bif List.any x (looseB mv mp mb0 mb1 mb2 mi0 mi1 mi2) then (↑(List.findIdx (looseB mv mp mb0 mb1 mb2 mi0 mi1 mi2) x) : Int) else (-1 : Int)) + (1 : Int))) x)) : Int) ≤ (↑(List.length (dlS (looseB mv mp mb0 mb1 mb2 mi0 mi1 mi2) (bif List.any x (looseB mv mp mb0 mb1 mb2 mi0 mi1 mi2) then (↑(List.findIdx (looseB mv mp mb0 mb1 mb2 mi0 mi1 mi2) x) : Int) else (-1 : Int)) (IntKind.wrap IntKind.i64 ((bif List.any x (looseB mv mp mb0 mb1 mb2 mi0 mi1 mi2) then (↑(List.findIdx (looseB mv mp mb0 mb1 mb2 mi0 mi1 mi2) x) : Int) else (-1 : Int)) + (1 : Int))) x)) : Int)))) (Tree.need (decide ((0 : Int) ≤ (0 : Int)) && (decide ((0 : Int) ≤ dlI (looseB mv mp mb0 mb1 mb2 mi0 mi1 mi2) (bif List.any x (looseB mv mp mb0 mb1 mb2 mi0 mi1 mi2) then (↑(List.findIdx (looseB mv mp mb0 mb1 mb2 mi0 mi1 mi2) x) : Int) else (-1 : Int)) (IntKind.wrap IntKind.i64 ((bif List.any x (looseB mv mp mb0 mb1 mb2 mi0 mi1 mi2) then (↑(List.findIdx (looseB mv mp mb0 mb1 mb2 mi0 mi1 mi2) x) : Int) else (-1 : Int)) + (1 : Int))) x) && decide (dlI (looseB mv mp mb0 mb1 mb2 mi0 mi1 mi2) (bif List.any x (looseB mv mp mb0 mb1 mb2 mi0 mi1 mi2) then (↑(List.findIdx (looseB mv mp mb0 mb1 mb2 mi0 mi1 mi2) x) : Int) else (-1 : Int)) (IntKind.wrap IntKind.i64 ((bif List.any x (looseB mv mp mb0 mb1 mb2 mi0 mi1 mi2) then (↑(List.findIdx (looseB mv mp mb0 mb1 mb2 mi0 mi1 mi2) x) : Int) else (-1 : Int)) + (1 : Int))) x ≤ (↑(List.length (List.take (Int.toNat (dlI (looseB mv mp mb0 mb1 mb2 mi0 mi1 mi2) (bif List.any x (looseB mv mp mb0 mb1 mb2 mi0 mi1 mi2) then (↑(List.findIdx (looseB mv mp mb0 mb1 mb2 mi0 mi1 mi2) x) : Int) else (-1 : Int)) (IntKind.wrap IntKind.i64 ((bif List.any x (looseB mv mp mb0 mb1 mb2 mi0 mi1 mi2) then (↑(List.findIdx (looseB mv mp mb0 mb1 mb2 mi0 mi1 mi2) x) : Int) else (-1 : Int)) + (1 : Int))) x)) (dlS (looseB mv mp mb0 mb1 mb2 mi0 mi1 mi2) (bif List.any x (looseB mv mp mb0 mb1 mb2 mi0 mi1 mi2) then (↑(List.findIdx (looseB mv mp mb0 mb1 mb2 mi0 mi1 mi2) x) : Int) else (-1 : Int)) (IntKind.wrap IntKind.i64 ((bif List.any x (looseB mv mp mb0 mb1 mb2 mi0 mi1 mi2) then (↑(List.findIdx (looseB mv mp mb0 mb1 mb2 mi0 mi1 mi2) x) : Int) else (-1 : Int)) + (1 : Int))) x) ++ List.replicate (Int.toNat (↑(List.length (dlS (looseB mv mp mb0 mb1 mb2 mi0 mi1 mi2) (bif List.any x (looseB mv mp mb0 mb1 mb2 mi0 mi1 mi2) then (↑(List.findIdx (looseB mv mp mb0 mb1 mb2 mi0 mi1 mi2) x) : Int) else (-1 : Int)) (IntKind.wrap IntKind.i64 ((bif List.any x (looseB mv mp mb0 mb1 mb2 mi0 mi1 mi2) then (↑(List.findIdx (looseB mv mp mb0 mb1 mb2 mi0 mi1 mi2) x) : Int) else (-1 : Int)) + (1 : Int))) x)) : Int) - Int.toNat (dlI (looseB mv mp mb0 mb1 mb2 mi0 mi1 mi2) (bif List.any x (looseB mv mp mb0 mb1 mb2 mi0 mi1 mi2) then (↑(List.findIdx (looseB mv mp mb0 mb1 mb2 mi0 mi1 mi2) x) : Int) else (-1 : Int)) (IntKind.wrap IntKind.i64 ((bif List.any x (looseB mv mp mb0 mb1 mb2 mi0 mi1 mi2) then (↑(List.findIdx (looseB mv mp mb0 mb1 mb2 mi0 mi1 mi2) x) : Int) else (-1 : Int)) + (1 : Int))) x)) (D.a [D.i (0 : Int), D.i (0 : Int), D.i (0 : Int), D.i (0 : Int), D.i (0 : Int), D.i (0 : Int), D.i (0 : Int), D.i (0 : Int), D.i (0 : Int), D.i (0 : Int), D.i (0 : Int), D.i (0 : Int), D.l true []]) ++ List.drop (Int.toNat (↑(List.length (dlS (looseB mv mp mb0 mb1 mb2 mi0 mi1 mi2) (bif List.any x (looseB mv mp mb0 mb1 mb2 mi0 mi1 mi2) then (↑(List.findIdx (looseB mv mp mb0 mb1 mb2 mi0 mi1 mi2) x) : Int) else (-1 : Int)) (IntKind.wrap IntKind.i64 ((bif List.any x (looseB mv mp mb0 mb1 mb2 mi0 mi1 mi2) then (↑(List.findIdx (looseB mv mp mb0 mb1 mb2 mi0 mi1 mi2) x) : Int) else (-1 : Int)) + (1 : Int))) x)) : Int)) (dlS (looseB mv mp mb0 mb1 mb2 mi0 mi1 mi2) (bif List.any x (looseB mv mp mb0 mb1 mb2 mi0 mi1 mi2) then (↑(List.findIdx (looseB mv mp mb0 mb1 mb2 mi0 mi1 mi2) x) : Int) else (-1 : Int)) (IntKind.wrap IntKind.i64 ((bif List.any x (looseB mv mp mb0 mb1 mb2 mi0 mi1 mi2) then (↑(List.findIdx (looseB mv mp mb0 mb1 mb2 mi0 mi1 mi2) x) : Int) else (-1 : Int)) + (1 : Int))) x))) : Int)))) (Tree.ret ((SV.osl 0 13 0 (Int.toNat (dlI (looseB mv mp mb0 mb1 mb2 mi0 mi1 mi2) (bif List.any x (looseB mv mp mb0 mb1 mb2 mi0 mi1 mi2) then (↑(List.findIdx (looseB mv mp mb0 mb1 mb2 mi0 mi1 mi2) x) : Int) else (-1 : Int)) (IntKind.wrap IntKind.i64 ((bif List.any x (looseB mv mp mb0 mb1 mb2 mi0 mi1 mi2) then (↑(List.findIdx (looseB mv mp mb0 mb1 mb2 mi0 mi1 mi2) x) : Int) else (-1 : Int)) + (1 : Int))) x))), [(Option.some (Blk.mk (Con.rows (Sh.agg [(Sh.int IntKind.i64), (Sh.int IntKind.i64), (Sh.int IntKind.i64), (Sh.int IntKind.i64), (Sh.int IntKind.i64), (Sh.int IntKind.i64), (Sh.int IntKind.u8), (Sh.int IntKind.u8), (Sh.int IntKind.u8), (Sh.int IntKind.u8), (Sh.int IntKind.u8), (Sh.int IntKind.u8), (Sh.list (Sh.agg [(Sh.int IntKind.i64), (Sh.int IntKind.i64), (Sh.int IntKind.i64), (Sh.int IntKind.i64)]))]) (x_nl) (List.take (Int.toNat (dlI (looseB mv mp mb0 mb1 mb2 mi0 mi1 mi2) (bif List.any x (looseB mv mp mb0 mb1 mb2 mi0 mi1 mi2) then (↑(List.findIdx (looseB mv mp mb0 mb1 mb2 mi0 mi1 mi2) x) : Int) else (-1 : Int)) (IntKind.wrap IntKind.i64 ((bif List.any x (looseB mv mp mb0 mb1 mb2 mi0 mi1 mi2) then (↑(List.findIdx (looseB mv mp mb0 mb1 mb2 mi0 mi1 mi2) x) : Int) else (-1 : Int)) + (1 : Int))) x)) (dlS (looseB mv mp mb0 mb1 mb2 mi0 mi1 mi2) (bif List.any x (looseB mv mp mb0 mb1 mb2 mi0 mi1 mi2) then (↑(List.findIdx (looseB mv mp mb0 mb1 mb2 mi0 mi1 mi2) x) : Int) else (-1 : Int)) (IntKind.wrap IntKind.i64 ((bif List.any x (looseB mv mp mb0 mb1 mb2 mi0 mi1 mi2) then (↑(List.findIdx (looseB mv mp mb0 mb1 mb2 mi0 mi1 mi2) x) : Int) else (-1 : Int)) + (1 : Int))) x) ++ List.replicate (Int.toNat (↑(List.length (dlS (looseB mv mp mb0 mb1 mb2 mi0 mi1 mi2) (bif List.any x (looseB mv mp mb0 mb1 mb2 mi0 mi1 mi2) then (↑(List.findIdx (looseB mv mp mb0 mb1 mb2 mi0 mi1 mi2) x) : Int) else (-1 : Int)) (IntKind.wrap IntKind.i64 ((bif List.any x (looseB mv mp mb0 mb1 mb2 mi0 mi1 mi2) then (↑(List.findIdx (looseB mv mp mb0 mb1 mb2 mi0 mi1 mi2) x) : Int) else (-1 : Int)) + (1 : Int))) x)) : Int) - Int.toNat (dlI (looseB mv mp mb0 mb1 mb2 mi0 mi1 mi2) (bif List.any x (looseB mv mp mb0 mb1 mb2 mi0 mi1 mi2) then (↑(List.findIdx (looseB mv mp mb0 mb1 mb2 mi0 mi1 mi2) x) : Int) else (-1 : Int)) (IntKind.wrap IntKind.i64 ((bif List.any x (looseB mv mp mb0 mb1 mb2 mi0 mi1 mi2) then (↑(List.findIdx (looseB mv mp mb0 mb1 mb2 mi0 mi1 mi2) x) : Int) else (-1 : Int)) + (1 : Int))) x)) (D.a [D.i (0 : Int), D.i (0 : Int), D.i (0 : Int), D.i (0 : Int), D.i (0 : Int), D.i (0 : Int), D.i (0 : Int), D.i (0 : Int), D.i (0 : Int), D.i (0 : Int), D.i (0 : Int), D.i (0 : Int), D.l true []]) ++ List.drop (Int.toNat (↑(List.length (dlS (looseB mv mp mb0 mb1 mb2 mi0 mi1 mi2) (bif List.any x (looseB mv mp mb0 mb1 mb2 mi0 mi1 mi2) then (↑(List.findIdx (looseB mv mp mb0 mb1 mb2 mi0 mi1 mi2) x) : Int) else (-1 : Int)) (IntKind.wrap IntKind.i64 ((bif List.any x (looseB mv mp mb0 mb1 mb2 mi0 mi1 mi2) then (↑(List.findIdx (looseB mv mp mb0 mb1 mb2 mi0 mi1 mi2) x) : Int) else (-1 : Int)) + (1 : Int))) x)) : Int)) (dlS (looseB mv mp mb0 mb1 mb2 mi0 mi1 mi2) (bif List.any x (looseB mv mp mb0 mb1 mb2 mi0 mi1 mi2) then (↑(List.findIdx (looseB mv mp mb0 mb1 mb2 mi0 mi1 mi2) x) : Int) else (-1 : Int)) (IntKind.wrap IntKind.i64 ((bif List.any x (looseB mv mp mb0 mb1 mb2 mi0 mi1 mi2) then (↑(List.findIdx (looseB mv mp mb0 mb1 mb2 mi0 mi1 mi2) x) : Int) else (-1 : Int)) + (1 : Int))) x))) 35 (false))), (Option.some (Blk.mk (Con.cells [(SV.si IntKind.i64 (mv)), (SV.si IntKind.i64 (mp)), (SV.si IntKind.u8 (mb0)), (SV.si IntKind.u8 (mb1)), (SV.si IntKind.u8 (mb2)), (SV.si IntKind.u8 (mi0)), (SV.si IntKind.u8 (mi1)), (SV.si IntKind.u8 (mi2))]) 32 (false)))])))))))) := by kernel_rfl
theorem dell_run (x_nl : Bool) (x : List D) (mv mp mb0 mb1 mb2 mi0 mi1 mi2 : Int) {r : SV} {H' : Hp} (h : (.need (fewB x.length) (.ite (x.any (looseB mv mp mb0 mb1 mb2 mi0 mi1 mi2)) (.ret (.osl 0 13 0 (delN (looseB mv mp mb0 mb1 mb2 mi0 mi1 mi2) x), [some ⟨.rows (.agg [.int .i64, .int .i64, .int .i64, .int .i64, .int .i64, .int .i64, .int .u8, .int .u8, .int .u8, .int .u8, .int .u8, .int .u8, .list (.agg [.int .i64, .int .i64, .int .i64, .int .i64])]) x_nl (clrS (looseB mv mp mb0 mb1 mb2 mi0 mi1 mi2) x) , 35, false⟩, some ⟨.cells [SV.si IntKind.i64 mv, SV.si IntKind.i64 mp, SV.si IntKind.u8 mb0, SV.si IntKind.u8 mb1, SV.si IntKind.u8 mb2, SV.si IntKind.u8 mi0, SV.si IntKind.u8 mi1, SV.si IntKind.u8 mi2], 32, false⟩])) (.ret (.own 0, [some ⟨.rows (.agg [.int .i64, .int .i64, .int .i64, .int .i64, .int .i64, .int .i64, .int .u8, .int .u8, .int .u8, .int .u8, .int .u8, .int .u8, .list (.agg [.int .i64, .int .i64, .int .i64, .int .i64])]) x_nl (x) , 35, false⟩, some ⟨.cells [SV.si IntKind.i64 mv, SV.si IntKind.i64 mp, SV.si IntKind.u8 mb0, SV.si IntKind.u8 mb1, SV.si IntKind.u8 mb2, SV.si IntKind.u8 mi0, SV.si IntKind.u8 mi1, SV.si IntKind.u8 mi2], 32, false⟩]))) : Tree (SV × Hp)).run = some (r, H')) : (callG tab (envOf (P := Try.prog) [covers_pc] [ixfl_ct] [(dll_lc x_nl x mv mp mb0 mb1 mb2 mi0 mi1 mi2)]) 20 12 80 [SV.own 0, SV.clo (.func 66) [] [SV.ref 1 0]] [some ⟨.rows (.agg [.int .i64, .int .i64, .int .i64, .int .i64, .int .i64, .int .i64, .int .u8, .int .u8, .int .u8, .int .u8, .int .u8, .int .u8, .list (.agg [.int .i64, .int .i64, .int .i64, .int .i64])]) x_nl x, 35, false⟩, some ⟨.cells [SV.si IntKind.i64 mv, SV.si IntKind.i64 mp, SV.si IntKind.u8 mb0, SV.si IntKind.u8 mb1, SV.si IntKind.u8 mb2, SV.si IntKind.u8 mi0, SV.si IntKind.u8 mi1, SV.si IntKind.u8 mi2], 32, false⟩]).run = some (r, H') := by
  rw [dell_tree]
  obtain ⟨hp_, h_⟩ := Tree.run_need h
  have hp0_ := hp_
  simp only [fewB, decide_eq_true_eq] at hp_
  rw [← h_]
  have s1_ : shortB x.length = true := by simp [shortB]; omega
  simp only [Tree.run_ret', Tree.run_need', Tree.run_ite', s1_, cond_true]
  cases ha_ : x.any (looseB mv mp mb0 mb1 mb2 mi0 mi1 mi2) with
  | false => rfl
  | true =>
    have hi_ := any_idx ha_
    obtain ⟨g1_, g2_, _⟩ := del_spec ha_
    simp only [cond_true]
    have q1_ : ((x.findIdx (looseB mv mp mb0 mb1 mb2 mi0 mi1 mi2) : Int) == -1) = false := beq_eq_false_iff_ne.2 (by omega)
    have q2_ : IntKind.wrap .i64 ((x.findIdx (looseB mv mp mb0 mb1 mb2 mi0 mi1 mi2) : Int) + 1) = ((x.findIdx (looseB mv mp mb0 mb1 mb2 mi0 mi1 mi2) + 1 : Nat) : Int) := by rw [wrap64 (by omega) (by omega)]; rfl
    have q3_ : dlI (looseB mv mp mb0 mb1 mb2 mi0 mi1 mi2) ((x.findIdx (looseB mv mp mb0 mb1 mb2 mi0 mi1 mi2) : Nat) : Int) ((x.findIdx (looseB mv mp mb0 mb1 mb2 mi0 mi1 mi2) + 1 : Nat) : Int) x = ((delN (looseB mv mp mb0 mb1 mb2 mi0 mi1 mi2) x : Nat) : Int) := by simp only [dlI, delN, Int.toNat_natCast]
    have q4_ : dlS (looseB mv mp mb0 mb1 mb2 mi0 mi1 mi2) ((x.findIdx (looseB mv mp mb0 mb1 mb2 mi0 mi1 mi2) : Nat) : Int) ((x.findIdx (looseB mv mp mb0 mb1 mb2 mi0 mi1 mi2) + 1 : Nat) : Int) x = delS (looseB mv mp mb0 mb1 mb2 mi0 mi1 mi2) x := by simp only [dlS, delS, Int.toNat_natCast]
    have d1_ : decide ((0 : Int) ≤ ((x.findIdx (looseB mv mp mb0 mb1 mb2 mi0 mi1 mi2) : Nat) : Int)) = true := decide_eq_true (by omega)
    have d2_ : decide (((x.findIdx (looseB mv mp mb0 mb1 mb2 mi0 mi1 mi2) : Nat) : Int) < ((x.findIdx (looseB mv mp mb0 mb1 mb2 mi0 mi1 mi2) + 1 : Nat) : Int)) = true := decide_eq_true (by omega)
    have d3_ : decide (((x.findIdx (looseB mv mp mb0 mb1 mb2 mi0 mi1 mi2) + 1 : Nat) : Int) ≤ (x.length : Int)) = true := decide_eq_true (by omega)
    have d4_ : decide ((0 : Int) ≤ ((delN (looseB mv mp mb0 mb1 mb2 mi0 mi1 mi2) x : Nat) : Int)) = true := decide_eq_true (by omega)
    have d5_ : decide (((delN (looseB mv mp mb0 mb1 mb2 mi0 mi1 mi2) x : Nat) : Int) ≤ ((delS (looseB mv mp mb0 mb1 mb2 mi0 mi1 mi2) x).length : Int)) = true := by rw [g1_]; simp; omega
    simp only [q1_, q2_, q3_, q4_, d1_, d2_, d3_, d4_, d5_, hp0_, chk_self, Tree.run_ret', Tree.run_need', Tree.run_ite', cond_true, cond_false, Bool.and_self, decide_true, Int.toNat_natCast, Int.le_refl]
    have e6_ : (clrS (looseB mv mp mb0 mb1 mb2 mi0 mi1 mi2) x).length = x.length := by
      unfold clrS
      simp only [List.length_append, List.length_take, List.length_replicate, List.length_drop, g1_]
      omega
    have d6_ : decide (((delN (looseB mv mp mb0 mb1 mb2 mi0 mi1 mi2) x : Nat) : Int) ≤ ((clrS (looseB mv mp mb0 mb1 mb2 mi0 mi1 mi2) x).length : Int)) = true := by rw [e6_]; simp; omega
    change (bif true && (true && decide (((delN (looseB mv mp mb0 mb1 mb2 mi0 mi1 mi2) x : Nat) : Int) ≤ ((clrS (looseB mv mp mb0 mb1 mb2 mi0 mi1 mi2) x).length : Int))) then _ else _) = _
    rw [d6_]
    rfl
def dell_tr : List D → Option (Tree (SV × Hp))
  | [.l x_nl x, .i mv, .i mp, .i mb0, .i mb1, .i mb2, .i mi0, .i mi1, .i mi2] => some (.need (fewB x.length) (.ite (x.any (looseB mv mp mb0 mb1 mb2 mi0 mi1 mi2)) (.ret (.osl 0 13 0 (delN (looseB mv mp mb0 mb1 mb2 mi0 mi1 mi2) x), [some ⟨.rows (.agg [.int .i64, .int .i64, .int .i64, .int .i64, .int .i64, .int .i64, .int .u8, .int .u8, .int .u8, .int .u8, .int .u8, .int .u8, .list (.agg [.int .i64, .int .i64, .int .i64, .int .i64])]) x_nl (clrS (looseB mv mp mb0 mb1 mb2 mi0 mi1 mi2) x) , 35, false⟩, some ⟨.cells [SV.si IntKind.i64 mv, SV.si IntKind.i64 mp, SV.si IntKind.u8 mb0, SV.si IntKind.u8 mb1, SV.si IntKind.u8 mb2, SV.si IntKind.u8 mi0, SV.si IntKind.u8 mi1, SV.si IntKind.u8 mi2], 32, false⟩])) (.ret (.own 0, [some ⟨.rows (.agg [.int .i64, .int .i64, .int .i64, .int .i64, .int .i64, .int .i64, .int .u8, .int .u8, .int .u8, .int .u8, .int .u8, .int .u8, .list (.agg [.int .i64, .int .i64, .int .i64, .int .i64])]) x_nl (x) , 35, false⟩, some ⟨.cells [SV.si IntKind.i64 mv, SV.si IntKind.i64 mp, SV.si IntKind.u8 mb0, SV.si IntKind.u8 mb1, SV.si IntKind.u8 mb2, SV.si IntKind.u8 mi0, SV.si IntKind.u8 mi1, SV.si IntKind.u8 mi2], 32, false⟩]))))
  | _ => none
noncomputable def dell_ct : Ct Try.prog := Ct.runF (T := tab) follows 20 12 80 [.own 35 (.agg [.int .i64, .int .i64, .int .i64, .int .i64, .int .i64, .int .i64, .int .u8, .int .u8, .int .u8, .int .u8, .int .u8, .int .u8, .list (.agg [.int .i64, .int .i64, .int .i64, .int .i64])]), .fn 66 [] [.p 32 [.d (.int .i64), .d (.int .i64), .d (.int .u8), .d (.int .u8), .d (.int .u8), .d (.int .u8), .d (.int .u8), .d (.int .u8)]]] dell_tr (by
  intro ds t r H' ht hr
  unfold dell_tr at ht
  split at ht
  · rename_i x_nl x mv mp mb0 mb1 mb2 mi0 mi1 mi2
    simp only [Option.some.injEq] at ht
    subst ht
    exact ⟨_, _, _, envOf_good _ _ _, dell_run x_nl x mv mp mb0 mb1 mb2 mi0 mi1 mi2 hr, rfl, rfl⟩
  · cases ht) (enters_of (c := codeOf Try.f80) Try.func80 (by kernel_rfl) (by kernel_rfl))
end Go.Proofs.Ytgodelllnilcfaa
