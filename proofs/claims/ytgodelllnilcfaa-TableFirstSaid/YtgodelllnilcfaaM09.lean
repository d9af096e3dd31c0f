/-
  Functions of the program, by their runs.
  No statement of the seat is proved here. Conditions: none.
-/
import Derived.Test.YtgodelllnilcfaaY25
import Derived.Test.YtgodelllnilcfaaTab09
import Derived.Test.YtgodelllnilcfaaIS09
set_option linter.unusedSimpArgs false
set_option linter.unusedVariables false
set_option maxRecDepth 100000
namespace Go.Proofs.Ytgodelllnilcfaa
open Go.Sy Go.RowKit
/-- -1, 0, 1. -/
def cmpI (x y : Int) : Int := bif decide (x < y) then -1 else bif decide (x > y) then 1 else 0
def orI : List Int → Int
  | [] => 0
  | x :: r => bif x == 0 then orI r else x
theorem cmpi_tree (x y : Int) : callG tab (envOf (P := Try.prog) [] [] []) 20 12 39 [SV.si IntKind.i64 x, SV.si IntKind.i64 y] [] =
    (Tree.ite (x != x) (Tree.ite (y != y) (Tree.ret ((SV.si IntKind.i64 ((0 : Int))), [])) (Tree.ret ((SV.si IntKind.i64 ((-1 : Int))), []))) (Tree.ite (y != y) (Tree.ret ((SV.si IntKind.i64 ((1 : Int))), [])) (Tree.ite (decide (x < y)) (Tree.ret ((SV.si IntKind.i64 ((-1 : Int))), [])) (Tree.ite (decide (x > y)) (Tree.ret ((SV.si IntKind.i64 ((1 : Int))), [])) (Tree.ret ((SV.si IntKind.i64 ((0 : Int))), [])))))) := by kernel_rfl
theorem cmpi_run (x y : Int) : (callG tab (envOf (P := Try.prog) [] [] []) 20 12 39 [SV.si IntKind.i64 x, SV.si IntKind.i64 y] []).run = some ((.si .i64 (cmpI x y) : SV), []) := by
  rw [cmpi_tree]
  simp only [Tree.run_ret', Tree.run_need', Tree.run_ite']
  unfold cmpI
  cases decide (x < y) <;> cases decide (x > y) <;> simp
def cmpi_spec : PSpec := ⟨[(.int .i64), (.int .i64)], fun
  | [.i x, .i y] => some (true, .si .i64 (cmpI x y))
  | _ => none⟩
noncomputable def cmpi_pc : PC Try.prog := PC.run2 (T := tab) follows 20 12 39 cmpi_spec (by
  intro ds pre r h hp
  unfold cmpi_spec at h
  simp only at h
  split at h
  · rename_i x y
    simp only [Option.some.injEq, Prod.mk.injEq] at h
    obtain ⟨hq, rfl⟩ := h
    exact ⟨_, _, envOf_good _ _ _, cmpi_run x y, rfl⟩
  · cases h) (enters_of (c := codeOf Try.f39) Try.func39 (by kernel_rfl) (by kernel_rfl))
theorem cmpu_tree (x y : Int) : callG tab (envOf (P := Try.prog) [] [] []) 20 12 82 [SV.si IntKind.u8 x, SV.si IntKind.u8 y] [] =
    (Tree.ite (x != x) (Tree.ite (y != y) (Tree.ret ((SV.si IntKind.i64 ((0 : Int))), [])) (Tree.ret ((SV.si IntKind.i64 ((-1 : Int))), []))) (Tree.ite (y != y) (Tree.ret ((SV.si IntKind.i64 ((1 : Int))), [])) (Tree.ite (decide (x < y)) (Tree.ret ((SV.si IntKind.i64 ((-1 : Int))), [])) (Tree.ite (decide (x > y)) (Tree.ret ((SV.si IntKind.i64 ((1 : Int))), [])) (Tree.ret ((SV.si IntKind.i64 ((0 : Int))), [])))))) := by kernel_rfl
theorem cmpu_run (x y : Int) : (callG tab (envOf (P := Try.prog) [] [] []) 20 12 82 [SV.si IntKind.u8 x, SV.si IntKind.u8 y] []).run = some ((.si .i64 (cmpI x y) : SV), []) := by
  rw [cmpu_tree]
  simp only [Tree.run_ret', Tree.run_need', Tree.run_ite']
  unfold cmpI
  cases decide (x < y) <;> cases decide (x > y) <;> simp
def cmpu_spec : PSpec := ⟨[(.int .u8), (.int .u8)], fun
  | [.i x, .i y] => some (true, .si .i64 (cmpI x y))
  | _ => none⟩
noncomputable def cmpu_pc : PC Try.prog := PC.run2 (T := tab) follows 20 12 82 cmpu_spec (by
  intro ds pre r h hp
  unfold cmpu_spec at h
  simp only at h
  split at h
  · rename_i x y
    simp only [Option.some.injEq, Prod.mk.injEq] at h
    obtain ⟨hq, rfl⟩ := h
    exact ⟨_, _, envOf_good _ _ _, cmpu_run x y, rfl⟩
  · cases h) (enters_of (c := codeOf Try.f82) Try.func82 (by kernel_rfl) (by kernel_rfl))
theorem hd_tree (a0 a1 a2 b0 b1 b2 : Int) : callG tab (envOf (P := Try.prog) [cmpu_pc, cmpi_pc] [] []) 20 12 46 [SV.agg [SV.si IntKind.u8 a0, SV.si IntKind.u8 a1, SV.si IntKind.u8 a2], SV.agg [SV.si IntKind.u8 b0, SV.si IntKind.u8 b1, SV.si IntKind.u8 b2]] [] =
    (Tree.need (true) (Tree.ite (cmpI a0 b0 != (0 : Int)) (Tree.ret ((SV.si IntKind.i64 (cmpI a0 b0)), [])) (Tree.need (true) (Tree.ite (cmpI a1 b1 != (0 : Int)) (Tree.ret ((SV.si IntKind.i64 (cmpI a1 b1)), [])) (Tree.need (true) (Tree.ite (cmpI a2 b2 != (0 : Int)) (Tree.ret ((SV.si IntKind.i64 (cmpI a2 b2)), [])) (Tree.ret ((SV.si IntKind.i64 ((0 : Int))), [])))))))) := by kernel_rfl
theorem hd_run (a0 a1 a2 b0 b1 b2 : Int) : (callG tab (envOf (P := Try.prog) [cmpu_pc, cmpi_pc] [] []) 20 12 46 [SV.agg [SV.si IntKind.u8 a0, SV.si IntKind.u8 a1, SV.si IntKind.u8 a2], SV.agg [SV.si IntKind.u8 b0, SV.si IntKind.u8 b1, SV.si IntKind.u8 b2]] []).run = some ((.si .i64 (orI [cmpI a0 b0, cmpI a1 b1, cmpI a2 b2]) : SV), []) := by
  rw [hd_tree]
  simp only [Tree.run_ret', Tree.run_need', Tree.run_ite']
  simp only [bne, orI]
  cases cmpI a0 b0 == 0 <;> cases cmpI a1 b1 == 0 <;> cases cmpI a2 b2 == 0 <;> simp
def hd_spec : PSpec := ⟨[(.agg [(.int .u8), (.int .u8), (.int .u8)]), (.agg [(.int .u8), (.int .u8), (.int .u8)])], fun
  | [.a [.i a0, .i a1, .i a2], .a [.i b0, .i b1, .i b2]] => some (true, .si .i64 (orI [cmpI a0 b0, cmpI a1 b1, cmpI a2 b2]))
  | _ => none⟩
noncomputable def hd_pc : PC Try.prog := PC.run2 (T := tab) follows 20 12 46 hd_spec (by
  intro ds pre r h hp
  unfold hd_spec at h
  simp only at h
  split at h
  · rename_i a0 a1 a2 b0 b1 b2
    simp only [Option.some.injEq, Prod.mk.injEq] at h
    obtain ⟨hq, rfl⟩ := h
    exact ⟨_, _, envOf_good _ _ _, hd_run a0 a1 a2 b0 b1 b2, rfl⟩
  · cases h) (enters_of (c := codeOf Try.f46) Try.func46 (by kernel_rfl) (by kernel_rfl))
/-- A rule's numbers. -/
structure Rk where
  k : Int
  pr : Int
  to : Int
  po : Int
  v : Int
  p : Int
  b0 : Int
  b1 : Int
  b2 : Int
  i0 : Int
  i1 : Int
  i2 : Int
/-- By which it stands. -/
def keyOf (r : Rk) : List Int := bif r.k == 1 then [r.k, -r.pr, r.v, r.p, r.b0, r.b1, r.b2, r.i0, r.i1, r.i2] else [r.k, r.to]
def lexC : List Int → List Int → Int
  | x :: xs, y :: ys => bif cmpI x y == 0 then lexC xs ys else cmpI x y
  | _, _ => 0
def placeB (a b : Rk) : Bool := a.k == b.k && (bif a.k == 1 then a.pr == b.pr && (a.v == b.v && (a.p == b.p && (a.b0 == b.b0 && (a.b1 == b.b1 && a.b2 == b.b2) && (a.i0 == b.i0 && (a.i1 == b.i1 && a.i2 == b.i2))))) else a.to == b.to)
theorem cmpI_cases (x y : Int) : (x < y ∧ cmpI x y = -1) ∨ (x = y ∧ cmpI x y = 0) ∨ (x > y ∧ cmpI x y = 1) := by
  unfold cmpI
  rcases Int.lt_trichotomy x y with h | h | h
  · exact .inl ⟨h, by simp [h]⟩
  · subst h; exact .inr (.inl ⟨rfl, by simp⟩)
  · refine .inr (.inr ⟨h, ?_⟩)
    have : ¬ x < y := by omega
    simp [this, h]
theorem cmpI_zero {x y : Int} : (cmpI x y == 0) = (x == y) := by
  rcases cmpI_cases x y with ⟨h, e⟩ | ⟨h, e⟩ | ⟨h, e⟩ <;> rw [e, Bool.eq_iff_iff] <;> simp <;> omega
theorem cmpI_neg (x y : Int) : IntKind.i64.wrap (0 - cmpI x y) = cmpI (-x) (-y) := by
  rcases cmpI_cases x y with ⟨h, e⟩ | ⟨h, e⟩ | ⟨h, e⟩ <;> rcases cmpI_cases (-x) (-y) with ⟨h', e'⟩ | ⟨h', e'⟩ | ⟨h', e'⟩ <;> first | omega | (rw [e, e']; decide)
theorem cmpr_tree (ak apr ato apo av ap ab0 ab1 ab2 ai0 ai1 ai2 : Int) (ao_nl : Bool) (ao : List D) (bk bpr bto bpo bv bp bb0 bb1 bb2 bi0 bi1 bi2 : Int) (bo_nl : Bool) (bo : List D) : callG tab (envOf (P := Try.prog) [hd_pc, cmpu_pc, cmpi_pc] [] []) 20 12 11 [SV.agg [SV.si IntKind.i64 ak, SV.si IntKind.i64 apr, SV.si IntKind.i64 ato, SV.si IntKind.i64 apo, SV.si IntKind.i64 av, SV.si IntKind.i64 ap, SV.si IntKind.u8 ab0, SV.si IntKind.u8 ab1, SV.si IntKind.u8 ab2, SV.si IntKind.u8 ai0, SV.si IntKind.u8 ai1, SV.si IntKind.u8 ai2, SV.lst (.agg [.int .i64, .int .i64, .int .i64, .int .i64]) ao_nl ao], SV.agg [SV.si IntKind.i64 bk, SV.si IntKind.i64 bpr, SV.si IntKind.i64 bto, SV.si IntKind.i64 bpo, SV.si IntKind.i64 bv, SV.si IntKind.i64 bp, SV.si IntKind.u8 bb0, SV.si IntKind.u8 bb1, SV.si IntKind.u8 bb2, SV.si IntKind.u8 bi0, SV.si IntKind.u8 bi1, SV.si IntKind.u8 bi2, SV.lst (.agg [.int .i64, .int .i64, .int .i64, .int .i64]) bo_nl bo]] [] =
    (Tree.need (true) (Tree.ite (ak != (1 : Int)) (Tree.need (true) (Tree.ite (cmpI ak bk != (0 : Int)) (Tree.ret ((SV.si IntKind.i64 (cmpI ak bk)), [])) (Tree.ite (cmpI ato bto != (0 : Int)) (Tree.ret ((SV.si IntKind.i64 (cmpI ato bto)), [])) (Tree.ret ((SV.si IntKind.i64 ((0 : Int))), []))))) (Tree.ite (cmpI ak bk != (0 : Int)) (Tree.ret ((SV.si IntKind.i64 (cmpI ak bk)), [])) (Tree.need (true) (Tree.need (true) (Tree.need (true) (Tree.need (true) (Tree.need (true) (Tree.ite (IntKind.wrap IntKind.i64 ((0 : Int) - cmpI apr bpr) != (0 : Int)) (Tree.ret ((SV.si IntKind.i64 (IntKind.wrap IntKind.i64 ((0 : Int) - cmpI apr bpr))), [])) (Tree.ite (cmpI av bv != (0 : Int)) (Tree.ret ((SV.si IntKind.i64 (cmpI av bv)), [])) (Tree.ite (cmpI ap bp != (0 : Int)) (Tree.ret ((SV.si IntKind.i64 (cmpI ap bp)), [])) (Tree.ite (orI [cmpI ab0 bb0, cmpI ab1 bb1, cmpI ab2 bb2] != (0 : Int)) (Tree.ret ((SV.si IntKind.i64 (orI [cmpI ab0 bb0, cmpI ab1 bb1, cmpI ab2 bb2])), [])) (Tree.ite (orI [cmpI ai0 bi0, cmpI ai1 bi1, cmpI ai2 bi2] != (0 : Int)) (Tree.ret ((SV.si IntKind.i64 (orI [cmpI ai0 bi0, cmpI ai1 bi1, cmpI ai2 bi2])), [])) (Tree.ret ((SV.si IntKind.i64 ((0 : Int))), []))))))))))))))) := by kernel_rfl
theorem cmpr_run (ak apr ato apo av ap ab0 ab1 ab2 ai0 ai1 ai2 : Int) (ao_nl : Bool) (ao : List D) (bk bpr bto bpo bv bp bb0 bb1 bb2 bi0 bi1 bi2 : Int) (bo_nl : Bool) (bo : List D) : (callG tab (envOf (P := Try.prog) [hd_pc, cmpu_pc, cmpi_pc] [] []) 20 12 11 [SV.agg [SV.si IntKind.i64 ak, SV.si IntKind.i64 apr, SV.si IntKind.i64 ato, SV.si IntKind.i64 apo, SV.si IntKind.i64 av, SV.si IntKind.i64 ap, SV.si IntKind.u8 ab0, SV.si IntKind.u8 ab1, SV.si IntKind.u8 ab2, SV.si IntKind.u8 ai0, SV.si IntKind.u8 ai1, SV.si IntKind.u8 ai2, SV.lst (.agg [.int .i64, .int .i64, .int .i64, .int .i64]) ao_nl ao], SV.agg [SV.si IntKind.i64 bk, SV.si IntKind.i64 bpr, SV.si IntKind.i64 bto, SV.si IntKind.i64 bpo, SV.si IntKind.i64 bv, SV.si IntKind.i64 bp, SV.si IntKind.u8 bb0, SV.si IntKind.u8 bb1, SV.si IntKind.u8 bb2, SV.si IntKind.u8 bi0, SV.si IntKind.u8 bi1, SV.si IntKind.u8 bi2, SV.lst (.agg [.int .i64, .int .i64, .int .i64, .int .i64]) bo_nl bo]] []).run = some ((.si .i64 (lexC (keyOf ⟨ak, apr, ato, apo, av, ap, ab0, ab1, ab2, ai0, ai1, ai2⟩) (keyOf ⟨bk, bpr, bto, bpo, bv, bp, bb0, bb1, bb2, bi0, bi1, bi2⟩)) : SV), []) := by
  rw [cmpr_tree]
  simp only [Tree.run_ret', Tree.run_need', Tree.run_ite']
  simp only [bne, cmpI_neg, keyOf, cond_true]
  cases h1 : (ak == 1) <;> cases h2 : (bk == 1) <;> simp only [Bool.not_true, Bool.not_false, cond_true, cond_false, lexC, orI]
  · cases cmpI ak bk == 0 <;> cases h : cmpI ato bto == 0 <;> simp
  · have : (cmpI ak bk == 0) = false := by
      rw [cmpI_zero]; simp at h1 h2 ⊢; omega
    simp [this]
  · have : (cmpI ak bk == 0) = false := by
      rw [cmpI_zero]; simp at h1 h2 ⊢; omega
    simp [this]
  · cases cmpI ak bk == 0 <;> cases cmpI (-apr) (-bpr) == 0 <;> cases cmpI av bv == 0 <;> cases cmpI ap bp == 0 <;> simp
    cases h3 : cmpI ab0 bb0 == 0 <;> cases h4 : cmpI ab1 bb1 == 0 <;> cases h5 : cmpI ab2 bb2 == 0 <;> simp [h3, h4, h5] <;> cases h6 : cmpI ai0 bi0 == 0 <;> cases h7 : cmpI ai1 bi1 == 0 <;> cases h8 : cmpI ai2 bi2 == 0 <;> simp [h6, h7, h8]
def cmpr_spec : PSpec := ⟨[(.agg [(.int .i64), (.int .i64), (.int .i64), (.int .i64), (.int .i64), (.int .i64), (.int .u8), (.int .u8), (.int .u8), (.int .u8), (.int .u8), (.int .u8), (.list (.agg [.int .i64, .int .i64, .int .i64, .int .i64]))]), (.agg [(.int .i64), (.int .i64), (.int .i64), (.int .i64), (.int .i64), (.int .i64), (.int .u8), (.int .u8), (.int .u8), (.int .u8), (.int .u8), (.int .u8), (.list (.agg [.int .i64, .int .i64, .int .i64, .int .i64]))])], fun
  | [.a [.i ak, .i apr, .i ato, .i apo, .i av, .i ap, .i ab0, .i ab1, .i ab2, .i ai0, .i ai1, .i ai2, .l ao_nl ao], .a [.i bk, .i bpr, .i bto, .i bpo, .i bv, .i bp, .i bb0, .i bb1, .i bb2, .i bi0, .i bi1, .i bi2, .l bo_nl bo]] => some (true, .si .i64 (lexC (keyOf ⟨ak, apr, ato, apo, av, ap, ab0, ab1, ab2, ai0, ai1, ai2⟩) (keyOf ⟨bk, bpr, bto, bpo, bv, bp, bb0, bb1, bb2, bi0, bi1, bi2⟩)))
  | _ => none⟩
noncomputable def cmpr_pc : PC Try.prog := PC.run2 (T := tab) follows 20 12 11 cmpr_spec (by
  intro ds pre r h hp
  unfold cmpr_spec at h
  simp only at h
  split at h
  · rename_i ak apr ato apo av ap ab0 ab1 ab2 ai0 ai1 ai2 ao_nl ao bk bpr bto bpo bv bp bb0 bb1 bb2 bi0 bi1 bi2 bo_nl bo
    simp only [Option.some.injEq, Prod.mk.injEq] at h
    obtain ⟨hq, rfl⟩ := h
    exact ⟨_, _, envOf_good _ _ _, cmpr_run ak apr ato apo av ap ab0 ab1 ab2 ai0 ai1 ai2 ao_nl ao bk bpr bto bpo bv bp bb0 bb1 bb2 bi0 bi1 bi2 bo_nl bo, rfl⟩
  · cases h) (enters_of (c := codeOf Try.f11) Try.func11 (by kernel_rfl) (by kernel_rfl))
theorem within_tree (n lo hi : Int) : callG tab (envOf (P := Try.prog) [] [] []) 20 12 88 [SV.si IntKind.i64 n, SV.si IntKind.i64 lo, SV.si IntKind.i64 hi] [] =
    (Tree.ret ((SV.sb (decide (lo ≤ n) && decide (n ≤ hi))), [])) := by kernel_rfl
theorem within_run (n lo hi : Int) : (callG tab (envOf (P := Try.prog) [] [] []) 20 12 88 [SV.si IntKind.i64 n, SV.si IntKind.i64 lo, SV.si IntKind.i64 hi] []).run = some (((SV.sb (decide (lo ≤ n) && decide (n ≤ hi))) : SV), []) := by
  rw [within_tree]
  simp only [Tree.run_need', cond_true, Bool.and_true, Bool.true_and, Bool.and_self, Tree.run_ite', Tree.run_ret', chk_self, cond_some, cond_agg, cond_tup, cond_cons, cond_si, cond_sb, cond_str, cond_self']
def within_spec : PSpec := ⟨[(.int .i64), (.int .i64), (.int .i64)], fun
  | [.i n, .i lo, .i hi] => some (true, (SV.sb (decide (lo ≤ n) && decide (n ≤ hi))))
  | _ => none⟩
noncomputable def within_pc : PC Try.prog := PC.run2 (T := tab) follows 20 12 88 within_spec (by
  intro ds pre r h hp
  unfold within_spec at h
  simp only at h
  split at h
  · rename_i n lo hi
    simp only [Option.some.injEq, Prod.mk.injEq] at h
    obtain ⟨hq, rfl⟩ := h
    exact ⟨_, _, envOf_good _ _ _, within_run n lo hi, rfl⟩
  · cases h) (enters_of (c := codeOf Try.f88) Try.func88 (by kernel_rfl) (by kernel_rfl))
theorem anym_tree  : callG tab (envOf (P := Try.prog) [] [] []) 20 12 31 [] [] =
    (Tree.ret ((SV.agg [(SV.si IntKind.i64 ((0 : Int))), (SV.si IntKind.i64 ((-1 : Int))), (SV.si IntKind.u8 ((0 : Int))), (SV.si IntKind.u8 ((0 : Int))), (SV.si IntKind.u8 ((0 : Int))), (SV.si IntKind.u8 ((0 : Int))), (SV.si IntKind.u8 ((0 : Int))), (SV.si IntKind.u8 ((0 : Int)))]), [])) := by kernel_rfl
theorem anym_run  : (callG tab (envOf (P := Try.prog) [] [] []) 20 12 31 [] []).run = some (((SV.agg [(SV.si IntKind.i64 ((0 : Int))), (SV.si IntKind.i64 ((-1 : Int))), (SV.si IntKind.u8 ((0 : Int))), (SV.si IntKind.u8 ((0 : Int))), (SV.si IntKind.u8 ((0 : Int))), (SV.si IntKind.u8 ((0 : Int))), (SV.si IntKind.u8 ((0 : Int))), (SV.si IntKind.u8 ((0 : Int)))]) : SV), []) := by
  rw [anym_tree]
  simp only [Tree.run_need', cond_true, Bool.and_true, Bool.true_and, Bool.and_self, Tree.run_ite', Tree.run_ret', chk_self, cond_some, cond_agg, cond_tup, cond_cons, cond_si, cond_sb, cond_str, cond_self']
def anym_spec : PSpec := ⟨[], fun
  | [] => some (true, (SV.agg [(SV.si IntKind.i64 ((0 : Int))), (SV.si IntKind.i64 ((-1 : Int))), (SV.si IntKind.u8 ((0 : Int))), (SV.si IntKind.u8 ((0 : Int))), (SV.si IntKind.u8 ((0 : Int))), (SV.si IntKind.u8 ((0 : Int))), (SV.si IntKind.u8 ((0 : Int))), (SV.si IntKind.u8 ((0 : Int)))]))
  | _ => none⟩
noncomputable def anym_pc : PC Try.prog := PC.run2 (T := tab) follows 20 12 31 anym_spec (by
  intro ds pre r h hp
  unfold anym_spec at h
  simp only at h
  split at h
  · simp only [Option.some.injEq, Prod.mk.injEq] at h
    obtain ⟨hq, rfl⟩ := h
    exact ⟨_, _, envOf_good _ _ _, anym_run, rfl⟩
  · cases h) (enters_of (c := codeOf Try.f31) Try.func31 (by kernel_rfl) (by kernel_rfl))
def covers_f (av ap ab0 ab1 ab2 ai0 ai1 ai2 bv bp bb0 bb1 bb2 bi0 bi1 bi2 : Int) : Bool := (bif (bif av != (0 : Int) then av != bv || ap != (-1 : Int) && ap != bp else ap != (-1 : Int) && ap != bp) then (false) else (bif (bits BinOp.andNot IntKind.u8 ab0 bb0 != (0 : Int) || bits BinOp.and IntKind.u8 ai0 ab0 != bits BinOp.and IntKind.u8 (bits BinOp.and IntKind.u8 bi0 bb0) ab0) then (false) else (bif (bits BinOp.andNot IntKind.u8 ab1 bb1 != (0 : Int) || bits BinOp.and IntKind.u8 ai1 ab1 != bits BinOp.and IntKind.u8 (bits BinOp.and IntKind.u8 bi1 bb1) ab1) then (false) else (bif (bits BinOp.andNot IntKind.u8 ab2 bb2 != (0 : Int) || bits BinOp.and IntKind.u8 ai2 ab2 != bits BinOp.and IntKind.u8 (bits BinOp.and IntKind.u8 bi2 bb2) ab2) then (false) else (true)))))
theorem covers_tree (av ap ab0 ab1 ab2 ai0 ai1 ai2 bv bp bb0 bb1 bb2 bi0 bi1 bi2 : Int) : callG tab (envOf (P := Try.prog) [] [] []) 20 12 35 [SV.agg [SV.si IntKind.i64 av, SV.si IntKind.i64 ap, SV.si IntKind.u8 ab0, SV.si IntKind.u8 ab1, SV.si IntKind.u8 ab2, SV.si IntKind.u8 ai0, SV.si IntKind.u8 ai1, SV.si IntKind.u8 ai2], SV.agg [SV.si IntKind.i64 bv, SV.si IntKind.i64 bp, SV.si IntKind.u8 bb0, SV.si IntKind.u8 bb1, SV.si IntKind.u8 bb2, SV.si IntKind.u8 bi0, SV.si IntKind.u8 bi1, SV.si IntKind.u8 bi2]] [] =
    (Tree.ite (bif av != (0 : Int) then av != bv || ap != (-1 : Int) && ap != bp else ap != (-1 : Int) && ap != bp) (Tree.ret ((SV.sb (false)), [])) (Tree.ite (bits BinOp.andNot IntKind.u8 ab0 bb0 != (0 : Int) || bits BinOp.and IntKind.u8 ai0 ab0 != bits BinOp.and IntKind.u8 (bits BinOp.and IntKind.u8 bi0 bb0) ab0) (Tree.ret ((SV.sb (false)), [])) (Tree.ite (bits BinOp.andNot IntKind.u8 ab1 bb1 != (0 : Int) || bits BinOp.and IntKind.u8 ai1 ab1 != bits BinOp.and IntKind.u8 (bits BinOp.and IntKind.u8 bi1 bb1) ab1) (Tree.ret ((SV.sb (false)), [])) (Tree.ite (bits BinOp.andNot IntKind.u8 ab2 bb2 != (0 : Int) || bits BinOp.and IntKind.u8 ai2 ab2 != bits BinOp.and IntKind.u8 (bits BinOp.and IntKind.u8 bi2 bb2) ab2) (Tree.ret ((SV.sb (false)), [])) (Tree.ret ((SV.sb (true)), [])))))) := by kernel_rfl
theorem covers_run (av ap ab0 ab1 ab2 ai0 ai1 ai2 bv bp bb0 bb1 bb2 bi0 bi1 bi2 : Int) : (callG tab (envOf (P := Try.prog) [] [] []) 20 12 35 [SV.agg [SV.si IntKind.i64 av, SV.si IntKind.i64 ap, SV.si IntKind.u8 ab0, SV.si IntKind.u8 ab1, SV.si IntKind.u8 ab2, SV.si IntKind.u8 ai0, SV.si IntKind.u8 ai1, SV.si IntKind.u8 ai2], SV.agg [SV.si IntKind.i64 bv, SV.si IntKind.i64 bp, SV.si IntKind.u8 bb0, SV.si IntKind.u8 bb1, SV.si IntKind.u8 bb2, SV.si IntKind.u8 bi0, SV.si IntKind.u8 bi1, SV.si IntKind.u8 bi2]] []).run = some (((SV.sb (covers_f av ap ab0 ab1 ab2 ai0 ai1 ai2 bv bp bb0 bb1 bb2 bi0 bi1 bi2)) : SV), []) := by
  rw [covers_tree]
  simp only [Tree.run_need', cond_true, Bool.and_true, Bool.true_and, Bool.and_self, Tree.run_ite', Tree.run_ret', chk_self, cond_some, cond_agg, cond_tup, cond_cons, cond_si, cond_sb, cond_str, cond_self', covers_f]
def covers_spec : PSpec := ⟨[(.agg [(.int .i64), (.int .i64), (.int .u8), (.int .u8), (.int .u8), (.int .u8), (.int .u8), (.int .u8)]), (.agg [(.int .i64), (.int .i64), (.int .u8), (.int .u8), (.int .u8), (.int .u8), (.int .u8), (.int .u8)])], fun
  | [.a [.i av, .i ap, .i ab0, .i ab1, .i ab2, .i ai0, .i ai1, .i ai2], .a [.i bv, .i bp, .i bb0, .i bb1, .i bb2, .i bi0, .i bi1, .i bi2]] => some (true, (SV.sb (covers_f av ap ab0 ab1 ab2 ai0 ai1 ai2 bv bp bb0 bb1 bb2 bi0 bi1 bi2)))
  | _ => none⟩
noncomputable def covers_pc : PC Try.prog := PC.run2 (T := tab) follows 20 12 35 covers_spec (by
  intro ds pre r h hp
  unfold covers_spec at h
  simp only at h
  split at h
  · rename_i av ap ab0 ab1 ab2 ai0 ai1 ai2 bv bp bb0 bb1 bb2 bi0 bi1 bi2
    simp only [Option.some.injEq, Prod.mk.injEq] at h
    obtain ⟨hq, rfl⟩ := h
    exact ⟨_, _, envOf_good _ _ _, covers_run av ap ab0 ab1 ab2 ai0 ai1 ai2 bv bp bb0 bb1 bb2 bi0 bi1 bi2, rfl⟩
  · cases h) (enters_of (c := codeOf Try.f35) Try.func35 (by kernel_rfl) (by kernel_rfl))
def fits_f (av ap ab0 ab1 ab2 ai0 ai1 ai2 ver port h0 h1 h2 : Int) : Bool := (bif av == (0 : Int) then bif ap == (-1 : Int) then ab0 == ab0 && (ab1 == ab1 && (ab2 == ab2 && true)) && (bits BinOp.and IntKind.u8 ai0 ab0 == bits BinOp.and IntKind.u8 h0 ab0 && (bits BinOp.and IntKind.u8 ai1 ab1 == bits BinOp.and IntKind.u8 h1 ab1 && (bits BinOp.and IntKind.u8 ai2 ab2 == bits BinOp.and IntKind.u8 h2 ab2 && true)) && true) else ap == port && (ab0 == ab0 && (ab1 == ab1 && (ab2 == ab2 && true)) && (bits BinOp.and IntKind.u8 ai0 ab0 == bits BinOp.and IntKind.u8 h0 ab0 && (bits BinOp.and IntKind.u8 ai1 ab1 == bits BinOp.and IntKind.u8 h1 ab1 && (bits BinOp.and IntKind.u8 ai2 ab2 == bits BinOp.and IntKind.u8 h2 ab2 && true)) && true)) else av == ver && bif ap == (-1 : Int) then ab0 == ab0 && (ab1 == ab1 && (ab2 == ab2 && true)) && (bits BinOp.and IntKind.u8 ai0 ab0 == bits BinOp.and IntKind.u8 h0 ab0 && (bits BinOp.and IntKind.u8 ai1 ab1 == bits BinOp.and IntKind.u8 h1 ab1 && (bits BinOp.and IntKind.u8 ai2 ab2 == bits BinOp.and IntKind.u8 h2 ab2 && true)) && true) else ap == port && (ab0 == ab0 && (ab1 == ab1 && (ab2 == ab2 && true)) && (bits BinOp.and IntKind.u8 ai0 ab0 == bits BinOp.and IntKind.u8 h0 ab0 && (bits BinOp.and IntKind.u8 ai1 ab1 == bits BinOp.and IntKind.u8 h1 ab1 && (bits BinOp.and IntKind.u8 ai2 ab2 == bits BinOp.and IntKind.u8 h2 ab2 && true)) && true)))
theorem fits_tree (av ap ab0 ab1 ab2 ai0 ai1 ai2 ver port h0 h1 h2 : Int) : callG tab (envOf (P := Try.prog) [] [] []) 20 12 16 [SV.agg [SV.si IntKind.i64 av, SV.si IntKind.i64 ap, SV.si IntKind.u8 ab0, SV.si IntKind.u8 ab1, SV.si IntKind.u8 ab2, SV.si IntKind.u8 ai0, SV.si IntKind.u8 ai1, SV.si IntKind.u8 ai2], SV.si IntKind.i64 ver, SV.si IntKind.i64 port, SV.agg [SV.si IntKind.u8 h0, SV.si IntKind.u8 h1, SV.si IntKind.u8 h2]] [] =
    (Tree.ret ((SV.sb (bif av == (0 : Int) then bif ap == (-1 : Int) then ab0 == ab0 && (ab1 == ab1 && (ab2 == ab2 && true)) && (bits BinOp.and IntKind.u8 ai0 ab0 == bits BinOp.and IntKind.u8 h0 ab0 && (bits BinOp.and IntKind.u8 ai1 ab1 == bits BinOp.and IntKind.u8 h1 ab1 && (bits BinOp.and IntKind.u8 ai2 ab2 == bits BinOp.and IntKind.u8 h2 ab2 && true)) && true) else ap == port && (ab0 == ab0 && (ab1 == ab1 && (ab2 == ab2 && true)) && (bits BinOp.and IntKind.u8 ai0 ab0 == bits BinOp.and IntKind.u8 h0 ab0 && (bits BinOp.and IntKind.u8 ai1 ab1 == bits BinOp.and IntKind.u8 h1 ab1 && (bits BinOp.and IntKind.u8 ai2 ab2 == bits BinOp.and IntKind.u8 h2 ab2 && true)) && true)) else av == ver && bif ap == (-1 : Int) then ab0 == ab0 && (ab1 == ab1 && (ab2 == ab2 && true)) && (bits BinOp.and IntKind.u8 ai0 ab0 == bits BinOp.and IntKind.u8 h0 ab0 && (bits BinOp.and IntKind.u8 ai1 ab1 == bits BinOp.and IntKind.u8 h1 ab1 && (bits BinOp.and IntKind.u8 ai2 ab2 == bits BinOp.and IntKind.u8 h2 ab2 && true)) && true) else ap == port && (ab0 == ab0 && (ab1 == ab1 && (ab2 == ab2 && true)) && (bits BinOp.and IntKind.u8 ai0 ab0 == bits BinOp.and IntKind.u8 h0 ab0 && (bits BinOp.and IntKind.u8 ai1 ab1 == bits BinOp.and IntKind.u8 h1 ab1 && (bits BinOp.and IntKind.u8 ai2 ab2 == bits BinOp.and IntKind.u8 h2 ab2 && true)) && true)))), [])) := by kernel_rfl
theorem fits_run (av ap ab0 ab1 ab2 ai0 ai1 ai2 ver port h0 h1 h2 : Int) : (callG tab (envOf (P := Try.prog) [] [] []) 20 12 16 [SV.agg [SV.si IntKind.i64 av, SV.si IntKind.i64 ap, SV.si IntKind.u8 ab0, SV.si IntKind.u8 ab1, SV.si IntKind.u8 ab2, SV.si IntKind.u8 ai0, SV.si IntKind.u8 ai1, SV.si IntKind.u8 ai2], SV.si IntKind.i64 ver, SV.si IntKind.i64 port, SV.agg [SV.si IntKind.u8 h0, SV.si IntKind.u8 h1, SV.si IntKind.u8 h2]] []).run = some (((SV.sb (fits_f av ap ab0 ab1 ab2 ai0 ai1 ai2 ver port h0 h1 h2)) : SV), []) := by
  rw [fits_tree]
  simp only [Tree.run_need', cond_true, Bool.and_true, Bool.true_and, Bool.and_self, Tree.run_ite', Tree.run_ret', chk_self, cond_some, cond_agg, cond_tup, cond_cons, cond_si, cond_sb, cond_str, cond_self', fits_f]
def fits_spec : PSpec := ⟨[(.agg [(.int .i64), (.int .i64), (.int .u8), (.int .u8), (.int .u8), (.int .u8), (.int .u8), (.int .u8)]), (.int .i64), (.int .i64), (.agg [(.int .u8), (.int .u8), (.int .u8)])], fun
  | [.a [.i av, .i ap, .i ab0, .i ab1, .i ab2, .i ai0, .i ai1, .i ai2], .i ver, .i port, .a [.i h0, .i h1, .i h2]] => some (true, (SV.sb (fits_f av ap ab0 ab1 ab2 ai0 ai1 ai2 ver port h0 h1 h2)))
  | _ => none⟩
noncomputable def fits_pc : PC Try.prog := PC.run2 (T := tab) follows 20 12 16 fits_spec (by
  intro ds pre r h hp
  unfold fits_spec at h
  simp only at h
  split at h
  · rename_i av ap ab0 ab1 ab2 ai0 ai1 ai2 ver port h0 h1 h2
    simp only [Option.some.injEq, Prod.mk.injEq] at h
    obtain ⟨hq, rfl⟩ := h
    exact ⟨_, _, envOf_good _ _ _, fits_run av ap ab0 ab1 ab2 ai0 ai1 ai2 ver port h0 h1 h2, rfl⟩
  · cases h) (enters_of (c := codeOf Try.f16) Try.func16 (by kernel_rfl) (by kernel_rfl))
theorem bring_tree (i n : Int) : callG tab (envOf (P := Try.prog) [] [] []) 20 12 36 [SV.si IntKind.i64 i, SV.si IntKind.i64 n] [] =
    (Tree.need (!n == (0 : Int)) (Tree.ite (decide (Int.tmod i n < (0 : Int))) (Tree.ret ((SV.si IntKind.i64 (IntKind.wrap IntKind.i64 (Int.tmod i n + n))), [])) (Tree.ret ((SV.si IntKind.i64 (Int.tmod i n)), [])))) := by kernel_rfl
theorem bring_run (i n : Int) (hpre : (((!n == (0 : Int)))) = true) : (callG tab (envOf (P := Try.prog) [] [] []) 20 12 36 [SV.si IntKind.i64 i, SV.si IntKind.i64 n] []).run = some (((SV.si IntKind.i64 (bif (decide (Int.tmod i n < (0 : Int))) then (IntKind.wrap IntKind.i64 (Int.tmod i n + n)) else (Int.tmod i n))) : SV), []) := by
  rw [bring_tree]
  simp only [Tree.run_need', cond_true, Bool.and_true, Bool.true_and, Bool.and_self, Tree.run_ite', Tree.run_ret', chk_self, cond_some, cond_agg, cond_tup, cond_cons, cond_si, cond_sb, cond_str, cond_self', hpre]
def bring_spec : PSpec := ⟨[(.int .i64), (.int .i64)], fun
  | [.i i, .i n] => some (((!n == (0 : Int))), (SV.si IntKind.i64 (bif (decide (Int.tmod i n < (0 : Int))) then (IntKind.wrap IntKind.i64 (Int.tmod i n + n)) else (Int.tmod i n))))
  | _ => none⟩
noncomputable def bring_pc : PC Try.prog := PC.run2 (T := tab) follows 20 12 36 bring_spec (by
  intro ds pre r h hp
  unfold bring_spec at h
  simp only at h
  split at h
  · rename_i i n
    simp only [Option.some.injEq, Prod.mk.injEq] at h
    obtain ⟨hq, rfl⟩ := h
    exact ⟨_, _, envOf_good _ _ _, bring_run i n (hq.trans hp), rfl⟩
  · cases h) (enters_of (c := codeOf Try.f36) Try.func36 (by kernel_rfl) (by kernel_rfl))
def outmay_f (p s0 s1 s2 : Int) : Bool := (bif (!(decide ((-1 : Int) ≤ s0) && decide (s0 ≤ (255 : Int)))) then (false) else (bif (!(decide ((-1 : Int) ≤ s1) && decide (s1 ≤ (255 : Int)))) then (false) else (bif (!(decide ((-1 : Int) ≤ s2) && decide (s2 ≤ (255 : Int)))) then (false) else (decide ((0 : Int) ≤ p) && decide (p ≤ (4 : Int))))))
theorem outmay_tree (p s0 s1 s2 : Int) : callG tab (envOf (P := Try.prog) [] [] []) 20 12 92 [SV.agg [SV.si IntKind.i64 p, SV.si IntKind.i64 s0, SV.si IntKind.i64 s1, SV.si IntKind.i64 s2]] [] =
    (Tree.ite (!(decide ((-1 : Int) ≤ s0) && decide (s0 ≤ (255 : Int)))) (Tree.ret ((SV.sb (false)), [])) (Tree.ite (!(decide ((-1 : Int) ≤ s1) && decide (s1 ≤ (255 : Int)))) (Tree.ret ((SV.sb (false)), [])) (Tree.ite (!(decide ((-1 : Int) ≤ s2) && decide (s2 ≤ (255 : Int)))) (Tree.ret ((SV.sb (false)), [])) (Tree.ret ((SV.sb (decide ((0 : Int) ≤ p) && decide (p ≤ (4 : Int)))), []))))) := by kernel_rfl
theorem outmay_run (p s0 s1 s2 : Int) : (callG tab (envOf (P := Try.prog) [] [] []) 20 12 92 [SV.agg [SV.si IntKind.i64 p, SV.si IntKind.i64 s0, SV.si IntKind.i64 s1, SV.si IntKind.i64 s2]] []).run = some (((SV.sb (outmay_f p s0 s1 s2)) : SV), []) := by
  rw [outmay_tree]
  simp only [Tree.run_need', cond_true, Bool.and_true, Bool.true_and, Bool.and_self, Tree.run_ite', Tree.run_ret', chk_self, cond_some, cond_agg, cond_tup, cond_cons, cond_si, cond_sb, cond_str, cond_self', outmay_f]
def outmay_spec : PSpec := ⟨[(.agg [(.int .i64), (.int .i64), (.int .i64), (.int .i64)])], fun
  | [.a [.i p, .i s0, .i s1, .i s2]] => some (true, (SV.sb (outmay_f p s0 s1 s2)))
  | _ => none⟩
noncomputable def outmay_pc : PC Try.prog := PC.run2 (T := tab) follows 20 12 92 outmay_spec (by
  intro ds pre r h hp
  unfold outmay_spec at h
  simp only at h
  split at h
  · rename_i p s0 s1 s2
    simp only [Option.some.injEq, Prod.mk.injEq] at h
    obtain ⟨hq, rfl⟩ := h
    exact ⟨_, _, envOf_good _ _ _, outmay_run p s0 s1 s2, rfl⟩
  · cases h) (enters_of (c := codeOf Try.f92) Try.func92 (by kernel_rfl) (by kernel_rfl))
theorem ocl_tree (p s0 s1 s2 : Int) : callG tab (envOf (P := Try.prog) [outmay_pc] [] []) 20 12 91 [SV.agg [SV.si IntKind.i64 p, SV.si IntKind.i64 s0, SV.si IntKind.i64 s1, SV.si IntKind.i64 s2]] [] =
    (Tree.need (true) (Tree.ret ((SV.sb (!outmay_f p s0 s1 s2)), []))) := by kernel_rfl
theorem ocl_run (p s0 s1 s2 : Int) : (callG tab (envOf (P := Try.prog) [outmay_pc] [] []) 20 12 91 [SV.agg [SV.si IntKind.i64 p, SV.si IntKind.i64 s0, SV.si IntKind.i64 s1, SV.si IntKind.i64 s2]] []).run = some (((SV.sb (!outmay_f p s0 s1 s2)) : SV), []) := by
  rw [ocl_tree]
  simp only [Tree.run_need', cond_true, Bool.and_true, Bool.true_and, Bool.and_self, Tree.run_ite', Tree.run_ret', chk_self, cond_some, cond_agg, cond_tup, cond_cons, cond_si, cond_sb, cond_str, cond_self']
def ocl_spec : PSpec := ⟨[(.agg [(.int .i64), (.int .i64), (.int .i64), (.int .i64)])], fun
  | [.a [.i p, .i s0, .i s1, .i s2]] => some (true, (SV.sb (!outmay_f p s0 s1 s2)))
  | _ => none⟩
noncomputable def ocl_pc : PC Try.prog := PC.run2 (T := tab) follows 20 12 91 ocl_spec (by
  intro ds pre r h hp
  unfold ocl_spec at h
  simp only at h
  split at h
  · rename_i p s0 s1 s2
    simp only [Option.some.injEq, Prod.mk.injEq] at h
    obtain ⟨hq, rfl⟩ := h
    exact ⟨_, _, envOf_good _ _ _, ocl_run p s0 s1 s2, rfl⟩
  · cases h) (enters_of (c := codeOf Try.f91) Try.func91 (by kernel_rfl) (by kernel_rfl))
end Go.Proofs.Ytgodelllnilcfaa
