/-
  The order of rules: plain laws of 'lexC' and 'keyOf'.
  No statement of the seat is proved here. Conditions: none.
-/
import Derived.Test.YtkcadajkgeakhaaM08
set_option linter.unusedSimpArgs false
set_option linter.unusedVariables false
namespace Go.Proofs.Ytkcadajkgeakhaa
open Go.Sy

theorem cmpI_eq (x y : Int) : cmpI x y = 0 ↔ x = y := by
  rcases cmpI_cases x y with ⟨h, e⟩ | ⟨h, e⟩ | ⟨h, e⟩ <;> rw [e] <;> omega
theorem cmpI_anti (x y : Int) : cmpI y x = - cmpI x y := by
  rcases cmpI_cases x y with ⟨h, e⟩ | ⟨h, e⟩ | ⟨h, e⟩ <;> rcases cmpI_cases y x with ⟨h', e'⟩ | ⟨h', e'⟩ | ⟨h', e'⟩ <;> rw [e, e'] <;> omega
theorem lexC_cons (x y : Int) (xs ys : List Int) : lexC (x :: xs) (y :: ys) = if x = y then lexC xs ys else cmpI x y := by
  simp only [lexC, cmpI_zero]
  by_cases h : x = y
  · subst h; simp
  · have : (x == y) = false := by simpa using h
    rw [this, if_neg h]; rfl
theorem lexC_range : ∀ xs ys : List Int, -1 ≤ lexC xs ys ∧ lexC xs ys ≤ 1
  | [], ys => by simp [lexC]
  | _ :: _, [] => by simp [lexC]
  | x :: xs, y :: ys => by
    rw [lexC_cons]
    split
    · exact lexC_range xs ys
    · rcases cmpI_cases x y with ⟨h, e⟩ | ⟨h, e⟩ | ⟨h, e⟩ <;> rw [e] <;> omega
theorem lexC_anti : ∀ xs ys : List Int, lexC ys xs = - lexC xs ys
  | [], [] => by simp [lexC]
  | [], _ :: _ => by simp [lexC]
  | _ :: _, [] => by simp [lexC]
  | x :: xs, y :: ys => by
    rw [lexC_cons, lexC_cons]
    by_cases h : x = y
    · subst h; simp [lexC_anti xs ys]
    · rw [if_neg h, if_neg (fun e => h e.symm), cmpI_anti]
theorem lexC_zero : ∀ xs ys : List Int, xs.length = ys.length → (lexC xs ys = 0 ↔ xs = ys)
  | [], [], _ => by simp [lexC]
  | [], _ :: _, h => by simp at h
  | _ :: _, [], h => by simp at h
  | x :: xs, y :: ys, h => by
    rw [lexC_cons]
    by_cases e : x = y
    · subst e; simp [lexC_zero xs ys (by simpa using h)]
    · rw [if_neg e]
      constructor
      · intro h0; exact absurd ((cmpI_eq x y).1 h0) e
      · intro h0; simp at h0; exact absurd h0.1 e
theorem lexC_trans : ∀ xs ys zs : List Int, xs.length = ys.length → ys.length = zs.length → lexC xs ys ≤ 0 → lexC ys zs ≤ 0 → lexC xs zs ≤ 0
  | [], _, _, _, _, _, _ => by simp [lexC]
  | _ :: _, [], _, h, _, _, _ => by simp at h
  | _ :: _, _ :: _, [], _, h, _, _ => by simp at h
  | x :: xs, y :: ys, z :: zs, h1, h2, h3, h4 => by
    rw [lexC_cons] at h3 h4 ⊢
    by_cases e : x = y
    · subst e
      rw [if_pos rfl] at h3
      by_cases e' : x = z
      · subst e'
        rw [if_pos rfl] at h4 ⊢
        exact lexC_trans xs ys zs (by simpa using h1) (by simpa using h2) h3 h4
      · rw [if_neg e'] at h4 ⊢; exact h4
    · rw [if_neg e] at h3
      have hxy : x < y := by rcases cmpI_cases x y with ⟨h, e'⟩ | ⟨h, e'⟩ | ⟨h, e'⟩ <;> omega
      have hyz : y ≤ z := by
        by_cases e' : y = z
        · omega
        · rw [if_neg e'] at h4
          rcases cmpI_cases y z with ⟨h, e''⟩ | ⟨h, e''⟩ | ⟨h, e''⟩ <;> omega
      rw [if_neg (by omega)]
      rcases cmpI_cases x z with ⟨h, e''⟩ | ⟨h, e''⟩ | ⟨h, e''⟩ <;> omega

def tailOf (r : Rk) : List Int := bif r.k == 1 then [-r.pr, r.v, r.p, r.b0, r.b1, r.b2, r.i0, r.i1, r.i2] else [r.to]
theorem keyOf_tail (r : Rk) : keyOf r = r.k :: tailOf r := by
  unfold keyOf tailOf
  cases r.k == 1 <;> rfl
theorem tail_len {a b : Rk} (h : a.k = b.k) : (tailOf a).length = (tailOf b).length := by
  unfold tailOf
  rw [h]
  cases b.k == 1 <;> rfl
theorem key_eq (a b : Rk) : lexC (keyOf a) (keyOf b) = 0 ↔ keyOf a = keyOf b := by
  rw [keyOf_tail, keyOf_tail, lexC_cons]
  by_cases h : a.k = b.k
  · rw [if_pos h, lexC_zero _ _ (tail_len h), h]; simp
  · rw [if_neg h]
    constructor
    · intro h0; exact absurd ((cmpI_eq _ _).1 h0) h
    · intro h0; simp at h0; exact absurd h0.1 h
theorem key_trans (a b c : Rk) (h1 : lexC (keyOf a) (keyOf b) ≤ 0) (h2 : lexC (keyOf b) (keyOf c) ≤ 0) : lexC (keyOf a) (keyOf c) ≤ 0 := by
  rw [keyOf_tail, keyOf_tail, lexC_cons] at h1 h2 ⊢
  by_cases hab : a.k = b.k
  · by_cases hbc : b.k = c.k
    · rw [if_pos hab] at h1
      rw [if_pos hbc] at h2
      rw [if_pos (hab.trans hbc)]
      exact lexC_trans _ _ _ (tail_len hab) (tail_len hbc) h1 h2
    · rw [if_neg hbc] at h2
      rw [if_neg (by rw [hab]; exact hbc), hab]; exact h2
  · rw [if_neg hab] at h1
    have hlt : a.k < b.k := by rcases cmpI_cases a.k b.k with ⟨h, e'⟩ | ⟨h, e'⟩ | ⟨h, e'⟩ <;> omega
    have hle : b.k ≤ c.k := by
      by_cases hbc : b.k = c.k
      · omega
      · rw [if_neg hbc] at h2
        rcases cmpI_cases b.k c.k with ⟨h, e'⟩ | ⟨h, e'⟩ | ⟨h, e'⟩ <;> omega
    rw [if_neg (by omega)]
    rcases cmpI_cases a.k c.k with ⟨h, e'⟩ | ⟨h, e'⟩ | ⟨h, e'⟩ <;> omega
theorem place_eq (a b : Rk) : (lexC (keyOf a) (keyOf b) == 0) = placeB a b := by
  rw [Bool.eq_iff_iff, beq_iff_eq, key_eq]
  unfold placeB
  constructor
  · intro h
    rw [keyOf_tail, keyOf_tail] at h
    simp only [List.cons.injEq] at h
    obtain ⟨h1, h2⟩ := h
    unfold tailOf at h2
    rw [← h1] at h2
    simp only [h1, beq_self_eq_true, Bool.true_and]
    rw [← h1]
    cases hk : a.k == 1
    · rw [hk] at h2; simpa using h2
    · rw [hk] at h2
      simp only [cond_true, List.cons.injEq] at h2
      simp only [cond_true, Bool.and_eq_true, beq_iff_eq]
      omega
  · intro h
    simp only [Bool.and_eq_true, beq_iff_eq] at h
    obtain ⟨h1, h2⟩ := h
    rw [keyOf_tail, keyOf_tail, h1]
    unfold tailOf
    rw [← h1]
    cases hk : a.k == 1
    · rw [hk] at h2; simp at h2; simp [h2]
    · rw [hk] at h2
      simp only [cond_true, Bool.and_eq_true, beq_iff_eq] at h2
      obtain ⟨e1, e2, e3, ⟨e4, e5, e6⟩, e7, e8, e9⟩ := h2
      simp only [cond_true, e1, e2, e3, e4, e5, e6, e7, e8, e9]
theorem wrap_small {n : Int} (h : -1 ≤ n ∧ n ≤ 1) : IntKind.i64.wrap (0 - n) = -n := by
  simp [IntKind.wrap, IntKind.bits, IntKind.signed]; omega

/-- The law's four questions. -/
theorem ask1 (a b : Rk) : (lexC (keyOf a) (keyOf b) != IntKind.wrap IntKind.i64 ((0 : Int) - lexC (keyOf b) (keyOf a)) || (decide (lexC (keyOf a) (keyOf b) < (-1 : Int)) || (decide (lexC (keyOf a) (keyOf b) > (1 : Int)) || lexC (keyOf a) (keyOf a) != (0 : Int)))) = false := by
  have h1 := lexC_range (keyOf a) (keyOf b)
  rw [wrap_small (lexC_range _ _), lexC_anti (keyOf a) (keyOf b), Int.neg_neg, (key_eq a a).2 rfl]
  simp; omega
theorem ask2 (a b : Rk) : (bif a.k == (1 : Int) then !(lexC (keyOf a) (keyOf b) == (0 : Int)) == placeB a b else a.k == (2 : Int) && !(lexC (keyOf a) (keyOf b) == (0 : Int)) == placeB a b) = false := by
  rw [place_eq]
  cases a.k == 1 <;> cases a.k == 2 <;> simp
theorem ask3 (a b : Rk) : (a.k == (1 : Int) && (b.k == (1 : Int) && (decide (a.pr > b.pr) && lexC (keyOf a) (keyOf b) != (-1 : Int)))) = false := by
  rw [← Bool.not_eq_true]
  simp only [Bool.and_eq_true, beq_iff_eq, decide_eq_true_eq, bne_iff_ne]
  rintro ⟨h1, h2, h3, h4⟩
  apply h4
  have e1 : (a.k == 1) = true := by simpa using h1
  have e2 : (b.k == 1) = true := by simpa using h2
  unfold keyOf
  rw [e1, e2]
  simp only [cond_true]
  rw [lexC_cons, if_pos (by omega), lexC_cons, if_neg (by omega)]
  rcases cmpI_cases (-a.pr) (-b.pr) with ⟨h, e⟩ | ⟨h, e⟩ | ⟨h, e⟩ <;> omega
theorem ask4 (a b c : Rk) : (bif decide (lexC (keyOf a) (keyOf b) ≤ (0 : Int)) then bif decide (lexC (keyOf b) (keyOf c) ≤ (0 : Int)) then decide (lexC (keyOf a) (keyOf c) > (0 : Int)) || lexC (keyOf a) (keyOf b) == (0 : Int) && lexC (keyOf a) (keyOf c) != lexC (keyOf b) (keyOf c) else lexC (keyOf a) (keyOf b) == (0 : Int) && lexC (keyOf a) (keyOf c) != lexC (keyOf b) (keyOf c) else lexC (keyOf a) (keyOf b) == (0 : Int) && lexC (keyOf a) (keyOf c) != lexC (keyOf b) (keyOf c)) = false := by
  have h0 : (lexC (keyOf a) (keyOf b) == (0 : Int) && lexC (keyOf a) (keyOf c) != lexC (keyOf b) (keyOf c)) = false := by
    cases h : (lexC (keyOf a) (keyOf b) == (0 : Int))
    · rfl
    · have := (key_eq a b).1 (by simpa using h)
      rw [this]; simp
  rw [h0]
  cases h1 : decide (lexC (keyOf a) (keyOf b) ≤ (0 : Int))
  · rfl
  · cases h2 : decide (lexC (keyOf b) (keyOf c) ≤ (0 : Int))
    · rfl
    · have := key_trans a b c (by simpa using h1) (by simpa using h2)
      simp; omega
end Go.Proofs.Ytkcadajkgeakhaa
