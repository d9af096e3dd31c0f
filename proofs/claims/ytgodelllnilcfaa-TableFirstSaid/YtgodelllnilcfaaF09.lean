/-
  The order of rules: plain laws of 'lexC' and 'keyOf'; of lists that stand in it; of a search in them.
  No statement of the seat is proved here. Conditions: none.
-/
import Derived.Test.YtgodelllnilcfaaV09
set_option linter.unusedSimpArgs false
set_option linter.unusedVariables false
namespace Go.Proofs.Ytgodelllnilcfaa
open Go.Sy

theorem cmpI_eq (x y : Int) : cmpI x y = 0 ↔ x = y := by
  rcases cmpI_cases x y with ⟨h, e⟩ | ⟨h, e⟩ | ⟨h, e⟩ <;> rw [e] <;> omega
theorem cmpI_anti (x y : Int) : cmpI y x = - cmpI x y := by
  rcases cmpI_cases x y with ⟨h, e⟩ | ⟨h, e⟩ | ⟨h, e⟩ <;> rcases cmpI_cases y x with ⟨h', e'⟩ | ⟨h', e'⟩ | ⟨h', e'⟩ <;> rw [e, e'] <;> omega
theorem lexC_cons (x y : Int) (xs ys : List Int) : lexC (x :: xs) (y :: ys) = if x = y then lexC xs ys else cmpI x y := by
  simp only [lexC, cmpI_zero]
  by_cases h : x = y
  · subst h; simp
  · have : (x == y) = false := by simpa using h
    rw [this, if_neg h]; rfl
theorem lexC_range : ∀ xs ys : List Int, -1 ≤ lexC xs ys ∧ lexC xs ys ≤ 1
  | [], ys => by simp [lexC]
  | _ :: _, [] => by simp [lexC]
  | x :: xs, y :: ys => by
    rw [lexC_cons]
    split
    · exact lexC_range xs ys
    · rcases cmpI_cases x y with ⟨h, e⟩ | ⟨h, e⟩ | ⟨h, e⟩ <;> rw [e] <;> omega
theorem lexC_anti : ∀ xs ys : List Int, lexC ys xs = - lexC xs ys
  | [], [] => by simp [lexC]
  | [], _ :: _ => by simp [lexC]
  | _ :: _, [] => by simp [lexC]
  | x :: xs, y :: ys => by
    rw [lexC_cons, lexC_cons]
    by_cases h : x = y
    · subst h; simp [lexC_anti xs ys]
    · rw [if_neg h, if_neg (fun e => h e.symm), cmpI_anti]
theorem lexC_zero : ∀ xs ys : List Int, xs.length = ys.length → (lexC xs ys = 0 ↔ xs = ys)
  | [], [], _ => by simp [lexC]
  | [], _ :: _, h => by simp at h
  | _ :: _, [], h => by simp at h
  | x :: xs, y :: ys, h => by
    rw [lexC_cons]
    by_cases e : x = y
    · subst e; simp [lexC_zero xs ys (by simpa using h)]
    · rw [if_neg e]
      constructor
      · intro h0; exact absurd ((cmpI_eq x y).1 h0) e
      · intro h0; simp at h0; exact absurd h0.1 e
theorem lexC_trans : ∀ xs ys zs : List Int, xs.length = ys.length → ys.length = zs.length → lexC xs ys ≤ 0 → lexC ys zs ≤ 0 → lexC xs zs ≤ 0
  | [], _, _, _, _, _, _ => by simp [lexC]
  | _ :: _, [], _, h, _, _, _ => by simp at h
  | _ :: _, _ :: _, [], _, h, _, _ => by simp at h
  | x :: xs, y :: ys, z :: zs, h1, h2, h3, h4 => by
    rw [lexC_cons] at h3 h4 ⊢
    by_cases e : x = y
    · subst e
      rw [if_pos rfl] at h3
      by_cases e' : x = z
      · subst e'
        rw [if_pos rfl] at h4 ⊢
        exact lexC_trans xs ys zs (by simpa using h1) (by simpa using h2) h3 h4
      · rw [if_neg e'] at h4 ⊢; exact h4
    · rw [if_neg e] at h3
      have hxy : x < y := by rcases cmpI_cases x y with ⟨h, e'⟩ | ⟨h, e'⟩ | ⟨h, e'⟩ <;> omega
      have hyz : y ≤ z := by
        by_cases e' : y = z
        · omega
        · rw [if_neg e'] at h4
          rcases cmpI_cases y z with ⟨h, e''⟩ | ⟨h, e''⟩ | ⟨h, e''⟩ <;> omega
      rw [if_neg (by omega)]
      rcases cmpI_cases x z with ⟨h, e''⟩ | ⟨h, e''⟩ | ⟨h, e''⟩ <;> omega

def tailOf (r : Rk) : List Int := bif r.k == 1 then [-r.pr, r.v, r.p, r.b0, r.b1, r.b2, r.i0, r.i1, r.i2] else [r.to]
theorem keyOf_tail (r : Rk) : keyOf r = r.k :: tailOf r := by
  unfold keyOf tailOf
  cases r.k == 1 <;> rfl
theorem tail_len {a b : Rk} (h : a.k = b.k) : (tailOf a).length = (tailOf b).length := by
  unfold tailOf
  rw [h]
  cases b.k == 1 <;> rfl
theorem key_eq (a b : Rk) : lexC (keyOf a) (keyOf b) = 0 ↔ keyOf a = keyOf b := by
  rw [keyOf_tail, keyOf_tail, lexC_cons]
  by_cases h : a.k = b.k
  · rw [if_pos h, lexC_zero _ _ (tail_len h), h]; simp
  · rw [if_neg h]
    constructor
    · intro h0; exact absurd ((cmpI_eq _ _).1 h0) h
    · intro h0; simp at h0; exact absurd h0.1 h
theorem key_trans (a b c : Rk) (h1 : lexC (keyOf a) (keyOf b) ≤ 0) (h2 : lexC (keyOf b) (keyOf c) ≤ 0) : lexC (keyOf a) (keyOf c) ≤ 0 := by
  rw [keyOf_tail, keyOf_tail, lexC_cons] at h1 h2 ⊢
  by_cases hab : a.k = b.k
  · by_cases hbc : b.k = c.k
    · rw [if_pos hab] at h1
      rw [if_pos hbc] at h2
      rw [if_pos (hab.trans hbc)]
      exact lexC_trans _ _ _ (tail_len hab) (tail_len hbc) h1 h2
    · rw [if_neg hbc] at h2
      rw [if_neg (by rw [hab]; exact hbc), hab]; exact h2
  · rw [if_neg hab] at h1
    have hlt : a.k < b.k := by rcases cmpI_cases a.k b.k with ⟨h, e'⟩ | ⟨h, e'⟩ | ⟨h, e'⟩ <;> omega
    have hle : b.k ≤ c.k := by
      by_cases hbc : b.k = c.k
      · omega
      · rw [if_neg hbc] at h2
        rcases cmpI_cases b.k c.k with ⟨h, e'⟩ | ⟨h, e'⟩ | ⟨h, e'⟩ <;> omega
    rw [if_neg (by omega)]
    rcases cmpI_cases a.k c.k with ⟨h, e'⟩ | ⟨h, e'⟩ | ⟨h, e'⟩ <;> omega

theorem key_self (a : Rk) : lexC (keyOf a) (keyOf a) = 0 := (key_eq a a).2 rfl
theorem key_ltle {a b c : Rk} (h1 : lexC (keyOf a) (keyOf b) < 0) (h2 : lexC (keyOf b) (keyOf c) ≤ 0) : lexC (keyOf a) (keyOf c) < 0 := by
  rcases Int.lt_or_le (lexC (keyOf a) (keyOf c)) 0 with h | h
  · exact h
  · exfalso
    have h3 := lexC_anti (keyOf a) (keyOf c)
    have h4 := key_trans b c a h2 (by omega)
    have h5 := lexC_anti (keyOf a) (keyOf b)
    omega
theorem key_lelt {a b c : Rk} (h1 : lexC (keyOf a) (keyOf b) ≤ 0) (h2 : lexC (keyOf b) (keyOf c) < 0) : lexC (keyOf a) (keyOf c) < 0 := by
  rcases Int.lt_or_le (lexC (keyOf a) (keyOf c)) 0 with h | h
  · exact h
  · exfalso
    have h3 := lexC_anti (keyOf a) (keyOf c)
    have h4 := key_trans c a b (by omega) h1
    have h5 := lexC_anti (keyOf b) (keyOf c)
    omega
/-- A row's place beside a rule's. -/
def cR (a : D) (r : Rk) : Int := lexC (keyOf (rkD a)) (keyOf r)
def Sorted (x : List D) : Prop := x.Pairwise fun a b => cR a (rkD b) < 0
def put (x : List D) (r : Rk) (d : D) : List D := (x.filter fun e => decide (cR e r < 0)) ++ d :: x.filter fun e => decide (cR e r > 0)
theorem cR_gt {a e : D} {r : Rk} (h1 : cR a (rkD e) < 0) (h2 : 0 ≤ cR a r) : cR e r > 0 := by
  have h3 := lexC_anti (keyOf (rkD a)) (keyOf r)
  have h4 : lexC (keyOf r) (keyOf (rkD e)) < 0 := key_lelt (b := rkD a) (by unfold cR at h2; omega) h1
  have h5 := lexC_anti (keyOf r) (keyOf (rkD e))
  unfold cR; omega
theorem sorted_split {x : List D} (h : Sorted x) (r : Rk) : x = (x.filter fun e => decide (cR e r < 0)) ++ x.filter fun e => !decide (cR e r < 0) := by
  induction x with
  | nil => rfl
  | cons a t ih =>
    obtain ⟨h1, h2⟩ := List.pairwise_cons.1 h
    by_cases ha : cR a r < 0
    · rw [List.filter_cons, List.filter_cons]
      simp only [ha, decide_true, if_true, Bool.not_true, Bool.false_eq_true, if_false, List.cons_append]
      congr 1
      exact ih h2
    · have hall : ∀ e ∈ t, cR e r > 0 := fun e he => cR_gt (h1 e he) (by omega)
      have e1 : (a :: t).filter (fun e => decide (cR e r < 0)) = [] := by
        rw [List.filter_eq_nil_iff]
        intro e he
        rcases List.mem_cons.1 he with rfl | he
        · simpa using ha
        · have := hall e he; simp; omega
      have e2 : (a :: t).filter (fun e => !decide (cR e r < 0)) = a :: t := by
        rw [List.filter_eq_self]
        intro e he
        rcases List.mem_cons.1 he with rfl | he
        · simpa using ha
        · have := hall e he; simp; omega
      rw [e1, e2]; rfl
theorem lt_split {x : List D} (h : Sorted x) (r : Rk) (m : Nat) (hm : m < x.length) : ltD x r m = decide (m < (x.filter fun e => decide (cR e r < 0)).length) := by
  have hs := sorted_split h r
  generalize hA : (x.filter fun e => decide (cR e r < 0)) = A at hs ⊢
  generalize hB : (x.filter fun e => !decide (cR e r < 0)) = B at hs
  have key : x.getD m default = if h : m < A.length then A[m] else (B.getD (m - A.length) default) := by
    rw [hs, List.getD_eq_getElem?_getD]
    split
    · rename_i h; rw [List.getElem?_append_left h]; simp [h]
    · rename_i h; rw [List.getElem?_append_right (by omega), List.getD_eq_getElem?_getD]
  unfold ltD
  rw [key]
  split
  · rename_i h1
    have hmem : A[m] ∈ x.filter fun e => decide (cR e r < 0) := by rw [hA]; exact List.getElem_mem h1
    have h2 := (List.mem_filter.1 hmem).2
    unfold cR at h2
    rw [h2]
    exact (decide_eq_true h1).symm
  · rename_i h1
    have hl : x.length = A.length + B.length := by rw [hs, List.length_append]
    have hb : m - A.length < B.length := by omega
    have hmem : B.getD (m - A.length) default ∈ B := by rw [getD_at hb]; exact List.getElem_mem hb
    generalize B.getD (m - A.length) default = e at hmem ⊢
    rw [← hB, List.mem_filter] at hmem
    have h2 := hmem.2
    unfold cR at h2
    rw [Bool.not_eq_true'] at h2
    rw [h2]
    exact (decide_eq_false h1).symm
theorem bsW_spec {lt : Nat → Bool} {len n : Nat} (h : ∀ m, m < len → lt m = decide (m < n)) : ∀ (f i j : Nat), i ≤ n → n ≤ j → j ≤ len → j - i ≤ f → bsW lt f i j = n
  | 0, i, j, h1, h2, h3, h4 => by unfold bsW; omega
  | f + 1, i, j, h1, h2, h3, h4 => by
    unfold bsW
    cases hb : Nat.blt i j with
    | false =>
      have := nltf.1 hb
      simp only
      omega
    | true =>
      have hlt := nlt.1 hb
      simp only
      have hm := h ((i + j) / 2) (by omega)
      rw [hm]
      by_cases hq : (i + j) / 2 < n
      · rw [decide_eq_true hq]
        exact bsW_spec h f _ j (by omega) h2 h3 (by omega)
      · rw [decide_eq_false hq]
        exact bsW_spec h f i _ h1 (by omega) (by omega) (by omega)
theorem bsN_eq {x : List D} (h : Sorted x) (r : Rk) : bsN x r = (x.filter fun e => decide (cR e r < 0)).length :=
  bsW_spec (len := x.length) (lt_split h r) x.length 0 x.length (Nat.zero_le _) (List.length_filter_le _ _) (Nat.le_refl _) (by omega)
theorem sorted_rest {x : List D} (h : Sorted x) (r : Rk) : (x.filter (fun e => !decide (cR e r < 0)) = x.filter (fun e => decide (cR e r > 0)) ∧ x.any (fun e => cR e r == 0) = false) ∨ (∃ a, cR a r = 0 ∧ a ∈ x ∧ x.filter (fun e => !decide (cR e r < 0)) = a :: x.filter (fun e => decide (cR e r > 0))) := by
  induction x with
  | nil => exact .inl ⟨rfl, rfl⟩
  | cons a t ih =>
    obtain ⟨h1, h2⟩ := List.pairwise_cons.1 h
    rcases Int.lt_or_le (cR a r) 0 with ha | ha
    · have f1 : decide (cR a r < 0) = true := decide_eq_true ha
      have f2 : decide (cR a r > 0) = false := decide_eq_false (by omega)
      have f3 : (cR a r == 0) = false := beq_eq_false_iff_ne.2 (by omega)
      rw [List.filter_cons, List.filter_cons, List.any_cons]
      simp only [f1, f2, f3, Bool.not_true, Bool.false_eq_true, if_false, Bool.false_or]
      rcases ih h2 with ih | ⟨e, e1, e2, e3⟩
      · exact .inl ih
      · exact .inr ⟨e, e1, List.mem_cons_of_mem _ e2, e3⟩
    · have hall : ∀ e ∈ t, cR e r > 0 := fun e he => cR_gt (h1 e he) ha
      have g1 : t.filter (fun e => !decide (cR e r < 0)) = t := by
        rw [List.filter_eq_self]; intro e he; have := hall e he; simp; omega
      have g2 : t.filter (fun e => decide (cR e r > 0)) = t := by
        rw [List.filter_eq_self]; intro e he; have := hall e he; simp; omega
      have f1 : decide (cR a r < 0) = false := decide_eq_false (by omega)
      rw [List.filter_cons, List.filter_cons, g1, g2]
      by_cases h0 : cR a r = 0
      · have f2 : decide (cR a r > 0) = false := decide_eq_false (by omega)
        simp only [f1, f2, Bool.not_false, if_true, Bool.false_eq_true, if_false]
        exact .inr ⟨a, h0, List.mem_cons_self, rfl⟩
      · have f2 : decide (cR a r > 0) = true := decide_eq_true (by omega)
        have f3 : (cR a r == 0) = false := beq_eq_false_iff_ne.2 h0
        have f4 : t.any (fun e => cR e r == 0) = false := by
          rw [List.any_eq_false]; intro e he; have := hall e he; simp; omega
        simp only [f1, f2, Bool.not_false, if_true, List.any_cons, f3, f4, Bool.or_self]
        exact .inl ⟨trivial, trivial⟩
/-- What an Add does to rows in order. -/
theorem put_spec {x : List D} (h : Sorted x) (r : Rk) (d : D) : (hitB x r = x.any fun e => cR e r == 0) ∧ (hitB x r = true → x.set (bsN x r) d = put x r d) ∧ (hitB x r = false → insD x (bsN x r) d = put x r d) := by
  have hn := bsN_eq h r
  have hs := sorted_split h r
  have hl : x.length = (x.filter fun e => decide (cR e r < 0)).length + (x.filter fun e => !decide (cR e r < 0)).length := by rw [← List.length_append, ← hs]
  have hget : ∀ k, x.getD ((x.filter fun e => decide (cR e r < 0)).length + k) default = (x.filter fun e => !decide (cR e r < 0)).getD k default := by
    intro k
    conv => lhs; arg 1; rw [hs]
    rw [List.getD_eq_getElem?_getD, List.getElem?_append_right (by omega), List.getD_eq_getElem?_getD]
    congr 2
    omega
  have hx0 := hget 0
  rw [Nat.add_zero] at hx0
  unfold hitB put
  rw [hn, hx0]
  rcases sorted_rest h r with ⟨e1, e2⟩ | ⟨a, e1, e2, e3⟩
  · rw [e1] at hl ⊢
    rw [e2]
    have hh : (bif decide (((x.filter fun e => decide (cR e r < 0)).length : Int) < (x.length : Int)) then lexC (keyOf (rkD ((x.filter fun e => decide (cR e r > 0)).getD 0 default))) (keyOf r) == 0 else false) = false := by
      cases hq : decide (((x.filter fun e => decide (cR e r < 0)).length : Int) < (x.length : Int)) with
      | false => rfl
      | true =>
        have hq := of_decide_eq_true hq
        have hb : 0 < (x.filter fun e => decide (cR e r > 0)).length := by omega
        have hmem : (x.filter fun e => decide (cR e r > 0)).getD 0 default ∈ (x.filter fun e => decide (cR e r > 0)) := by rw [getD_at hb]; exact List.getElem_mem hb
        generalize (x.filter fun e => decide (cR e r > 0)).getD 0 default = e at hmem ⊢
        have := of_decide_eq_true (List.mem_filter.1 hmem).2
        unfold cR at this
        exact beq_eq_false_iff_ne.2 (by omega)
    refine ⟨hh, fun hc => absurd (hh.symm.trans hc) (by decide), fun _ => ?_⟩
    unfold insD
    rw [e1] at hs
    have t1 : x.take (x.filter fun e => decide (cR e r < 0)).length = x.filter fun e => decide (cR e r < 0) := by
      conv => lhs; arg 2; rw [hs]
      exact List.take_left
    have t2 : x.drop (x.filter fun e => decide (cR e r < 0)).length = x.filter fun e => decide (cR e r > 0) := by
      conv => lhs; arg 2; rw [hs]
      exact List.drop_left
    rw [t1, t2, List.append_assoc]
    rfl
  · rw [e3] at hl ⊢
    have hq : decide (((x.filter fun e => decide (cR e r < 0)).length : Int) < (x.length : Int)) = true := decide_eq_true (by simp at hl; omega)
    have hany : x.any (fun e => cR e r == 0) = true := List.any_eq_true.2 ⟨a, e2, by simp [e1]⟩
    have hh : (bif decide (((x.filter fun e => decide (cR e r < 0)).length : Int) < (x.length : Int)) then lexC (keyOf (rkD ((a :: x.filter fun e => decide (cR e r > 0)).getD 0 default))) (keyOf r) == 0 else false) = true := by
      rw [hq]
      have : lexC (keyOf (rkD a)) (keyOf r) = 0 := e1
      simp [this]
    refine ⟨hh.trans hany.symm, fun _ => ?_, fun hc => absurd (hh.symm.trans hc) (by decide)⟩
    rw [e3] at hs
    conv => lhs; arg 1; rw [hs]
    rw [List.set_append_right _ _ (by omega), Nat.sub_self]
    rfl
theorem put_mem {x : List D} {r : Rk} {d e : D} : e ∈ put x r d ↔ e = d ∨ (e ∈ x ∧ cR e r ≠ 0) := by
  unfold put
  simp only [List.mem_append, List.mem_cons, List.mem_filter, decide_eq_true_eq]
  constructor
  · rintro (h | h | h)
    · exact .inr ⟨h.1, by omega⟩
    · exact .inl h
    · exact .inr ⟨h.1, by omega⟩
  · rintro (h | h)
    · exact .inr (.inl h)
    · rcases Int.lt_or_le (cR e r) 0 with h0 | h0
      · exact .inl ⟨h.1, h0⟩
      · exact .inr (.inr ⟨h.1, by omega⟩)
theorem put_sorted {x : List D} (h : Sorted x) {r : Rk} {d : D} (hd : rkD d = r) : Sorted (put x r d) := by
  unfold put Sorted
  rw [List.pairwise_append, List.pairwise_cons]
  refine ⟨List.Pairwise.filter _ h, ⟨?_, List.Pairwise.filter _ h⟩, ?_⟩
  · intro e he
    have h1 := of_decide_eq_true (List.mem_filter.1 he).2
    have h2 := lexC_anti (keyOf (rkD e)) (keyOf r)
    unfold cR at h1 ⊢
    rw [hd]; omega
  · intro e he b hb
    have h1 := of_decide_eq_true (List.mem_filter.1 he).2
    rcases List.mem_cons.1 hb with rfl | hb
    · rw [hd]; exact h1
    · have h3 := of_decide_eq_true (List.mem_filter.1 hb).2
      have h2 := lexC_anti (keyOf (rkD b)) (keyOf r)
      unfold cR at h1 h3 ⊢
      exact key_ltle h1 (by omega)
theorem put_length {x : List D} (h : Sorted x) {r : Rk} {d : D} (hn : hitB x r = false) : (put x r d).length = x.length + 1 := by
  rw [← (put_spec h r d).2.2 hn]
  have := bsN_le x r
  unfold insD
  simp
  omega
/-- Rows in order are known by what is among them. -/
theorem sorted_ext : ∀ {x y : List D}, Sorted x → Sorted y → (∀ e, e ∈ x ↔ e ∈ y) → x = y
  | [], [], _, _, _ => rfl
  | [], b :: y, _, _, h => absurd ((h b).2 List.mem_cons_self) (by simp)
  | a :: x, [], _, _, h => absurd ((h a).1 List.mem_cons_self) (by simp)
  | a :: x, b :: y, h1, h2, h => by
    obtain ⟨p1, q1⟩ := List.pairwise_cons.1 h1
    obtain ⟨p2, q2⟩ := List.pairwise_cons.1 h2
    have hab : a = b := by
      rcases List.mem_cons.1 ((h a).1 List.mem_cons_self) with e | e
      · exact e
      · rcases List.mem_cons.1 ((h b).2 List.mem_cons_self) with e' | e'
        · exact e'.symm
        · have c1 := p2 a e
          have c2 := p1 b e'
          have c3 := lexC_anti (keyOf (rkD a)) (keyOf (rkD b))
          unfold cR at c1 c2
          omega
    subst hab
    have irr : ∀ e, ¬ cR e (rkD e) < 0 := fun e he => by have := key_self (rkD e); unfold cR at he; omega
    rw [sorted_ext q1 q2 fun e => ?_]
    constructor
    · intro he
      rcases List.mem_cons.1 ((h e).1 (List.mem_cons_of_mem _ he)) with e' | e'
      · subst e'; exact absurd (p1 _ he) (irr _)
      · exact e'
    · intro he
      rcases List.mem_cons.1 ((h e).2 (List.mem_cons_of_mem _ he)) with e' | e'
      · subst e'; exact absurd (p2 _ he) (irr _)
      · exact e'
end Go.Proofs.Ytgodelllnilcfaa
