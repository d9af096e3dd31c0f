/-
  Plain laws: a table, and what was added and did not go.
  No statement of the seat is proved here. Conditions: none.
-/
import Derived.Test.YtgodelllnilcfaaXD09
import Derived.Test.YtgodelllnilcfaaF09
import Derived.Test.YtgodelllnilcfaaB09
set_option linter.unusedSimpArgs false
set_option linter.unusedVariables false
namespace Go.Proofs.Ytgodelllnilcfaa
open Go.Sy
def Far (a b : D) : Prop := cR a (rkD b) ≠ 0
theorem Far.symm {a b : D} (h : Far a b) : Far b a := by
  intro h0
  apply h
  unfold cR at h0 ⊢
  exact (key_eq _ _).2 ((key_eq _ _).1 h0).symm
def hitF (r : Rk) (d : D) : Bool := cR d r == 0
def nxtF (r : Rk) (has : List D) : List D := (has.filter fun d => !hitF r d).map reD
/-- A table's list, and what is there. -/
structure Pair (x has : List D) : Prop where
  sorted : Sorted x
  far : has.Pairwise Far
  mem : ∀ e, e ∈ x ↔ e ∈ has
  fine : ∀ e ∈ has, cpy e = e ∧ outsFew e = true ∧ chkR (rkD e) (e.at 12).xs = 0 ∧ dataOwn e = true
  len : x.length = has.length
theorem reD_fine {d : D} (h : cpy d = d) : reD d = d := by
  have h2 : reD (cpy d) = cpy d := by unfold cpy; cases (d.at 12).nl <;> rfl
  rwa [h] at h2
theorem nxtF_eq {has : List D} {r : Rk} (h : ∀ e ∈ has, cpy e = e) : nxtF r has = has.filter fun d => !hitF r d := by
  unfold nxtF
  conv => rhs; rw [← List.map_id (List.filter _ _)]
  exact List.map_congr_left fun d hd => reD_fine (h d (List.mem_filter.1 hd).1)
theorem Pair.nxt {x has : List D} (h : Pair x has) (r : Rk) : nxtF r has = has.filter fun d => !hitF r d := nxtF_eq fun e he => (h.fine e he).1
theorem Pair.hit {x has : List D} (h : Pair x has) (r : Rk) : hitB x r = has.any (hitF r) := by
  rw [(put_spec h.sorted r default).1, Bool.eq_iff_iff, List.any_eq_true, List.any_eq_true]
  constructor
  · rintro ⟨e, he, h1⟩; exact ⟨e, (h.mem e).1 he, h1⟩
  · rintro ⟨e, he, h1⟩; exact ⟨e, (h.mem e).2 he, h1⟩
/-- Of rows that are apart one at most is in a rule's place. -/
theorem far_one : ∀ {has : List D} {r : Rk}, has.Pairwise Far → has.any (hitF r) = true → (has.filter fun d => !hitF r d).length + 1 = has.length
  | [], r, _, h => by simp at h
  | a :: t, r, hf, h => by
    obtain ⟨h1, h2⟩ := List.pairwise_cons.1 hf
    cases ha : hitF r a with
    | false =>
      rw [List.any_cons, ha, Bool.false_or] at h
      rw [List.filter_cons]
      simp only [ha, Bool.not_false, if_true, List.length_cons]
      rw [far_one h2 h]
    | true =>
      rw [List.filter_cons]
      simp only [ha, Bool.not_true, Bool.false_eq_true, if_false, List.length_cons]
      rw [List.filter_eq_self.2]
      intro b hb
      rw [Bool.not_eq_true', ← Bool.not_eq_true]
      intro hb2
      apply h1 b hb
      unfold hitF cR at ha hb2
      have e1 := (key_eq _ _).1 (by simpa using ha)
      have e2 := (key_eq _ _).1 (by simpa using hb2)
      unfold cR
      rw [key_eq, e1, e2]
theorem far_none {has : List D} {r : Rk} (h : has.any (hitF r) = false) : (has.filter fun d => !hitF r d) = has := by
  rw [List.filter_eq_self]
  intro a ha
  have := List.any_eq_false.1 h a ha
  simpa using this
theorem dataOwn_md (d : D) : dataOwn (mdD d) = true := by
  unfold mdD
  cases (Int.tmod (d.at 0).int 4 == 0) <;> rfl
/-- What an Add does. -/
theorem Pair.add {x has : List D} (h : Pair x has) (d : D) : Pair (put x (mdR d) (mdD d)) ((has.filter fun e => !hitF (mdR d) e) ++ [mdD d]) := by
  obtain ⟨m1, m2, m3, m4⟩ := mdD_at d
  have hmem : ∀ e, e ∈ put x (mdR d) (mdD d) ↔ e ∈ (has.filter fun e => !hitF (mdR d) e) ++ [mdD d] := by
    intro e
    rw [put_mem, List.mem_append, List.mem_filter, List.mem_singleton, h.mem e]
    unfold hitF
    constructor
    · rintro (h1 | ⟨h1, h2⟩)
      · exact .inr h1
      · exact .inl ⟨h1, by simpa using h2⟩
    · rintro (⟨h1, h2⟩ | h1)
      · exact .inr ⟨h1, by simpa using h2⟩
      · exact .inl h1
  have hfar : ((has.filter fun e => !hitF (mdR d) e) ++ [mdD d]).Pairwise Far := by
    rw [List.pairwise_append]
    refine ⟨h.far.filter _, List.pairwise_singleton _ _, ?_⟩
    intro a ha b hb
    rw [List.mem_singleton.1 hb]
    have := (List.mem_filter.1 ha).2
    unfold Far
    rw [m1]
    simpa [hitF] using this
  refine ⟨put_sorted h.sorted m1, hfar, hmem, ?_, ?_⟩
  · intro e he
    rcases List.mem_append.1 he with he | he
    · exact h.fine e (List.mem_filter.1 he).1
    · rw [List.mem_singleton.1 he]; exact ⟨m2, m3, m4, dataOwn_md d⟩
  · have ps := put_spec h.sorted (mdR d) (mdD d)
    have hl := hit_lt (x := x) (r := mdR d)
    have hh := h.hit (mdR d)
    rw [List.length_append, List.length_singleton]
    cases hq : hitB x (mdR d) with
    | true =>
      rw [hq] at hh
      rw [← ps.2.1 hq, List.length_set, far_one h.far hh.symm, h.len]
    | false =>
      rw [hq] at hh
      rw [put_length h.sorted hq, far_none hh.symm, h.len]
/-- What a Del does. -/
theorem del_filter {x : List D} (h : Sorted x) {r : Rk} (hq : hitB x r = true) : delD x (bsN x r) = x.filter fun e => !hitF r e := by
  have hn := bsN_eq h r
  have hs := sorted_split h r
  have hA : ∀ e ∈ x.filter (fun e => decide (cR e r < 0)), hitF r e = false := by
    intro e he
    have := of_decide_eq_true (List.mem_filter.1 he).2
    unfold hitF
    exact beq_eq_false_iff_ne.2 (by omega)
  rcases sorted_rest h r with ⟨_, h1⟩ | ⟨a, h1, h2, h3⟩
  · have := (put_spec h r default).1
    rw [hq, h1] at this
    cases this
  · rw [h3] at hs
    have hG : ∀ e ∈ x.filter (fun e => decide (cR e r > 0)), hitF r e = false := by
      intro e he
      have := of_decide_eq_true (List.mem_filter.1 he).2
      unfold hitF
      exact beq_eq_false_iff_ne.2 (by omega)
    generalize hAA : x.filter (fun e => decide (cR e r < 0)) = A at hs hA hn
    generalize hGG : x.filter (fun e => decide (cR e r > 0)) = G at hs hG
    have ha : hitF r a = true := by unfold hitF; simpa using h1
    unfold delD
    rw [hn, hs, List.filter_append, List.filter_cons]
    simp only [ha, Bool.not_true, Bool.false_eq_true, if_false]
    rw [List.filter_eq_self.2 (fun e he => by rw [hA e he]; rfl), List.filter_eq_self.2 (fun e he => by rw [hG e he]; rfl)]
    congr 1
    · rw [List.take_append_of_le_length (Nat.le_refl _), List.take_length]
    · rw [List.drop_append]
      simp
theorem Pair.del {x has : List D} (h : Pair x has) (r : Rk) (hq : hitB x r = true) : Pair (delD x (bsN x r)) (has.filter fun e => !hitF r e) := by
  have hh := h.hit r
  rw [hq] at hh
  rw [del_filter h.sorted hq]
  refine ⟨h.sorted.filter _, h.far.filter _, ?_, ?_, ?_⟩
  · intro e; rw [List.mem_filter, List.mem_filter, h.mem e]
  · intro e he; exact h.fine e (List.mem_filter.1 he).1
  · rw [← del_filter h.sorted hq]
    have h1 := far_one h.far hh.symm
    have h2 := hit_lt hq
    have h3 := h.len
    unfold delD
    rw [List.length_append, List.length_take, List.length_drop]
    omega

theorem far_eq : ∀ {has : List D} {a b : D}, has.Pairwise Far → a ∈ has → b ∈ has → ¬ Far a b → a = b
  | [], _, _, _, h, _, _ => by simp at h
  | c :: t, a, b, hf, ha, hb, hn => by
    obtain ⟨h1, h2⟩ := List.pairwise_cons.1 hf
    rcases List.mem_cons.1 ha with rfl | ha
    · rcases List.mem_cons.1 hb with rfl | hb
      · rfl
      · exact absurd (h1 b hb) hn
    · rcases List.mem_cons.1 hb with hbe | hb
      · exact absurd (hbe ▸ (h1 a ha).symm) hn
      · exact far_eq h2 ha hb hn
theorem last_fold {f : D → Bool} {v : D → Int} {c : Int} : ∀ (l : List D) (q : Int), (∀ e ∈ l, f e = true → v e = c) → l.foldl (fun q e => bif f e then v e else q) q = bif l.any f then c else q
  | [], q, _ => rfl
  | a :: t, q, h => by
    rw [List.foldl_cons, last_fold t _ (fun e he => h e (List.mem_cons_of_mem _ he)), List.any_cons]
    cases ha : f a with
    | true =>
      rw [h a List.mem_cons_self ha]
      cases t.any f <;> rfl
    | false => rfl
theorem any_same {x has : List D} (h : Pair x has) (f : D → Bool) : x.any f = has.any f := by
  rw [Bool.eq_iff_iff, List.any_eq_true, List.any_eq_true]
  constructor
  · rintro ⟨e, he, h1⟩; exact ⟨e, (h.mem e).1 he, h1⟩
  · rintro ⟨e, he, h1⟩; exact ⟨e, (h.mem e).2 he, h1⟩
/-- The first one that something is true of. -/
theorem Pair.first {x has : List D} (h : Pair x has) {f : D → Bool} (ha : x.any f = true) : x.getD (x.findIdx f) default ∈ has ∧ f (x.getD (x.findIdx f) default) = true ∧ ∀ e ∈ has, f e = true → 0 ≤ cR e (rkD (x.getD (x.findIdx f) default)) := by
  have hi := any_idx ha
  rw [getD_at hi]
  refine ⟨(h.mem _).1 (List.getElem_mem _), List.findIdx_getElem, ?_⟩
  intro e he hfe
  obtain ⟨j, hj, rfl⟩ := List.getElem_of_mem ((h.mem e).2 he)
  rcases Nat.lt_trichotomy j (x.findIdx f) with hlt | heq | hgt
  · have := List.not_of_lt_findIdx hlt
    rw [hfe] at this
    cases this
  · have : x[j] = x[x.findIdx f] := by congr 1
    rw [this]
    have := key_self (rkD x[x.findIdx f])
    unfold cR
    omega
  · have h1 := List.pairwise_iff_getElem.1 h.sorted _ _ hi hj hgt
    have h2 := lexC_anti (keyOf (rkD x[j])) (keyOf (rkD x[x.findIdx f]))
    unfold cR at h1 ⊢
    omega
theorem prio_le {e d : D} (h1 : (e.at 0).int = 1) (h2 : (d.at 0).int = 1) (h : 0 ≤ cR e (rkD d)) : (e.at 1).int ≤ (d.at 1).int := by
  unfold cR keyOf rkD at h
  simp only [h1, h2, beq_self_eq_true, cond_true] at h
  rw [lexC_cons, if_pos rfl, lexC_cons] at h
  split at h
  · omega
  · rcases cmpI_cases (-(e.at 1).int) (-(d.at 1).int) with ⟨_, e'⟩ | ⟨_, e'⟩ | ⟨_, e'⟩ <;> omega
theorem dat_cond (e : D) (ver port h0 h1 h2 : Int) : ((e.at 0).int != 1 || !fits_f (e.at 4).int (e.at 5).int (e.at 6).int (e.at 7).int (e.at 8).int (e.at 9).int (e.at 10).int (e.at 11).int ver port h0 h1 h2) = !datB ver port h0 h1 h2 e := by
  unfold datB
  rw [bne]
  cases ((e.at 0).int == 1) <;> rfl
theorem ctl_one {e d : D} {to : Int} (h1 : ctlB to e = true) (h2 : ctlB to d = true) : ¬ Far e d := by
  unfold ctlB at h1 h2
  simp only [Bool.and_eq_true, beq_iff_eq] at h1 h2
  unfold Far cR
  rw [Decidable.not_not, key_eq]
  unfold keyOf rkD
  simp only [h1.1, h1.2, h2.1, h2.2]
  rfl
def sameE (e x : D) : Bool := same_f (e.at 0).int (e.at 1).int (e.at 2).int (e.at 3).int (e.at 4).int (e.at 5).int (e.at 6).int (e.at 7).int (e.at 8).int (e.at 9).int (e.at 10).int (e.at 11).int (e.at 12).xs (x.at 0).int (x.at 1).int (x.at 2).int (x.at 3).int (x.at 4).int (x.at 5).int (x.at 6).int (x.at 7).int (x.at 8).int (x.at 9).int (x.at 10).int (x.at 11).int (x.at 12).xs
end Go.Proofs.Ytgodelllnilcfaa
