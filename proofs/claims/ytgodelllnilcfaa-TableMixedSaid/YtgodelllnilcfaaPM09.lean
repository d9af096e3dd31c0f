/-
  Plain laws: tables that rules were put in, one behind the other.
  No statement of the seat is proved here. Conditions: none.
-/
import Derived.Test.YtgodelllnilcfaaMX09
import Derived.Test.YtgodelllnilcfaaYBits
set_option linter.unusedSimpArgs false
set_option linter.unusedVariables false
namespace Go.Proofs.Ytgodelllnilcfaa
open Go.Sy

/-- A loop that counts. -/
theorem count_loop {B : St → Tree (Ex × St)} {tm : Nat → St} {n : Nat} {fin : Ex × St} (step : ∀ k, k < n → (B (tm k)).run = some (.normal, tm (k + 1))) (stop : (B (tm n)).run = some fin) (hn : fin.1 ≠ .normal) : ∃ m, iterC B m (tm 0) = some fin := by
  have : ∀ j k, k + j = n → ∃ m, iterC B m (tm k) = some fin := by
    intro j
    induction j with
    | zero => intro k h; have hk : k = n := by omega
              subst hk; exact iterC_stop (ex := fin.1) (st' := fin.2) stop hn
    | succ j ih => intro k h; exact iterC_step (step k (by omega)) (ih (k + 1) (by omega))
  exact this n 0 (by omega)

def putD (x : List D) (d : D) : List D := insD x (bsN x (rkD d)) d
def tabN (w : List D) (k : Nat) : List D := (w.take k).foldl putD []
def Far (a b : D) : Prop := cR a (rkD b) ≠ 0
theorem Far.symm {a b : D} (h : Far a b) : Far b a := by
  intro h0
  apply h
  unfold cR at h0 ⊢
  exact (key_eq _ _).2 ((key_eq _ _).1 h0).symm
theorem tabN_succ {w : List D} {k : Nat} (h : k < w.length) : tabN w (k + 1) = putD (tabN w k) (w.getD k default) := by
  unfold tabN
  rw [List.take_succ_eq_append_getElem h, List.foldl_append, getD_at h]
  rfl
theorem tabN_spec {w : List D} (hf : w.Pairwise Far) : ∀ k, k ≤ w.length → Sorted (tabN w k) ∧ (tabN w k).length = k ∧ ∀ e, e ∈ tabN w k ↔ e ∈ w.take k
  | 0, _ => by simp [tabN, Sorted]
  | k + 1, h => by
    obtain ⟨h1, h2, h3⟩ := tabN_spec hf k (by omega)
    have hk : k < w.length := by omega
    have hn : hitB (tabN w k) (rkD (w.getD k default)) = false := by
      rw [(put_spec h1 (rkD (w.getD k default)) (w.getD k default)).1, List.any_eq_false]
      intro e he
      have he' := (h3 e).1 he
      obtain ⟨j, hj, rfl⟩ := List.getElem_of_mem he'
      rw [List.length_take] at hj
      rw [List.getElem_take, getD_at hk]
      have : cR w[j] (rkD w[k]) ≠ 0 := List.pairwise_iff_getElem.1 hf j k (by omega) hk (by omega)
      simpa using this
    have hp : putD (tabN w k) (w.getD k default) = put (tabN w k) (rkD (w.getD k default)) (w.getD k default) := (put_spec h1 _ _).2.2 hn
    have hl := put_length h1 (d := w.getD k default) hn
    rw [tabN_succ hk, hp]
    refine ⟨put_sorted h1 rfl, by rw [hl, h2], fun e => ?_⟩
    rw [put_mem, List.take_succ_eq_append_getElem hk, List.mem_append, List.mem_singleton, getD_at hk, h3]
    constructor
    · rintro (h | h)
      · exact .inr h
      · exact .inl h.1
    · rintro (h | h)
      · right
        refine ⟨h, ?_⟩
        obtain ⟨j, hj, rfl⟩ := List.getElem_of_mem h
        rw [List.length_take] at hj
        rw [List.getElem_take]
        exact List.pairwise_iff_getElem.1 hf j k (by omega) hk (by omega)
      · exact .inl h
theorem tabN_hit {w : List D} (hf : w.Pairwise Far) {k : Nat} (hk : k < w.length) : hitB (tabN w k) (rkD (w.getD k default)) = false := by
  obtain ⟨h1, h2, h3⟩ := tabN_spec hf k (by omega)
  rw [(put_spec h1 (rkD (w.getD k default)) (w.getD k default)).1, List.any_eq_false]
  intro e he
  have he' := (h3 e).1 he
  obtain ⟨j, hj, rfl⟩ := List.getElem_of_mem he'
  rw [List.length_take] at hj
  rw [List.getElem_take, getD_at hk]
  have : cR w[j] (rkD w[k]) ≠ 0 := List.pairwise_iff_getElem.1 hf j k (by omega) hk (by omega)
  simpa using this
theorem tabN_hit2 {w : List D} (hf : w.Pairwise Far) {k m : Nat} (hk : k < w.length) (hm : m ≤ k) : hitB (tabN w m) (rkD (w.getD k default)) = false := by
  obtain ⟨h1, h2, h3⟩ := tabN_spec hf m (by omega)
  rw [(put_spec h1 (rkD (w.getD k default)) (w.getD k default)).1, List.any_eq_false]
  intro e he
  have he' := (h3 e).1 he
  obtain ⟨j, hj, rfl⟩ := List.getElem_of_mem he'
  rw [List.length_take] at hj
  rw [List.getElem_take, getD_at hk]
  have : cR w[j] (rkD w[k]) ≠ 0 := List.pairwise_iff_getElem.1 hf j k (by omega) hk (by omega)
  simpa using this
theorem outs_few {d : D} (h : cpy d = d) (h2 : outsFew d = true) : fewB (d.at 12).xs.length = true := by
  have h3 := fine_short h h2
  unfold outsFew at h2
  cases hn : (d.at 12).nl with
  | false => rw [hn, Bool.false_or] at h2; exact h2
  | true => rw [← h]; unfold cpy; rw [hn]; rfl
/-- The same, turned. -/
def rotL (w : List D) (t : Nat) : List D := (List.range w.length).map fun i => w.getD ((i + t) % w.length) default
theorem rotL_length (w : List D) (t : Nat) : (rotL w t).length = w.length := by simp [rotL]
theorem rotL_get {w : List D} {t k : Nat} (hk : k < w.length) : (rotL w t).getD k default = w.getD ((k + t) % w.length) default := by
  rw [getD_at (by rw [rotL_length]; exact hk)]
  simp [rotL]
theorem rot_inj {n t i j : Nat} (hi : i < n) (hj : j < n) (h : (i + t) % n = (j + t) % n) : i = j := by
  have h1 := Nat.sub_mod_eq_zero_of_mod_eq h
  have h2 := Nat.sub_mod_eq_zero_of_mod_eq h.symm
  rw [Nat.mod_eq_of_lt (by omega)] at h1 h2
  omega
theorem rotL_far {w : List D} (hf : w.Pairwise Far) (t : Nat) : (rotL w t).Pairwise Far := by
  rw [List.pairwise_iff_getElem]
  intro i j hi hj hij
  rw [rotL_length] at hi hj
  have hn : 0 < w.length := by omega
  have h1 := rotL_get (w := w) (t := t) hi
  have h2 := rotL_get (w := w) (t := t) hj
  rw [getD_at (by rw [rotL_length]; exact hi), getD_at (Nat.mod_lt _ hn)] at h1
  rw [getD_at (by rw [rotL_length]; exact hj), getD_at (Nat.mod_lt _ hn)] at h2
  rw [h1, h2]
  have hne : (i + t) % w.length ≠ (j + t) % w.length := fun h => by have := rot_inj hi hj h; omega
  rcases Nat.lt_or_ge ((i + t) % w.length) ((j + t) % w.length) with h | h
  · exact List.pairwise_iff_getElem.1 hf _ _ _ _ h
  · exact (List.pairwise_iff_getElem.1 hf _ _ (Nat.mod_lt _ hn) (Nat.mod_lt _ hn) (by omega)).symm
theorem rotL_mem {w : List D} {t : Nat} {e : D} : e ∈ rotL w t ↔ e ∈ w := by
  unfold rotL
  rw [List.mem_map]
  constructor
  · rintro ⟨i, hi, rfl⟩
    have hi' : i < w.length := by simpa using hi
    rw [getD_at (Nat.mod_lt _ (by omega))]
    exact List.getElem_mem _
  · intro h
    obtain ⟨j, hj, rfl⟩ := List.getElem_of_mem h
    refine ⟨(j + (w.length - t % w.length)) % w.length, by simpa using Nat.mod_lt _ (by omega), ?_⟩
    have ht : t % w.length < w.length := Nat.mod_lt _ (by omega)
    have e1 : ((j + (w.length - t % w.length)) % w.length + t) % w.length = j := by
      have h0 := Nat.div_add_mod t w.length
      rw [Nat.mod_add_mod, show j + (w.length - t % w.length) + t = j + w.length * (t / w.length + 1) by rw [Nat.mul_add]; omega, Nat.add_mul_mod_self_left, Nat.mod_eq_of_lt hj]
    rw [e1, getD_at hj]
theorem bringI_range (i : Int) {n : Int} (h : 0 < n) (h2 : n ≤ 1000) : 0 ≤ bringI i n ∧ bringI i n < n := by
  have h3 := Int.tmod_lt_of_pos i h
  have h4 := Int.lt_tmod_of_pos i h
  unfold bringI
  by_cases hq : Int.tmod i n < 0
  · rw [decide_eq_true hq, cond_true, wrap64 (by omega) (by omega)]
    omega
  · rw [decide_eq_false hq, cond_false]
    omega
theorem andNot_band (i b : Int) : bits .andNot .u8 (band i b) b = 0 := by
  unfold band
  rw [and_un, andNot_un, bv_un, un_zero, bv_ext]
  intro k hk
  simp only [BitVec.getLsbD_and, BitVec.getLsbD_not, BitVec.getLsbD_zero]
  cases (bv i).getLsbD k <;> cases (bv b).getLsbD k <;> simp
def mdO (d : D) : List D := bif Int.tmod (d.at 0).int 4 == 0 then [] else datO d
theorem chkR_ctl (d : D) : chkR (ctlR d) [] = 0 := by
  have h1 := bringI_range (d.at 2).int (n := 7) (by omega) (by omega)
  have h2 := bringI_range (d.at 3).int (n := 5) (by omega) (by omega)
  unfold chkR chk_f ctlR
  have d1 : decide (0 ≤ bringI (d.at 2).int 7) = true := decide_eq_true h1.1
  have d2 : decide (bringI (d.at 2).int 7 ≤ 6) = true := decide_eq_true (by omega)
  have d3 : decide (0 ≤ bringI (d.at 3).int 5) = true := decide_eq_true h2.1
  have d4 : decide (bringI (d.at 3).int 5 ≤ 4) = true := decide_eq_true (by omega)
  simp only [d1, d2, d3, d4]
  rfl
theorem chkR_dat (d : D) : chkR (datR d) (datO d) = 0 := by
  have h1 := bringI_range (d.at 1).int (n := 4) (by omega) (by omega)
  have h2 := bringI_range (d.at 3).int (n := 5) (by omega) (by omega)
  have h3 := bringI_range (d.at 4).int (n := 3) (by omega) (by omega)
  have h4 := bringI_range (d.at 5).int (n := 6) (by omega) (by omega)
  unfold chkR chk_f mtch_f datR
  simp only [andNot_band]
  have d1 : decide (0 ≤ bringI (d.at 1).int 4) = true := decide_eq_true h1.1
  have d2 : decide (bringI (d.at 1).int 4 ≤ 65535) = true := decide_eq_true (by omega)
  have d3 : decide (0 ≤ bringI (d.at 4).int 3) = true := decide_eq_true h3.1
  have d4 : decide (bringI (d.at 4).int 3 ≤ 200) = true := decide_eq_true (by omega)
  have e5 : IntKind.wrap .i64 (bringI (d.at 5).int 6 - 1) = bringI (d.at 5).int 6 - 1 := wrap64 (by omega) (by omega)
  have d5 : decide (-1 ≤ bringI (d.at 5).int 6 - 1) = true := decide_eq_true (by omega)
  have d6 : decide (bringI (d.at 5).int 6 - 1 ≤ 4) = true := decide_eq_true (by omega)
  have d7 : decide (0 ≤ bringI (d.at 3).int 5) = true := decide_eq_true h2.1
  have d8 : decide (bringI (d.at 3).int 5 ≤ 4) = true := decide_eq_true (by omega)
  have b1 : (datO d).any badO = false := by
    have e1 : mayO (.a [.i (bringI (d.at 3).int 5), .i (-1), .i (-1), .i (-1)]) = true := by
      show outmay_f (bringI (d.at 3).int 5) (-1) (-1) (-1) = true
      unfold outmay_f
      rw [d7, d8]
      rfl
    unfold datO
    simp only [List.any_cons, List.any_nil, badO, e1]
    rfl
  simp only [d1, d2, d3, d4, e5, d5, d6, b1]
  rfl
theorem mdD_at (d : D) : rkD (mdD d) = mdR d ∧ cpy (mdD d) = mdD d ∧ outsFew (mdD d) = true ∧ chkR (rkD (mdD d)) ((mdD d).at 12).xs = 0 := by
  unfold mdD mdR
  cases h : (Int.tmod (d.at 0).int 4 == 0) with
  | true =>
    simp only [cond_true]
    refine ⟨rfl, cpy_cpD _ _ _, rfl, ?_⟩
    exact chkR_ctl d
  | false =>
    simp only [cond_false]
    refine ⟨rfl, cpy_cpD _ _ _, rfl, ?_⟩
    exact chkR_dat d
theorem rot_idx {k len : Nat} {b : Int} (hk : k < len) (hb : 0 ≤ b ∧ b < len) (hl : len ≤ 60) : Int.tmod (IntKind.wrap .i64 ((k : Int) + b)) (len : Int) = (((k + b.toNat) % len : Nat) : Int) := by
  obtain ⟨m, rfl⟩ := Int.eq_ofNat_of_zero_le hb.1
  rw [wrap64 (by omega) (by omega), Int.tmod_eq_emod_of_nonneg (by omega), Int.toNat_natCast, Int.natCast_emod, Int.natCast_add]
theorem rk_fold (d : D) : ({ k := D.int (D.at d 0), pr := D.int (D.at d 1), to := D.int (D.at d 2), po := D.int (D.at d 3), v := D.int (D.at d 4), p := D.int (D.at d 5), b0 := D.int (D.at d 6), b1 := D.int (D.at d 7), b2 := D.int (D.at d 8), i0 := D.int (D.at d 9), i1 := D.int (D.at d 10), i2 := D.int (D.at d 11) } : Rk) = rkD d := rfl
theorem cpy_fold (d : D) : cpD (rkD d) (D.nl (D.at d 12)) (D.xs (D.at d 12)) = cpy d := rfl
theorem putD_empty (x : List D) (d : D) : (putD x d).isEmpty = false := by simp [putD, insD]
theorem putD_fold (x : List D) (d : D) : insD x (bsN x (rkD d)) d = putD x d := rfl
structure GoodW (w : List D) : Prop where
  fine : ∀ d ∈ w, cpy d = d ∧ outsFew d = true ∧ chkR (rkD d) (d.at 12).xs = 0
  far : w.Pairwise Far
theorem GoodW.tab {w : List D} (h : GoodW w) : Fine (tabN w w.length) := by
  intro e he
  have h1 := ((tabN_spec h.far w.length (Nat.le_refl _)).2.2 e).1 he
  rw [List.take_length] at h1
  exact ⟨(h.fine e h1).1, (h.fine e h1).2.1⟩
theorem tab_rot {w : List D} (h : w.Pairwise Far) (t : Nat) : tabN (rotL w t) w.length = tabN w w.length := by
  have hl := rotL_length w t
  have h1 := tabN_spec (rotL_far h t) w.length (by omega)
  have h2 := tabN_spec h w.length (Nat.le_refl _)
  refine sorted_ext h1.1 h2.1 fun e => ?_
  rw [h1.2.2, h2.2.2, List.take_of_length_le (by omega), List.take_length]
  exact rotL_mem
theorem sorted_next {x : List D} (h : Sorted x) {k : Nat} (hk : k < x.length) (h0 : 0 < k) : lexC (keyOf (rkD (x.getD (k - 1) default))) (keyOf (rkD (x.getD k default))) < 0 := by
  rw [getD_at (by omega), getD_at hk]
  exact List.pairwise_iff_getElem.1 h (k - 1) k (by omega) hk (by omega)
theorem oStep_good {w : List D} (h : GoodW w) (d : D) : GoodW (oStep w d) ∧ (oStep w d).length ≤ w.length + 1 := by
  refine ⟨?_, oStep_length w d⟩
  unfold oStep
  cases ha : w.all (farB (mdR d)) with
  | false => exact h
  | true =>
    have hm := mdD_at d
    simp only [cond_true]
    refine ⟨?_, ?_⟩
    · intro e he
      rcases List.mem_append.1 he with he | he
      · exact h.fine e he
      · rw [List.mem_singleton.1 he]; exact hm.2
    · rw [List.pairwise_append]
      refine ⟨h.far, List.pairwise_singleton _ _, ?_⟩
      intro a ha' b hb
      rw [List.mem_singleton.1 hb]
      have := List.all_eq_true.1 ha a ha'
      unfold Far
      rw [hm.1]
      simpa [farB] using this
theorem oFold_good : ∀ (l w : List D), GoodW w → GoodW (l.foldl oStep w) ∧ (l.foldl oStep w).length ≤ w.length + l.length
  | [], w, h => ⟨h, by simp⟩
  | d :: r, w, h => by
    have h1 := oStep_good h d
    have h2 := oFold_good r _ h1.1
    refine ⟨h2.1, ?_⟩
    simp only [List.foldl_cons, List.length_cons]
    omega
theorem oAll_good (l : List D) : GoodW (oAll l) ∧ (oAll l).length ≤ 60 := by
  have h := oFold_good (l.take 60) [] ⟨(fun e he => absurd he (by simp)), List.Pairwise.nil⟩
  refine ⟨h.1, ?_⟩
  have := h.2
  simp at this
  unfold oAll
  omega
end Go.Proofs.Ytgodelllnilcfaa
