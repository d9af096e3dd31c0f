/-
  A region that draws its order: the operations ahead of the last ones, in whatever order.
  No statement of the seat is proved here. Conditions: none.
-/
import Derived.Test.YtmokkonnilmdfaaY14
set_option linter.unusedSimpArgs false
set_option linter.unusedVariables false
namespace Go.Sy
open Go.RowKit

/-! ### 1. Slots -/

theorem getElem?_putS (tm : Tm) (d : Option Tmp) (s : Slot) (t : Nat) : (putS tm d s)[t]? = if d = some t ∧ t < tm.length then some s else tm[t]? := by
  cases d with
  | none => simp [putS]
  | some d =>
    simp only [putS, Tm.getElem?_set, Option.some.injEq]
    by_cases h : d = t
    · subst h
      by_cases h2 : d < tm.length
      · simp [h2]
      · simp [h2, Tm.get_none h2]
    · simp [h]

theorem tmAt_get : ∀ (l : List Oper) (rs : List Res) (tm : Tm) (t : Nat) (s : Slot), rs.length = l.length → (tmAt l rs tm)[t]? = some s →
    (∃ (j : Nat) (o : Oper) (x : Res), l[j]? = some o ∧ rs[j]? = some x ∧ o.dst = some t ∧ x.1 = s) ∨ ((∀ (j : Nat) (o : Oper), l[j]? = some o → o.dst ≠ some t) ∧ tm[t]? = some s)
  | [], [], tm, t, s, _, h => .inr ⟨fun j o hj => by simp at hj, by simpa [tmAt] using h⟩
  | [], x :: rs, tm, t, s, hl, h => by simp at hl
  | o :: l, [], tm, t, s, hl, h => by simp at hl
  | o :: l, x :: rs, tm, t, s, hl, h => by
    simp only [tmAt] at h
    rcases tmAt_get l rs _ t s (by simpa using hl) h with ⟨j, o', x', h1, h2, h3, h4⟩ | ⟨h1, h2⟩
    · exact .inl ⟨j + 1, o', x', by simpa using h1, by simpa using h2, h3, h4⟩
    · rw [getElem?_putS] at h2
      split at h2
      · rename_i hc
        simp only [Option.some.injEq] at h2
        exact .inl ⟨0, o, x, rfl, rfl, hc.1, h2⟩
      · rename_i hc
        refine .inr ⟨fun j o' hj => ?_, h2⟩
        cases j with
        | zero =>
          simp at hj; subst hj
          intro hd
          refine hc ⟨hd, ?_⟩
          exact Tm.lt_of_get h2
        | succ j => exact h1 j o' (by simpa using hj)

theorem tmAt_length : ∀ (l : List Oper) (rs : List Res) (tm : Tm), (tmAt l rs tm).length = tm.length
  | [], _, tm => by simp [tmAt]
  | o :: l, [], tm => by simp [tmAt]
  | o :: l, x :: rs, tm => by
    simp only [tmAt]
    rw [tmAt_length l rs]
    cases o.dst <;> simp [putS, Tm.length_set]

/-! ### 2. What names hold -/

theorem evAt_congr {k : Nat} {L L' : Nat → Bool} : ∀ (rs : List Res) (s : Nat) (acc : Option Blk), (∀ i x b, rs[i]? = some x → x.2 = some (k, b) → L (s + i) = L' (s + i)) → evAt L k s rs acc = evAt L' k s rs acc
  | [], s, acc, h => rfl
  | x :: r, s, acc, h => by
    simp only [evAt]
    have ih := fun acc => evAt_congr (k := k) (L := L) (L' := L') r (s + 1) acc (fun i y b hi hy => by
      have := h (i + 1) y b (by simpa using hi) hy
      rw [show s + 1 + i = s + (i + 1) by omega]; exact this)
    cases hx : x.2 with
    | none => exact ih acc
    | some p =>
      obtain ⟨k', b⟩ := p
      simp only
      by_cases hk : k' = k
      · subst hk
        have := h 0 x b rfl hx
        simp only [Nat.add_zero] at this
        rw [this]; exact ih _
      · have : Nat.beq k' k = false := nbf.2 hk
        rw [this]; exact ih acc

theorem evAt_skip {k : Nat} {L : Nat → Bool} : ∀ (rs : List Res) (s : Nat) (acc : Option Blk), (∀ i x b, rs[i]? = some x → x.2 = some (k, b) → L (s + i) = false) → evAt L k s rs acc = acc
  | [], s, acc, h => rfl
  | x :: r, s, acc, h => by
    simp only [evAt]
    have ih := fun acc => evAt_skip r (s + 1) acc (fun i y b hi hy => by
      have := h (i + 1) y b (by simpa using hi) hy
      rw [show s + 1 + i = s + (i + 1) by omega]; exact this)
    cases hx : x.2 with
    | none => exact ih acc
    | some p =>
      obtain ⟨k', b⟩ := p
      simp only
      by_cases hk : k' = k
      · subst hk
        have := h 0 x b rfl hx
        simp only [Nat.add_zero] at this
        rw [this, Bool.and_false]; exact ih acc
      · have : Nat.beq k' k = false := nbf.2 hk
        rw [this]; exact ih acc

theorem evAt_append {k : Nat} {L : Nat → Bool} : ∀ (rs ts : List Res) (s : Nat) (acc : Option Blk), evAt L k s (rs ++ ts) acc = evAt L k (s + rs.length) ts (evAt L k s rs acc)
  | [], ts, s, acc => by simp [evAt]
  | x :: r, ts, s, acc => by
    simp only [List.cons_append, evAt, List.length_cons]
    rw [evAt_append r ts (s + 1)]
    rw [show s + 1 + r.length = s + (r.length + 1) by omega]

theorem evAt_last {k : Nat} {L : Nat → Bool} {rs : List Res} {i : Nat} {x : Res} {b : Blk} (hi : rs[i]? = some x) (hx : x.2 = some (k, b)) (hL : L i = true) (hlast : ∀ j y b', i < j → rs[j]? = some y → y.2 = some (k, b') → L j = false) (acc : Option Blk) :
    evAt L k 0 rs acc = some b := by
  have hil : i < rs.length := (List.getElem?_eq_some_iff.1 hi).1
  have hs : rs = rs.take i ++ x :: rs.drop (i + 1) := by
    have : rs[i] = x := (List.getElem?_eq_some_iff.1 hi).2
    rw [← this, List.getElem_cons_drop, List.take_append_drop]
  rw [hs, evAt_append]
  have hl : (rs.take i).length = i := by simp; omega
  simp only [evAt, hx, hl, Nat.zero_add, hL]
  have : Nat.beq k k = true := by simp
  rw [this]
  simp only [Bool.and_true]
  refine evAt_skip _ _ _ fun j y b' hj hy => ?_
  rw [List.getElem?_drop] at hj
  exact hlast (i + 1 + j) y b' (by omega) hj hy

theorem evAll_spec {b k : Nat} : ∀ (rs : List Res) (s : Nat), evAll b k s rs = true → ∀ i x c, rs[i]? = some x → x.2 = some (k, c) → b.testBit (s + i) = true
  | [], s, h, i, x, c, hi, hx => by simp at hi
  | y :: r, s, h, i, x, c, hi, hx => by
    simp only [evAll, Bool.and_eq_true] at h
    cases i with
    | zero =>
      simp at hi; subst hi
      rw [hx] at h
      simpa using h.1
    | succ i =>
      have := evAll_spec r (s + 1) h.2 i x c (by simpa using hi) hx
      rwa [show s + 1 + i = s + (i + 1) by omega] at this

theorem noEv_spec : ∀ {rs : List Res}, noEv rs = true → ∀ (L : Nat → Bool) (k s : Nat) (acc : Option Blk), evAt L k s rs acc = acc
  | [], _, L, k, s, acc => rfl
  | x :: r, h, L, k, s, acc => by
    simp only [noEv, Bool.and_eq_true] at h
    simp only [evAt]
    cases hx : x.2 with
    | none => exact noEv_spec h.2 L k (s + 1) acc
    | some p => rw [hx] at h; simp at h

theorem newsFor_length (m b : Nat) (rs : List Res) : (newsFor m b rs).length = m := by
  unfold newsFor; split <;> simp

theorem newsFor_get {m b : Nat} {rs : List Res} {k : Nat} {c : Blk} (h : (newsFor m b rs)[k]? = some (some c)) : k < m ∧ b.testBit k = true ∧ evAll b k 0 rs = true ∧ evAt b.testBit k 0 rs none = some c := by
  unfold newsFor at h
  split at h
  · rw [List.getElem?_replicate] at h
    split at h <;> simp at h
  · rw [List.getElem?_map] at h
    cases hr : (List.range m)[k]? with
    | none => rw [hr] at h; simp at h
    | some k' =>
      have hk : k < m := by have := (List.getElem?_eq_some_iff.1 hr).1; simpa using this
      rw [List.getElem?_range hk] at hr
      simp only [Option.some.injEq] at hr; subst hr
      rw [List.getElem?_range hk] at h
      simp only [Option.map_some, Option.some.injEq] at h
      split at h
      · rename_i hc
        simp only [Bool.and_eq_true] at hc
        exact ⟨hk, hc.1, hc.2, h⟩
      · cases h

/-- All names of the region's own. -/
def newsL (m : Nat) (rs : List Res) (L : Nat → Bool) : List (Option Blk) := (List.range m).map fun k => evAt L k 0 rs none
theorem newsL_length (m : Nat) (rs : List Res) (L : Nat → Bool) : (newsL m rs L).length = m := by simp [newsL]
theorem newsL_get {m : Nat} {rs : List Res} {L : Nat → Bool} {k : Nat} (h : k < m) : (newsL m rs L)[k]? = some (evAt L k 0 rs none) := by
  unfold newsL; rw [List.getElem?_map, List.getElem?_range h]; rfl

/-- What the checks say of who turns what. -/
def EvsFine (m : Nat) (b : List Nat) (rs : List Res) : Prop := ∀ j x k c, rs[j]? = some x → x.2 = some (k, c) → k < m → k = j ∨ ((b.getD j 0).testBit k = true ∧ ∀ i, i < j → (b.getD i 0).testBit k = true → (b.getD j 0).testBit i = true)
theorem memU_iff : ∀ {U : Outs} {i k : Nat}, memU U i k = true → (i, k) ∈ U
  | [], i, k, h => by simp [memU] at h
  | (j, q) :: r, i, k, h => by
    simp only [memU] at h
    split at h
    · rename_i hc
      simp only [Bool.and_eq_true, Nat.beq_eq] at hc
      obtain ⟨rfl, rfl⟩ := hc
      simp
    · exact List.mem_cons_of_mem _ (memU_iff h)
theorem evsOk_out {m : Nat} {U : Outs} {b : List Nat} : ∀ (rs : List Res) (s : Nat), evsOk m U b s rs = true → ∀ j x k c, rs[j]? = some x → x.2 = some (k, c) → m ≤ k → (s + j, k - m) ∈ U
  | [], s, h, j, x, k, c, hj, hx => by simp at hj
  | y :: r, s, h, j, x, k, c, hj, hx => by
    simp only [evsOk, Bool.and_eq_true] at h
    intro hmk
    cases j with
    | zero =>
      simp at hj; subst hj
      have h1 := h.1
      rw [hx] at h1
      have hb : Nat.ble m k = true := by simpa using hmk
      simp only [hb] at h1
      exact memU_iff h1
    | succ j =>
      have := evsOk_out r (s + 1) h.2 j x k c (by simpa using hj) hx hmk
      rwa [show s + 1 + j = s + (j + 1) by omega] at this
theorem evsOk_fine {m : Nat} {U : Outs} {b : List Nat} : ∀ (rs : List Res) (s : Nat), evsOk m U b s rs = true → ∀ j x k c, rs[j]? = some x → x.2 = some (k, c) → k < m → k = s + j ∨ ((b.getD (s + j) 0).testBit k = true ∧ ∀ i, i < s + j → (b.getD i 0).testBit k = true → (b.getD (s + j) 0).testBit i = true)
  | [], s, h, j, x, k, c, hj, hx => by simp at hj
  | y :: r, s, h, j, x, k, c, hj, hx => by
    simp only [evsOk, Bool.and_eq_true] at h
    intro hmk
    cases j with
    | zero =>
      simp at hj; subst hj
      have h1 := h.1
      rw [hx] at h1
      have hb : Nat.ble m k = false := by
        cases hb : Nat.ble m k with
        | false => rfl
        | true => simp only [Nat.ble_eq] at hb; omega
      simp only [hb] at h1
      simp only [Bool.or_eq_true, Bool.and_eq_true, List.all_eq_true, List.mem_range, Bool.not_eq_true'] at h1
      rcases h1 with h1 | ⟨h1, h2⟩
      · exact .inl (by simpa using h1)
      · refine .inr ⟨by simpa using h1, fun i hi hb => ?_⟩
        have := h2 i (by simpa using hi)
        rw [hb] at this
        simpa using this
    | succ j =>
      have := evsOk_fine r (s + 1) h.2 j x k c (by simpa using hj) hx hmk
      rwa [show s + 1 + j = s + (j + 1) by omega] at this

section
variable {b : List Nat} {rs : List Res} {L : Nat → Bool} {m i : Nat}

theorem newsL_none (hx : ∀ x k c, rs[i]? = some x → x.2 = some (k, c) → m ≤ k) : newsL m rs (more L i) = newsL m rs L := by
  unfold newsL
  apply List.map_congr_left
  intro k hk
  refine evAt_congr _ _ _ fun j y c hj hy => ?_
  simp only [Nat.zero_add, more]
  by_cases he : j = i
  · subst he
    have := hx y k c hj hy
    simp only [List.mem_range] at hk
    omega
  · simp [he]

/-- Nobody behind an operation that turns k has turned it yet. -/
theorem ev_last (hf : EvsFine m b rs) (hlow : ∀ k j, (b.getD k 0).testBit j = true → j < k) (hcl : ∀ j, L j = true → ∀ k, (b.getD j 0).testBit k = true → L k = true) (hLi : L i = false) {x : Res} {k : Nat} {c : Blk} (hi : rs[i]? = some x) (hx : x.2 = some (k, c)) (hkm : k < m) :
    ∀ j y c', i < j → rs[j]? = some y → y.2 = some (k, c') → L j = false := by
  intro j y c' hij hj hy
  cases hLj : L j with
  | false => rfl
  | true =>
    rcases hf j y k c' hj hy hkm with rfl | ⟨h1, h2⟩
    · rcases hf i x k c hi hx hkm with rfl | ⟨h3, _⟩
      · omega
      · have := hlow i k h3; omega
    · rcases hf i x k c hi hx hkm with rfl | ⟨h3, _⟩
      · have := hcl j hLj k h1; rw [hLi] at this; cases this
      · have := hcl j hLj i (h2 i hij h3); rw [hLi] at this; cases this

theorem newsL_event (H0 : Hp) (hf : EvsFine m b rs) (hlow : ∀ k j, (b.getD k 0).testBit j = true → j < k) (hcl : ∀ j, L j = true → ∀ k, (b.getD j 0).testBit k = true → L k = true) (hLi : L i = false) {x : Res} {k : Nat} {c : Blk} (hi : rs[i]? = some x) (hx : x.2 = some (k, c)) (hkm : k < m) :
    H0 ++ newsL m rs (more L i) = (H0 ++ newsL m rs L).set (H0.length + k) (some c) := by
  rw [List.set_append_right _ _ (by omega), Nat.add_sub_cancel_left]
  congr 1
  apply List.ext_getElem?
  intro q
  rw [List.getElem?_set, newsL_length]
  by_cases hq : q < m
  · rw [newsL_get hq]
    by_cases hk : k = q
    · subst hk
      rw [if_pos rfl, if_pos hq]
      congr 1
      refine evAt_last hi hx (by simp [more]) (fun j y c' hij hj hy => ?_) none
      have := ev_last hf hlow hcl hLi hi hx hkm j y c' hij hj hy
      have hne : ¬ j = i := by omega
      simp [more, this, hne]
    · rw [if_neg hk, newsL_get hq]
      congr 1
      refine evAt_congr _ _ _ fun j y c' hj hy => ?_
      simp only [Nat.zero_add, more]
      by_cases he : j = i
      · subst he
        rw [hi] at hj; simp only [Option.some.injEq] at hj; subst hj
        rw [hx] at hy; simp only [Option.some.injEq, Prod.mk.injEq] at hy
        exact absurd hy.1 hk
      · simp [he]
  · rw [List.getElem?_eq_none (by rw [newsL_length]; omega)]
    by_cases hk : k = q
    · rw [if_pos hk, if_neg (by omega)]
    · rw [if_neg hk, List.getElem?_eq_none (by rw [newsL_length]; omega)]

/-- What an operation knows of the region's own blocks, holds. -/
theorem news_known (hf : EvsFine m b rs) (hlow : ∀ k j, (b.getD k 0).testBit j = true → j < k) (hcl : ∀ j, L j = true → ∀ k, (b.getD j 0).testBit k = true → L k = true) (hLi : L i = false) (hbi : ∀ k, (b.getD i 0).testBit k = true → L k = true)
    {k : Nat} {c : Blk} (h : (newsFor m (b.getD i 0) (rs.take i))[k]? = some (some c)) : (newsL m rs L)[k]? = some (some c) := by
  obtain ⟨hk, h1, h2, h3⟩ := newsFor_get h
  rw [newsL_get hk]
  congr 1
  rw [← h3]
  have e1 : evAt L k 0 rs none = evAt (b.getD i 0).testBit k 0 rs none := by
    refine evAt_congr _ _ _ fun j y c' hj hy => ?_
    simp only [Nat.zero_add]
    rcases Nat.lt_trichotomy j i with hlt | he | hgt
    · have := evAll_spec _ _ h2 j y c' (by rw [List.getElem?_take, if_pos hlt]; exact hj) hy
      simp only [Nat.zero_add] at this
      rw [this, hbi j this]
    · subst he
      rw [hLi]
      cases hb : (b.getD j 0).testBit j with
      | false => rfl
      | true => have := hlow j j hb; omega
    · have hz : (b.getD i 0).testBit j = false := by
        cases hb : (b.getD i 0).testBit j with
        | false => rfl
        | true => have := hlow i j hb; omega
      rw [hz]
      cases hLj : L j with
      | false => rfl
      | true =>
        rcases hf j y k c' hj hy hk with rfl | ⟨_, g2⟩
        · have := hlow i k h1; omega
        · have := hcl j hLj i (g2 i hgt h1); rw [hLi] at this; cases this
  rw [e1]
  have hs : rs = rs.take i ++ rs.drop i := (List.take_append_drop i rs).symm
  conv => lhs; rw [hs]
  rw [evAt_append]
  refine evAt_skip _ _ _ fun j y c' hj hy => ?_
  rw [List.getElem?_drop] at hj
  have hjl : i + j < rs.length := (List.getElem?_eq_some_iff.1 hj).1
  have hl : (rs.take i).length = i := by simp; omega
  rw [hl, Nat.zero_add]
  cases hb : (b.getD i 0).testBit (i + j) with
  | false => rfl
  | true => have := hlow i (i + j) hb; omega
end

/-! ### 2b. The blocks that were there -/
section
variable {b : List Nat} {rs : List Res} {L : Nat → Bool} {m i : Nat} {U : Outs} {H0 : Hp}
theorem outL_length : ∀ (V : Outs) (H : Hp), (outL m rs L H0 V H).length = H.length
  | [], H => rfl
  | (_, q) :: r, H => by simp only [outL]; rw [outL_length r]; simp
theorem outFor_length : ∀ (V : Outs) (H : Hp), (outFor m b i rs U H0 V H).length = H.length
  | [], H => rfl
  | (_, q) :: r, H => by simp only [outFor]; rw [outFor_length r]; simp
theorem outL_get : ∀ (V : Outs) (H : Hp) (k : Nat), k < H.length → (outL m rs L H0 V H)[k]? = some (evAt L (m + k) 0 rs (hget H0 k)) ∧ (∃ j, (j, k) ∈ V) ∨ (outL m rs L H0 V H)[k]? = H[k]? ∧ ∀ j, (j, k) ∉ V
  | [], H, k, hk => .inr ⟨rfl, by simp⟩
  | (j0, q) :: r, H, k, hk => by
    simp only [outL]
    rcases outL_get r (H.set q (evAt L (m + q) 0 rs (hget H0 q))) k (by simpa using hk) with ⟨h1, j, h2⟩ | ⟨h1, h2⟩
    · exact .inl ⟨h1, j, List.mem_cons_of_mem _ h2⟩
    · by_cases hq : q = k
      · subst hq
        refine .inl ⟨?_, j0, by simp⟩
        rw [h1, List.getElem?_set_self hk]
      · refine .inr ⟨by rw [h1, List.getElem?_set_ne hq], fun j hj => ?_⟩
        rcases List.mem_cons.1 hj with e | hj
        · simp only [Prod.mk.injEq] at e; exact hq e.2.symm
        · exact h2 j hj
theorem outFor_get : ∀ (V : Outs) (H : Hp) (k : Nat), k < H.length → (outFor m b i rs U H0 V H)[k]? = some (match outKnown b i k U with
      | true => evAt (b.getD i 0).testBit (m + k) 0 rs (hget H0 k)
      | false => none) ∧ (∃ j, (j, k) ∈ V) ∨ (outFor m b i rs U H0 V H)[k]? = H[k]? ∧ ∀ j, (j, k) ∉ V
  | [], H, k, hk => .inr ⟨rfl, by simp⟩
  | (j0, q) :: r, H, k, hk => by
    simp only [outFor]
    rcases outFor_get r (H.set q _) k (by simpa using hk) with ⟨h1, j, h2⟩ | ⟨h1, h2⟩
    · exact .inl ⟨h1, j, List.mem_cons_of_mem _ h2⟩
    · by_cases hq : q = k
      · subst hq
        refine .inl ⟨?_, j0, by simp⟩
        rw [h1, List.getElem?_set_self hk]
        cases outKnown b i q U <;> rfl
      · refine .inr ⟨by rw [h1, List.getElem?_set_ne hq], fun j hj => ?_⟩
        rcases List.mem_cons.1 hj with e | hj
        · simp only [Prod.mk.injEq] at e; exact hq e.2.symm
        · exact h2 j hj
theorem outKnown_spec {q : Nat} : ∀ {V : Outs}, outKnown b i q V = true → ∀ j, (j, q) ∈ V → i = j ∨ (b.getD i 0).testBit j = true ∨ (b.getD j 0).testBit i = true
  | [], _, j, hj => by simp at hj
  | (j0, q') :: r, h, j, hj => by
    simp only [outKnown, Bool.and_eq_true] at h
    rcases List.mem_cons.1 hj with e | hj
    · simp only [Prod.mk.injEq] at e
      obtain ⟨rfl, rfl⟩ := e
      have h1 := h.1
      simp only [Bool.or_eq_true, Bool.not_eq_true', nbf, Nat.beq_eq] at h1
      rcases h1 with h1 | h1 | h1 | h1
      · exact absurd rfl h1
      · exact .inl h1
      · exact .inr (.inl h1)
      · exact .inr (.inr h1)
    · exact outKnown_spec h.2 j hj
theorem outsOk_spec (h : outsOk b U = true) {j j' q : Nat} (h1 : (j, q) ∈ U) (h2 : (j', q) ∈ U) (hlt : j < j') : (b.getD j' 0).testBit j = true := by
  have := List.all_eq_true.1 (List.all_eq_true.1 h (j, q) h1) (j', q) h2
  simp only [Bool.or_eq_true, Bool.not_eq_true', nbf, true_or, ne_eq, not_true_eq_false, false_or] at this
  rcases this with h3 | h3
  · have hb : Nat.blt j j' = true := by simp [Nat.blt]; omega
    rw [hb] at h3; cases h3
  · exact h3
/-- What an operation knows of them, holds. -/
theorem out_known (ho : ∀ j x k c, rs[j]? = some x → x.2 = some (k, c) → m ≤ k → (j, k - m) ∈ U) (hlow : ∀ k j, (b.getD k 0).testBit j = true → j < k) (hcl : ∀ j, L j = true → ∀ k, (b.getD j 0).testBit k = true → L k = true) (hLi : L i = false) (hbi : ∀ k, (b.getD i 0).testBit k = true → L k = true)
    {k : Nat} {c : Blk} (h : (outFor m b i (rs.take i) U H0 U H0)[k]? = some (some c)) : (outL m rs L H0 U H0)[k]? = some (some c) := by
  have hk : k < H0.length := by
    have := (List.getElem?_eq_some_iff.1 h).1
    rwa [outFor_length] at this
  rcases outFor_get (m := m) (b := b) (i := i) (rs := rs.take i) (U := U) (H0 := H0) U H0 k hk with ⟨h1, j0, hj0⟩ | ⟨h1, h2⟩
  · rw [h1] at h
    rcases outL_get (m := m) (rs := rs) (L := L) (H0 := H0) U H0 k hk with ⟨h3, _⟩ | ⟨_, h4⟩
    · rw [h3]
      simp only [Option.some.injEq] at h ⊢
      split at h
      · rename_i hkn
        have kn := outKnown_spec hkn
        rw [← h]
        have e1 : evAt L (m + k) 0 rs (hget H0 k) = evAt (b.getD i 0).testBit (m + k) 0 rs (hget H0 k) := by
          refine evAt_congr _ _ _ fun j y c' hj hy => ?_
          simp only [Nat.zero_add]
          have hU : (j, k) ∈ U := by have := ho j y (m + k) c' hj hy (by omega); rwa [Nat.add_sub_cancel_left] at this
          rcases kn j hU with rfl | hb | hb
          · rw [hLi]
            cases hb : (b.getD i 0).testBit i with
            | false => rfl
            | true => have := hlow i i hb; omega
          · rw [hb, hbi j hb]
          · have hz : (b.getD i 0).testBit j = false := by
              cases hb2 : (b.getD i 0).testBit j with
              | false => rfl
              | true => have := hlow i j hb2; have := hlow j i hb; omega
            rw [hz]
            cases hLj : L j with
            | false => rfl
            | true => have := hcl j hLj i hb; rw [hLi] at this; cases this
        rw [e1]
        have hs : rs = rs.take i ++ rs.drop i := (List.take_append_drop i rs).symm
        conv => lhs; rw [hs]
        rw [evAt_append]
        refine evAt_skip _ _ _ fun j y c' hj hy => ?_
        rw [List.getElem?_drop] at hj
        have hjl : i + j < rs.length := (List.getElem?_eq_some_iff.1 hj).1
        have hl : (rs.take i).length = i := by simp; omega
        rw [hl, Nat.zero_add]
        cases hb : (b.getD i 0).testBit (i + j) with
        | false => rfl
        | true => have := hlow i (i + j) hb; omega
      · cases h
    · exact absurd hj0 (h4 j0)
  · rw [h1] at h
    rcases outL_get (m := m) (rs := rs) (L := L) (H0 := H0) U H0 k hk with ⟨_, j0, hj0⟩ | ⟨h3, _⟩
    · exact absurd hj0 (h2 j0)
    · rw [h3]; exact h
theorem outL_none (V : Outs) (H : Hp) (hx : ∀ x k c, rs[i]? = some x → x.2 = some (k, c) → k < m) : outL m rs (more L i) H0 V H = outL m rs L H0 V H := by
  induction V generalizing H with
  | nil => rfl
  | cons p r ih =>
    obtain ⟨j0, q⟩ := p
    simp only [outL]
    rw [ih]
    congr 2
    refine evAt_congr _ _ _ fun j y c hj hy => ?_
    simp only [Nat.zero_add, more]
    by_cases he : j = i
    · subst he
      have := hx y (m + q) c hj hy
      omega
    · simp [he]
theorem out_event (hU : outsOk b U = true) (ho : ∀ j x k c, rs[j]? = some x → x.2 = some (k, c) → m ≤ k → (j, k - m) ∈ U) (hcl : ∀ j, L j = true → ∀ k, (b.getD j 0).testBit k = true → L k = true) (hLi : L i = false) {x : Res} {q : Nat} {c : Blk} (hi : rs[i]? = some x) (hx : x.2 = some (m + q, c)) (hq : q < H0.length) :
    outL m rs (more L i) H0 U H0 = (outL m rs L H0 U H0).set q (some c) := by
  have hiU : (i, q) ∈ U := by have := ho i x (m + q) c hi hx (by omega); rwa [Nat.add_sub_cancel_left] at this
  apply List.ext_getElem?
  intro k
  rw [List.getElem?_set, outL_length]
  by_cases hk : k < H0.length
  · by_cases hqk : q = k
    · subst hqk
      rw [if_pos rfl, if_pos hk]
      rcases outL_get (m := m) (rs := rs) (L := more L i) (H0 := H0) U H0 q hk with ⟨h3, _⟩ | ⟨_, h4⟩
      · rw [h3]
        congr 1
        refine evAt_last hi hx (by simp [more]) (fun j y c' hij hj hy => ?_) _
        have hjU : (j, q) ∈ U := by have := ho j y (m + q) c' hj hy (by omega); rwa [Nat.add_sub_cancel_left] at this
        have hb := outsOk_spec hU hiU hjU hij
        have hne : ¬ j = i := by omega
        cases hLj : L j with
        | false => simp [more, hLj, hne]
        | true => have := hcl j hLj i hb; rw [hLi] at this; cases this
      · exact absurd hiU (h4 i)
    · rw [if_neg hqk]
      rcases outL_get (m := m) (rs := rs) (L := more L i) (H0 := H0) U H0 k hk with ⟨h3, j0, hj0⟩ | ⟨h3, h4⟩
      · rcases outL_get (m := m) (rs := rs) (L := L) (H0 := H0) U H0 k hk with ⟨h5, _⟩ | ⟨_, h6⟩
        · rw [h3, h5]
          congr 1
          refine evAt_congr _ _ _ fun j y c' hj hy => ?_
          simp only [Nat.zero_add, more]
          by_cases he : j = i
          · subst he
            rw [hi] at hj; simp only [Option.some.injEq] at hj; subst hj
            rw [hx] at hy; simp only [Option.some.injEq, Prod.mk.injEq] at hy
            omega
          · simp [he]
        · exact absurd hj0 (h6 j0)
      · rcases outL_get (m := m) (rs := rs) (L := L) (H0 := H0) U H0 k hk with ⟨_, j0, hj0⟩ | ⟨h5, _⟩
        · exact absurd hj0 (h4 j0)
        · rw [h3, h5]
  · rw [List.getElem?_eq_none (by rw [outL_length]; omega)]
    by_cases hqk : q = k
    · rw [if_pos hqk, if_neg (by omega)]
    · rw [if_neg hqk, List.getElem?_eq_none (by rw [outL_length]; omega)]
end

/-! ### 3. Answers of calls -/
section
variable {P : Program} {T : Tab} [GoodTab P T] {ρ ρ' : Names} {H H' : Hp} {Φ Φ' : Nat → Prop} {w w' : World}

mutual
theorem denD_flat : ∀ {e : Sh} {d : D} {v : Value}, e.flat = true → DenD Φ w e d v → DenD Φ' w' e d v
  | .int _, d, v, _, h => by simpa [DenD] using h
  | .bool, d, v, _, h => by simpa [DenD] using h
  | .str, d, v, _, h => by simpa [DenD] using h
  | .agg cs, d, v, hf, h => by
    simp only [Sh.flat] at hf
    simp only [DenD] at h ⊢
    obtain ⟨vs, h1, h2⟩ := h
    exact ⟨vs, h1, denDs_flat hf h2⟩
  | .list _, d, v, hf, h => by simp [Sh.flat] at hf
theorem denDs_flat : ∀ {cs : List Sh} {d : D} {j : Nat} {vs : List Value}, Sh.flatL cs = true → DenDs Φ w cs d j vs → DenDs Φ' w' cs d j vs
  | [], d, j, vs, _, h => by simpa [DenDs] using h
  | c :: r, d, j, vs, hf, h => by
    simp only [Sh.flatL, Bool.and_eq_true] at hf
    simp only [DenDs] at h ⊢
    obtain ⟨v, rest, h1, h2, h3⟩ := h
    exact ⟨v, rest, h1, denD_flat hf.1 h2, denDs_flat hf.2 h3⟩
end

/-- The blocks that a call has made, and that its caller may read. -/
def madeBy (ρ : Names) (H : Hp) (Φ : Nat → Prop) : Nat → Prop := fun q => Φ q ∨ ∃ k b m, hget H k = some b ∧ b.ro = false ∧ ρ k = some m ∧ m.block = some q

mutual
theorem settle_den (hr : Rel ρ' H' Φ' w') : ∀ {v r : SV} {x : Value}, settle H' v = some r → Den ρ' Φ' w' v x → Den ρ (madeBy ρ' H' Φ) w' r x
  | .own b, r, x, h, hd => by
    simp only [settle] at h
    split at h
    · rename_i e nl xs ty hb
      split at h
      · rename_i hf
        simp only [Option.some.injEq] at h; subst h
        obtain ⟨m, hm, hok⟩ := hr.own _ _ hb
        simp only [Den, DenD, D.nl, D.xs]
        simp only [Den] at hd
        simp only [BlkOK] at hok
        rcases hok with ⟨a, rfl, rfl, rfl⟩ | ⟨g, o, c, cur, rfl, rfl, h2, h3, h4, h5, h6⟩
        · rcases hd with ⟨_, _, _, _, q1, _⟩ | ⟨a', q1, rfl⟩
          · rw [hm] at q1; cases q1
          · rw [hm] at q1; simp only [Option.some.injEq, Nm.emp.injEq] at q1; subst q1
            exact ⟨a, 0, rfl, Nat.le_refl _, by decide, by simp, by simp, by simp⟩
        · rcases hd with ⟨_, _, _, _, q1, rfl⟩ | ⟨_, q1, _⟩
          · rw [hm] at q1; simp only [Option.some.injEq, Nm.row.injEq] at q1
            obtain ⟨rfl, rfl, rfl, rfl⟩ := q1
            refine ⟨some ⟨g, o, none⟩, c, rfl, h2, h3, by simp, by simp, ?_⟩
            intro p hp _
            simp only [Option.some.injEq] at hp; subst hp
            exact ⟨rfl, .inr ⟨b, _, _, hb, rfl, hm, rfl⟩, _, h6.mono (fun d v hd => denD_flat hf hd), fun j u hu => own_rows_cell h4 j u hu⟩
          · rw [hm] at q1; cases q1
      · cases h
    · cases h
  | .agg cs, r, x, h, hd => by
    simp only [settle] at h
    split at h
    · rename_i l hl
      simp only [Option.some.injEq] at h; subst h
      simp only [Den] at hd ⊢
      obtain ⟨vs, h1, h2⟩ := hd
      exact ⟨vs, h1, settleL_den hr hl h2⟩
    · cases h
  | .tup cs, r, x, h, hd => by
    simp only [settle] at h
    split at h
    · rename_i l hl
      simp only [Option.some.injEq] at h; subst h
      simp only [Den] at hd ⊢
      obtain ⟨vs, h1, h2⟩ := hd
      exact ⟨vs, h1, settleL_den hr hl h2⟩
    · cases h
  | .val v, r, x, h, hd => by
    simp only [settle, Option.some.injEq] at h; subst h
    simpa [Den] using hd
  | .li k n, r, x, h, hd | .si k n, r, x, h, hd => by simp only [settle, SV.plain, Option.some.injEq] at h; subst h; simpa [Den] using hd
  | .lb c, r, x, h, hd | .sb c, r, x, h, hd => by simp only [settle, SV.plain, Option.some.injEq] at h; subst h; simpa [Den] using hd
  | .str s, r, x, h, hd => by simp only [settle, SV.plain, Option.some.injEq] at h; subst h; simpa [Den] using hd
  | .ref .., r, x, h, hd | .rref .., r, x, h, hd | .lref .., r, x, h, hd | .sl .., r, x, h, hd | .lst .., r, x, h, hd | .clo .., r, x, h, hd | .mp _, r, x, h, hd | .osl .., r, x, h, hd | .cut .., r, x, h, hd | .emp _, r, x, h, hd | .any, r, x, h, hd => by simp [settle, SV.plain] at h
theorem settleL_den (hr : Rel ρ' H' Φ' w') : ∀ {l l' : List SV} {vs : List Value}, settleL H' l = some l' → DenL ρ' Φ' w' l vs → DenL ρ (madeBy ρ' H' Φ) w' l' vs
  | [], l', vs, h, hd => by
    simp only [settleL, Option.some.injEq] at h; subst h
    simpa [DenL] using hd
  | c :: r, l', vs, h, hd => by
    simp only [settleL] at h
    split at h
    · rename_i v l h1 h2
      simp only [Option.some.injEq] at h; subst h
      simp only [DenL] at hd ⊢
      obtain ⟨x, rest, h3, h4, h5⟩ := hd
      exact ⟨x, rest, h3, settle_den hr h1 h4, settleL_den hr h2 h5⟩
    · cases h
end

/-- All blocks kept from turning. -/
def heldAll (ρ : Names) (H : Hp) (Φ : Nat → Prop) : Nat → Prop := fun q => Φ q ∨ ∃ k b m, hget H k = some b ∧ ρ k = some m ∧ m.block = some q

theorem hget_map_ro {k : Nat} {c : Blk} (h : hget (H.map roB) k = some c) : ∃ b, hget H k = some b ∧ c = { b with ro := true } := by
  rw [hget_iff, List.getElem?_map] at h
  cases hk : H[k]? with
  | none => rw [hk] at h; simp at h
  | some o =>
    rw [hk] at h
    cases o with
    | none => simp [roB] at h
    | some b =>
      simp only [Option.map_some, roB, Option.some.injEq] at h
      exact ⟨b, hget_iff.2 hk, h.symm⟩

theorem Grow.held (ρ : Names) (H : Hp) (Φ : Nat → Prop) (w : World) : Grow ρ Φ w ρ (heldAll ρ H Φ) w :=
  Grow.more (fun q hq => .inl hq) (fun q hq => hq.imp id fun ⟨k, _, m, _, hm, hg⟩ => ⟨k, m, hm, hg⟩)
/-- Some of the blocks, kept from turning. -/
theorem Rel.held {H1 : Hp} (h : Rel ρ H Φ w) (hs : ∀ k b, hget H1 k = some b → hget H k = some b) (hl : H.length ≤ H1.length) : Rel ρ (H1.map roB) (heldAll ρ H Φ) w := by
  have grow : Gro ρ Φ w ρ (heldAll ρ H Φ) w := Gro.more (fun q hq => .inl hq)
  refine ⟨?_, ?_, ?_, ?_, ?_, ?_⟩
  · intro k c hk
    obtain ⟨b, hb, rfl⟩ := hget_map_ro hk
    obtain ⟨m, hm, hok⟩ := h.own k b (hs k b hb)
    exact ⟨m, hm, hok.mono grow (fun _ _ => rfl)⟩
  · intro k c m g hk _ _ hr
    obtain ⟨b, hb, rfl⟩ := hget_map_ro hk
    cases hr
  · intro k c m g hk hm hg _
    obtain ⟨b, hb, rfl⟩ := hget_map_ro hk
    exact .inr ⟨k, b, m, hs k b hb, hm, hg⟩
  · intro k k' c c' m m' g hk _ hr
    obtain ⟨b, hb, rfl⟩ := hget_map_ro hk
    cases hr
  · rintro q (hq | ⟨k, b, m, hk, hm, hg⟩)
    · exact h.phi q hq
    · exact h.lt hk hm hg
  · intro k m hk
    have := h.dom k m hk
    simp; omega

/-- After a call that could turn nothing of the caller's. -/
theorem Rel.after (h : Rel ρ H Φ w) (hg : Grow ρ (heldAll ρ H Φ) w ρ' Φ' w') (hr : Rel ρ' H' Φ' w') : Rel ρ H (madeBy ρ' H' Φ) w' ∧ Grow ρ Φ w ρ (madeBy ρ' H' Φ) w' := by
  have he : Ext Φ w w' := hg.ext.less (fun q hq => .inl hq)
  have h1 : Rel ρ H Φ w' := h.world he (fun k b m q hk hm hq => hg.ext.block q (.inr ⟨k, b, m, hk, hm, hq⟩))
  have grow : Gro ρ Φ w' ρ (madeBy ρ' H' Φ) w' := Gro.more (fun q hq => .inl hq)
  refine ⟨⟨fun k b hk => let ⟨m, hm, hok⟩ := h1.own k b hk; ⟨m, hm, hok.mono grow (fun _ _ => rfl)⟩, ?_, fun k b m g hk hm hg' hro => .inl (h1.kept k b m g hk hm hg' hro), h1.inj, ?_, h1.dom⟩, ⟨⟨fun _ _ h => h, fun q hq => .inl hq, he⟩, ?_, fun _ h => .inr h, hg.frame⟩⟩
  · rintro k b m g hk hm hg' hro (hq | ⟨k2, b2, m2, hk2, hro2, hm2, hg2⟩)
    · exact h1.apart k b m g hk hm hg' hro hq
    · exact hr.apart k2 b2 m2 g hk2 hm2 hg2 hro2 (hg.phi g (.inr ⟨k, b, m, hk, hm, hg'⟩))
  · rintro q (hq | ⟨k2, b2, m2, hk2, hro2, hm2, hg2⟩)
    · exact h1.phi q hq
    · exact hr.lt hk2 hm2 hg2
  · rintro q (hq | ⟨k2, b2, m2, hk2, hro2, hm2, hg2⟩)
    · exact .inl hq
    · exact .inr (hg.fresh q ⟨k2, m2, hm2, hg2⟩)

mutual
theorem still_den {ρ ρ' : Names} {Φ Φ' : Nat → Prop} {w w' : World} : ∀ {v : SV} {x : Value}, v.still = true → Den ρ Φ w v x → Den ρ' Φ' w' v x
  | .li .., x, _, h | .si .., x, _, h | .lb _, x, _, h | .sb _, x, _, h | .str _, x, _, h | .val _, x, _, h => by simpa [Den] using h
  | .agg cs, x, hp, h => by
    simp only [SV.still] at hp
    simp only [Den] at h ⊢
    obtain ⟨vs, h1, h2⟩ := h
    exact ⟨vs, h1, stillL_den hp h2⟩
  | .tup cs, x, hp, h => by
    simp only [SV.still] at hp
    simp only [Den] at h ⊢
    obtain ⟨vs, h1, h2⟩ := h
    exact ⟨vs, h1, stillL_den hp h2⟩
  | .ref .., x, hp, h | .rref .., x, hp, h | .lref .., x, hp, h | .sl .., x, hp, h | .own _, x, hp, h | .lst .., x, hp, h | .clo .., x, hp, h | .mp _, x, hp, h | .osl .., x, hp, h | .cut .., x, hp, h | .emp _, x, hp, h | .any, x, hp, h => by simp [SV.still] at hp
theorem stillL_den {ρ ρ' : Names} {Φ Φ' : Nat → Prop} {w w' : World} : ∀ {l : List SV} {vs : List Value}, SV.still.stillL l = true → DenL ρ Φ w l vs → DenL ρ' Φ' w' l vs
  | [], vs, _, h => by simpa [DenL] using h
  | c :: r, vs, hp, h => by
    simp only [SV.still.stillL, Bool.and_eq_true] at hp
    simp only [DenL] at h ⊢
    obtain ⟨v, rest, h1, h2, h3⟩ := h
    exact ⟨v, rest, h1, still_den hp.1 h2, stillL_den hp.2 h3⟩
end
theorem stillB_ro {o b : Blk} (h : stillB o b = true) : b.ro = false := by
  unfold stillB at h
  split at h
  · rfl
  · cases h
theorem stillC_den {ρ ρ' : Names} {Φ Φ' : Nat → Prop} {w w' : World} (hn : ∀ k m, ρ k = some m → ρ' k = some m) : ∀ {os cs : List SV} {us vs : List Value}, stillC os cs = true → DenL ρ Φ w os us → DenL ρ' Φ' w' cs vs → DenL ρ Φ w' cs vs
  | [], [], us, vs, _, _, h => by simpa [DenL] using h
  | o :: r, c :: s, us, vs, hs, ho, h => by
    simp only [stillC, Bool.and_eq_true, Bool.or_eq_true] at hs
    simp only [DenL] at ho h ⊢
    obtain ⟨v, rest, h1, h2, h3⟩ := h
    obtain ⟨u, urest, g1, g2, g3⟩ := ho
    refine ⟨v, rest, h1, ?_, stillC_den hn hs.2 g3 h3⟩
    rcases hs.1 with hst | hrf
    · exact still_den hst h2
    · split at hrf
      · simp only [Bool.and_eq_true, Nat.beq_eq] at hrf
        obtain ⟨rfl, rfl⟩ := hrf
        simp only [Den] at g2 h2 ⊢
        obtain ⟨g, hg, _⟩ := g2
        obtain ⟨g', hg', hx⟩ := h2
        have := hn _ _ hg
        rw [this] at hg'; simp only [Option.some.injEq, Nm.blk.injEq] at hg'; subst hg'
        exact ⟨g, hg, hx⟩
      · cases hrf
  | [], _ :: _, us, vs, h, _, _ | _ :: _, [], us, vs, h, _, _ => by simp [stillC] at h
theorem stillB_ok {ρ ρ' : Names} {Φ Φ' : Nat → Prop} {w w' : World} {m : Nm} {o b : Blk} (hn : ∀ k m, ρ k = some m → ρ' k = some m) (h : stillB o b = true) (ho : BlkOK ρ Φ w m o) (hb : BlkOK ρ' Φ' w' m b) : BlkOK ρ Φ w' m b := by
  unfold stillB at h
  split at h
  · simp only [BlkOK] at hb ho ⊢
    obtain ⟨g, vs, h1, h2, h3⟩ := hb
    obtain ⟨g', us, q1, q2, q3⟩ := ho
    exact ⟨g, vs, h1, h2, stillC_den hn h q3 h3⟩
  · cases h
/-- All blocks but one kept from turning. -/
def heldEx (ρ : Names) (H : Hp) (Φ : Nat → Prop) (q0 : Nat) : Nat → Prop := fun q => Φ q ∨ ∃ k b m, k ≠ q0 ∧ hget H k = some b ∧ ρ k = some m ∧ m.block = some q
theorem Grow.heldBut (ρ : Names) (H : Hp) (Φ : Nat → Prop) (w : World) (q0 : Nat) : Grow ρ Φ w ρ (heldEx ρ H Φ q0) w :=
  Grow.more (fun q hq => .inl hq) (fun q hq => hq.imp id fun ⟨k, _, m, _, _, hm, hg⟩ => ⟨k, m, hm, hg⟩)
theorem Rel.heldBut {H1 : Hp} {q0 : Nat} {b0 : Blk} (h : Rel ρ H Φ w) (hs : ∀ k b, hget H1 k = some b → hget H k = some b) (hl : H.length ≤ H1.length) (h0 : hget H q0 = some b0) (hro : b0.ro = false) (h1 : hget H1 q0 = some b0) : Rel ρ ((H1.map roB).set q0 (some b0)) (heldEx ρ H Φ q0) w := by
  have grow : Gro ρ Φ w ρ (heldEx ρ H Φ q0) w := Gro.more (fun q hq => .inl hq)
  have hlt : q0 < (H1.map roB).length := by simpa using hget_lt h1
  have cases_ : ∀ k c, hget ((H1.map roB).set q0 (some b0)) k = some c → (k = q0 ∧ c = b0) ∨ (k ≠ q0 ∧ ∃ b, hget H k = some b ∧ c = { b with ro := true }) := by
    intro k c hk
    rw [hget_set hlt] at hk
    split at hk
    · rename_i e; simp only [Option.some.injEq] at hk; exact .inl ⟨e.symm, hk.symm⟩
    · rename_i e
      obtain ⟨b, hb, rfl⟩ := hget_map_ro hk
      exact .inr ⟨fun x => e x.symm, b, hs k b hb, rfl⟩
  have hnot : ∀ m g, ρ q0 = some m → m.block = some g → ¬ heldEx ρ H Φ q0 g := by
    rintro m g hm hg (hq | ⟨k, b, m', hne, hk, hm', hg'⟩)
    · exact h.apart _ _ _ _ h0 hm hg hro hq
    · cases hb : b.ro with
      | false => exact hne (h.inj _ _ _ _ _ _ _ hk h0 hb hro hm' hm hg' hg)
      | true => exact h.apart _ _ _ _ h0 hm hg hro (h.kept _ _ _ _ hk hm' hg' hb)
  refine ⟨?_, ?_, ?_, ?_, ?_, ?_⟩
  · intro k c hk
    rcases cases_ k c hk with ⟨rfl, rfl⟩ | ⟨_, b, hb, rfl⟩
    · obtain ⟨m, hm, hok⟩ := h.own _ _ h0
      exact ⟨m, hm, hok.mono grow (fun _ _ => rfl)⟩
    · obtain ⟨m, hm, hok⟩ := h.own k b hb
      exact ⟨m, hm, hok.mono grow (fun _ _ => rfl)⟩
  · intro k c m g hk hm hg hr
    rcases cases_ k c hk with ⟨rfl, rfl⟩ | ⟨_, b, hb, rfl⟩
    · exact hnot m g hm hg
    · cases hr
  · intro k c m g hk hm hg hr
    rcases cases_ k c hk with ⟨rfl, rfl⟩ | ⟨hne, b, hb, rfl⟩
    · rw [hro] at hr; cases hr
    · exact .inr ⟨k, b, m, hne, hb, hm, hg⟩
  · intro k k' c c' m m' g hk hk' hr hr' _ _ _ _
    rcases cases_ k c hk with ⟨rfl, rfl⟩ | ⟨_, b, hb, rfl⟩
    · rcases cases_ k' c' hk' with ⟨rfl, rfl⟩ | ⟨_, b', hb', rfl⟩
      · rfl
      · cases hr'
    · cases hr
  · rintro q (hq | ⟨k, b, m, _, hk, hm, hg⟩)
    · exact h.phi q hq
    · exact h.lt hk hm hg
  · intro k m hk
    have := h.dom k m hk
    simp; omega
/-- After a call that could turn but one of the caller's blocks. -/
theorem Rel.afterBut {q0 : Nat} {b0 blk : Blk} (h : Rel ρ H Φ w) (h0 : hget H q0 = some b0) (hro : b0.ro = false) (hg : Grow ρ (heldEx ρ H Φ q0) w ρ' Φ' w') (hr : Rel ρ' H' Φ' w') (hq : hget H' q0 = some blk) (hst : stillB b0 blk = true) :
    Rel ρ (H.set q0 (some blk)) Φ w' ∧ Grow ρ Φ w ρ Φ w' := by
  have he : Ext Φ w w' := hg.ext.less (fun q hq => .inl hq)
  have hlt := hget_lt h0
  obtain ⟨m0, hm0, hok0⟩ := h.own _ _ h0
  have hbro := stillB_ro hst
  have cases_ : ∀ k c, hget (H.set q0 (some blk)) k = some c → (k = q0 ∧ c = blk) ∨ (k ≠ q0 ∧ hget H k = some c) := by
    intro k c hk
    rw [hget_set hlt] at hk
    split at hk
    · rename_i e; simp only [Option.some.injEq] at hk; exact .inl ⟨e.symm, hk.symm⟩
    · rename_i e; exact .inr ⟨fun x => e x.symm, hk⟩
  refine ⟨⟨?_, ?_, ?_, ?_, fun k hk => Nat.lt_of_lt_of_le (h.phi k hk) he.size, ?_⟩, ⟨⟨fun _ _ h => h, fun _ h => h, he⟩, fun _ h => .inl h, fun _ h => .inr h, hg.frame⟩⟩
  · intro k c hk
    rcases cases_ k c hk with ⟨rfl, rfl⟩ | ⟨hne, hk'⟩
    · obtain ⟨m, hm, hok⟩ := hr.own _ _ hq
      have := hg.names _ _ hm0
      rw [this] at hm; simp only [Option.some.injEq] at hm; subst hm
      exact ⟨m0, hm0, stillB_ok hg.names hst hok0 hok⟩
    · obtain ⟨m, hm, hok⟩ := h.own k c hk'
      exact ⟨m, hm, hok.mono (Gro.world he) (fun q hq => hg.ext.block q (.inr ⟨k, c, m, hne, hk', hm, hq⟩))⟩
  · intro k c m g hk hm hg' hr'
    rcases cases_ k c hk with ⟨rfl, rfl⟩ | ⟨_, hk'⟩
    · exact h.apart _ _ _ _ h0 hm hg' hro
    · exact h.apart _ _ _ _ hk' hm hg' hr'
  · intro k c m g hk hm hg' hr'
    rcases cases_ k c hk with ⟨rfl, rfl⟩ | ⟨_, hk'⟩
    · rw [hbro] at hr'; cases hr'
    · exact h.kept _ _ _ _ hk' hm hg' hr'
  · intro k k' c c' m m' g hk hk' hr1 hr2 hm hm' hg1 hg2
    rcases cases_ k c hk with ⟨rfl, rfl⟩ | ⟨_, h1⟩
    · rcases cases_ k' c' hk' with ⟨rfl, rfl⟩ | ⟨_, h2⟩
      · rfl
      · exact h.inj _ _ _ _ _ _ _ h0 h2 hro hr2 hm hm' hg1 hg2
    · rcases cases_ k' c' hk' with ⟨rfl, rfl⟩ | ⟨_, h2⟩
      · exact h.inj _ _ _ _ _ _ _ h1 h0 hr1 hro hm hm' hg1 hg2
      · exact h.inj _ _ _ _ _ _ _ h1 h2 hr1 hr2 hm hm' hg1 hg2
  · intro k m hk
    have := h.dom k m hk
    simpa using this

/-- A block for a name that has none yet. -/
theorem Rel.addAt (h : Rel ρ H Φ w) {k0 : Nat} (hk0 : k0 < H.length) (hρ : ρ k0 = none) {m : Nm} {b : Blk} {o : Obj} (hro : b.ro = false) (hm : ∀ q, m.block = some q → q = w.heap.size) (hok : BlkOK (named ρ k0 m) Φ (w.alloc o) m b) :
    Rel (named ρ k0 m) (H.set k0 (some b)) Φ (w.alloc o) := by
  have he : Ext Φ w (w.alloc o) := ⟨rfl, rfl, rfl, by simp, fun k hk => Below.heap_alloc _ _ _ (h.phi k hk)⟩
  have grow : Gro ρ Φ w (named ρ k0 m) Φ (w.alloc o) := ⟨fun k x hk => by
    unfold named; rw [if_neg (fun e => by subst e; rw [hρ] at hk; cases hk)]; exact hk, fun _ h => h, he⟩
  have back : ∀ j c, hget (H.set k0 (some b)) j = some c → (j = k0 ∧ c = b) ∨ (j ≠ k0 ∧ hget H j = some c) := by
    intro j c hj
    rw [hget_set hk0] at hj
    split at hj
    · rename_i e; simp only [Option.some.injEq] at hj; exact .inl ⟨e.symm, hj.symm⟩
    · rename_i e; exact .inr ⟨fun x => e x.symm, hj⟩
  have nm : ∀ j, j ≠ k0 → named ρ k0 m j = ρ j := fun j hj => by unfold named; rw [if_neg hj]
  refine ⟨?_, ?_, ?_, ?_, ?_, ?_⟩
  · intro j c hj
    rcases back j c hj with ⟨rfl, rfl⟩ | ⟨hne, hj'⟩
    · exact ⟨m, named_at .., hok⟩
    · obtain ⟨m', hm', hok'⟩ := h.own j c hj'
      exact ⟨m', by rw [nm j hne]; exact hm', hok'.mono grow (fun q hq => Below.heap_alloc _ _ _ (h.lt hj' hm' hq))⟩
  · intro j c m' g hj hm' hg hr
    rcases back j c hj with ⟨rfl, rfl⟩ | ⟨hne, hj'⟩
    · rw [named_at] at hm'; simp only [Option.some.injEq] at hm'; subst hm'
      intro hp
      have := h.phi g hp; have := hm g hg; omega
    · rw [nm j hne] at hm'; exact h.apart j c m' g hj' hm' hg hr
  · intro j c m' g hj hm' hg hr
    rcases back j c hj with ⟨rfl, rfl⟩ | ⟨hne, hj'⟩
    · rw [hro] at hr; cases hr
    · rw [nm j hne] at hm'; exact h.kept j c m' g hj' hm' hg hr
  · intro j j' c c' m1 m2 g hj hj' hr hr' h1 h2 g1 g2
    rcases back j c hj with ⟨rfl, rfl⟩ | ⟨hne, hj2⟩ <;> rcases back j' c' hj' with ⟨rfl, rfl⟩ | ⟨hne', hj3⟩
    · rfl
    · rw [named_at] at h1; simp only [Option.some.injEq] at h1; subst h1
      rw [nm j' hne'] at h2
      have := h.lt hj3 h2 g2; have := hm g g1; omega
    · rw [named_at] at h2; simp only [Option.some.injEq] at h2; subst h2
      rw [nm j hne] at h1
      have := h.lt hj2 h1 g1; have := hm g g2; omega
    · rw [nm j hne] at h1; rw [nm j' hne'] at h2
      exact h.inj j j' c c' m1 m2 g hj2 hj3 hr hr' h1 h2 g1 g2
  · exact fun q hq => Nat.lt_of_lt_of_le (h.phi q hq) he.size
  · intro j m' hm'
    unfold named at hm'
    split at hm'
    · rename_i e; subst e; simpa using hk0
    · have := h.dom j m' hm'; simpa using this
end
end Go.Sy
