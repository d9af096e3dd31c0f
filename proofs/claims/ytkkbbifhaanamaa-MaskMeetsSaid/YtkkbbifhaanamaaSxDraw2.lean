/-
  A region that draws its order: the operations ahead of the first store, in whatever order.
  No statement of the seat is proved here. Conditions: none.
-/
import Derived.Test.YtkkbbifhaanamaaSxDraw
set_option linter.unusedSimpArgs false
set_option linter.unusedVariables false
namespace Go.Sx
open Go.RowKit

theorem getElem?_putS (tm : List Slot) (d : Option Tmp) (s : Slot) (t : Nat) : (putS tm d s)[t]? = if d = some t ∧ t < tm.length then some s else tm[t]? := by
  cases d with
  | none => simp [putS]
  | some d =>
    simp only [putS, List.getElem?_set, Option.some.injEq]
    by_cases h : d = t
    · subst h
      by_cases h2 : d < tm.length
      · simp [h2]
      · simp [h2]
    · simp [h]

theorem tmAt_get : ∀ (l : List Oper) (rs : List (Slot × Option Blk)) (tm : List Slot) (t : Nat) (s : Slot), rs.length = l.length → (tmAt l rs tm)[t]? = some s →
    (∃ (j : Nat) (o : Oper) (x : Slot × Option Blk), l[j]? = some o ∧ rs[j]? = some x ∧ o.dst = some t ∧ x.1 = s) ∨ ((∀ (j : Nat) (o : Oper), l[j]? = some o → o.dst ≠ some t) ∧ tm[t]? = some s)
  | [], [], tm, t, s, _, h => .inr ⟨fun j o hj => by simp at hj, by simpa [tmAt] using h⟩
  | [], x :: rs, tm, t, s, hl, h => by simp at hl
  | o :: l, [], tm, t, s, hl, h => by simp at hl
  | o :: l, x :: rs, tm, t, s, hl, h => by
    simp only [tmAt] at h
    rcases tmAt_get l rs _ t s (by simpa using hl) h with ⟨j, o', x', h1, h2, h3, h4⟩ | ⟨h1, h2⟩
    · exact .inl ⟨j + 1, o', x', by simpa using h1, by simpa using h2, h3, h4⟩
    · rw [getElem?_putS] at h2
      split at h2
      · rename_i hc
        simp only [Option.some.injEq] at h2
        exact .inl ⟨0, o, x, rfl, rfl, hc.1, h2⟩
      · rename_i hc
        refine .inr ⟨fun j o' hj => ?_, h2⟩
        cases j with
        | zero =>
          simp at hj; subst hj
          intro hd
          refine hc ⟨hd, ?_⟩
          exact (List.getElem?_eq_some_iff.1 h2).1
        | succ j => exact h1 j o' (by simpa using hj)

theorem tmAt_length : ∀ (l : List Oper) (rs : List (Slot × Option Blk)) (tm : List Slot), (tmAt l rs tm).length = tm.length
  | [], _, tm => by simp [tmAt]
  | o :: l, [], tm => by simp [tmAt]
  | o :: l, x :: rs, tm => by
    simp only [tmAt]
    rw [tmAt_length l rs]
    cases o.dst <;> simp [putS]

section
variable {P : Program} {call : CallE} {specs : Specs} {ops : Array Oper} {H0 : Hp}

theorem earlyE_spec : ∀ (l : List Oper) (i : Nat) (tm : List Slot) (rs : List (Slot × Option Blk)), (earlyE P call specs ops H0 i l tm).run = some rs →
    rs.length = l.length ∧ ∀ (j : Nat) (o : Oper), l[j]? = some o → ∃ x, rs[j]? = some x ∧ (earlyStep P call specs ops H0 (i + j) o (tmAt (l.take j) (rs.take j) tm)).run = some x
  | [], i, tm, rs, h => by
    simp only [earlyE, Tree.run, Option.some.injEq] at h; subst h
    exact ⟨rfl, fun j o hj => by simp at hj⟩
  | o :: r, i, tm, rs, h => by
    simp only [earlyE] at h
    obtain ⟨x, h1, h2⟩ := Tree.run_bind h
    obtain ⟨xs, h3, h4⟩ := Tree.run_bind h2
    simp only [Tree.run, Option.some.injEq] at h4; subst h4
    obtain ⟨hl, hs⟩ := earlyE_spec r (i + 1) _ xs h3
    refine ⟨by simp [hl], fun j o' hj => ?_⟩
    cases j with
    | zero =>
      simp at hj; subst hj
      exact ⟨x, rfl, by simpa [tmAt] using h1⟩
    | succ j =>
      obtain ⟨y, hy1, hy2⟩ := hs j o' (by simpa using hj)
      refine ⟨y, by simpa using hy1, ?_⟩
      have e : i + (j + 1) = i + 1 + j := by omega
      rw [e]
      simpa [tmAt] using hy2

/-- The blocks that have been made. -/
def newsL (rs : List (Slot × Option Blk)) (L : Nat → Bool) : List (Option Blk) := (List.range rs.length).map fun i => if L i then (rs.getD i (.unk, none)).2 else none

theorem newsL_get (rs : List (Slot × Option Blk)) (L : Nat → Bool) {i : Nat} {x : Slot × Option Blk} (h : rs[i]? = some x) : (newsL rs L)[i]? = some (if L i then x.2 else none) := by
  have hi : i < rs.length := (List.getElem?_eq_some_iff.1 h).1
  unfold newsL
  rw [List.getElem?_map, List.getElem?_range hi]
  simp [List.getD_eq_getElem?_getD, h]

theorem newsL_all (rs : List (Slot × Option Blk)) (L : Nat → Bool) (h : ∀ i, i < rs.length → L i = true) : newsL rs L = rs.map (·.2) := by
  apply List.ext_getElem?
  intro i
  by_cases hi : i < rs.length
  · rw [newsL_get rs L (List.getElem?_eq_getElem hi), h i hi]; simp [hi]
  · rw [List.getElem?_eq_none (by simp [newsL]; omega), List.getElem?_eq_none (by simp; omega)]

/-- What holds when the operations of 'L' have been carried out. -/
structure RepE (l : List Oper) (rs : List (Slot × Option Blk)) (tm0 : List Slot) (H0 : Hp) (Φ : Nat → Prop) (L : Nat → Bool) (ρ : Nat → Nat) (a : Act) (w : World) : Prop where
  defers : a.defers = []
  size : a.tmps.size = tm0.length
  slot : ∀ (t : Nat) (s0 : Slot), tm0[t]? = some s0 → ∃ v, a.tmps[t]? = some v ∧
    ((∃ (j : Nat) (o : Oper) (x : Slot × Option Blk), L j = true ∧ l[j]? = some o ∧ rs[j]? = some x ∧ o.dst = some t ∧ x.1.ok ρ v) ∨ ((∀ (j : Nat) (o : Oper), L j = true → l[j]? = some o → o.dst ≠ some t) ∧ s0.ok ρ v))
  rel : Rel ρ (H0 ++ newsL rs L) Φ w

/-- What the checks say of the operations ahead of the first store ('l': those alone). -/
structure Fine (ops : Array Oper) (l : List Oper) (b : List Nat) : Prop where
  at_ : ∀ (j : Nat) (o : Oper), l[j]? = some o → ops[j]? = some o
  pair : ∀ (i j : Nat) (oi oj : Oper) (t : Nat), l[i]? = some oi → l[j]? = some oj → i ≠ j → oj.dst = some t → oi.dst ≠ some t ∧ (t ∈ Oper.looksAt ops oi → if j < i then (b.getD i 0).testBit j = true else (b.getD j 0).testBit i = true)

variable {l : List Oper} {b : List Nat} {rs : List (Slot × Option Blk)} {tm0 : List Slot} {Φ : Nat → Prop} {ρ : Nat → Nat} {a : Act} {w : World} {L : Nat → Bool}

/-- What an operation looks at holds what it holds in the order of the text. -/
theorem looks_ok (hf : Fine ops l b) (hlen : rs.length = l.length) (hrep : RepE l rs tm0 H0 Φ L ρ a w) (hcl : ∀ j, L j = true → ∀ k, (b.getD j 0).testBit k = true → L k = true)
    {i : Nat} {o : Oper} (ho : l[i]? = some o) (hLi : L i = false) (hbi : ∀ k, (b.getD i 0).testBit k = true → L k = true) (t : Nat) (s : Slot) (ht : t ∈ Oper.looksAt ops o) (hs : (tmAt (l.take i) (rs.take i) tm0)[t]? = some s) :
    ∃ v, a.tmps[t]? = some v ∧ s.ok ρ v := by
  have hil : i < l.length := (List.getElem?_eq_some_iff.1 ho).1
  have htl : t < tm0.length := by
    have := (List.getElem?_eq_some_iff.1 hs).1
    rwa [tmAt_length] at this
  obtain ⟨v, hv, hor⟩ := hrep.slot t tm0[t] (List.getElem?_eq_getElem htl)
  refine ⟨v, hv, ?_⟩
  rcases tmAt_get _ _ _ t s (by simp [hlen]) hs with ⟨j, oj, x, h1, h2, h3, h4⟩ | ⟨h1, h2⟩
  · have hji : j < i := by
      have := (List.getElem?_eq_some_iff.1 h1).1
      simp at this; omega
    rw [List.getElem?_take, if_pos hji] at h1 h2
    have hp := (hf.pair i j o oj t ho h1 (by omega) h3).2 ht
    rw [if_pos hji] at hp
    have hLj := hbi j hp
    rcases hor with ⟨j', oj', x', hL', h1', h2', h3', h4'⟩ | ⟨hno, _⟩
    · by_cases hjj : j = j'
      · subst hjj
        rw [h2] at h2'
        simp only [Option.some.injEq] at h2'
        subst h2'; subst h4
        exact h4'
      · exact absurd h3' (hf.pair j' j oj' oj t h1' h1 (fun e => hjj e.symm) h3).1
    · exact absurd h3 (hno j oj hLj h1)
  · rcases hor with ⟨j', oj', x', hL', h1', h2', h3', h4'⟩ | ⟨_, hok⟩
    · rcases Nat.lt_trichotomy j' i with hlt | he | hgt
      · exact absurd h3' (h1 j' oj' (by rw [List.getElem?_take, if_pos hlt]; exact h1'))
      · subst he; rw [hLi] at hL'; cases hL'
      · have hp := (hf.pair i j' o oj' t ho h1' (by omega) h3').2 ht
        rw [if_neg (by omega)] at hp
        rw [hcl j' hL' i hp] at hLi; cases hLi
    · have : tm0[t]? = some tm0[t] := List.getElem?_eq_getElem htl
      rw [this] at h2
      simp only [Option.some.injEq] at h2
      subst h2; exact hok

/-- 'L' and one more. -/
def more (L : Nat → Bool) (i : Nat) : Nat → Bool := fun j => j == i || L j

/-- The names of what has been made: those of an operation, and of those that come ahead of it. -/
def RefsFine (n0 : Nat) (b : List Nat) (rs : List (Slot × Option Blk)) : Prop :=
  ∀ (j : Nat) (x : Slot × Option Blk), rs[j]? = some x → x.1.refs (refOf n0 b j) = true ∧ ∀ blk, x.2 = some blk → SV.refsL (refOfB n0 b j) blk.cells = true

theorem refsOk_fine {n0 : Nat} : ∀ (rs : List (Slot × Option Blk)) (i : Nat), refsOk n0 b i rs = true → ∀ (j : Nat) (x : Slot × Option Blk), rs[j]? = some x → x.1.refs (refOf n0 b (i + j)) = true ∧ ∀ blk, x.2 = some blk → SV.refsL (refOfB n0 b (i + j)) blk.cells = true
  | [], i, h, j, x, hj => by simp at hj
  | y :: r, i, h, j, x, hj => by
    simp only [refsOk, Bool.and_eq_true] at h
    cases j with
    | zero =>
      simp at hj; subst hj
      refine ⟨h.1.1, fun blk hb => ?_⟩
      have := h.1.2
      rw [hb] at this; exact this
    | succ j =>
      have := refsOk_fine r (i + 1) h.2 j x (by simpa using hj)
      have e : i + 1 + j = i + (j + 1) := by omega
      rwa [e] at this

theorem put_rep (hf : Fine ops l b) (hrep : RepE l rs tm0 H0 Φ L ρ a w) (hrf : RefsFine H0.length b rs) (hl0 : lowS H0.length tm0 = true) (hcl : ∀ j, L j = true → ∀ k, (b.getD j 0).testBit k = true → L k = true)
    {i : Nat} {o : Oper} {x : Slot × Option Blk} (ho : l[i]? = some o) (hx : rs[i]? = some x) (hLi : L i = false) {ρ' : Nat → Nat} (hρ : ∀ k, k ≠ H0.length + i → ρ' k = ρ k) {v : Value} (hok : x.1.ok ρ' v) {w' : World}
    (hrel : Rel ρ' (H0 ++ newsL rs (more L i)) Φ w') : RepE l rs tm0 H0 Φ (more L i) ρ' (a.put o.dst v) w' := by
  have keep : ∀ (j : Nat) (y : Slot × Option Blk) (u : Value), L j = true → rs[j]? = some y → y.1.ok ρ u → y.1.ok ρ' u := by
    intro j y u hLj hy hu
    refine Slot.ok_refs (fun k hk => hρ k ?_) (hrf j y hy).1 hu
    intro e
    subst e
    unfold refOf at hk
    simp only [Bool.or_eq_true, beq_iff_eq, Nat.add_sub_cancel_left] at hk
    rcases hk with hk | hk | hk
    · simp [Nat.blt] at hk; omega
    · subst hk; rw [hLi] at hLj; cases hLj
    · rw [hcl j hLj i hk] at hLi; cases hLi
  refine ⟨?_, ?_, ?_, hrel⟩
  · cases o.dst <;> exact hrep.defers
  · have := hrep.size
    cases hd : o.dst <;> simp [Act.put, this]
  · intro t s0 ht
    obtain ⟨u, hu, hor⟩ := hrep.slot t s0 ht
    have htl : t < a.tmps.size := (Array.getElem?_eq_some_iff.1 hu).1
    by_cases hd : o.dst = some t
    · refine ⟨v, ?_, .inl ⟨i, o, x, by simp [more], ho, hx, hd, hok⟩⟩
      simp [Act.put, hd, htl]
    · refine ⟨u, ?_, ?_⟩
      · cases hdd : o.dst with
        | none => simpa [Act.put] using hu
        | some d =>
          have : d ≠ t := fun e => hd (by rw [hdd, e])
          simp [Act.put, Array.getElem?_setIfInBounds, this, hu]
      · rcases hor with ⟨j, oj, y, hLj, h1, h2, h3, h4⟩ | ⟨hno, hs⟩
        · exact .inl ⟨j, oj, y, by simp [more, hLj], h1, h2, h3, keep j y u hLj h2 h4⟩
        · refine .inr ⟨?_, ?_⟩
          · intro j oj hLj hj
            simp only [more, Bool.or_eq_true, beq_iff_eq] at hLj
            rcases hLj with rfl | hLj
            · rw [ho] at hj; simp only [Option.some.injEq] at hj; subst hj; exact hd
            · exact hno j oj hLj hj
          · exact Slot.ok_low (n := H0.length) (fun k hk => hρ k (by omega)) (lowS_get hl0 ht) hs

theorem newsL_same {i : Nat} {x : Slot × Option Blk} (hx : rs[i]? = some x) (hn : x.2 = none) : newsL rs (more L i) = newsL rs L := by
  apply List.ext_getElem?
  intro j
  by_cases hj : j < rs.length
  · rw [newsL_get rs _ (List.getElem?_eq_getElem hj), newsL_get rs _ (List.getElem?_eq_getElem hj)]
    by_cases hji : j = i
    · subst hji
      have : rs[j] = x := by rw [List.getElem?_eq_getElem hj] at hx; simpa using hx
      simp [this, hn]
    · have : more L i j = L j := by simp [more, hji]
      rw [this]
  · rw [List.getElem?_eq_none (by simp [newsL]; omega), List.getElem?_eq_none (by simp [newsL]; omega)]

theorem newsL_set {i : Nat} {x : Slot × Option Blk} {blk : Blk} (hx : rs[i]? = some x) (hn : x.2 = some blk) : H0 ++ newsL rs (more L i) = (H0 ++ newsL rs L).set (H0.length + i) (some blk) := by
  have hi : i < rs.length := (List.getElem?_eq_some_iff.1 hx).1
  rw [List.set_append_right _ _ (by omega), Nat.add_sub_cancel_left]
  congr 1
  apply List.ext_getElem?
  intro j
  rw [List.getElem?_set]
  by_cases hj : j < rs.length
  · rw [newsL_get rs _ (List.getElem?_eq_getElem hj)]
    by_cases hji : i = j
    · subst hji
      have : rs[i] = x := by rw [List.getElem?_eq_getElem hj] at hx; simpa using hx
      simp [this, hn, more, newsL, hi]
    · rw [if_neg hji, newsL_get rs _ (List.getElem?_eq_getElem hj)]
      have : more L i j = L j := by
        have : ¬ j = i := fun e => hji e.symm
        simp [more, this]
      rw [this]
  · rw [List.getElem?_eq_none (by simp [newsL]; omega)]
    have : i ≠ j := by omega
    rw [if_neg this, List.getElem?_eq_none (by simp [newsL]; omega)]

theorem Rel.base {H1 : Hp} (h : Rel ρ (H0 ++ H1) Φ w) : Rel ρ H0 Φ w := by
  have sub : ∀ (k : Nat) (c : Blk), H0[k]? = some (some c) → (H0 ++ H1)[k]? = some (some c) := by
    intro k c hk
    rw [List.getElem?_append_left ((List.getElem?_eq_some_iff.1 hk).1)]; exact hk
  exact ⟨fun k c hk => h.own k c (sub k c hk), fun k c hk => h.apart k c (sub k c hk), fun k k' c c' hk hk' => h.inj k k' c c' (sub k c hk) (sub k' c' hk'), h.phi⟩

/-- One operation ahead of the first store, in whatever order. -/
theorem early_sound (hcall : GoodCall P call) (hspecs : GoodSpecs P specs) (hf : Fine ops l b) (hlen : rs.length = l.length) (hrep : RepE l rs tm0 H0 Φ L ρ a w) (hrf : RefsFine H0.length b rs) (hl0 : lowS H0.length tm0 = true) (hh0 : lowH H0.length H0 = true)
    (hcl : ∀ j, L j = true → ∀ k, (b.getD j 0).testBit k = true → L k = true)
    {i : Nat} {o : Oper} {x : Slot × Option Blk} (ho : l[i]? = some o) (hx : rs[i]? = some x) (hLi : L i = false) (hbi : ∀ k, (b.getD i 0).testBit k = true → L k = true)
    (hrun : (earlyStep P call specs ops H0 i o (tmAt (l.take i) (rs.take i) tm0)).run = some x)
    {K : Act → World → Prop} {Q : Exit → Act → World → Prop} (hK : ∀ (ρ' : Nat → Nat) (a' : Act) (w' : World), (∀ k, k < H0.length → ρ' k = ρ k) → RepE l rs tm0 H0 Φ (more L i) ρ' a' w' → Ext Φ w w' → K a' w') :
    if Region.wanted o (yielded ops a.tmps) then o.wp P a w K Q else K (a.put o.dst undef) w := by
  have looks := looks_ok hf hlen hrep hcl ho hLi hbi
  have kn : ∀ y ∈ o.op.operands, Knows (evS (tmAt (l.take i) (rs.take i) tm0)) a.eval ρ y := by
    intro y hy
    refine knows_slot fun t s e hs => looks t s (mem_looksAt (e ▸ hy)) hs
  have base := hrep.rel.base
  have same : ∀ (v : Value), x.2 = none → x.1.ok ρ v → ∀ w' : World, Below w.heap.size w w' ∨ w' = w → K (a.put o.dst v) w' := by
    intro v hn hok w' hw
    refine hK ρ _ w' (fun _ _ => rfl) ?_ ?_
    · refine put_rep hf hrep hrf hl0 hcl ho hx hLi (fun _ _ => rfl) hok ?_
      rw [newsL_same hx hn]
      rcases hw with hw | rfl
      · exact hrep.rel.below hw
      · exact hrep.rel
    · rcases hw with hw | rfl
      · exact Ext.of_below hrep.rel.phi hw
      · exact Ext.refl _ _
  have fresh : ∀ (sv : SV) (blk : Blk), x = (.is sv, some blk) → ∀ v : Value, sv.den (named ρ (H0.length + i) w.heap.size) = v → K (a.put o.dst v) (w.alloc (.cells (SV.denL ρ blk.cells).toArray blk.ty)) := by
    intro sv blk he v hv
    have hi : i < rs.length := (List.getElem?_eq_some_iff.1 hx).1
    have hne : ∀ k, k ≠ H0.length + i → named ρ (H0.length + i) w.heap.size k = ρ k := fun k hk => by simp [named, hk]
    have hk0 : (H0 ++ newsL rs L)[H0.length + i]? = some none := by
      rw [List.getElem?_append_right (by omega), Nat.add_sub_cancel_left, newsL_get rs L hx, hLi]; simp
    have hrel : Rel (named ρ (H0.length + i) w.heap.size) (H0 ++ newsL rs (more L i)) Φ (w.alloc (.cells (SV.denL ρ blk.cells).toArray blk.ty (0, 0))) := by
      rw [newsL_set (L := L) hx (by rw [he])]
      refine hrep.rel.newAt hk0 ?_ ?_
      · intro k c hk
        rcases Nat.lt_or_ge k H0.length with hlt | hge
        · rw [List.getElem?_append_left hlt] at hk
          exact SV.denL_low (n := H0.length) (fun q hq => hne q (by omega)) c.cells (lowH_get hh0 hk)
        · rw [List.getElem?_append_right hge] at hk
          have hkl : k - H0.length < rs.length := by
            have := (List.getElem?_eq_some_iff.1 hk).1; simpa [newsL] using this
          rw [newsL_get rs L (List.getElem?_eq_getElem hkl)] at hk
          split at hk
          · rename_i hLk
            simp only [Option.some.injEq] at hk
            refine SV.denL_refs (p := refOfB H0.length b (k - H0.length)) (fun q hq => hne q ?_) c.cells ((hrf _ _ (List.getElem?_eq_getElem hkl)).2 c hk)
            intro e
            subst e
            unfold refOfB at hq
            simp only [Bool.or_eq_true, beq_iff_eq, Nat.add_sub_cancel_left] at hq
            rcases hq with hq | hq
            · simp [Nat.blt] at hq; omega
            · rw [hcl _ hLk i hq] at hLi; cases hLi
          · simp at hk
      · refine SV.denL_refs (p := refOfB H0.length b i) (fun q hq => hne q ?_) blk.cells ((hrf _ _ hx).2 blk (by rw [he]))
        intro e
        subst e
        unfold refOfB at hq
        simp only [Bool.or_eq_true, Nat.add_sub_cancel_left] at hq
        rcases hq with hq | hq
        · simp [Nat.blt] at hq; omega
        · rw [hbi i hq] at hLi; cases hLi
    exact hK _ _ _ (fun k hk => hne k (by omega)) (put_rep hf hrep hrf hl0 hcl ho hx hLi hne (by rw [he]; exact hv.symm) hrel) (Ext.new hrep.rel.phi _)
  -- a call, of what leaves nothing of the run's own
  have none_rel : Rel ρ (List.replicate H0.length none) (fun k => k < w.heap.size) w := by
    have no : ∀ (k : Nat) (c : Blk), (List.replicate H0.length (none : Option Blk))[k]? = some (some c) → False := by
      intro k c hk
      rw [List.getElem?_replicate] at hk
      split at hk
      · simp at hk
      · simp at hk
    exact ⟨fun k c hk => (no k c hk).elim, fun k c hk => (no k c hk).elim, fun k k' c c' hk _ => (no k c hk).elim, fun k hk => hk⟩
  have full : ∀ (tr : Tree (Slot × Option Blk)), tr = opEarly P call H0 i (tmAt (l.take i) (rs.take i) tm0) o.op → tr.run = some x → o.wp P a w K Q := by
    intro tr htr hr
    subst htr
    have other : opEarly P call H0 i (tmAt (l.take i) (rs.take i) tm0) o.op = ((opE P call (evS (tmAt (l.take i) (rs.take i) tm0)) H0 (H0.length + i) o.op).bind fun
        | (v, .none) => .ret (.is v, none)
        | (v, .new b) => .ret (.is v, some b)
        | _ => .bad "a region that draws its order") → o.wp P a w K Q := by
      intro he
      rw [he] at hr
      obtain ⟨⟨sv, eff⟩, h1, h2⟩ := Tree.run_bind hr
      cases eff with
      | none =>
        simp only [Tree.run, Option.some.injEq] at h2
        subst h2
        have hex := opE_none_run (P := P) (eval := a.eval) (w := w) kn base h1
        unfold Oper.wp
        rw [hex, Oper.upon_value]
        exact same _ rfl rfl w (.inr rfl)
      | new blk =>
        simp only [Tree.run, Option.some.injEq] at h2
        subst h2
        have hex := opE_new_run (P := P) (eval := a.eval) (w := w) kn h1
        unfold Oper.wp
        rw [hex, Oper.upon_value]
        exact fresh sv blk rfl _ rfl
      | upd k c => simp [Tree.run] at h2
      | all H => simp [Tree.run] at h2
    obtain ⟨dst, op, ty, pos, after, guard⟩ := o
    simp only at hr other kn ⊢
    cases op
    case call c =>
      obtain ⟨callee, args, argTypes⟩ := c
      cases callee
      case value f =>
        simp only [opEarly] at hr
        obtain ⟨fv, h1, h2⟩ := Tree.run_bind hr
        have m1 : ∀ y ∈ args.toList, y ∈ (Op.call { callee := .value f, args := args, argTypes := argTypes }).operands := by
          intro y hy; simp only [Op.operands, Call.operands, Array.mem_append]; exact .inr (Array.mem_toList_iff.1 hy)
        have hfn := kn f (by simp [Op.operands, Call.operands]) true fv h1 rfl
        split at h2
        · rename_i k first caps
          obtain ⟨as, h3, h4⟩ := Tree.run_bind h2
          have e1 := evs_run (evS (tmAt (l.take i) (rs.take i) tm0) true) a.eval ρ args.toList as (fun y hy v hv => kn y (m1 y hy) true v hv rfl) h3
          have a1 : args.map a.eval = (SV.denL ρ as).toArray := by rw [← e1, ← Array.toList_map, Array.toArray_toList]
          obtain ⟨⟨rv, rH⟩, h5, h6⟩ := Tree.run_bind h4
          simp only at h6
          split at h6
          · rename_i hlow
            simp only [Tree.run, Option.some.injEq] at h6
            subst h6
            have hent := hcall.enters _ _ _ _ h5
            have hc := hcall.calls _ _ _ _ _ h5 ρ _ w none_rel
            unfold Oper.wp
            have he : (execOp a.eval { dst := dst, op := .call { callee := .value f, args := args, argTypes := argTypes }, type := ty, pos := pos, after := after, guard := guard }).run P w = .ok (.enter k (SV.denL ρ (first ++ as ++ caps)).toArray) w := by
              simp only [execOp, resolve, hfn, SV.den, Deferred.ofValue, a1]
              simp only [Sem.run_bind, Sem.run_pure, Result.andThen_ok, invoke]
              have : (SV.denL ρ first).toArray ++ (SV.denL ρ as).toArray ++ (SV.denL ρ caps).toArray = (SV.denL ρ (first ++ as ++ caps)).toArray := by simp [SV.denL_append]
              rw [this, hent]
            rw [he, Oper.upon_enter]
            refine hc.mono ?_
            rintro e w' ⟨ρ', hρ', rfl, hrel', hext⟩
            have hden : rv.den ρ' = rv.den ρ := SV.den_low (n := 0) (fun k hk => by omega) rv hlow
            exact same _ rfl hden w' (.inl ⟨hext.os, hext.tape, hext.output, hext.size, hext.block⟩)
          · simp [Tree.run] at h6
        · simp [Tree.run] at h2
      all_goals exact other rfl
    case store t y z => simp [opEarly, Tree.run] at hr
    all_goals exact other rfl
  unfold earlyStep at hrun
  cases hg : guardOf ops (tmAt (l.take i) (rs.take i) tm0) o with
  | none => simp [hg, Tree.run] at hrun
  | some g =>
    have hw := guardOf_says' looks hg
    rw [hw]
    simp only [hg] at hrun
    cases g with
    | no =>
      simp only [Tree.run, Option.some.injEq] at hrun
      simp only [Guard.says, Bool.false_eq_true, if_false]
      exact same _ (by rw [← hrun]) (by rw [← hrun]; trivial) w (.inr rfl)
    | yes =>
      simp only [Guard.says, if_true]
      exact full _ rfl hrun
    | on pc =>
      simp only [Guard.says]
      have branch : ∀ {t : Tree (Slot × Option Blk)}, t = .ite pc (opEarly P call H0 i (tmAt (l.take i) (rs.take i) tm0) o.op) (.ret (.unk, none)) → t.run = some x → if pc = true then o.wp P a w K Q else K (a.put o.dst undef) w := by
        intro t ht hr
        subst ht
        rcases Tree.run_ite hr with ⟨hb, hr2⟩ | ⟨hb, hr2⟩
        · rw [if_pos hb]; exact full _ rfl hr2
        · rw [if_neg (by simp [hb])]
          simp only [Tree.run, Option.some.injEq] at hr2
          exact same _ (by rw [← hr2]) (by rw [← hr2]; trivial) w (.inr rfl)
      simp only at hrun
      split at hrun
      · obtain ⟨v, h1, h2⟩ := Tree.run_bind hrun
        simp only [Tree.run, Option.some.injEq] at h2
        cases pc with
        | false =>
          simp only [Bool.false_eq_true, if_false]
          exact same _ (by rw [← h2]) (by rw [← h2]; rfl) w (.inr rfl)
        | true =>
          simp only [if_true]
          have hex := pureOp_run (P := P) (o := o) (eval := a.eval) (ρ := ρ) (w := w) kn base h1
          unfold Oper.wp
          rw [hex, Oper.upon_value]
          exact same _ (by rw [← h2]) (by rw [← h2]; rfl) w (.inr rfl)
      · split at hrun
        · rename_i k args argTypes hop
          obtain ⟨as, h1, h2⟩ := Tree.run_bind hrun
          split at h2
          · rename_i pre r hsa
            split at h2
            · rename_i hlow
              obtain ⟨hpre, h3⟩ := Tree.run_need h2
              simp only [Tree.run, Option.some.injEq] at h3
              cases pc with
              | false =>
                simp only [Bool.false_eq_true, if_false]
                exact same _ (by rw [← h3]) (by rw [← h3]; rfl) w (.inr rfl)
              | true =>
                simp only [if_true]
                have m1 : ∀ y ∈ args.toList, y ∈ o.op.operands := by
                  intro y hy; rw [hop]; simp only [Op.operands, Call.operands, Array.mem_append]; exact .inr (Array.mem_toList_iff.1 hy)
                have e1 := evs_run (evS (tmAt (l.take i) (rs.take i) tm0) true) a.eval ρ args.toList as (fun y hy v hv => kn y (m1 y hy) true v hv rfl) h1
                have a1 : args.map a.eval = (SV.denL ρ as).toArray := by rw [← e1, ← Array.toList_map, Array.toArray_toList]
                have hent := hspecs.enters k as _ hsa
                have hc := hspecs.calls k as pre r hsa (by simpa using hpre) ρ w
                have he : (execOp a.eval o).run P w = .ok (.enter k (SV.denL ρ as).toArray) w := by
                  simp only [execOp, hop, resolve, Deferred.ofValue, a1, Act.eval]
                  simp only [Sem.run_bind, Sem.run_pure, Result.andThen_ok, invoke]
                  rw [hent]; simp
                unfold Oper.wp
                rw [he, Oper.upon_enter]
                refine hc.mono ?_
                rintro e w' ⟨rfl, hb⟩
                exact same _ (by rw [← h3]) (by rw [← h3]; rfl) w' (.inl hb)
            · simp [Tree.run] at h2
          · exact branch rfl h2
        · exact branch rfl hrun

end
end Go.Sx
