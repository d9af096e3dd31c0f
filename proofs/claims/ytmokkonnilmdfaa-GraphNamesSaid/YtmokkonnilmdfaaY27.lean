/-
  A region that draws its order, whose operations that turn something come one behind the other: one operation, in whatever order ('seq_sound').
  No statement of the seat is proved here. Conditions: none.
-/
import Derived.Test.YtmokkonnilmdfaaY26
set_option linter.unusedSimpArgs false
set_option linter.unusedVariables false
namespace Go.Sy
open Go.RowKit

section
variable {P : Program} {T : Tab} [GoodTab P T] {E : Env} {call : CallE} {ops : Array Oper}

theorem seqE_spec {b : List Nat} {ks : List Bool} {rd : List (Option (List Nat))} : ∀ (l : List Oper) (j : Nat) (pre : List Res) (tm : Tm) (H : Hp) (rs : List Res) (He : Hp), (seqE T E call ops b ks rd j l pre tm H).run = some (rs, He) →
    ∃ (xs : List Res) (hs : Nat → Hp), rs = pre ++ xs ∧ xs.length = l.length ∧ hs 0 = H ∧ hs l.length = He ∧ ∀ (i : Nat) (o : Oper), l[i]? = some o → ∃ (x0 x : Slot), xs[i]? = some (x, none) ∧ (∀ (ρ : Names) (Φ : Nat → Prop) (w : World) (v : Value), x0.ok ρ Φ w v → x.ok ρ Φ w v) ∧
      (seqStep T E call ops (rd.getD (j + i) none) (ks.getD (j + i) false) (hidOf b rd (j + i)) (hs i) o (tmAt (l.take i) (xs.take i) tm)).run = some (x0, hs (i + 1))
  | [], j, pre, tm, H, rs, He, h => by
    simp only [seqE, Tree.run, Option.some.injEq, Prod.mk.injEq] at h
    obtain ⟨rfl, rfl⟩ := h
    exact ⟨[], fun _ => H, by simp, rfl, rfl, rfl, fun i o hi => by simp at hi⟩
  | o :: r, j, pre, tm, H, rs, He, h => by
    simp only [seqE] at h
    obtain ⟨⟨s0, H1⟩, h1, h2⟩ := Tree.run_bind h
    obtain ⟨⟨s1, H2⟩, h3, hx2, hx1⟩ := forkQ_run h2
    simp only at hx2 hx1 h3
    subst hx2
    obtain ⟨xs, hs, rfl, hl, e0, e1, hsteps⟩ := seqE_spec r (j + 1) (pre ++ [(s1, none)]) _ _ rs He h3
    refine ⟨(s1, none) :: xs, fun i => match i with | 0 => H | i + 1 => hs i, by simp, by simp [hl], rfl, by simpa using e1, fun i o' hi => ?_⟩
    cases i with
    | zero =>
      simp at hi; subst hi
      refine ⟨s0, s1, rfl, hx1, ?_⟩
      simp only [Nat.add_zero, List.take_zero, tmAt, e0]
      exact h1
    | succ i =>
      obtain ⟨y0, y, hy1, hyb, hy2⟩ := hsteps i o' (by simpa using hi)
      refine ⟨y0, y, by simpa using hy1, hyb, ?_⟩
      rw [show j + (i + 1) = j + 1 + i by omega]
      simpa [tmAt] using hy2

theorem unord_comm (b : List Nat) (i j : Nat) : unord b i j = unord b j i := by
  unfold unord
  rcases Nat.lt_trichotomy i j with h | h | h
  · have h1 : Nat.blt i j = true := nlt.2 h
    have h2 : Nat.blt j i = false := nltf.2 (by omega)
    simp [h1, h2]
  · subst h; have h1 : Nat.blt i i = false := nltf.2 (by omega); simp [h1]
  · have h1 : Nat.blt j i = true := nlt.2 h
    have h2 : Nat.blt i j = false := nltf.2 (by omega)
    simp [h1, h2]
theorem unord_lt {b : List Nat} {i j : Nat} (hij : i < j) (h : unord b i j = false) : (b.getD j 0).testBit i = true := by
  unfold unord at h
  have h1 : Nat.blt i j = true := nlt.2 hij
  have h2 : Nat.blt j i = false := nltf.2 (by omega)
  simpa [h1, h2] using h

/-- What a piece's run has shown. -/
structure SeqOK (T : Tab) (E : Env) (call : CallE) (ops : Array Oper) (l : List Oper) (b : List Nat) (rd : List (Option (List Nat))) (rs : List Res) (hs : Nat → Hp) (tm0 : Tm) : Prop where
  fine : Fine ops l b
  low : ∀ k j, (b.getD k 0).testBit j = true → j < k
  chain : ∀ (i j : Nat) (oi oj : Oper), i < j → l[i]? = some oi → l[j]? = some oj → isPure oi.op = false → isPure oj.op = false → (b.getD j 0).testBit i = true
  len : rs.length = l.length
  rdlen : rd.length = l.length
  steps : ∀ (i : Nat) (o : Oper), l[i]? = some o → ∃ (x0 x : Slot), rs[i]? = some (x, none) ∧ (∀ (ρ : Names) (Φ : Nat → Prop) (w : World) (v : Value), x0.ok ρ Φ w v → x.ok ρ Φ w v) ∧
      (seqStep T E call ops (rd.getD i none) (isPure o.op) (hidOf b rd i) (hs i) o (tmAt (l.take i) (rs.take i) tm0)).run = some (x0, hs (i + 1))
  whole : ∀ (i : Nat) (o : Oper), l[i]? = some o → isPure o.op = true → rd.getD i none = none → ∀ (j : Nat) (oj : Oper), l[j]? = some oj → isPure oj.op = false → unord b i j = false

/-- What holds when the operations of 'L' have been carried out: the slots. -/
structure RepS (l : List Oper) (rs : List Res) (tm0 : Tm) (a0 : Act) (L : Nat → Bool) (ρ : Names) (Φ : Nat → Prop) (a : Act) (w : World) : Prop where
  defers : a.defers = []
  size : a.tmps.size = tm0.length
  slot : SlotsE l rs tm0 L ρ Φ a w
  frame : ∀ t, (∀ o ∈ l, o.dst ≠ some t) → a.tmps[t]? = a0.tmps[t]?

variable {l : List Oper} {b : List Nat} {rd : List (Option (List Nat))} {rs : List Res} {hs : Nat → Hp} {tm0 : Tm} {a0 : Act} {Φ : Nat → Prop} {ρ : Names} {a : Act} {w : World} {L : Nat → Bool}

theorem seqStep_pure {rdi : Option (List Nat)} {F : List Nat} {H : Hp} {o : Oper} {tm : Tm} {x : Slot × Hp} (h : (seqStep T E call ops rdi true F H o tm).run = some x) : x.2 = H := by
  unfold seqStep at h
  simp only at h
  split at h
  · simp only [Tree.run, Option.some.injEq] at h; rw [← h]
  · obtain ⟨v, _, h⟩ := Tree.run_bind h
    simp only [Tree.run, Option.some.injEq] at h; rw [← h]
  · obtain ⟨v, _, h⟩ := Tree.run_bind h
    simp only [Tree.run, Option.some.injEq] at h; rw [← h]
  · simp [Tree.run] at h

theorem seqStep_hidden {rdi : Option (List Nat)} {F : List Nat} {H : Hp} {o : Oper} {tm : Tm} {x : Slot × Hp} (h : (seqStep T E call ops rdi false F H o tm).run = some x) {k : Nat} (hk : memN F k = true) : hget x.2 k = hget H k := by
  unfold seqStep at h
  simp only at h
  split at h
  · simp [memN] at hk
  · rename_i f0 F0
    split at h
    · rename_i hc
      simp only [Bool.and_eq_true] at hc
      obtain ⟨st, _, h⟩ := Tree.run_bind h
      split at h
      · rename_i hc2
        simp only [Bool.and_eq_true, Nat.ble_eq] at hc2
        simp only [Tree.run, Option.some.injEq] at h
        rw [← h]
        simp only
        have hlt : k < H.length := by
          have h1 := hc.1
          rw [List.all_eq_true] at h1
          unfold memN at hk
          rw [List.any_eq_true] at hk
          obtain ⟨y, hy, hyk⟩ := hk
          have : k = y := by simpa using hyk
          subst this
          exact nlt.1 (h1 k hy)
        rw [showH_get _ _ _ 0 k hc2.2.2, Nat.zero_add, if_pos hlt, if_neg (by simp [hk])]
      · simp [Tree.run] at h
    · simp [Tree.run] at h

theorem SeqOK.same (ok : SeqOK T E call ops l b rd rs hs tm0) {i : Nat} {o : Oper} (ho : l[i]? = some o) (hp : isPure o.op = true) {p : Nat} (hpl : p ≤ l.length)
    (hbet : ∀ (j : Nat) (oj : Oper), l[j]? = some oj → isPure oj.op = false → (p ≤ j ∧ j < i) ∨ (i ≤ j ∧ j < p) → unord b i j = true) : ∀ k blk, hget (rdH (hs i) (rd.getD i none)) k = some blk → hget (hs p) k = some blk := by
  intro k blk hk
  have hil : i < l.length := (List.getElem?_eq_some_iff.1 ho).1
  obtain ⟨h1, h2⟩ := rdH_get hk
  have step : ∀ j, j < l.length → ((p ≤ j ∧ j < i) ∨ (i ≤ j ∧ j < p)) → hget (hs (j + 1)) k = hget (hs j) k := by
    intro j hj hb
    have hjl := List.getElem?_eq_getElem hj
    obtain ⟨x0, x, _, _, hst⟩ := ok.steps j _ hjl
    cases hq : isPure l[j].op with
    | true =>
      rw [hq] at hst
      have := seqStep_pure hst
      simp only at this; rw [this]
    | false =>
      rw [hq] at hst
      have hun := hbet j _ hjl hq hb
      cases hr : rd.getD i none with
      | none =>
        rw [ok.whole i o ho hp hr j _ hjl hq] at hun; cases hun
      | some R =>
        have hkR := h2 R hr
        refine seqStep_hidden hst (k := k) ?_
        unfold memN hidOf
        unfold memN at hkR
        rw [List.any_eq_true] at hkR ⊢
        obtain ⟨y, hy, hyk⟩ := hkR
        refine ⟨y, ?_, hyk⟩
        rw [List.mem_flatMap]
        refine ⟨i, List.mem_range.2 (by rw [ok.rdlen]; exact hil), ?_⟩
        rw [unord_comm, hun, hr]
        exact hy
  rcases Nat.le_total p i with hle | hle
  · have : ∀ d, p + d ≤ i → hget (hs (p + d)) k = hget (hs p) k := by
      intro d
      induction d with
      | zero => intro _; rfl
      | succ d ih => intro hd; rw [← ih (by omega)]; exact step (p + d) (by omega) (.inl ⟨by omega, by omega⟩)
    rw [← this (i - p) (by omega), show p + (i - p) = i by omega]; exact h1
  · have : ∀ d, i + d ≤ p → hget (hs (i + d)) k = hget (hs i) k := by
      intro d
      induction d with
      | zero => intro _; rfl
      | succ d ih => intro hd; rw [← ih (by omega)]; exact step (i + d) (by omega) (.inr ⟨by omega, by omega⟩)
    rw [show p = i + (p - i) by omega, this (p - i) (by omega)]; exact h1

theorem slotAt_ok {ρ' : Names} {Φ' : Nat → Prop} {st' : St} {a1 : Act} {w' : World} (hs : Sat ρ' Φ' st' a1 w') {dst : Option Tmp} {v : Value} (ha : ∀ d, dst = some d → ∀ x, a1.tmps[d]? = some x → x = v) : (slotAt st'.tmps dst).ok ρ' Φ' w' v := by
  unfold slotAt
  cases dst with
  | none => trivial
  | some d =>
    simp only
    split
    · rename_i s hl
      obtain ⟨x, hx, hok⟩ := hs.slot d s hl
      rw [← ha d rfl x hx]; exact hok
    · trivial

/-- One operation, in whatever order. -/
theorem seq_sound (hcall : GoodCall P call) (hE : GoodEnv P E) (ok : SeqOK T E call ops l b rd rs hs tm0) (hrep : RepS l rs tm0 a0 L ρ Φ a w) {p : Nat} (hpl : p ≤ l.length)
    (hpos : ∀ (j : Nat) (o : Oper), l[j]? = some o → isPure o.op = false → (L j = true ↔ j < p)) (hrel : Rel ρ (hs p) Φ w)
    (hcl : ∀ j, L j = true → ∀ k, (b.getD j 0).testBit k = true → L k = true)
    {i : Nat} {o : Oper} (ho : l[i]? = some o) (hLi : L i = false) (hbi : ∀ k, (b.getD i 0).testBit k = true → L k = true)
    {K : Act → World → Prop} {Q : Exit → Act → World → Prop} (hK : ∀ (ρ' : Names) (Φ' : Nat → Prop) (v : Value) (w' : World) (p' : Nat), Grow ρ Φ w ρ' Φ' w' → RepS l rs tm0 a0 (more L i) ρ' Φ' (a.put o.dst v) w' → p' ≤ l.length →
      (∀ (j : Nat) (o : Oper), l[j]? = some o → isPure o.op = false → (more L i j = true ↔ j < p')) → Rel ρ' (hs p') Φ' w' → K (a.put o.dst v) w') :
    if Region.wanted o (yielded ops a.tmps) then o.wp P a w K Q else K (a.put o.dst undef) w := by
  have hil : i < l.length := (List.getElem?_eq_some_iff.1 ho).1
  have looks := looks_ok ok.fine ok.len hrep.slot hcl ho hLi hbi
  obtain ⟨x0, x, hx, hx1, hrun⟩ := ok.steps i o ho
  generalize htm : tmAt (l.take i) (rs.take i) tm0 = tm at hrun looks
  have html : tm.length = tm0.length := by rw [← htm, tmAt_length]
  -- what holds behind it
  have next : ∀ (ρ' : Names) (Φ' : Nat → Prop) (v : Value) (w' : World), Grow ρ Φ w ρ' Φ' w' → x0.ok ρ' Φ' w' v → RepS l rs tm0 a0 (more L i) ρ' Φ' (a.put o.dst v) w' := by
    intro ρ' Φ' v w' hg hok
    refine ⟨?_, ?_, slotsE_put hrep.slot ho hx hg (hx1 _ _ _ _ hok), ?_⟩
    · cases o.dst <;> exact hrep.defers
    · have := hrep.size
      cases hd : o.dst <;> simp [Act.put, this]
    · intro t ht
      rw [put_frame _ _ _ _ (ht o (List.mem_of_getElem? ho))]
      exact hrep.frame t ht
  cases hq : isPure o.op with
  | true =>
    rw [hq] at hrun
    have hpos' : ∀ (j : Nat) (oj : Oper), l[j]? = some oj → isPure oj.op = false → (more L i j = true ↔ j < p) := by
      intro j oj hj hjp
      have hne : ¬ j = i := fun e => by subst e; rw [ho] at hj; simp only [Option.some.injEq] at hj; subst hj; rw [hq] at hjp; cases hjp
      rw [← hpos j oj hj hjp]
      simp [more, hne]
    have hown : Own ρ (rdH (hs i) (rd.getD i none)) Φ w := by
      intro k blk hk
      refine hrel.own k blk (ok.same ho hq hpl ?_ k blk hk)
      intro j oj hj hjp hbt
      cases hu : unord b i j with
      | true => rfl
      | false =>
        rcases hbt with ⟨h1, h2⟩ | ⟨h1, h2⟩
        · have := hbi j (unord_lt h2 (by rw [unord_comm]; exact hu))
          have := (hpos j oj hj hjp).1 this
          omega
        · have hne : ¬ j = i := fun e => by subst e; rw [ho] at hj; simp only [Option.some.injEq] at hj; subst hj; rw [hq] at hjp; cases hjp
          have hLj := (hpos j oj hj hjp).2 h2
          have := hcl j hLj i (unord_lt (by omega) hu)
          rw [hLi] at this; cases this
    have kn : ∀ y ∈ o.op.operands, Knows (evS tm) a.eval ρ Φ w y := by
      intro y hy pc v hv hpc
      cases y with
      | const c => simp only [evS, Tree.run, Option.some.injEq] at hv; subst hv; exact ofConst_den c
      | global g => simp [evS, Tree.run] at hv
      | func f =>
        simp only [evS, Tree.run, Option.some.injEq] at hv; subst hv
        simp only [Den, Act.eval]
        exact ⟨[], [], rfl, .nil, .nil⟩
      | tmp t =>
        simp only [evS] at hv
        split at hv
        · rename_i v' ht
          simp only [Tree.run, Option.some.injEq] at hv; subst hv
          obtain ⟨x, hx, hs⟩ := looks t _ (mem_looksAt hy) ht
          simp only [Slot.ok] at hs
          simpa [Act.eval, hx] using hs
        · rename_i c v' ht
          obtain ⟨hc, hv⟩ := Tree.run_need hv
          simp only [Tree.run, Option.some.injEq] at hv; subst hv
          obtain ⟨x, hx, hs⟩ := looks t _ (mem_looksAt hy) ht
          simp only [Slot.ok] at hs
          subst hpc
          have hc' : c = true := by simpa using hc
          subst hc'
          simpa [Act.eval, hx] using hs
        · simp [Tree.run] at hv
    have guard : ∀ {g : Guard}, guardOf ops tm o = some g → Region.wanted o (yielded ops a.tmps) = g.says := by
      intro g hg
      refine guard_key (ρ := ρ) (Φ := Φ) (w := w) (fun t s ht hs => ?_) hg
      obtain ⟨j, want, hn, hd⟩ := ht
      exact looks t s (by unfold Oper.looksAt; rw [hn]; simp only [hd]; simp) hs
    have skip : x0.ok ρ Φ w undef → K (a.put o.dst undef) w := fun hok => hK ρ Φ undef w p (Grow.refl ..) (next ρ Φ undef w (Grow.refl ..) hok) hpl hpos' hrel
    unfold seqStep at hrun
    simp only at hrun
    split at hrun
    · rename_i hg
      rw [guard hg]
      simp only [Tree.run, Option.some.injEq, Prod.mk.injEq] at hrun
      simp only [Guard.says, Bool.false_eq_true, if_false]
      exact skip (by rw [← hrun.1]; rfl)
    · rename_i hg
      rw [guard hg]
      simp only [Guard.says, if_true]
      obtain ⟨v, h1, h2⟩ := Tree.run_bind hrun
      simp only [Tree.run, Option.some.injEq, Prod.mk.injEq] at h2
      obtain ⟨r, hr, hd⟩ := pureOp_run (P := P) (o := o) (eval := a.eval) kn hown h1
      unfold Oper.wp
      rw [hr, Oper.upon_value]
      exact hK ρ Φ r w p (Grow.refl ..) (next ρ Φ r w (Grow.refl ..) (by rw [← h2.1]; exact hd)) hpl hpos' hrel
    · rename_i pc hg
      rw [guard hg]
      simp only [Guard.says]
      obtain ⟨v, h1, h2⟩ := Tree.run_bind hrun
      simp only [Tree.run, Option.some.injEq, Prod.mk.injEq] at h2
      cases pc with
      | false =>
        simp only [Bool.false_eq_true, if_false]
        exact skip (by rw [← h2.1]; rfl)
      | true =>
        simp only [if_true]
        obtain ⟨r, hr, hd⟩ := pureOp_run (P := P) (o := o) (eval := a.eval) kn hown h1
        unfold Oper.wp
        rw [hr, Oper.upon_value]
        exact hK ρ Φ r w p (Grow.refl ..) (next ρ Φ r w (Grow.refl ..) (by rw [← h2.1]; exact hd)) hpl hpos' hrel
    · simp [Tree.run] at hrun
  | false =>
    rw [hq] at hrun
    have hpi : p ≤ i := by
      rcases Nat.lt_or_ge i p with hlt | hge
      · rw [(hpos i o ho hq).2 hlt] at hLi; cases hLi
      · exact hge
    have hnone : ∀ (j : Nat) (oj : Oper), l[j]? = some oj → p ≤ j → j < i → isPure oj.op = true := by
      intro j oj hj h1 h2
      cases hjp : isPure oj.op with
      | true => rfl
      | false =>
        have := (hpos j oj hj hjp).1 (hbi j (ok.chain j i oj o h2 hj ho hjp hq))
        omega
    have hsame : ∀ d, p + d ≤ i → hs (p + d) = hs p := by
      intro d
      induction d with
      | zero => intro _; rfl
      | succ d ih =>
        intro hd
        rw [← ih (by omega)]
        have hjl : l[p + d]? = some l[p + d] := List.getElem?_eq_getElem (by omega)
        obtain ⟨y0, y, _, _, hst⟩ := ok.steps (p + d) _ hjl
        rw [hnone (p + d) _ hjl (by omega) (by omega)] at hst
        have := seqStep_pure hst
        exact this
    have hrel : Rel ρ (hs i) Φ w := by
      have := hsame (i - p) (by omega)
      rw [show p + (i - p) = i by omega] at this
      rw [this]; exact hrel
    have hpos' : ∀ (j : Nat) (oj : Oper), l[j]? = some oj → isPure oj.op = false → (more L i j = true ↔ j < i + 1) := by
      intro j oj hj hjp
      simp only [more, Bool.or_eq_true, beq_iff_eq]
      rcases Nat.lt_trichotomy j i with h | h | h
      · have := hbi j (ok.chain j i oj o h hj ho hjp hq)
        constructor
        · intro _; omega
        · intro _; exact .inr this
      · subst h; simp
      · constructor
        · rintro (h1 | h1)
          · omega
          · have := hcl j h1 i (ok.chain i j o oj h ho hj hq hjp)
            rw [hLi] at this; cases this
        · intro h1; omega
    have hput : ∀ (v : Value), ∀ d, o.dst = some d → ∀ y, (a.put o.dst v).tmps[d]? = some y → y = v := by
      intro v d hd y hy
      rw [hd] at hy
      simp only [Act.put] at hy
      rw [Array.getElem?_setIfInBounds, if_pos rfl] at hy
      split at hy
      · simpa using hy.symm
      · cases hy
    have sat : ∀ (ρ0 : Names) (H0 : Hp), Rel ρ0 H0 Φ w → (∀ t s v, t ∈ Oper.looksAt ops o → tm[t]? = some s → s.ok ρ Φ w v → s.ok ρ0 Φ w v) → Sat ρ0 Φ ⟨onlyT tm (Oper.looksAt ops o) ⟨tm.length, .nil⟩, H0⟩ a w := by
      intro ρ0 H0 hr0 htr
      refine ⟨hrep.defers, by simp only [onlyT_length]; rw [html]; exact hrep.size, ?_, hr0⟩
      intro t s ht
      rcases onlyT_zero tm ht with rfl | ⟨h1, h2⟩
      · have htl : t < a.tmps.size := by
          have := Tm.lt_of_get ht
          simp only [onlyT_length] at this
          rw [hrep.size]; omega
        exact ⟨a.tmps[t], Array.getElem?_eq_getElem htl, trivial⟩
      · obtain ⟨v, hv, hok⟩ := looks t s h1 h2
        exact ⟨v, hv, htr t s v h1 h2 hok⟩
    unfold seqStep at hrun
    simp only at hrun
    split at hrun
    · obtain ⟨st', h1, h2⟩ := Tree.run_bind hrun
      simp only [Tree.run, Option.some.injEq, Prod.mk.injEq] at h2
      refine stepE_sound hcall hE (sat ρ (hs i) hrel (fun _ _ _ _ _ h => h)) h1 ?_
      intro ρ' Φ' v w' hg hsat
      refine hK ρ' Φ' v w' (i + 1) hg (next ρ' Φ' v w' hg (by rw [← h2.1]; exact slotAt_ok hsat (hput v))) (by omega) hpos' (by rw [← h2.2]; exact hsat.rel)
    · rename_i f0 F0 hF
      split at hrun
      · rename_i hc
        simp only [Bool.and_eq_true, List.all_eq_true] at hc
        obtain ⟨_, hc1, hc2⟩ := hc
        obtain ⟨st', h1, h2⟩ := Tree.run_bind hrun
        split at h2
        · rename_i hd
          simp only [Bool.and_eq_true, Nat.ble_eq] at hd
          obtain ⟨hd1, hd2, hd3⟩ := hd
          simp only [Tree.run, Option.some.injEq, Prod.mk.injEq] at h2
          refine stepE_sound hcall hE (sat _ _ (hide_rel hrel hc1) (fun t s v h3 h4 h5 => ?_)) h1 ?_
          · have h6 := hc2 t h3
            have h7 : tm.t.get t = s := by
              have h8 : Tm.look tm t = some s := h4
              rw [Tm.look_eq] at h8
              split at h8
              · simpa using h8
              · cases h8
            rw [h7] at h6
            exact slot_all (fun k hk => hidN_vis hk) h6 h5
          · intro ρ' Φ' v w' hg hsat
            have hg2 := show_grow hrel hg
            refine hK _ Φ' v w' (i + 1) hg2 (next _ Φ' v w' hg2 ?_) (by omega) hpos' ?_
            · rw [← h2.1]
              exact slot_all (fun k hk => by unfold shoN; rw [if_pos hk]) hd1 (slotAt_ok hsat (hput v))
            · rw [← h2.2]
              exact show_rel hrel hsat.rel hg hd3 hd2
        · simp [Tree.run] at h2
      · simp [Tree.run] at hrun
end
end Go.Sy
