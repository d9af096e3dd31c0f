/-
  A region that draws its order, whole ('drawnE_good'); a function, whole ('callOK_of').
  No statement of the seat is proved here. Conditions: none.
-/
import Derived.Test.YtmokkonnilmdfaaY15
set_option linter.unusedSimpArgs false
set_option linter.unusedVariables false
namespace Go.Sy
open Go.RowKit

section
variable {P : Program} {T : Tab} [GoodTab P T] {E : Env} {call : CallE} {ops : Array Oper} {H0 : Hp}

theorem earlyE_spec {m : Nat} {U : Outs} {b : List Nat} : ∀ (l : List Oper) (pre : List Res) (tm : Tm) (rs : List Res), (earlyE T E call ops H0 m U b l pre tm).run = some rs →
    ∃ xs, rs = pre ++ xs ∧ xs.length = l.length ∧ ∀ (j : Nat) (o : Oper), l[j]? = some o → ∃ x0 x, xs[j]? = some x ∧ x.2 = x0.2 ∧ (∀ (ρ : Names) (Φ : Nat → Prop) (w : World) (v : Value), x0.1.ok ρ Φ w v → x.1.ok ρ Φ w v) ∧
      (earlyStep T E call ops H0.length m U (outFor m b (pre.length + j) (pre ++ xs.take j) U H0 U H0 ++ newsFor m (b.getD (pre.length + j) 0) (pre ++ xs.take j)) (pre.length + j) o (tmAt (l.take j) (xs.take j) tm)).run = some x0
  | [], pre, tm, rs, h => by
    simp only [earlyE, Tree.run, Option.some.injEq] at h; subst h
    exact ⟨[], by simp, rfl, fun j o hj => by simp at hj⟩
  | o :: r, pre, tm, rs, h => by
    simp only [earlyE] at h
    obtain ⟨x0, h1, h2⟩ := Tree.run_bind h
    obtain ⟨x, h3, hx2, hx1⟩ := forkR_run h2
    obtain ⟨xs, rfl, hl, hs⟩ := earlyE_spec r (pre ++ [x]) _ rs h3
    refine ⟨x :: xs, by simp, by simp [hl], fun j o' hj => ?_⟩
    cases j with
    | zero =>
      simp at hj; subst hj
      exact ⟨x0, x, rfl, hx2, hx1, by simpa [tmAt] using h1⟩
    | succ j =>
      obtain ⟨y0, y, hy1, hya, hyb, hy2⟩ := hs j o' (by simpa using hj)
      refine ⟨y0, y, by simpa using hy1, hya, hyb, ?_⟩
      have e : pre.length + (j + 1) = (pre ++ [x]).length + j := by simp; omega
      rw [e]
      simpa [tmAt] using hy2

/-- What the slots hold when the operations of 'L' have been carried out. -/
def SlotsE (l : List Oper) (rs : List Res) (tm0 : Tm) (L : Nat → Bool) (ρ : Names) (Φ : Nat → Prop) (a : Act) (w : World) : Prop := ∀ (t : Nat) (s0 : Slot), tm0[t]? = some s0 → ∃ v, a.tmps[t]? = some v ∧
    ((∃ (j : Nat) (o : Oper) (x : Res), L j = true ∧ l[j]? = some o ∧ rs[j]? = some x ∧ o.dst = some t ∧ x.1.ok ρ Φ w v) ∨ ((∀ (j : Nat) (o : Oper), L j = true → l[j]? = some o → o.dst ≠ some t) ∧ s0.ok ρ Φ w v))
/-- What holds when the operations of 'L' have been carried out. -/
structure RepE (U : Outs) (l : List Oper) (rs : List Res) (tm0 : Tm) (a0 : Act) (H0 : Hp) (L : Nat → Bool) (ρ : Names) (Φ : Nat → Prop) (a : Act) (w : World) : Prop where
  defers : a.defers = []
  size : a.tmps.size = tm0.length
  slot : SlotsE l rs tm0 L ρ Φ a w
  frame : ∀ t, (∀ o ∈ l, o.dst ≠ some t) → a.tmps[t]? = a0.tmps[t]?
  fresh : ∀ k, L k = false → ρ (H0.length + k) = none
  rel : Rel ρ (outL l.length rs L H0 U H0 ++ newsL l.length rs L) Φ w

/-- What the checks say of the operations ahead of the last ones ('l': those alone). -/
structure Fine (ops : Array Oper) (l : List Oper) (b : List Nat) : Prop where
  pair : ∀ (i j : Nat) (oi oj : Oper) (t : Nat), l[i]? = some oi → l[j]? = some oj → i ≠ j → oj.dst = some t → oi.dst ≠ some t ∧ (t ∈ Oper.looksAt ops oi → if j < i then (b.getD i 0).testBit j = true else (b.getD j 0).testBit i = true)

variable {U : Outs} {l : List Oper} {b : List Nat} {rs : List Res} {tm0 : Tm} {a0 : Act} {Φ : Nat → Prop} {ρ : Names} {a : Act} {w : World} {L : Nat → Bool}

/-- What an operation looks at holds what it holds in the order of the text. -/
theorem looks_ok (hf : Fine ops l b) (hlen : rs.length = l.length) (hslot : SlotsE l rs tm0 L ρ Φ a w) (hcl : ∀ j, L j = true → ∀ k, (b.getD j 0).testBit k = true → L k = true)
    {i : Nat} {o : Oper} (ho : l[i]? = some o) (hLi : L i = false) (hbi : ∀ k, (b.getD i 0).testBit k = true → L k = true) (t : Nat) (s : Slot) (ht : t ∈ Oper.looksAt ops o) (hs : (tmAt (l.take i) (rs.take i) tm0)[t]? = some s) :
    ∃ v, a.tmps[t]? = some v ∧ s.ok ρ Φ w v := by
  have hil : i < l.length := (List.getElem?_eq_some_iff.1 ho).1
  have htl : t < tm0.length := by
    have := Tm.lt_of_get hs
    rwa [tmAt_length] at this
  obtain ⟨v, hv, hor⟩ := hslot t tm0[t] (Tm.get_of_lt htl)
  refine ⟨v, hv, ?_⟩
  rcases tmAt_get _ _ _ t s (by simp [hlen]) hs with ⟨j, oj, x, h1, h2, h3, h4⟩ | ⟨h1, h2⟩
  · have hji : j < i := by
      have := (List.getElem?_eq_some_iff.1 h1).1
      simp at this; omega
    rw [List.getElem?_take, if_pos hji] at h1 h2
    have hp := (hf.pair i j o oj t ho h1 (by omega) h3).2 ht
    rw [if_pos hji] at hp
    have hLj := hbi j hp
    rcases hor with ⟨j', oj', x', hL', h1', h2', h3', h4'⟩ | ⟨hno, _⟩
    · by_cases hjj : j = j'
      · subst hjj
        rw [h2] at h2'
        simp only [Option.some.injEq] at h2'
        subst h2'; subst h4
        exact h4'
      · exact absurd h3' (hf.pair j' j oj' oj t h1' h1 (fun e => hjj e.symm) h3).1
    · exact absurd h3 (hno j oj hLj h1)
  · rcases hor with ⟨j', oj', x', hL', h1', h2', h3', h4'⟩ | ⟨_, hok⟩
    · rcases Nat.lt_trichotomy j' i with hlt | he | hgt
      · exact absurd h3' (h1 j' oj' (by rw [List.getElem?_take, if_pos hlt]; exact h1'))
      · subst he; rw [hLi] at hL'; cases hL'
      · have hp := (hf.pair i j' o oj' t ho h1' (by omega) h3').2 ht
        rw [if_neg (by omega)] at hp
        rw [hcl j' hL' i hp] at hLi; cases hLi
    · have : tm0[t]? = some tm0[t] := Tm.get_of_lt htl
      rw [this] at h2
      simp only [Option.some.injEq] at h2
      subst h2; exact hok

theorem slotsE_put (hslot : SlotsE l rs tm0 L ρ Φ a w) {i : Nat} {o : Oper} {x : Res} (ho : l[i]? = some o) (hx : rs[i]? = some x) {ρ' : Names} {Φ' : Nat → Prop} {w' : World} (hg : Grow ρ Φ w ρ' Φ' w') {v : Value} (hok : x.1.ok ρ' Φ' w' v) :
    SlotsE l rs tm0 (more L i) ρ' Φ' (a.put o.dst v) w' := by
  intro t s0 ht
  obtain ⟨u, hu, hor⟩ := hslot t s0 ht
  have htl : t < a.tmps.size := (Array.getElem?_eq_some_iff.1 hu).1
  by_cases hd : o.dst = some t
  · refine ⟨v, ?_, .inl ⟨i, o, x, by simp [more], ho, hx, hd, hok⟩⟩
    simp [Act.put, hd, htl]
  · refine ⟨u, ?_, ?_⟩
    · rw [put_frame _ _ _ _ hd]; exact hu
    · rcases hor with ⟨j, oj, y, hLj, h1, h2, h3, h4⟩ | ⟨hno, hs⟩
      · exact .inl ⟨j, oj, y, by simp [more, hLj], h1, h2, h3, Slot.ok_mono hg h4⟩
      · refine .inr ⟨?_, Slot.ok_mono hg hs⟩
        intro j oj hLj hj
        simp only [more, Bool.or_eq_true, beq_iff_eq] at hLj
        rcases hLj with rfl | hLj
        · rw [ho] at hj; simp only [Option.some.injEq] at hj; subst hj; exact hd
        · exact hno j oj hLj hj
theorem put_rep (hrep : RepE U l rs tm0 a0 H0 L ρ Φ a w) {i : Nat} {o : Oper} {x : Res} (ho : l[i]? = some o) (hx : rs[i]? = some x) {ρ' : Names} {Φ' : Nat → Prop} {w' : World} (hg : Grow ρ Φ w ρ' Φ' w') {v : Value} (hok : x.1.ok ρ' Φ' w' v)
    (hfresh : ∀ k, more L i k = false → ρ' (H0.length + k) = none) (hrel : Rel ρ' (outL l.length rs (more L i) H0 U H0 ++ newsL l.length rs (more L i)) Φ' w') : RepE U l rs tm0 a0 H0 (more L i) ρ' Φ' (a.put o.dst v) w' := by
  refine ⟨?_, ?_, ?_, ?_, hfresh, hrel⟩
  · cases o.dst <;> exact hrep.defers
  · have := hrep.size
    cases hd : o.dst <;> simp [Act.put, this]
  · exact slotsE_put hrep.slot ho hx hg hok
  · intro t ht
    rw [put_frame _ _ _ _ (ht o (List.mem_of_getElem? ho))]
    exact hrep.frame t ht

/-- One operation ahead of the last ones, in whatever order. -/
theorem early_sound (hcall : GoodCall P call) (hE : GoodEnv P E) (hf : Fine ops l b) (hlen : rs.length = l.length) (hev : EvsFine l.length b rs) (hout : ∀ j x k c, rs[j]? = some x → x.2 = some (k, c) → l.length ≤ k → (j, k - l.length) ∈ U) (hUok : outsOk b U = true) (hlow : ∀ k j, (b.getD k 0).testBit j = true → j < k) (hrep : RepE U l rs tm0 a0 H0 L ρ Φ a w)
    (hcl : ∀ j, L j = true → ∀ k, (b.getD j 0).testBit k = true → L k = true)
    {i : Nat} {o : Oper} {x0 x : Res} (ho : l[i]? = some o) (hx : rs[i]? = some x) (hx2 : x.2 = x0.2) (hx1 : ∀ (ρ : Names) (Φ : Nat → Prop) (w : World) (v : Value), x0.1.ok ρ Φ w v → x.1.ok ρ Φ w v) (hLi : L i = false) (hbi : ∀ k, (b.getD i 0).testBit k = true → L k = true)
    (hrun : (earlyStep T E call ops H0.length l.length U (outFor l.length b i (rs.take i) U H0 U H0 ++ newsFor l.length (b.getD i 0) (rs.take i)) i o (tmAt (l.take i) (rs.take i) tm0)).run = some x0)
    {K : Act → World → Prop} {Q : Exit → Act → World → Prop} (hK : ∀ (ρ' : Names) (Φ' : Nat → Prop) (v : Value) (w' : World), Grow ρ Φ w ρ' Φ' w' → RepE U l rs tm0 a0 H0 (more L i) ρ' Φ' (a.put o.dst v) w' → K (a.put o.dst v) w') :
    if Region.wanted o (yielded ops a.tmps) then o.wp P a w K Q else K (a.put o.dst undef) w := by
  have hil : i < l.length := (List.getElem?_eq_some_iff.1 ho).1
  have looks := looks_ok hf hlen hrep.slot hcl ho hLi hbi
  generalize htm : tmAt (l.take i) (rs.take i) tm0 = tm at hrun looks
  generalize hHi : outFor l.length b i (rs.take i) U H0 U H0 ++ newsFor l.length (b.getD i 0) (rs.take i) = Hi at hrun
  have kn : ∀ y ∈ o.op.operands, Knows (evS tm) a.eval ρ Φ w y := by
    intro y hy pc v hv hpc
    cases y with
    | const c => simp only [evS, Tree.run, Option.some.injEq] at hv; subst hv; exact ofConst_den c
    | global g => simp [evS, Tree.run] at hv
    | func f =>
      simp only [evS, Tree.run, Option.some.injEq] at hv; subst hv
      simp only [Den, Act.eval]
      exact ⟨[], [], rfl, .nil, .nil⟩
    | tmp t =>
      simp only [evS] at hv
      split at hv
      · rename_i v' ht
        simp only [Tree.run, Option.some.injEq] at hv; subst hv
        obtain ⟨x, hx, hs⟩ := looks t _ (mem_looksAt hy) ht
        simp only [Slot.ok] at hs
        simpa [Act.eval, hx] using hs
      · rename_i c v' ht
        obtain ⟨hc, hv⟩ := Tree.run_need hv
        simp only [Tree.run, Option.some.injEq] at hv; subst hv
        obtain ⟨x, hx, hs⟩ := looks t _ (mem_looksAt hy) ht
        simp only [Slot.ok] at hs
        subst hpc
        have hc' : c = true := by simpa using hc
        subst hc'
        simpa [Act.eval, hx] using hs
      · simp [Tree.run] at hv
  have hsub : ∀ k c, hget Hi k = some c → hget (outL l.length rs L H0 U H0 ++ newsL l.length rs L) k = some c := by
    intro k c hk
    rw [hget_iff] at hk ⊢
    rw [← hHi] at hk
    rcases Nat.lt_or_ge k H0.length with hlt | hge
    · rw [List.getElem?_append_left (by rw [outFor_length]; exact hlt)] at hk
      rw [List.getElem?_append_left (by rw [outL_length]; exact hlt)]
      exact out_known hout hlow hcl hLi hbi hk
    · rw [List.getElem?_append_right (by rw [outFor_length]; exact hge), outFor_length] at hk
      rw [List.getElem?_append_right (by rw [outL_length]; exact hge), outL_length]
      exact news_known hev hlow hcl hLi hbi hk
  have hlenH : (outL l.length rs L H0 U H0 ++ newsL l.length rs L).length = Hi.length := by rw [← hHi]; simp [newsFor_length, newsL_length, outL_length, outFor_length]
  have hrelHi : Rel ρ Hi Φ w := hrep.rel.sub hsub (by omega)
  have fresh' : ∀ k, more L i k = false → ρ (H0.length + k) = none := fun k hk => hrep.fresh k (by simp only [more, Bool.or_eq_false_iff] at hk; exact hk.2)
  -- nothing in memory has been turned
  have same : ∀ (v : Value) (Φ' : Nat → Prop) (w' : World), x0.2 = none → Grow ρ Φ w ρ Φ' w' → Rel ρ (outL l.length rs L H0 U H0 ++ newsL l.length rs L) Φ' w' → x0.1.ok ρ Φ' w' v → K (a.put o.dst v) w' := by
    intro v Φ' w' hn hg hr hok
    refine hK ρ Φ' v w' hg (put_rep hrep ho hx hg (hx1 _ _ _ _ hok) fresh' ?_)
    have hnone : ∀ y k c, rs[i]? = some y → y.2 = some (k, c) → False := fun y k c hy hyk => by rw [hx] at hy; simp only [Option.some.injEq] at hy; subst hy; rw [hx2, hn] at hyk; cases hyk
    rw [newsL_none (fun y k c hy hyk => (hnone y k c hy hyk).elim), outL_none U H0 (fun y k c hy hyk => (hnone y k c hy hyk).elim)]
    exact hr
  have skip : ∀ {s : Slot}, x0 = (s, none) → s.ok ρ Φ w undef → K (a.put o.dst undef) w := by
    intro s he hok
    exact same undef Φ w (by rw [he]) (Grow.refl ..) hrep.rel (by rw [he]; exact hok)
  have full : ∀ (tr : Tree Res), tr = opEarly T call H0.length l.length U Hi i tm o.op → tr.run = some x0 → o.wp P a w K Q := by
    intro tr htr hr
    subst htr
    have other : opEarly T call H0.length l.length U Hi i tm o.op = ((opE T call (evS tm) Hi (H0.length + i) o.op).bind fun
        | (s, .none) => .ret (s, none)
        | (s, .new b) => .ret (s, some (i, b))
        | _ => .bad "a region that draws its order") → o.wp P a w K Q := by
      intro he
      rw [he] at hr
      obtain ⟨⟨s, eff⟩, h1, h2⟩ := Tree.run_bind hr
      cases eff with
      | none =>
        simp only [Tree.run, Option.some.injEq] at h2
        -- nothing made: as a pure one
        have hp : ∃ v r, s = .is v ∧ (execOp a.eval o).run P w = .ok (.value r) w ∧ Den ρ Φ w v r := by
          have pc : (opE T call (evS tm) Hi (H0.length + i) o.op) = (match sysE T (evS tm true) Hi o.op with
              | some t => t.bind fun r => Tree.ret (Slot.is r.1, Eff.all r.2)
              | none => (pureOp T (evS tm) true Hi o.op).bind fun v => Tree.ret (Slot.is v, Eff.none)) → ∃ v r, s = .is v ∧ (execOp a.eval o).run P w = .ok (.value r) w ∧ Den ρ Φ w v r := by
            intro he
            rw [he] at h1
            split at h1
            · obtain ⟨_, _, h1⟩ := Tree.run_bind h1
              simp [Tree.run] at h1
            obtain ⟨v, h3, h4⟩ := Tree.run_bind h1
            simp only [Tree.run, Option.some.injEq, Prod.mk.injEq] at h4
            obtain ⟨rfl, _⟩ := h4
            obtain ⟨r, hr, hd⟩ := pureOp_run (P := P) kn hrelHi.own h3
            exact ⟨v, r, rfl, hr, hd⟩
          obtain ⟨dst, op, ty, pos, after, guard⟩ := o
          simp only at h1 pc
          cases op
          case call c =>
            obtain ⟨callee, args, argTypes⟩ := c
            cases callee
            case value f =>
              simp only [opE] at h1
              obtain ⟨fv, _, h2⟩ := Tree.run_bind h1
              split at h2
              · obtain ⟨as, _, h4⟩ := Tree.run_bind h2
                obtain ⟨r, h5, h6⟩ := Tree.run_bind h4
                simp [Tree.run] at h6
              · simp [Tree.run] at h2
            case builtin bi =>
              cases bi
              case append =>
                simp only [opE] at h1
                split at h1
                · split at h1
                  · obtain ⟨_, _, h⟩ := Tree.run_bind h1
                    obtain ⟨_, _, h⟩ := Tree.run_bind h
                    obtain ⟨_, _, h⟩ := Tree.run_bind h
                    simp [Tree.run] at h
                  · simp [Tree.run] at h1
                · simp [Tree.run] at h1
              all_goals exact pc rfl
            all_goals exact pc rfl
          case alloc t =>
            simp only [opE] at h1
            split at h1 <;> simp [Tree.run] at h1
          case box t y =>
            simp only [opE] at h1
            obtain ⟨v, _, h2⟩ := Tree.run_bind h1
            split at h2 <;> simp [Tree.run] at h2
          case store t y z =>
            simp only [opE] at h1
            obtain ⟨_, _, h⟩ := Tree.run_bind h1
            obtain ⟨_, _, h⟩ := Tree.run_bind h
            obtain ⟨_, _, h⟩ := Tree.run_bind h
            simp [Tree.run] at h
          case buildSlice t len parts =>
            simp only [opE] at h1
            obtain ⟨vs, _, h2⟩ := Tree.run_bind h1
            split at h2
            · split at h2
              · split at h2
                · split at h2 <;> simp [Tree.run] at h2
                · split at h2 <;> simp [Tree.run] at h2
              · simp [Tree.run] at h2
            · simp [Tree.run] at h2
          case makeSlice t y z =>
            simp only [opE] at h1
            obtain ⟨_, _, h⟩ := Tree.run_bind h1
            obtain ⟨_, _, h⟩ := Tree.run_bind h
            obtain ⟨_, _, h⟩ := Tree.run_bind h
            simp [Tree.run] at h
          all_goals exact pc rfl
        obtain ⟨v, r, rfl, hex, hd⟩ := hp
        unfold Oper.wp
        rw [hex, Oper.upon_value]
        exact same r Φ w (by rw [← h2]) (Grow.refl ..) hrep.rel (by rw [← h2]; exact hd)
      | new blk =>
        simp only [Tree.run, Option.some.injEq] at h2
        obtain ⟨hro, sv, u, ob, m, rfl, hex, hm, hrest⟩ := newOp_run (P := P) hrep.rel.phi kn h1
        unfold Oper.wp
        rw [hex, Oper.upon_value]
        have he : Ext Φ w (w.alloc ob) := ⟨rfl, rfl, rfl, by simp, fun k hk => Below.heap_alloc _ _ _ (hrep.rel.phi k hk)⟩
        have hnone := hrep.fresh i hLi
        have hg : Grow ρ Φ w (named ρ (H0.length + i) m) Φ (w.alloc ob) := ⟨⟨fun k y hk => by
          unfold named; rw [if_neg (fun e => by subst e; rw [hnone] at hk; cases hk)]; exact hk, fun _ h => h, he⟩, fun _ h => .inl h,
          fun q hq => (Named.of_named hq).elim (fun e => .inl (Nat.le_of_eq (hm q e).symm)) .inr, fun k hk _ => Below.heap_alloc _ _ _ hk⟩
        obtain ⟨hok, hd⟩ := hrest _ (named_at ..) hg
        refine hK _ Φ u _ hg (put_rep hrep ho hx hg (hx1 _ _ _ _ (by rw [← h2]; exact hd)) ?_ ?_)
        · intro k hk
          simp only [more, Bool.or_eq_false_iff, beq_eq_false_iff_ne] at hk
          unfold named; rw [if_neg (by omega)]
          exact hrep.fresh k hk.2
        · have hev2 : x.2 = some (i, blk) := by rw [hx2, ← h2]
          rw [outL_none U H0 (fun y k c hy hyk => by rw [hx] at hy; simp only [Option.some.injEq] at hy; subst hy; rw [hev2] at hyk; simp only [Option.some.injEq, Prod.mk.injEq] at hyk; omega)]
          rw [show H0.length = (outL l.length rs L H0 U H0).length from outL_length U H0 |>.symm] at hnone hok ⊢
          rw [newsL_event (outL l.length rs L H0 U H0) hev hlow hcl hLi hx (k := i) (c := blk) hev2 hil]
          exact hrep.rel.addAt (by simp [newsL_length]; omega) hnone hro hm hok
      | all H => simp [Tree.run] at h2
    obtain ⟨dst, op, ty, pos, after, guard⟩ := o
    simp only at hr other kn ⊢
    cases op
    case call c =>
      obtain ⟨callee, args, argTypes⟩ := c
      cases callee
      case value f =>
        simp only [opEarly] at hr
        obtain ⟨fv, h1, h2⟩ := Tree.run_bind hr
        have m1 : ∀ y ∈ args.toList, y ∈ (Op.call { callee := .value f, args := args, argTypes := argTypes }).operands := by
          intro y hy; simp only [Op.operands, Call.operands, Array.mem_append]; exact .inr (Array.mem_toList_iff.1 hy)
        have hfn := kn f (by simp [Op.operands, Call.operands]) true fv h1 rfl
        split at h2
        · rename_i k first caps
          obtain ⟨as, h3, h4⟩ := Tree.run_bind h2
          have e1 := evs_run (ρ := ρ) (Φ := Φ) (w := w) (evS tm true) a.eval args.toList as (fun y hy v hv => kn y (m1 y hy) true v hv rfl) h3
          split at h4
          · obtain ⟨⟨rv, rH⟩, h5, h6⟩ := Tree.run_bind h4
            simp only at h6
            split at h6
            · rename_i sv hset
              simp only [Tree.run, Option.some.injEq] at h6
              obtain ⟨vs, hvs, hex⟩ := exec_enter (P := P) (fv := a.eval f) (o := { dst := dst, op := .call { callee := .value f, args := args, argTypes := argTypes }, type := ty, pos := pos, after := after, guard := guard }) rfl hfn e1 (hcall.enters _ _ _ _ h5)
              have hheld := hrep.rel.held hsub (by omega)
              have grow0 : Grow ρ Φ w ρ (heldAll ρ (outL l.length rs L H0 U H0 ++ newsL l.length rs L) Φ) w := Grow.held ..
              unfold Oper.wp
              rw [hex, Oper.upon_enter]
              refine (hcall.calls _ _ _ _ _ h5 ρ _ w vs hheld (hvs.mono grow0)).mono ?_
              rintro e w' ⟨v, ρ', Φ', rfl, hd, hr', hg'⟩
              obtain ⟨q1, q2⟩ := hrep.rel.after hg' hr'
              exact same v _ w' (by rw [← h6]) q2 q1 (by rw [← h6]; exact settle_den hr' hset hd)
            · simp [Tree.run] at h6
          · rename_i q hq_
            split at h4
            · rename_i b0 hb0
              split at h4
              · rename_i hro0
                obtain ⟨⟨rv, rH⟩, h5, h6⟩ := Tree.run_bind h4
                simp only at h6
                split at h6
                · rename_i blk hblk
                  split at h6
                  · rename_i hck
                    simp only [Bool.and_eq_true] at hck
                    obtain ⟨⟨hst, hrst⟩, hqn⟩ := hck
                    have hqlt : q < H0.length := nlt.1 hqn
                    simp only [Tree.run, Option.some.injEq] at h6
                    have hev2 : x.2 = some (l.length + q, blk) := by rw [hx2, ← h6]
                    obtain ⟨vs, hvs, hex⟩ := exec_enter (P := P) (fv := a.eval f) (o := { dst := dst, op := .call { callee := .value f, args := args, argTypes := argTypes }, type := ty, pos := pos, after := after, guard := guard }) rfl hfn e1 (hcall.enters _ _ _ _ h5)
                    have hheld := hrep.rel.heldBut hsub (by omega) (hsub _ _ hb0) hro0 hb0
                    have grow0 := Grow.heldBut ρ (outL l.length rs L H0 U H0 ++ newsL l.length rs L) Φ w q
                    unfold Oper.wp
                    rw [hex, Oper.upon_enter]
                    refine (hcall.calls _ _ _ _ _ h5 ρ _ w vs hheld (hvs.mono grow0)).mono ?_
                    rintro e w' ⟨v, ρ', Φ', rfl, hd, hr', hg'⟩
                    obtain ⟨q1, q2⟩ := hrep.rel.afterBut (hsub _ _ hb0) hro0 hg' hr' hblk hst
                    refine hK ρ Φ v w' q2 (put_rep hrep ho hx q2 (hx1 _ _ _ _ (by rw [← h6]; exact still_den hrst hd)) fresh' ?_)
                    rw [newsL_none (fun y k c hy hyk => by rw [hx] at hy; simp only [Option.some.injEq] at hy; subst hy; rw [hev2] at hyk; simp only [Option.some.injEq, Prod.mk.injEq] at hyk; omega)]
                    rw [out_event hUok hout hcl hLi hx hev2 hqlt]
                    rw [List.set_append_left _ _ (by rw [outL_length]; exact hqlt)] at q1
                    exact q1
                  · simp [Tree.run] at h6
                · simp [Tree.run] at h6
              · simp [Tree.run] at h4
            · simp [Tree.run] at h4
        · simp [Tree.run] at h2
      all_goals exact other rfl
    case store t y z =>
      simp only [opEarly] at hr
      obtain ⟨yv, h1, hr1⟩ := Tree.run_bind hr
      obtain ⟨zv, h2, hr2⟩ := Tree.run_bind hr1
      obtain ⟨⟨k, blk⟩, h3, h4⟩ := Tree.run_bind hr2
      simp only [Tree.run, Option.some.injEq] at h4
      have hy := kn y (by simp [Op.operands]) true yv h1 rfl
      have hz := kn z (by simp [Op.operands]) true zv h2 rfl
      unfold storeEarly at h3
      split at h3
      · rename_i nb off
        split at h3
        · rename_i vs n cs tyb hfl hn hb
          split at h3
          · rename_i hc
            simp only [Bool.and_eq_true, Nat.ble_eq, beq_iff_eq] at hc
            obtain ⟨⟨hlen', hle⟩, hat⟩ := hc
            have hbL := hsub _ _ hb
            obtain ⟨us, hus, hud⟩ := flat_cells hfl hz
            obtain ⟨m, hm, hok⟩ := hrep.rel.own _ _ hbL
            simp only [BlkOK] at hok
            obtain ⟨g, xs, rfl, hg, hd⟩ := hok
            simp only [Den] at hy
            obtain ⟨g', hg', hye⟩ := hy
            rw [hm] at hg'; simp only [Option.some.injEq, Nm.blk.injEq] at hg'; subst hg'
            have hap := hrep.rel.apart _ _ _ _ hbL hm rfl rfl
            have he := putBlk_ext (w := w) hap (.cells (spliceV xs off us).toArray tyb (0, 0))
            have hrunS := storeVar_run (P := P) (off := off) hg hn hus (by rw [hud.length, hlen']) (by rw [hud.length, hd.length]; omega) (atoms_one hud hat)
            have hg2 : Grow ρ Φ w ρ Φ _ := Grow.world he (fun k _ hn => putBlk_other (fun e => hn ⟨nb, _, hm, by rw [← e]; rfl⟩) _)
            have hex : (execOp a.eval { dst := dst, op := .store t y z, type := ty, pos := pos, after := after, guard := guard }).run P w = .ok .skip (putBlk w g (.cells (spliceV xs off us).toArray tyb (0, 0))) := by
              simp only [execOp, hye]
              simp [hrunS]
            have hturn := hrep.rel.turn (b' := ⟨.cells (splice cs off vs), tyb, false⟩) hbL rfl rfl hm he (fun q hq => putBlk_other (fun e => hq (by rw [← e]; rfl)) _) (by
              simp only [BlkOK]
              exact ⟨g, _, rfl, putBlk_get (hrep.rel.lt hbL hm rfl) _, (hd.splice off hud).mono (Gro.world he)⟩)
            have hnbl : nb < H0.length + l.length := by
              have := hget_lt hbL
              simpa [outL_length, newsL_length] using this
            unfold Oper.wp
            rw [hex, Oper.upon_skip]
            split at h3
            · rename_i hn0
              simp only [Nat.ble_eq] at hn0
              simp only [Tree.run, Option.some.injEq, Prod.mk.injEq] at h3
              obtain ⟨rfl, rfl⟩ := h3
              have hev2 : x.2 = some (nb - H0.length, ⟨.cells (splice cs off vs), tyb, false⟩) := by rw [hx2, ← h4]
              refine hK ρ Φ undef _ hg2 (put_rep hrep ho hx hg2 (hx1 _ _ _ _ (by rw [← h4]; trivial)) fresh' ?_)
              rw [outL_none U H0 (fun y k c hy hyk => by rw [hx] at hy; simp only [Option.some.injEq] at hy; subst hy; rw [hev2] at hyk; simp only [Option.some.injEq, Prod.mk.injEq] at hyk; omega)]
              rw [newsL_event (outL l.length rs L H0 U H0) hev hlow hcl hLi hx (k := nb - H0.length) hev2 (by omega)]
              rw [outL_length, Nat.add_sub_cancel' hn0]
              exact hturn
            · rename_i hn0
              have hn0' : nb < H0.length := by
                rcases Nat.lt_or_ge nb H0.length with h | h
                · exact h
                · have : Nat.ble H0.length nb = true := by simpa using h
                  rw [this] at hn0; cases hn0
              split at h3
              · simp only [Tree.run, Option.some.injEq, Prod.mk.injEq] at h3
                obtain ⟨rfl, rfl⟩ := h3
                have hev2 : x.2 = some (l.length + nb, ⟨.cells (splice cs off vs), tyb, false⟩) := by rw [hx2, ← h4]
                refine hK ρ Φ undef _ hg2 (put_rep hrep ho hx hg2 (hx1 _ _ _ _ (by rw [← h4]; trivial)) fresh' ?_)
                rw [newsL_none (fun y k c hy hyk => by rw [hx] at hy; simp only [Option.some.injEq] at hy; subst hy; rw [hev2] at hyk; simp only [Option.some.injEq, Prod.mk.injEq] at hyk; omega)]
                rw [out_event hUok hout hcl hLi hx hev2 hn0']
                rw [List.set_append_left _ _ (by rw [outL_length]; exact hn0')] at hturn
                exact hturn
              · simp [Tree.run] at h3
          · simp [Tree.run] at h3
        · simp [Tree.run] at h3
      · simp [Tree.run] at h3
    all_goals exact other rfl
  unfold earlyStep at hrun
  cases hg : guardOf ops tm o with
  | none => simp [hg, Tree.run] at hrun
  | some g =>
    have hw : Region.wanted o (yielded ops a.tmps) = g.says := by
      refine guard_key (ρ := ρ) (Φ := Φ) (w := w) (fun t s ht hs => ?_) hg
      obtain ⟨j, want, hn, hd⟩ := ht
      exact looks t s (by unfold Oper.looksAt; rw [hn]; simp only [hd]; simp) hs
    rw [hw]
    simp only [hg] at hrun
    cases g with
    | no =>
      simp only [Tree.run, Option.some.injEq] at hrun
      simp only [Guard.says, Bool.false_eq_true, if_false]
      exact skip hrun.symm rfl
    | yes =>
      simp only [Guard.says, if_true]
      exact full _ rfl hrun
    | on pc =>
      simp only [Guard.says]
      have branch : ∀ {t : Tree Res}, t = .ite pc (opEarly T call H0.length l.length U Hi i tm o.op) (.ret (.unk, none)) → t.run = some x0 → if pc = true then o.wp P a w K Q else K (a.put o.dst undef) w := by
        intro t ht hr
        subst ht
        rcases Tree.run_ite hr with ⟨hb, hr2⟩ | ⟨hb, hr2⟩
        · rw [if_pos hb]; exact full _ rfl hr2
        · rw [if_neg (by simp [hb])]
          simp only [Tree.run, Option.some.injEq] at hr2
          exact skip hr2.symm trivial
      simp only at hrun
      split at hrun
      · obtain ⟨v, h1, h2⟩ := Tree.run_bind hrun
        simp only [Tree.run, Option.some.injEq] at h2
        cases pc with
        | false =>
          simp only [Bool.false_eq_true, if_false]
          exact skip h2.symm rfl
        | true =>
          simp only [if_true]
          obtain ⟨r, hr, hd⟩ := pureOp_run (P := P) (o := o) (eval := a.eval) kn hrelHi.own h1
          unfold Oper.wp
          rw [hr, Oper.upon_value]
          exact same r Φ w (by rw [← h2]) (Grow.refl ..) hrep.rel (by rw [← h2]; exact hd)
      · split at hrun
        · rename_i k args argTypes hop
          obtain ⟨as, h1, h2⟩ := Tree.run_bind hrun
          split at h2
          · rename_i pre r hsa
            obtain ⟨hpre, h3⟩ := Tree.run_need h2
            simp only [Tree.run, Option.some.injEq] at h3
            obtain ⟨hent, hpl, hc⟩ := tryPure_run hE hsa
            cases pc with
            | false =>
              simp only [Bool.false_eq_true, if_false]
              exact skip h3.symm rfl
            | true =>
              simp only [if_true]
              have m1 : ∀ y ∈ args.toList, y ∈ o.op.operands := by
                intro y hy; rw [hop]; simp only [Op.operands, Call.operands, Array.mem_append]; exact .inr (Array.mem_toList_iff.1 hy)
              have e1 := evs_run (ρ := ρ) (Φ := Φ) (w := w) (evS tm true) a.eval args.toList as (fun y hy v hv => kn y (m1 y hy) true v hv rfl) h1
              obtain ⟨vs, hvs, hex⟩ := exec_enter (P := P) (fv := a.eval (.func k)) (o := o) (first := []) (caps := []) hop (by simp only [Den, Act.eval]; exact ⟨[], [], rfl, .nil, .nil⟩) e1 hent
              have hheld := hrep.rel.held hsub (by omega)
              have grow0 : Grow ρ Φ w ρ (heldAll ρ (outL l.length rs L H0 U H0 ++ newsL l.length rs L) Φ) w := Grow.held ..
              unfold Oper.wp
              rw [hex, Oper.upon_enter]
              refine (hc (by simpa using hpre) ρ _ w vs hheld ((show DenL ρ Φ w as vs by simpa using hvs).mono grow0)).mono ?_
              rintro e w' ⟨v, rfl, hd, hb⟩
              exact same v Φ w' (by rw [← h3]) (Grow.below hrep.rel.phi hb) (hrep.rel.below hb) (by rw [← h3]; exact plain_den hpl hd)
          · exact branch rfl h2
        · exact branch rfl hrun
end
end Go.Sy
