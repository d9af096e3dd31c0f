/-
  Code and calls, whole ('execE_good', 'callE_good').
  No statement of the seat is proved here. Conditions: none.
-/
import Derived.Test.YtmokkonnilmdfaaY12
set_option linter.unusedSimpArgs false
set_option linter.unusedVariables false
namespace Go.Sy
open Go.RowKit

/-- What is asked of the way in which a region that draws its order is run. -/
def GoodDrawn (P : Program) (drawn : Array Oper → St → Tree St) : Prop :=
  ∀ (ops : Array Oper) (id : Nat) (ρ : Names) (Φ : Nat → Prop) (w : World) (st : St) (a : Act) (st' : St) (Q : Exit → Act → World → Prop), Sat ρ Φ st a w → (drawn ops st).run = some st' →
    (∀ (ρ' : Names) (Φ' : Nat → Prop) (a' : Act) (w' : World), Grow ρ Φ w ρ' Φ' w' → Sat ρ' Φ' st' a' w' → (∀ t, (∀ o ∈ ops.toList, o.dst ≠ some t) → a'.tmps[t]? = a.tmps[t]?) → Q .normal a' w') → (Code.region id ops true).wp P Q a w

theorem loopAt_lt : ∀ {c : Code} {j : Nat} {b : Code}, loopAt c j = some b → j < loopsIn c
  | .seq x y, j, b, h => by
    simp only [loopAt] at h
    simp only [loopsIn]
    split at h
    · rename_i hb; have := nlt.1 hb; omega
    · have := loopAt_lt h; omega
  | .cond _ x y, j, b, h => by
    simp only [loopAt] at h
    simp only [loopsIn]
    split at h
    · rename_i hb; have := nlt.1 hb; omega
    · have := loopAt_lt h; omega
  | .block _ x, j, b, h => by simp only [loopAt] at h; simp only [loopsIn]; exact loopAt_lt h
  | .loop x, 0, b, h => by simp only [loopsIn]; omega
  | .loop x, j + 1, b, h => by simp only [loopAt] at h; simp only [loopsIn]; have := loopAt_lt h; omega
  | .skip, j, b, h | .region .., j, b, h | .rangeFunc .., j, b, h | .exit _, j, b, h | .scope _, j, b, h | .label _, j, b, h | .goto _, j, b, h | .ret, j, b, h | .refuse _, j, b, h => by simp [loopAt] at h

section
variable {P : Program} {T : Tab} [GoodTab P T] {E : Env} {call : CallE}

theorem wp_frame_any {ops : Array Oper} {t : Nat} (h : writes (.region 0 ops true) t = false) : ∀ o ∈ ops.toList, o.dst ≠ some t := by
  intro o ho e
  simp only [writes, Array.any_eq_false'] at h
  have := h o (Array.mem_toList_iff.1 ho)
  simp [e] at this

theorem sayT_sat {ρ : Names} {Φ : Nat → Prop} {w : World} {st : St} {a : Act} {c : Operand} {b : Bool} (hs : Sat ρ Φ st a w) (hc : a.eval c = .bool b) : Sat ρ Φ (sayT c b st) a w := by
  unfold sayT
  split
  · rename_i t
    refine ⟨hs.defers, by simp [Tm.length_set, hs.size], ?_, hs.rel⟩
    intro t' s ht
    simp only at ht
    rw [Tm.getElem?_set] at ht
    split at ht
    · rename_i he
      subst he
      split at ht
      · rename_i hlt
        simp only [Option.some.injEq] at ht; subst ht
        obtain ⟨x, hx, _⟩ := hs.slot t _ (Tm.get_of_lt hlt)
        refine ⟨x, hx, ?_⟩
        simp only [Slot.ok, Den]
        simpa [Act.eval, hx] using hc
      · cases ht
    · exact hs.slot t' s ht
  · exact hs
theorem loopE_sound {body : Code} {run : St → Tree (Ex × St)} (hbody : GoodCode P body run) : ∀ (n : Nat) (ρ : Names) (Φ : Nat → Prop) (w : World) (st : St) (a : Act) (ex : Ex) (st' : St) (Q : Exit → Act → World → Prop), Sat ρ Φ st a w → (loopE run n st).run = some (ex, st') →
    (∀ (ρ' : Names) (Φ' : Nat → Prop) (a' : Act) (w' : World), Grow ρ Φ w ρ' Φ' w' → Sat ρ' Φ' st' a' w' → (∀ t, writes body t = false → a'.tmps[t]? = a.tmps[t]?) → Q ex.exit? a' w') → Code.rounds P body Q n a w
  | 0, ρ, Φ, w, st, a, ex, st', Q, hs, h, _ => by simp [loopE, Tree.run] at h
  | n + 1, ρ, Φ, w, st, a, ex, st', Q, hs, h, hQ => by
    simp only [loopE] at h
    obtain ⟨⟨ex1, st1⟩, h1, h2⟩ := Tree.run_bind h
    rw [rounds_succ]
    refine hbody ρ Φ w st a ex1 st1 _ hs h1 ?_
    intro ρ1 Φ1 a1 w1 g1 hs1 f1
    cases ex1 with
    | normal =>
      simp only [Ex.exit?, Exit.then]
      refine loopE_sound hbody n ρ1 Φ1 w1 st1 a1 ex st' Q hs1 h2 ?_
      intro ρ2 Φ2 a2 w2 g2 hs2 f2
      exact hQ ρ2 Φ2 a2 w2 (g1.trans g2) hs2 (fun t ht => (f2 t ht).trans (f1 t ht))
    | exit id =>
      simp only [Tree.run, Option.some.injEq, Prod.mk.injEq] at h2
      obtain ⟨rfl, rfl⟩ := h2
      exact hQ ρ1 Φ1 a1 w1 g1 hs1 f1
    | ret =>
      simp only [Tree.run, Option.some.injEq, Prod.mk.injEq] at h2
      obtain ⟨rfl, rfl⟩ := h2
      exact hQ ρ1 Φ1 a1 w1 g1 hs1 f1

theorem execP_frame : ∀ {c : Code} {H : Hp} {tm tm' : Tm}, (execP T E c H tm).run = some tm' → tm'.length = tm.length ∧ ∀ t, t ∉ dstsC c → tm'[t]? = tm[t]?
  | .skip, H, tm, tm', h => by
    simp only [execP, Tree.run, Option.some.injEq] at h; subst h
    exact ⟨rfl, fun _ _ => rfl⟩
  | .region id ops false, H, tm, tm', h => by
    simp only [execP] at h
    obtain ⟨_, h2, h3⟩ := stepsP_run (call := fun _ _ _ => .bad "") h
    exact ⟨h2, fun t ht => h3 t (not_dst (by simpa only [dstsC] using ht))⟩
  | .seq x y, H, tm, tm', h => by
    simp only [execP] at h
    obtain ⟨tm1, h1, h2⟩ := Tree.run_bind h
    obtain ⟨a1, a2⟩ := execP_frame h1
    obtain ⟨b1, b2⟩ := execP_frame h2
    refine ⟨b1.trans a1, fun t ht => ?_⟩
    simp only [dstsC, List.mem_append, not_or] at ht
    rw [b2 t ht.2, a2 t ht.1]
  | .cond c x y, H, tm, tm', h => by
    simp only [execP] at h
    obtain ⟨cv, h1, h2⟩ := Tree.run_bind h
    have fx : (execP T E x H tm).run = some tm' → tm'.length = tm.length ∧ ∀ t, t ∉ dstsC (.cond c x y) → tm'[t]? = tm[t]? := fun hh => by
      obtain ⟨a1, a2⟩ := execP_frame hh
      exact ⟨a1, fun t ht => a2 t (by simp only [dstsC, List.mem_append, not_or] at ht; exact ht.1)⟩
    have fy : (execP T E y H tm).run = some tm' → tm'.length = tm.length ∧ ∀ t, t ∉ dstsC (.cond c x y) → tm'[t]? = tm[t]? := fun hh => by
      obtain ⟨a1, a2⟩ := execP_frame hh
      exact ⟨a1, fun t ht => a2 t (by simp only [dstsC, List.mem_append, not_or] at ht; exact ht.2)⟩
    split at h2
    · exact fx h2
    · exact fy h2
    · rcases Tree.run_ite h2 with ⟨_, h3⟩ | ⟨_, h3⟩
      · exact fx h3
      · exact fy h3
    · simp [Tree.run] at h2
  | .region _ _ true, H, tm, tm', h | .block .., H, tm, tm', h | .loop _, H, tm, tm', h | .rangeFunc .., H, tm, tm', h | .exit _, H, tm, tm', h | .scope _, H, tm, tm', h | .label _, H, tm, tm', h | .goto _, H, tm, tm', h | .ret, H, tm, tm', h | .refuse _, H, tm, tm', h => by simp [execP, Tree.run] at h
theorem execP_good (hcall : GoodCall P call) (hE : GoodEnv P E) : ∀ {c : Code} {ρ : Names} {Φ : Nat → Prop} {w : World} {H : Hp} {tm tm' : Tm} {a : Act} {Q : Exit → Act → World → Prop}, Sat ρ Φ ⟨tm, H⟩ a w → (execP T E c H tm).run = some tm' →
    (∀ (ρ' : Names) (Φ' : Nat → Prop) (a' : Act) (w' : World), Grow ρ Φ w ρ' Φ' w' → Sat ρ' Φ' ⟨tm', H⟩ a' w' → (∀ t, writes c t = false → a'.tmps[t]? = a.tmps[t]?) → Q .normal a' w') → c.wp P Q a w
  | .skip, ρ, Φ, w, H, tm, tm', a, Q, hs, h, hQ => by
    simp only [execP, Tree.run, Option.some.injEq] at h; subst h
    exact wp_skip (hQ ρ Φ a w (Grow.refl ..) hs (fun _ _ => rfl))
  | .region id ops false, ρ, Φ, w, H, tm, tm', a, Q, hs, h, hQ => by
    simp only [execP] at h
    obtain ⟨h1, _, _⟩ := stepsP_run (call := call) h
    exact wp_region_list (stepsE_sound hcall hE ops.toList hs h1 fun ρ' Φ' a' w' g hs' hf => hQ ρ' Φ' a' w' g hs' (fun t ht => hf t (wp_frame_any (ops := ops) ht)))
  | .seq x y, ρ, Φ, w, H, tm, tm', a, Q, hs, h, hQ => by
    simp only [execP] at h
    obtain ⟨tm1, h1, h2⟩ := Tree.run_bind h
    refine wp_seq (execP_good hcall hE hs h1 fun ρ1 Φ1 a1 w1 g1 hs1 f1 => ?_)
    refine execP_good hcall hE hs1 h2 fun ρ2 Φ2 a2 w2 g2 hs2 f2 => ?_
    exact hQ ρ2 Φ2 a2 w2 (g1.trans g2) hs2 (fun t ht => by
      simp only [writes, Bool.or_eq_false_iff] at ht
      exact (f2 t ht.2).trans (f1 t ht.1))
  | .cond c x y, ρ, Φ, w, H, tm, tm', a, Q, hs, h, hQ => by
    simp only [execP] at h
    obtain ⟨cv, h1, h2⟩ := Tree.run_bind h
    have hc := hs.knows c true cv h1 rfl
    have gx : a.eval c = .bool true → (execP T E x H tm).run = some tm' → (Code.cond c x y).wp P Q a w := fun hb hh => wp_cond_true hb (execP_good hcall hE hs hh fun ρ' Φ' a' w' g hs' f => hQ ρ' Φ' a' w' g hs' (fun t ht => f t (by simp only [writes, Bool.or_eq_false_iff] at ht; exact ht.1)))
    have gy : a.eval c = .bool false → (execP T E y H tm).run = some tm' → (Code.cond c x y).wp P Q a w := fun hb hh => wp_cond_false hb (execP_good hcall hE hs hh fun ρ' Φ' a' w' g hs' f => hQ ρ' Φ' a' w' g hs' (fun t ht => f t (by simp only [writes, Bool.or_eq_false_iff] at ht; exact ht.2)))
    split at h2
    · simp only [Den] at hc; exact gx hc h2
    · simp only [Den] at hc; exact gy hc h2
    · simp only [Den] at hc
      rcases Tree.run_ite h2 with ⟨hb, h3⟩ | ⟨hb, h3⟩
      · subst hb; exact gx hc h3
      · subst hb; exact gy hc h3
    · simp [Tree.run] at h2
  | .region _ _ true, ρ, Φ, w, H, tm, tm', a, Q, hs, h, hQ | .block .., ρ, Φ, w, H, tm, tm', a, Q, hs, h, hQ | .loop _, ρ, Φ, w, H, tm, tm', a, Q, hs, h, hQ | .rangeFunc .., ρ, Φ, w, H, tm, tm', a, Q, hs, h, hQ | .exit _, ρ, Φ, w, H, tm, tm', a, Q, hs, h, hQ | .scope _, ρ, Φ, w, H, tm, tm', a, Q, hs, h, hQ | .label _, ρ, Φ, w, H, tm, tm', a, Q, hs, h, hQ | .goto _, ρ, Φ, w, H, tm, tm', a, Q, hs, h, hQ | .ret, ρ, Φ, w, H, tm, tm', a, Q, hs, h, hQ | .refuse _, ρ, Φ, w, H, tm, tm', a, Q, hs, h, hQ => by simp [execP, Tree.run] at h

/-- Code. -/
theorem execE_good (hcall : GoodCall P call) (hE : GoodEnv P E) {drawn : Array Oper → St → Tree St} (hd : GoodDrawn P drawn) {L : Nat → Option (St → Tree (Ex × St))} (n : Nat) :
    ∀ (c : Code) (i : Nat), (∀ j body run, loopAt c j = some body → L (i + j) = some run → GoodCode P (.loop body) run) → GoodCode P c (execE T E call drawn L n c i)
  | .skip, i, hL => by
    intro ρ Φ w st a ex st' Q hs h hQ
    simp only [execE, Tree.run, Option.some.injEq, Prod.mk.injEq] at h; obtain ⟨rfl, rfl⟩ := h
    exact wp_skip (hQ ρ Φ a w (Grow.refl ..) hs (fun _ _ => rfl))
  | .region id ops false, i, hL => by
    intro ρ Φ w st a ex st' Q hs h hQ
    simp only [execE] at h
    obtain ⟨st1, h1, h2⟩ := Tree.run_bind h
    simp only [Tree.run, Option.some.injEq, Prod.mk.injEq] at h2; obtain ⟨rfl, rfl⟩ := h2
    obtain ⟨st1, h3, hst⟩ := regionE_run h1
    exact wp_region_list (stepsE_sound hcall hE ops.toList hs h3 fun ρ' Φ' a' w' g hs' hf => hQ ρ' Φ' a' w' g (hst _ _ _ _ hs') (fun t ht => hf t (wp_frame_any (ops := ops) ht)))
  | .region id ops true, i, hL => by
    intro ρ Φ w st a ex st' Q hs h hQ
    simp only [execE] at h
    obtain ⟨st1, h1, h2⟩ := Tree.run_bind h
    simp only [Tree.run, Option.some.injEq, Prod.mk.injEq] at h2; obtain ⟨rfl, rfl⟩ := h2
    exact hd ops id ρ Φ w st a st1 Q hs h1 fun ρ' Φ' a' w' g hs' hf => hQ ρ' Φ' a' w' g hs' (fun t ht => hf t (wp_frame_any (ops := ops) ht))
  | .seq x y, i, hL => by
    have hx := execE_good hcall hE hd n x i (fun j body run hj hr => hL j body run (by
      have := loopAt_lt hj
      simp only [loopAt]; rw [nlt.2 this]; exact hj) hr)
    have hy := execE_good hcall hE hd n y (i + loopsIn x) (fun j body run hj hr => hL (loopsIn x + j) body run (by
      simp only [loopAt]
      rw [nltf.2 (by omega)]
      simpa using hj) (by rw [← Nat.add_assoc]; exact hr))
    intro ρ Φ w st a ex st' Q hs h hQ
    simp only [execE] at h
    obtain ⟨⟨ex1, st1⟩, h1, h2⟩ := Tree.run_bind h
    refine wp_seq (hx ρ Φ w st a ex1 st1 _ hs h1 ?_)
    intro ρ1 Φ1 a1 w1 g1 hs1 f1
    have fx : ∀ t, writes (.seq x y) t = false → a1.tmps[t]? = a.tmps[t]? := fun t ht => f1 t (by simp only [writes, Bool.or_eq_false_iff] at ht; exact ht.1)
    cases ex1 with
    | normal =>
      simp only [Ex.exit?, Exit.then]
      refine hy ρ1 Φ1 w1 st1 a1 ex st' Q hs1 h2 ?_
      intro ρ2 Φ2 a2 w2 g2 hs2 f2
      exact hQ ρ2 Φ2 a2 w2 (g1.trans g2) hs2 (fun t ht => (f2 t (by simp only [writes, Bool.or_eq_false_iff] at ht; exact ht.2)).trans (fx t ht))
    | exit k =>
      simp only [Tree.run, Option.some.injEq, Prod.mk.injEq] at h2; obtain ⟨rfl, rfl⟩ := h2
      exact hQ ρ1 Φ1 a1 w1 g1 hs1 fx
    | ret =>
      simp only [Tree.run, Option.some.injEq, Prod.mk.injEq] at h2; obtain ⟨rfl, rfl⟩ := h2
      exact hQ ρ1 Φ1 a1 w1 g1 hs1 fx
  | .cond c x y, i, hL => by
    have hx := execE_good hcall hE hd n x i (fun j body run hj hr => hL j body run (by
      have := loopAt_lt hj
      simp only [loopAt]; rw [nlt.2 this]; exact hj) hr)
    have hy := execE_good hcall hE hd n y (i + loopsIn x) (fun j body run hj hr => hL (loopsIn x + j) body run (by
      simp only [loopAt]
      rw [nltf.2 (by omega)]
      simpa using hj) (by rw [← Nat.add_assoc]; exact hr))
    intro ρ Φ w st a ex st' Q hs h hQ
    simp only [execE] at h
    obtain ⟨cv, h1, h2⟩ := Tree.run_bind h
    have hc := hs.knows c true cv h1 rfl
    have qx : ∀ (ρ' : Names) (Φ' : Nat → Prop) (a' : Act) (w' : World), Grow ρ Φ w ρ' Φ' w' → Sat ρ' Φ' st' a' w' → (∀ t, writes x t = false → a'.tmps[t]? = a.tmps[t]?) → Q ex.exit? a' w' :=
      fun ρ' Φ' a' w' g hs' f => hQ ρ' Φ' a' w' g hs' (fun t ht => f t (by simp only [writes, Bool.or_eq_false_iff] at ht; exact ht.1))
    have qy : ∀ (ρ' : Names) (Φ' : Nat → Prop) (a' : Act) (w' : World), Grow ρ Φ w ρ' Φ' w' → Sat ρ' Φ' st' a' w' → (∀ t, writes y t = false → a'.tmps[t]? = a.tmps[t]?) → Q ex.exit? a' w' :=
      fun ρ' Φ' a' w' g hs' f => hQ ρ' Φ' a' w' g hs' (fun t ht => f t (by simp only [writes, Bool.or_eq_false_iff] at ht; exact ht.2))
    split at h2
    · simp only [Den] at hc; exact wp_cond_true hc (hx ρ Φ w st a ex st' Q hs h2 qx)
    · simp only [Den] at hc; exact wp_cond_false hc (hy ρ Φ w st a ex st' Q hs h2 qy)
    · rename_i b
      simp only [Den] at hc
      have old : ∀ {t : Tree (Ex × St)}, t = .ite b (execE T E call drawn L n x i (sayT c true st)) (execE T E call drawn L n y (i + loopsIn x) (sayT c false st)) → t.run = some (ex, st') → (Code.cond c x y).wp P Q a w := by
        intro t ht h2
        subst ht
        rcases Tree.run_ite h2 with ⟨hb, h3⟩ | ⟨hb, h3⟩
        · subst hb; exact wp_cond_true hc (hx ρ Φ w _ a ex st' Q (sayT_sat hs hc) h3 qx)
        · subst hb; exact wp_cond_false hc (hy ρ Φ w _ a ex st' Q (sayT_sat hs hc) h3 qy)
      split at h2
      · split at h2
        · rename_i nn ls hm
          split at h2
          · obtain ⟨hn, h3⟩ := needO_run h2
            simp only [Tree.run, Option.some.injEq, Prod.mk.injEq] at h3
            obtain ⟨rfl, rfl⟩ := h3
            obtain ⟨tm, h4, h5⟩ := mergeT_run hm hn
            have hst : Sat ρ Φ ⟨st.tmps, st.heap⟩ a w := hs
            rcases Tree.run_ite h4 with ⟨hb, h6⟩ | ⟨hb, h6⟩
            · subst hb
              obtain ⟨q1, q2⟩ := execP_frame h6
              refine wp_cond_true hc (execP_good hcall hE hst h6 fun ρ' Φ' a' w' g hs' f => qx ρ' Φ' a' w' g ?_ f)
              exact hs'.merged q1 (fun t ht => q2 t (fun hh => ht (List.mem_append_left _ hh))) h5 (mergeT_len hm)
            · subst hb
              obtain ⟨q1, q2⟩ := execP_frame h6
              refine wp_cond_false hc (execP_good hcall hE hst h6 fun ρ' Φ' a' w' g hs' f => qy ρ' Φ' a' w' g ?_ f)
              exact hs'.merged q1 (fun t ht => q2 t (fun hh => ht (List.mem_append_right _ hh))) h5 (mergeT_len hm)
          · exact old rfl h2
        · exact old rfl h2
      · exact old rfl h2
    · simp [Tree.run] at h2
  | .block id x, i, hL => by
    have hx := execE_good hcall hE hd n x i (fun j body run hj hr => hL j body run (by simpa only [loopAt] using hj) hr)
    intro ρ Φ w st a ex st' Q hs h hQ
    simp only [execE] at h
    obtain ⟨⟨ex1, st1⟩, h1, h2⟩ := Tree.run_bind h
    refine wp_block (hx ρ Φ w st a ex1 st1 _ hs h1 ?_)
    intro ρ1 Φ1 a1 w1 g1 hs1 f1
    cases ex1 with
    | normal =>
      simp only [Tree.run, Option.some.injEq, Prod.mk.injEq] at h2; obtain ⟨rfl, rfl⟩ := h2
      exact hQ ρ1 Φ1 a1 w1 g1 hs1 f1
    | exit k =>
      simp only at h2
      simp only [Ex.exit?, Exit.inBlock]
      split at h2
      · rename_i hi
        simp only [Tree.run, Option.some.injEq, Prod.mk.injEq] at h2; obtain ⟨rfl, rfl⟩ := h2
        rw [if_pos (by simpa using hi)]
        exact hQ ρ1 Φ1 a1 w1 g1 hs1 f1
      · rename_i hi
        simp only [Tree.run, Option.some.injEq, Prod.mk.injEq] at h2; obtain ⟨rfl, rfl⟩ := h2
        rw [if_neg (by simpa using hi)]
        exact hQ ρ1 Φ1 a1 w1 g1 hs1 f1
    | ret =>
      simp only [Tree.run, Option.some.injEq, Prod.mk.injEq] at h2; obtain ⟨rfl, rfl⟩ := h2
      exact hQ ρ1 Φ1 a1 w1 g1 hs1 f1
  | .loop x, i, hL => by
    have hx := execE_good hcall hE hd n x (i + 1) (fun j body run hj hr => hL (j + 1) body run (by simpa only [loopAt] using hj) (by rw [show i + (j + 1) = i + 1 + j by omega]; exact hr))
    intro ρ Φ w st a ex st' Q hs h hQ
    simp only [execE] at h
    split at h
    · rename_i run hr
      have hor : orElseT (run st) (fun _ => loopE (execE T E call drawn L n x (i + 1)) 3 st) = run st ∨ orElseT (run st) (fun _ => loopE (execE T E call drawn L n x (i + 1)) 3 st) = loopE (execE T E call drawn L n x (i + 1)) 3 st := by
        cases run st with
        | bad m => exact .inr rfl
        | ret y => exact .inl rfl
        | need c t => exact .inl rfl
        | ite c t u => exact .inl rfl
      rcases hor with e | e
      · rw [e] at h; exact hL 0 x run rfl hr ρ Φ w st a ex st' Q hs h hQ
      · rw [e] at h; exact wp_loop_rounds 3 (loopE_sound hx 3 ρ Φ w st a ex st' Q hs h hQ)
    · exact wp_loop_rounds n (loopE_sound hx n ρ Φ w st a ex st' Q hs h hQ)
  | .exit id, i, hL => by
    intro ρ Φ w st a ex st' Q hs h hQ
    simp only [execE, Tree.run, Option.some.injEq, Prod.mk.injEq] at h; obtain ⟨rfl, rfl⟩ := h
    exact wp_exit (hQ ρ Φ a w (Grow.refl ..) hs (fun _ _ => rfl))
  | .ret, i, hL => by
    intro ρ Φ w st a ex st' Q hs h hQ
    simp only [execE, Tree.run, Option.some.injEq, Prod.mk.injEq] at h; obtain ⟨rfl, rfl⟩ := h
    exact wp_ret (hQ ρ Φ a w (Grow.refl ..) hs (fun _ _ => rfl))
  | .rangeFunc .., i, hL | .scope .., i, hL | .label .., i, hL | .goto .., i, hL | .refuse .., i, hL => fun ρ Φ w st a ex st' Q hs h hQ => by simp [execE, Tree.run] at h

/-! ### Calls -/

variable {ρ : Names} {Φ : Nat → Prop} {w : World}

theorem resultsE_run {st : St} {a : Act} (hs : Sat ρ Φ st a w) : ∀ (l : List ResultVar) (vs : List SV), (resultsE T st l).run = some vs → ∃ xs,
    (l.mapM (fun r => match r with
      | .tmp t => pure (a.tmps.getD t undef)
      | .cell b t => do loadVar t (← asAddr (a.tmps.getD b undef)) : ResultVar → Sem Value)).run P w = .ok xs w ∧ DenL ρ Φ w vs xs
  | [], vs, h => by simp only [resultsE, Tree.run, Option.some.injEq] at h; subst h; exact ⟨[], by simp, .nil⟩
  | .tmp t :: r, vs, h => by
    simp only [resultsE] at h
    obtain ⟨v, h1, h2⟩ := Tree.run_bind h
    obtain ⟨us, h3, h4⟩ := Tree.run_bind h2
    simp only [Tree.run, Option.some.injEq] at h4; subst h4
    have hv := hs.knows (.tmp t) true v h1 rfl
    simp only [Act.eval] at hv
    obtain ⟨xs, ih1, ih2⟩ := resultsE_run hs r us h3
    refine ⟨_ :: xs, ?_, .cons hv ih2⟩
    simp only [List.mapM_cons, Sem.run_bind, Sem.run_pure, Result.andThen_ok]
    rw [ih1]; simp
  | .cell b t :: r, vs, h => by
    simp only [resultsE] at h
    obtain ⟨v, h1, h2⟩ := Tree.run_bind h
    have hv := hs.knows (.tmp b) true v h1 rfl
    simp only [Act.eval] at hv
    split at h2
    · rename_i k off
      obtain ⟨u, h3, h4⟩ := Tree.run_bind h2
      obtain ⟨us, h5, h6⟩ := Tree.run_bind h4
      simp only [Tree.run, Option.some.injEq] at h6; subst h6
      obtain ⟨x, hx, hd⟩ := loadV_run (P := P) hs.rel.own hv h3
      obtain ⟨xs, ih1, ih2⟩ := resultsE_run hs r us h5
      have hv' := hv
      simp only [Den] at hv'
      obtain ⟨g, _, he⟩ := hv'
      rw [he] at hx
      simp only [Instr.loadAt, Instr.sureAddr, Sem.run_bind, Sem.run_pure, Result.andThen_ok] at hx
      have has : (asAddr (a.tmps.getD b undef)).run P w = .ok ⟨g, off, none⟩ w := by rw [he]; simp [asAddr]
      refine ⟨x :: xs, ?_, .cons hd ih2⟩
      simp only [List.mapM_cons, Sem.run_bind, has, Sem.run_pure, Result.andThen_ok, hx]
      rw [ih1]; simp
    · simp [Tree.run] at h2

theorem oneOf_den {vs : List SV} {xs : List Value} (h : DenL ρ Φ w vs xs) : Den ρ Φ w (oneOf vs) (if h : xs.toArray.size = 1 then xs.toArray[0] else .tuple xs.toArray) := by
  have hl := h.length
  match vs, xs, hl, h with
  | [], [], _, h => simp only [oneOf, Den]; exact ⟨[], by simp, h⟩
  | [v], [x], _, h =>
    simp only [DenL] at h
    obtain ⟨y, rest, he, hd, hr⟩ := h
    simp at he; obtain ⟨rfl, _⟩ := he
    simpa [oneOf] using hd
  | a :: b :: r, x :: y :: s, _, h => simp only [oneOf, Den]; exact ⟨_, by simp, h⟩

theorem results_run {st : St} {a : Act} (hs : Sat ρ Φ st a w) {fn : Func} {vs : List SV} (h : (resultsE T st fn.results.toList).run = some vs) : ∃ v, (results fn a.tmps).run P w = .ok v w ∧ Den ρ Φ w (oneOf vs) v := by
  obtain ⟨xs, h1, h2⟩ := resultsE_run (P := P) hs fn.results.toList vs h
  refine ⟨_, ?_, oneOf_den h2⟩
  unfold results
  rw [Sem.run_bind, Array.mapM_eq_mapM_toList]
  have e : (List.toArray <$> (fn.results.toList.mapM (fun r => match r with
      | .tmp t => pure (a.tmps.getD t undef)
      | .cell b t => do loadVar t (← asAddr (a.tmps.getD b undef)) : ResultVar → Sem Value))).run P w = .ok xs.toArray w := by
    rw [Sem.run_map, h1]; rfl
  refine (congrArg (fun r => Result.andThen r _) e).trans ?_
  rw [Result.andThen_ok, Sem.run_pure]

/-- Names below a bound alone. -/
def cut (n : Nat) (ρ : Names) : Names := fun k => if k < n then ρ k else none
theorem Named.of_cut {ρ : Names} {n q : Nat} (h : Named (cut n ρ) q) : Named ρ q := by
  obtain ⟨k, m, hk, hm⟩ := h
  unfold cut at hk
  split at hk
  · exact ⟨k, m, hk, hm⟩
  · cases hk

mutual
theorem den_cut {n : Nat} : ∀ {v : SV} {x : Value}, v.low n = true → Den ρ Φ w v x → Den (cut n ρ) Φ w v x
  | .li .., x, _, h | .si .., x, _, h | .lb _, x, _, h | .sb _, x, _, h | .str _, x, _, h | .val _, x, _, h | .lref .., x, _, h | .lst .., x, _, h | .emp _, x, _, h => by simpa [Den] using h
  | .any, x, _, h => by simp [Den]
  | .osl b sz lo hi, x, hl, h => by
    have hb : b < n := by simpa [SV.low, Nat.blt_eq] using hl
    simp only [Den, cut, if_pos hb] at h ⊢; exact h
  | .cut b sz lo hi, x, hl, h => by
    have hb : b < n := by simpa [SV.low, Nat.blt_eq] using hl
    simp only [Den, Sy.cut, if_pos hb] at h ⊢; exact h
  | .ref b off, x, hl, h => by
    have hb : b < n := by simpa [SV.low, Nat.blt_eq] using hl
    simp only [Den, cut, if_pos hb] at h ⊢; exact h
  | .rref b sz i off, x, hl, h => by
    have hb : b < n := by simpa [SV.low, Nat.blt_eq] using hl
    simp only [Den, cut, if_pos hb] at h ⊢; exact h
  | .sl b off len cap, x, hl, h => by
    have hb : b < n := by simpa [SV.low, Nat.blt_eq] using hl
    simp only [Den, cut, if_pos hb] at h ⊢; exact h
  | .own b, x, hl, h => by
    have hb : b < n := by simpa [SV.low, Nat.blt_eq] using hl
    simp only [Den, cut, if_pos hb] at h ⊢; exact h
  | .mp b, x, hl, h => by
    have hb : b < n := by simpa [SV.low, Nat.blt_eq] using hl
    simp only [Den, cut, if_pos hb] at h ⊢; exact h
  | .agg cs, x, hl, h => by
    simp only [SV.low] at hl
    simp only [Den] at h ⊢
    obtain ⟨vs, h1, h2⟩ := h; exact ⟨vs, h1, denL_cut hl h2⟩
  | .tup cs, x, hl, h => by
    simp only [SV.low] at hl
    simp only [Den] at h ⊢
    obtain ⟨vs, h1, h2⟩ := h; exact ⟨vs, h1, denL_cut hl h2⟩
  | .clo fn first caps, x, hl, h => by
    simp only [SV.low, Bool.and_eq_true] at hl
    simp only [Den] at h ⊢
    obtain ⟨fs, cs, h1, h2, h3⟩ := h; exact ⟨fs, cs, h1, denL_cut hl.1 h2, denL_cut hl.2 h3⟩
theorem denL_cut {n : Nat} : ∀ {l : List SV} {vs : List Value}, SV.lowL n l = true → DenL ρ Φ w l vs → DenL (cut n ρ) Φ w l vs
  | [], vs, _, h => by simpa [DenL] using h
  | c :: r, vs, hl, h => by
    simp only [SV.lowL, Bool.and_eq_true] at hl
    simp only [DenL] at h ⊢
    obtain ⟨v, rest, h1, h2, h3⟩ := h; exact ⟨v, rest, h1, den_cut hl.1 h2, denL_cut hl.2 h3⟩
end

theorem lowH_get {n : Nat} : ∀ {l : Hp} {k : Nat} {b : Blk}, lowH n l = true → l[k]? = some (some b) → lowB n (some b) = true
  | [], _, _, _, h => by simp at h
  | a :: r, 0, b, hl, h => by
    simp only [lowH, Bool.and_eq_true] at hl
    simp at h; subst h; exact hl.1
  | a :: r, k + 1, b, hl, h => by
    simp only [lowH, Bool.and_eq_true] at hl
    exact lowH_get hl.2 (by simpa using h)

theorem Rel.cut {H : Hp} (h : Rel ρ H Φ w) {n : Nat} (hl : lowH n (H.take n) = true) : Rel (cut n ρ) (H.take n) Φ w := by
  have back : ∀ k b, hget (H.take n) k = some b → k < n ∧ hget H k = some b := by
    intro k b hk
    rw [hget_iff, List.getElem?_take] at hk
    split at hk
    · rename_i hlt; exact ⟨hlt, hget_iff.2 hk⟩
    · cases hk
  have nm : ∀ k m, Sy.cut n ρ k = some m → k < n ∧ ρ k = some m := by
    intro k m hk
    unfold Sy.cut at hk
    split at hk
    · rename_i hlt; exact ⟨hlt, hk⟩
    · cases hk
  refine ⟨?_, ?_, ?_, ?_, h.phi, ?_⟩
  · intro k b hk
    obtain ⟨hkn, hk'⟩ := back k b hk
    obtain ⟨m, hm, hok⟩ := h.own k b hk'
    refine ⟨m, by unfold Sy.cut; rw [if_pos hkn]; exact hm, ?_⟩
    have hlow := lowH_get hl (hget_iff.1 hk)
    obtain ⟨con, ty, ro⟩ := b
    cases con with
    | cells cs =>
      simp only [lowB] at hlow
      simp only [BlkOK] at hok ⊢
      obtain ⟨g, vs, h1, h2, h3⟩ := hok
      exact ⟨g, vs, h1, h2, denL_cut hlow h3⟩
    | rows e nl xs =>
      simp only [BlkOK] at hok ⊢; exact hok
    | mapc k v es =>
      simp only [BlkOK] at hok ⊢; exact hok
  · intro k b m g hk hm hg hr
    exact h.apart k b m g (back k b hk).2 (nm k m hm).2 hg hr
  · intro k b m g hk hm hg hr
    exact h.kept k b m g (back k b hk).2 (nm k m hm).2 hg hr
  · intro k k' b b' m m' g hk hk' hr hr' hm hm' hg hg'
    exact h.inj k k' b b' m m' g (back k b hk).2 (back k' b' hk').2 hr hr' (nm k m hm).2 (nm k' m' hm').2 hg hg'
  · intro k m hm
    obtain ⟨hkn, hm'⟩ := nm k m hm
    have := h.dom k m hm'
    simp; omega

theorem callE_good (hE : GoodEnv P E) {drawn : CallE → Array Oper → St → Tree St} (hd : ∀ call, GoodCall P call → GoodDrawn P (drawn call)) (n : Nat) :
    ∀ d : Nat, GoodCall P (callE T E drawn n d)
  | 0 => ⟨fun f args H r h => by simp [callE, Tree.run] at h, fun f args H r H' h => by simp [callE, Tree.run] at h⟩
  | d + 1 => by
    have ih := callE_good hE hd n d
    have hdr := hd _ ih
    refine ⟨?_, ?_⟩
    · intro f args H r h
      simp only [callE] at h
      split at h
      · rename_i pre r' hsf; exact (tryPure_run hE hsf).1
      · split at h
        · rename_i t ht
          unfold tryCall at ht
          split at ht
          · rename_i s hs; exact hE.callEnters f s args H t hs ht
          · cases ht
        · split at h
          · rename_i fn hfn
            have hfn := GoodTab.func (P := P) f fn hfn
            split at h
            · rename_i c hc
              split at h
              · simp [Tree.run] at h
              · rename_i hn
                exact enters_of hfn hc hn
            · simp [Tree.run] at h
          · simp [Tree.run] at h
    · intro f args H r H' h
      simp only [callE] at h
      split at h
      · rename_i pre r' hsa
        obtain ⟨hpre, h2⟩ := Tree.run_need h
        simp only [Tree.run, Option.some.injEq, Prod.mk.injEq] at h2
        obtain ⟨rfl, rfl⟩ := h2
        obtain ⟨_, _, hc⟩ := tryPure_run hE hsa
        intro ρ Φ w vs hrel hv
        refine (hc hpre ρ Φ w vs hrel hv).mono ?_
        rintro e w' ⟨v, rfl, hd, hb⟩
        exact ⟨v, ρ, Φ, rfl, hd, hrel.below hb, Grow.below hrel.phi hb⟩
      · split at h
        · rename_i t ht
          unfold tryCall at ht
          split at ht
          · rename_i s hs; exact hE.calls f s args H t r H' hs ht h
          · cases ht
        · split at h
          · rename_i fn hfn
            have hfn := GoodTab.func (P := P) f fn hfn
            split at h
            · rename_i c hc
              split at h
              · simp [Tree.run] at h
              · obtain ⟨⟨ex, st'⟩, h1, h2⟩ := Tree.run_bind h
                intro ρ Φ w vals hrel hv
                have hgood := execE_good (T := T) ih hE hdr n c 0 (L := E.loops f) (fun j body run hj hr => hE.loops f fn c hfn hc j body hj run (by simpa using hr))
                refine calls_of_wp hfn hc ?_
                have hl := hv.length
                have hsat : Sat ρ Φ { tmps := Tm.of (args.map Slot.is) (args.length + (fn.ntmps - args.length)), heap := H } { tmps := vals.toArray ++ Array.replicate (fn.ntmps - vals.toArray.size) undef, defers := [] } w := by
                  refine ⟨rfl, by simp [hl, Tm.of], ?_, hrel⟩
                  intro t s ht
                  obtain ⟨h1, h2⟩ := Tm.of_get (by simp) ht
                  split at h2
                  · rename_i hlt
                    simp only [List.length_map] at hlt
                    subst h2
                    simp only [List.getElem_map]
                    obtain ⟨x, hx, hdx⟩ := hv.get (List.getElem?_eq_getElem hlt)
                    refine ⟨x, ?_, hdx⟩
                    rw [Array.getElem?_append_left (by simpa [hl] using hlt)]
                    simpa using hx
                  · rename_i hge
                    simp only [List.length_map, Nat.not_lt] at hge
                    subst h2
                    refine ⟨undef, ?_, trivial⟩
                    rw [Array.getElem?_append_right (by simpa [hl] using hge)]
                    simp only [List.size_toArray, hl]
                    rw [Array.getElem?_replicate, if_pos (by omega)]
                refine hgood ρ Φ w _ _ ex st' _ hsat h1 ?_
                intro ρ1 Φ1 a1 w1 g1 hs1 _
                have fin : ∀ vs : List SV, (resultsE T st' fn.results.toList).run = some vs → trim H.length (oneOf vs) st'.heap = (r, H') →
                    ∃ v, (results fn a1.tmps).run P w1 = .ok v w1 ∧ ∃ ρ' Φ', Den ρ' Φ' w1 r v ∧ Rel ρ' H' Φ' w1 ∧ Grow ρ Φ w ρ' Φ' w1 := by
                  intro vs hvs htr
                  obtain ⟨v, hv1, hv2⟩ := results_run (P := P) hs1 hvs
                  refine ⟨v, hv1, ?_⟩
                  unfold trim at htr
                  split at htr
                  · rename_i hc
                    simp only [Bool.and_eq_true] at hc
                    simp only [Prod.mk.injEq] at htr
                    obtain ⟨rfl, rfl⟩ := htr
                    refine ⟨cut H.length ρ1, Φ1, den_cut hc.1.2 hv2, hs1.rel.cut hc.2, ⟨⟨fun k m hk => ?_, g1.phi, g1.ext⟩, g1.back, fun q hq => g1.fresh q (Named.of_cut hq), g1.frame⟩⟩
                    have := hrel.dom k m hk
                    unfold cut; rw [if_pos this]; exact g1.names k m hk
                  · simp only [Prod.mk.injEq] at htr
                    obtain ⟨rfl, rfl⟩ := htr
                    exact ⟨ρ1, Φ1, hv2, hs1.rel, g1⟩
                cases ex with
                | exit i => simp [Tree.run] at h2
                | normal =>
                  simp only at h2
                  obtain ⟨vs, h3, h4⟩ := Tree.run_bind h2
                  simp only [Tree.run, Option.some.injEq] at h4
                  obtain ⟨v, q1, ρ', Φ', q2, q3, q4⟩ := fin vs h3 h4
                  exact ⟨hs1.defers, v, q1, v, ρ', Φ', rfl, q2, q3, q4⟩
                | ret =>
                  simp only at h2
                  obtain ⟨vs, h3, h4⟩ := Tree.run_bind h2
                  simp only [Tree.run, Option.some.injEq] at h4
                  obtain ⟨v, q1, ρ', Φ', q2, q3, q4⟩ := fin vs h3 h4
                  exact ⟨hs1.defers, v, q1, v, ρ', Φ', rfl, q2, q3, q4⟩
            · simp [Tree.run] at h
          · simp [Tree.run] at h
end
end Go.Sy
