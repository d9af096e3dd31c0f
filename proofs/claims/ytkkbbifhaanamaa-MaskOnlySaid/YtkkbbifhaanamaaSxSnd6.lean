/-
  One operation with its guard; a region in the order of its text; code; calls.
  No statement of the seat is proved here. Conditions: none.
-/
import Derived.Test.YtkkbbifhaanamaaSxSnd5
set_option linter.unusedSimpArgs false
set_option linter.unusedVariables false
namespace Go.Sx
open Go.RowKit

section
variable {P : Program} {call : CallE} {specs : Specs} {ρ : Nat → Nat} {Φ : Nat → Prop} {w : World}

theorem applyE_mono {o : Oper} {st st' : St} {x : SV × Eff} (hx : ∀ H, x.2 = .all H → st.heap.length ≤ H.length) (h : (applyE o st x).run = some st') : st.heap.length ≤ st'.heap.length := by
  obtain ⟨v, e⟩ := x
  cases e with
  | none => simp only [applyE, Tree.run, Option.some.injEq] at h; subst h; exact Nat.le_refl _
  | new b =>
    simp only [applyE] at h
    split at h
    · simp only [Tree.run, Option.some.injEq] at h; subst h; simp
    · simp [Tree.run] at h
  | upd k b => simp only [applyE, Tree.run, Option.some.injEq] at h; subst h; simp
  | all H =>
    simp only [applyE] at h
    split at h
    · simp only [Tree.run, Option.some.injEq] at h; subst h; exact hx H rfl
    · simp [Tree.run] at h

/-- A call's memory has as many names. -/
def MonoCall (call : CallE) : Prop := ∀ f args H r H', (call f args H).run = some (r, H') → H.length ≤ H'.length

theorem opE_mono (hm : MonoCall call) {ev : Bool → Operand → Tree SV} {H : Hp} {nm : Nat} {op : Op} {x : SV × Eff} (h : (opE P call ev H nm op).run = some x) : ∀ H', x.2 = .all H' → H.length ≤ H'.length := by
  intro H' hx
  have pc : ∀ op', (pureOp P ev true H op').bind (fun v => Tree.ret (v, Eff.none)) = opE P call ev H nm op → H.length ≤ H'.length := by
    intro op' he
    rw [← he] at h
    obtain ⟨v, _, h2⟩ := Tree.run_bind h
    simp only [Tree.run, Option.some.injEq] at h2
    subst h2
    cases hx
  cases op
  case call c =>
    obtain ⟨callee, args, argTypes⟩ := c
    cases callee
    case value f =>
      simp only [opE] at h
      obtain ⟨fv, _, h2⟩ := Tree.run_bind h
      split at h2
      · obtain ⟨as, _, h4⟩ := Tree.run_bind h2
        obtain ⟨r, h5, h6⟩ := Tree.run_bind h4
        simp only [Tree.run, Option.some.injEq] at h6
        subst h6
        cases hx
        exact hm _ _ _ _ _ h5
      · simp [Tree.run] at h2
    all_goals exact pc _ rfl
  case alloc t =>
    simp only [opE] at h
    split at h
    · simp only [Tree.run, Option.some.injEq] at h; subst h; cases hx
    · simp [Tree.run] at h
  case box t y =>
    simp only [opE] at h
    obtain ⟨v, _, h2⟩ := Tree.run_bind h
    split at h2
    · simp only [Tree.run, Option.some.injEq] at h2; subst h2; cases hx
    · simp [Tree.run] at h2
  case store t y z =>
    simp only [opE] at h
    obtain ⟨v, _, h2⟩ := Tree.run_bind h
    split at h2
    · obtain ⟨zv, _, h4⟩ := Tree.run_bind h2
      split at h4
      · split at h4
        · simp only [Tree.run, Option.some.injEq] at h4; subst h4; cases hx
        · simp [Tree.run] at h4
      · simp [Tree.run] at h4
    · simp [Tree.run] at h2
  case buildSlice t len parts =>
    simp only [opE] at h
    obtain ⟨vs, _, h2⟩ := Tree.run_bind h
    split at h2
    · split at h2
      · split at h2
        · split at h2
          · simp only [Tree.run, Option.some.injEq] at h2; subst h2; cases hx
          · simp [Tree.run] at h2
        · simp [Tree.run] at h2
      · simp [Tree.run] at h2
    · simp [Tree.run] at h2
  all_goals exact pc _ rfl

/-- One operation, with its guard. -/
theorem stepE_sound (hcall : GoodCall P call) (hspecs : GoodSpecs P specs) {ops : Array Oper} {st : St} {a : Act} {o : Oper} {st' : St} (hs : Sat ρ Φ st a w) (h : (stepE P call specs ops o st).run = some st')
    {K : Act → World → Prop} {Q : Exit → Act → World → Prop} (hK : ∀ (ρ' : Nat → Nat) (a' : Act) (w' : World), (∀ k, k < st.heap.length → ρ' k = ρ k) → Sat ρ' Φ st' a' w' → Ext Φ w w' → K a' w') :
    if Region.wanted o (yielded ops a.tmps) then o.wp P a w K Q else K (a.put o.dst undef) w := by
  unfold stepE at h
  cases hg : guardOf ops st.tmps o with
  | none => simp [hg, Tree.run] at h
  | some g =>
    have hw := guardOf_says hs hg
    rw [hw]
    simp only [hg] at h
    cases g with
    | no =>
      simp only [Tree.run, Option.some.injEq] at h; subst h
      simp only [Guard.says, Bool.false_eq_true, if_false]
      exact hK ρ _ w (fun _ _ => rfl) (hs.put o.dst (s := .unk) trivial) (Ext.refl _ _)
    | yes =>
      obtain ⟨x, h1, h2⟩ := Tree.run_bind h
      simp only [Guard.says, if_true]
      exact opE_sound hcall hs h1 h2 hK
    | on pc =>
      simp only [Guard.says]
      have branch : ∀ {t : Tree St}, t = .ite pc ((opE P call (evS st.tmps) st.heap st.heap.length o.op).bind (applyE o st)) (.ret { st with tmps := putS st.tmps o.dst .unk }) → t.run = some st' →
          if pc = true then o.wp P a w K Q else K (a.put o.dst undef) w := by
        intro t ht hr
        subst ht
        rcases Tree.run_ite hr with ⟨hb, hr2⟩ | ⟨hb, hr2⟩
        · rw [if_pos hb]
          obtain ⟨x, h1, h2⟩ := Tree.run_bind hr2
          exact opE_sound hcall hs h1 h2 hK
        · rw [if_neg (by simp [hb])]
          simp only [Tree.run, Option.some.injEq] at hr2; subst hr2
          exact hK ρ _ w (fun _ _ => rfl) (hs.put o.dst (s := .unk) trivial) (Ext.refl _ _)
      simp only at h
      split at h
      · rename_i hp
        obtain ⟨v, h1, h2⟩ := Tree.run_bind h
        simp only [Tree.run, Option.some.injEq] at h2; subst h2
        cases pc with
        | false =>
          simp only [Bool.false_eq_true, if_false]
          exact hK ρ _ w (fun _ _ => rfl) (hs.put o.dst (s := .when false v) rfl) (Ext.refl _ _)
        | true =>
          simp only [if_true]
          have hrun := pureOp_run (P := P) (o := o) (eval := a.eval) (ρ := ρ) (w := w) (fun y _ => hs.knows y) hs.rel h1
          unfold Oper.wp
          rw [hrun, Oper.upon_value]
          exact hK ρ _ w (fun _ _ => rfl) (hs.put o.dst (s := .when true v) rfl) (Ext.refl _ _)
      · split at h
        · rename_i k args argTypes hop
          obtain ⟨as, h1, h2⟩ := Tree.run_bind h
          split at h2
          · rename_i pre r hsa
            obtain ⟨hpre, h3⟩ := Tree.run_need h2
            simp only [Tree.run, Option.some.injEq] at h3; subst h3
            cases pc with
            | false =>
              simp only [Bool.false_eq_true, if_false]
              exact hK ρ _ w (fun _ _ => rfl) (hs.put o.dst (s := .when false r) rfl) (Ext.refl _ _)
            | true =>
              simp only [if_true]
              have e1 := evs_run (evS st.tmps true) a.eval ρ args.toList as (fun y _ v hv => hs.knows y true v hv rfl) h1
              have a1 : args.map a.eval = (SV.denL ρ as).toArray := by rw [← e1, ← Array.toList_map, Array.toArray_toList]
              have hent := hspecs.enters k as _ hsa
              have hc := hspecs.calls k as pre r hsa (by simpa using hpre) ρ w
              have he : (execOp a.eval o).run P w = .ok (.enter k (SV.denL ρ as).toArray) w := by
                simp only [execOp, hop, resolve, Deferred.ofValue, a1, Act.eval]
                simp only [Sem.run_bind, Sem.run_pure, Result.andThen_ok, invoke]
                rw [hent]; simp
              unfold Oper.wp
              rw [he, Oper.upon_enter]
              refine hc.mono ?_
              rintro e w' ⟨rfl, hb⟩
              exact hK ρ _ w' (fun _ _ => rfl) ((hs.world (hs.rel.below hb)).put o.dst (s := .when true r) rfl) (Ext.of_below hs.rel.phi hb)
          · exact branch rfl h2
        · exact branch rfl h

theorem stepE_mono (hm : MonoCall call) {ops : Array Oper} {o : Oper} {st st' : St} (h : (stepE P call specs ops o st).run = some st') : st.heap.length ≤ st'.heap.length := by
  have plain : ∀ {t : Tree St} {tm : List Slot}, t = .ret { st with tmps := tm } → t.run = some st' → st.heap.length ≤ st'.heap.length := by
    intro t tm ht hr; subst ht; simp only [Tree.run, Option.some.injEq] at hr; subst hr; exact Nat.le_refl _
  have full : ((opE P call (evS st.tmps) st.heap st.heap.length o.op).bind (applyE o st)).run = some st' → st.heap.length ≤ st'.heap.length := by
    intro hr
    obtain ⟨x, h1, h2⟩ := Tree.run_bind hr
    exact applyE_mono (opE_mono hm h1) h2
  have branch : ∀ {t : Tree St} {pc : Bool}, t = .ite pc ((opE P call (evS st.tmps) st.heap st.heap.length o.op).bind (applyE o st)) (.ret { st with tmps := putS st.tmps o.dst .unk }) → t.run = some st' → st.heap.length ≤ st'.heap.length := by
    intro t pc ht hr
    subst ht
    rcases Tree.run_ite hr with ⟨_, hr⟩ | ⟨_, hr⟩
    · exact full hr
    · exact plain rfl hr
  unfold stepE at h
  cases hg : guardOf ops st.tmps o with
  | none => simp [hg, Tree.run] at h
  | some g =>
    simp only [hg] at h
    cases g with
    | no => exact plain rfl h
    | yes => exact full h
    | on pc =>
      simp only at h
      split at h
      · obtain ⟨v, _, h2⟩ := Tree.run_bind h
        exact plain rfl h2
      · split at h
        · obtain ⟨as, _, h2⟩ := Tree.run_bind h
          split at h2
          · obtain ⟨_, h3⟩ := Tree.run_need h2
            exact plain rfl h3
          · exact branch rfl h2
        · exact branch rfl h

/-- The operations of a region, in the order of the text. -/
theorem stepsE_sound (hcall : GoodCall P call) (hmono : MonoCall call) (hspecs : GoodSpecs P specs) {ops : Array Oper} {Q : Exit → Act → World → Prop} :
    ∀ (l : List Oper) {ρ : Nat → Nat} {w : World} {st : St} {a : Act} {st' : St}, Sat ρ Φ st a w → (stepsE P call specs ops l st).run = some st' →
      (∀ (ρ' : Nat → Nat) (a' : Act) (w' : World), (∀ k, k < st.heap.length → ρ' k = ρ k) → st.heap.length ≤ st'.heap.length → Sat ρ' Φ st' a' w' → Ext Φ w w' → Q .normal a' w') → wpList P ops Q l a w
  | [], ρ, w, st, a, st', hs, h, hQ => by
    simp only [stepsE, Tree.run, Option.some.injEq] at h; subst h
    exact hQ ρ a w (fun _ _ => rfl) (Nat.le_refl _) hs (Ext.refl _ _)
  | o :: r, ρ, w, st, a, st', hs, h, hQ => by
    simp only [stepsE] at h
    obtain ⟨st1, h1, h2⟩ := Tree.run_bind h
    have hm1 := stepE_mono hmono h1
    refine wpList_step fun K hKK => ?_
    refine stepE_sound hcall hspecs hs h1 ?_
    intro ρ1 a1 w1 hρ1 hs1 he1
    refine hKK a1 w1 ?_
    refine stepsE_sound hcall hmono hspecs r hs1 h2 ?_
    intro ρ2 a2 w2 hρ2 hm2 hs2 he2
    exact hQ ρ2 a2 w2 (fun k hk => (hρ2 k (by omega)).trans (hρ1 k hk)) (by omega) hs2 (he1.trans he2)

/-- What is asked of the way in which a region that draws its order is run. -/
structure GoodDrawn (P : Program) (drawn : Array Oper → St → Tree St) : Prop where
  mono : ∀ (ops : Array Oper) (st st' : St), (drawn ops st).run = some st' → st.heap.length ≤ st'.heap.length
  wp : ∀ (ops : Array Oper) (id : Nat) (ρ : Nat → Nat) (Φ : Nat → Prop) (w : World) (st : St) (a : Act) (st' : St) (Q : Exit → Act → World → Prop), Sat ρ Φ st a w → (drawn ops st).run = some st' →
    (∀ (ρ' : Nat → Nat) (a' : Act) (w' : World), (∀ k, k < st.heap.length → ρ' k = ρ k) → Sat ρ' Φ st' a' w' → Ext Φ w w' → Q .normal a' w') → (Code.region id ops true).wp P Q a w

def Ex.exit? : Ex → Exit
  | .normal => .normal
  | .exit id => .exit id
  | .ret => .ret

/-- What is asked of a piece of code's run. -/
structure GoodCode (P : Program) (c : Code) (run : St → Tree (Ex × St)) : Prop where
  mono : ∀ (st : St) (ex : Ex) (st' : St), (run st).run = some (ex, st') → st.heap.length ≤ st'.heap.length
  wp : ∀ (ρ : Nat → Nat) (Φ : Nat → Prop) (w : World) (st : St) (a : Act) (ex : Ex) (st' : St) (Q : Exit → Act → World → Prop), Sat ρ Φ st a w → (run st).run = some (ex, st') →
    (∀ (ρ' : Nat → Nat) (a' : Act) (w' : World), (∀ k, k < st.heap.length → ρ' k = ρ k) → Sat ρ' Φ st' a' w' → Ext Φ w w' → Q ex.exit? a' w') → c.wp P Q a w

theorem loopE_mono {body : Code} {run : St → Tree (Ex × St)} (hbody : GoodCode P body run) : ∀ (n : Nat) (st : St) (ex : Ex) (st' : St), (loopE run n st).run = some (ex, st') → st.heap.length ≤ st'.heap.length
  | 0, st, ex, st', h => by simp [loopE, Tree.run] at h
  | n + 1, st, ex, st', h => by
    simp only [loopE] at h
    obtain ⟨⟨ex1, st1⟩, h1, h2⟩ := Tree.run_bind h
    have hm1 := hbody.mono st ex1 st1 h1
    cases ex1 with
    | normal => exact Nat.le_trans hm1 (loopE_mono hbody n st1 ex st' h2)
    | exit id =>
      simp only [Tree.run, Option.some.injEq, Prod.mk.injEq] at h2
      obtain ⟨rfl, rfl⟩ := h2; exact hm1
    | ret =>
      simp only [Tree.run, Option.some.injEq, Prod.mk.injEq] at h2
      obtain ⟨rfl, rfl⟩ := h2; exact hm1

theorem loopE_sound {body : Code} {run : St → Tree (Ex × St)} (hbody : GoodCode P body run) : ∀ (n : Nat) (ρ : Nat → Nat) (Φ : Nat → Prop) (w : World) (st : St) (a : Act) (ex : Ex) (st' : St) (Q : Exit → Act → World → Prop), Sat ρ Φ st a w → (loopE run n st).run = some (ex, st') →
    (∀ (ρ' : Nat → Nat) (a' : Act) (w' : World), (∀ k, k < st.heap.length → ρ' k = ρ k) → Sat ρ' Φ st' a' w' → Ext Φ w w' → Q ex.exit? a' w') → Code.rounds P body Q n a w
  | 0, ρ, Φ, w, st, a, ex, st', Q, hs, h, _ => by simp [loopE, Tree.run] at h
  | n + 1, ρ, Φ, w, st, a, ex, st', Q, hs, h, hQ => by
    simp only [loopE] at h
    obtain ⟨⟨ex1, st1⟩, h1, h2⟩ := Tree.run_bind h
    have hm1 := hbody.mono st ex1 st1 h1
    rw [rounds_succ]
    refine hbody.wp ρ Φ w st a ex1 st1 _ hs h1 ?_
    intro ρ1 a1 w1 hρ1 hs1 he1
    cases ex1 with
    | normal =>
      simp only [Ex.exit?, Exit.then]
      refine loopE_sound hbody n ρ1 Φ w1 st1 a1 ex st' Q hs1 h2 ?_
      intro ρ2 a2 w2 hρ2 hs2 he2
      exact hQ ρ2 a2 w2 (fun k hk => (hρ2 k (by omega)).trans (hρ1 k hk)) hs2 (he1.trans he2)
    | exit id =>
      simp only [Tree.run, Option.some.injEq, Prod.mk.injEq] at h2
      obtain ⟨rfl, rfl⟩ := h2
      exact hQ ρ1 a1 w1 hρ1 hs1 he1
    | ret =>
      simp only [Tree.run, Option.some.injEq, Prod.mk.injEq] at h2
      obtain ⟨rfl, rfl⟩ := h2
      exact hQ ρ1 a1 w1 hρ1 hs1 he1

theorem stepsE_mono (hm : MonoCall call) {ops : Array Oper} : ∀ (l : List Oper) {st st' : St}, (stepsE P call specs ops l st).run = some st' → st.heap.length ≤ st'.heap.length
  | [], st, st', h => by simp only [stepsE, Tree.run, Option.some.injEq] at h; subst h; exact Nat.le_refl _
  | o :: r, st, st', h => by
    simp only [stepsE] at h
    obtain ⟨st1, h1, h2⟩ := Tree.run_bind h
    exact Nat.le_trans (stepE_mono hm h1) (stepsE_mono hm r h2)

/-- Code. -/
theorem execE_good (hcall : GoodCall P call) (hmono : MonoCall call) (hspecs : GoodSpecs P specs) {drawn : Array Oper → St → Tree St} (hd : GoodDrawn P drawn) (n : Nat) : ∀ c : Code, GoodCode P c (execE P call specs drawn n c)
  | .skip => by
    refine ⟨fun st ex st' h => ?_, fun ρ Φ w st a ex st' Q hs h hQ => ?_⟩
    · simp only [execE, Tree.run, Option.some.injEq, Prod.mk.injEq] at h; obtain ⟨rfl, rfl⟩ := h; exact Nat.le_refl _
    · simp only [execE, Tree.run, Option.some.injEq, Prod.mk.injEq] at h; obtain ⟨rfl, rfl⟩ := h
      exact wp_skip (hQ ρ a w (fun _ _ => rfl) hs (Ext.refl _ _))
  | .region id ops false => by
    refine ⟨fun st ex st' h => ?_, fun ρ Φ w st a ex st' Q hs h hQ => ?_⟩
    · simp only [execE] at h
      obtain ⟨st1, h1, h2⟩ := Tree.run_bind h
      simp only [Tree.run, Option.some.injEq, Prod.mk.injEq] at h2; obtain ⟨rfl, rfl⟩ := h2
      exact stepsE_mono hmono _ h1
    · simp only [execE] at h
      obtain ⟨st1, h1, h2⟩ := Tree.run_bind h
      simp only [Tree.run, Option.some.injEq, Prod.mk.injEq] at h2; obtain ⟨rfl, rfl⟩ := h2
      exact wp_region_list (stepsE_sound hcall hmono hspecs ops.toList hs h1 fun ρ' a' w' hρ _ hs' he => hQ ρ' a' w' hρ hs' he)
  | .region id ops true => by
    refine ⟨fun st ex st' h => ?_, fun ρ Φ w st a ex st' Q hs h hQ => ?_⟩
    · simp only [execE] at h
      obtain ⟨st1, h1, h2⟩ := Tree.run_bind h
      simp only [Tree.run, Option.some.injEq, Prod.mk.injEq] at h2; obtain ⟨rfl, rfl⟩ := h2
      exact hd.mono ops st st1 h1
    · simp only [execE] at h
      obtain ⟨st1, h1, h2⟩ := Tree.run_bind h
      simp only [Tree.run, Option.some.injEq, Prod.mk.injEq] at h2; obtain ⟨rfl, rfl⟩ := h2
      exact hd.wp ops id ρ Φ w st a st1 Q hs h1 hQ
  | .seq x y => by
    have hx := execE_good hcall hmono hspecs hd n x
    have hy := execE_good hcall hmono hspecs hd n y
    refine ⟨fun st ex st' h => ?_, fun ρ Φ w st a ex st' Q hs h hQ => ?_⟩
    · simp only [execE] at h
      obtain ⟨⟨ex1, st1⟩, h1, h2⟩ := Tree.run_bind h
      have hm1 := hx.mono st ex1 st1 h1
      cases ex1 with
      | normal => exact Nat.le_trans hm1 (hy.mono st1 ex st' h2)
      | exit i => simp only [Tree.run, Option.some.injEq, Prod.mk.injEq] at h2; obtain ⟨rfl, rfl⟩ := h2; exact hm1
      | ret => simp only [Tree.run, Option.some.injEq, Prod.mk.injEq] at h2; obtain ⟨rfl, rfl⟩ := h2; exact hm1
    · simp only [execE] at h
      obtain ⟨⟨ex1, st1⟩, h1, h2⟩ := Tree.run_bind h
      have hm1 := hx.mono st ex1 st1 h1
      refine wp_seq (hx.wp ρ Φ w st a ex1 st1 _ hs h1 ?_)
      intro ρ1 a1 w1 hρ1 hs1 he1
      cases ex1 with
      | normal =>
        simp only [Ex.exit?, Exit.then]
        refine hy.wp ρ1 Φ w1 st1 a1 ex st' Q hs1 h2 ?_
        intro ρ2 a2 w2 hρ2 hs2 he2
        exact hQ ρ2 a2 w2 (fun k hk => (hρ2 k (by omega)).trans (hρ1 k hk)) hs2 (he1.trans he2)
      | exit i =>
        simp only [Tree.run, Option.some.injEq, Prod.mk.injEq] at h2; obtain ⟨rfl, rfl⟩ := h2
        exact hQ ρ1 a1 w1 hρ1 hs1 he1
      | ret =>
        simp only [Tree.run, Option.some.injEq, Prod.mk.injEq] at h2; obtain ⟨rfl, rfl⟩ := h2
        exact hQ ρ1 a1 w1 hρ1 hs1 he1
  | .cond c x y => by
    have hx := execE_good hcall hmono hspecs hd n x
    have hy := execE_good hcall hmono hspecs hd n y
    refine ⟨fun st ex st' h => ?_, fun ρ Φ w st a ex st' Q hs h hQ => ?_⟩
    · simp only [execE] at h
      obtain ⟨cv, h1, h2⟩ := Tree.run_bind h
      split at h2
      · exact hx.mono _ _ _ h2
      · exact hy.mono _ _ _ h2
      · rcases Tree.run_ite h2 with ⟨_, h3⟩ | ⟨_, h3⟩
        · exact hx.mono _ _ _ h3
        · exact hy.mono _ _ _ h3
      · simp [Tree.run] at h2
    · simp only [execE] at h
      obtain ⟨cv, h1, h2⟩ := Tree.run_bind h
      have hc := hs.knows c true cv h1 rfl
      split at h2
      · exact wp_cond_true hc (hx.wp ρ Φ w st a ex st' Q hs h2 hQ)
      · exact wp_cond_false hc (hy.wp ρ Φ w st a ex st' Q hs h2 hQ)
      · rename_i b
        rcases Tree.run_ite h2 with ⟨hb, h3⟩ | ⟨hb, h3⟩
        · subst hb; exact wp_cond_true hc (hx.wp ρ Φ w st a ex st' Q hs h3 hQ)
        · subst hb; exact wp_cond_false hc (hy.wp ρ Φ w st a ex st' Q hs h3 hQ)
      · simp [Tree.run] at h2
  | .block id x => by
    have hx := execE_good hcall hmono hspecs hd n x
    refine ⟨fun st ex st' h => ?_, fun ρ Φ w st a ex st' Q hs h hQ => ?_⟩
    · simp only [execE] at h
      obtain ⟨⟨ex1, st1⟩, h1, h2⟩ := Tree.run_bind h
      have hm1 := hx.mono st ex1 st1 h1
      cases ex1 with
      | normal => simp only [Tree.run, Option.some.injEq, Prod.mk.injEq] at h2; obtain ⟨rfl, rfl⟩ := h2; exact hm1
      | exit i =>
        simp only at h2
        split at h2 <;> (simp only [Tree.run, Option.some.injEq, Prod.mk.injEq] at h2; obtain ⟨rfl, rfl⟩ := h2; exact hm1)
      | ret => simp only [Tree.run, Option.some.injEq, Prod.mk.injEq] at h2; obtain ⟨rfl, rfl⟩ := h2; exact hm1
    · simp only [execE] at h
      obtain ⟨⟨ex1, st1⟩, h1, h2⟩ := Tree.run_bind h
      refine wp_block (hx.wp ρ Φ w st a ex1 st1 _ hs h1 ?_)
      intro ρ1 a1 w1 hρ1 hs1 he1
      cases ex1 with
      | normal =>
        simp only [Tree.run, Option.some.injEq, Prod.mk.injEq] at h2; obtain ⟨rfl, rfl⟩ := h2
        exact hQ ρ1 a1 w1 hρ1 hs1 he1
      | exit i =>
        simp only at h2
        simp only [Ex.exit?, Exit.inBlock]
        split at h2
        · rename_i hi
          simp only [Tree.run, Option.some.injEq, Prod.mk.injEq] at h2; obtain ⟨rfl, rfl⟩ := h2
          rw [if_pos (by simpa using hi)]
          exact hQ ρ1 a1 w1 hρ1 hs1 he1
        · rename_i hi
          simp only [Tree.run, Option.some.injEq, Prod.mk.injEq] at h2; obtain ⟨rfl, rfl⟩ := h2
          rw [if_neg (by simpa using hi)]
          exact hQ ρ1 a1 w1 hρ1 hs1 he1
      | ret =>
        simp only [Tree.run, Option.some.injEq, Prod.mk.injEq] at h2; obtain ⟨rfl, rfl⟩ := h2
        exact hQ ρ1 a1 w1 hρ1 hs1 he1
  | .loop x => by
    have hx := execE_good hcall hmono hspecs hd n x
    refine ⟨fun st ex st' h => loopE_mono hx n st ex st' h, fun ρ Φ w st a ex st' Q hs h hQ => ?_⟩
    exact wp_loop_rounds n (loopE_sound hx n ρ Φ w st a ex st' Q hs h hQ)
  | .exit id => by
    refine ⟨fun st ex st' h => ?_, fun ρ Φ w st a ex st' Q hs h hQ => ?_⟩
    · simp only [execE, Tree.run, Option.some.injEq, Prod.mk.injEq] at h; obtain ⟨rfl, rfl⟩ := h; exact Nat.le_refl _
    · simp only [execE, Tree.run, Option.some.injEq, Prod.mk.injEq] at h; obtain ⟨rfl, rfl⟩ := h
      exact wp_exit (hQ ρ a w (fun _ _ => rfl) hs (Ext.refl _ _))
  | .ret => by
    refine ⟨fun st ex st' h => ?_, fun ρ Φ w st a ex st' Q hs h hQ => ?_⟩
    · simp only [execE, Tree.run, Option.some.injEq, Prod.mk.injEq] at h; obtain ⟨rfl, rfl⟩ := h; exact Nat.le_refl _
    · simp only [execE, Tree.run, Option.some.injEq, Prod.mk.injEq] at h; obtain ⟨rfl, rfl⟩ := h
      exact wp_ret (hQ ρ a w (fun _ _ => rfl) hs (Ext.refl _ _))
  | .rangeFunc .. => ⟨fun st ex st' h => by simp [execE, Tree.run] at h, fun ρ Φ w st a ex st' Q hs h hQ => by simp [execE, Tree.run] at h⟩
  | .scope .. => ⟨fun st ex st' h => by simp [execE, Tree.run] at h, fun ρ Φ w st a ex st' Q hs h hQ => by simp [execE, Tree.run] at h⟩
  | .label .. => ⟨fun st ex st' h => by simp [execE, Tree.run] at h, fun ρ Φ w st a ex st' Q hs h hQ => by simp [execE, Tree.run] at h⟩
  | .goto .. => ⟨fun st ex st' h => by simp [execE, Tree.run] at h, fun ρ Φ w st a ex st' Q hs h hQ => by simp [execE, Tree.run] at h⟩
  | .refuse .. => ⟨fun st ex st' h => by simp [execE, Tree.run] at h, fun ρ Φ w st a ex st' Q hs h hQ => by simp [execE, Tree.run] at h⟩

/-! ### Calls -/

theorem resultsE_run {st : St} {a : Act} (hs : Sat ρ Φ st a w) : ∀ (l : List ResultVar) (vs : List SV), (resultsE P st l).run = some vs →
    (l.mapM (fun r => match r with
      | .tmp t => pure (a.tmps.getD t undef)
      | .cell b t => do loadVar t (← asAddr (a.tmps.getD b undef)) : ResultVar → Sem Value)).run P w = .ok (SV.denL ρ vs) w
  | [], vs, h => by simp only [resultsE, Tree.run, Option.some.injEq] at h; subst h; simp [SV.denL]
  | .tmp t :: r, vs, h => by
    simp only [resultsE] at h
    obtain ⟨v, h1, h2⟩ := Tree.run_bind h
    obtain ⟨us, h3, h4⟩ := Tree.run_bind h2
    simp only [Tree.run, Option.some.injEq] at h4; subst h4
    have hv := hs.knows (.tmp t) true v h1 rfl
    simp only [Act.eval] at hv
    have ih := resultsE_run hs r us h3
    simp only [List.mapM_cons, Sem.run_bind, Sem.run_pure, Result.andThen_ok, hv, SV.denL]
    rw [ih]; simp
  | .cell b t :: r, vs, h => by
    simp only [resultsE] at h
    obtain ⟨v, h1, h2⟩ := Tree.run_bind h
    have hv := hs.knows (.tmp b) true v h1 rfl
    simp only [Act.eval] at hv
    split at h2
    · rename_i k off
      obtain ⟨u, h3, h4⟩ := Tree.run_bind h2
      obtain ⟨us, h5, h6⟩ := Tree.run_bind h4
      simp only [Tree.run, Option.some.injEq] at h6; subst h6
      unfold loadH at h3
      split at h3
      · rename_i blk hb
        have hl := loadVar_run (P := P) hs.rel hb (orBad_run h3)
        have ih := resultsE_run hs r us h5
        have has : (asAddr (a.tmps.getD b undef)).run P w = .ok ⟨ρ k, off, none⟩ w := by rw [hv]; simp [SV.den, asAddr]
        simp only [List.mapM_cons, Sem.run_bind, has, Sem.run_pure, Result.andThen_ok, hl, SV.denL]
        rw [ih]; simp
      · simp [Tree.run] at h3
    · simp [Tree.run] at h2

theorem oneOf_den (vs : List SV) : (oneOf vs).den ρ = if h : (SV.denL ρ vs).toArray.size = 1 then (SV.denL ρ vs).toArray[0] else .tuple (SV.denL ρ vs).toArray := by
  match vs with
  | [] => simp [oneOf, SV.den, SV.denL]
  | [v] => simp [oneOf, SV.denL]
  | a :: b :: r => simp [oneOf, SV.den, SV.denL]

theorem results_run {st : St} {a : Act} (hs : Sat ρ Φ st a w) {fn : Func} {vs : List SV} (h : (resultsE P st fn.results.toList).run = some vs) : (results fn a.tmps).run P w = .ok ((oneOf vs).den ρ) w := by
  have := resultsE_run (P := P) hs fn.results.toList vs h
  unfold results
  rw [Sem.run_bind, Array.mapM_eq_mapM_toList]
  have e : (List.toArray <$> (fn.results.toList.mapM (fun r => match r with
      | .tmp t => pure (a.tmps.getD t undef)
      | .cell b t => do loadVar t (← asAddr (a.tmps.getD b undef)) : ResultVar → Sem Value))).run P w = .ok (SV.denL ρ vs).toArray w := by
    rw [Sem.run_map, this]; rfl
  rw [oneOf_den]
  refine (congrArg (fun r => Result.andThen r _) e).trans ?_
  rw [Result.andThen_ok, Sem.run_pure]

theorem Rel.take {H : Hp} (h : Rel ρ H Φ w) (n : Nat) : Rel ρ (H.take n) Φ w := by
  have sub : ∀ (k : Nat) (b : Blk), (H.take n)[k]? = some (some b) → H[k]? = some (some b) := by
    intro k b hk
    rw [List.getElem?_take] at hk
    split at hk
    · exact hk
    · cases hk
  exact ⟨fun k b hk => h.own k b (sub k b hk), fun k b hk => h.apart k b (sub k b hk), fun k k' b b' hk hk' => h.inj k k' b b' (sub k b hk) (sub k' b' hk'), h.phi⟩

theorem callE_good (hspecs : GoodSpecs P specs) {drawn : CallE → Array Oper → St → Tree St} (hd : ∀ call, GoodCall P call → MonoCall call → GoodDrawn P (drawn call)) (n : Nat) :
    ∀ d : Nat, GoodCall P (callE P specs drawn n d) ∧ MonoCall (callE P specs drawn n d)
  | 0 => ⟨⟨fun f args H r h => by simp [callE, Tree.run] at h, fun f args H r H' h => by simp [callE, Tree.run] at h⟩, fun f args H r H' h => by simp [callE, Tree.run] at h⟩
  | d + 1 => by
    obtain ⟨ihc, ihm⟩ := callE_good hspecs hd n d
    have hdr := hd _ ihc ihm
    refine ⟨⟨?_, ?_⟩, ?_⟩
    · intro f args H r h
      simp only [callE] at h
      split at h
      · rename_i pre r' hsf; exact hspecs.enters f args _ hsf
      · split at h
        · rename_i fn hfn
          split at h
          · rename_i c hc
            split at h
            · simp [Tree.run] at h
            · rename_i hn
              exact enters_of hfn hc (by simpa using hn)
          · simp [Tree.run] at h
        · simp [Tree.run] at h
    · intro f args H r H' h ρ Φ w hrel
      simp only [callE] at h
      split at h
      · rename_i pre r' hsa
        obtain ⟨hpre, h2⟩ := Tree.run_need h
        simp only [Tree.run, Option.some.injEq, Prod.mk.injEq] at h2
        obtain ⟨rfl, rfl⟩ := h2
        refine (hspecs.calls f args pre r' hsa hpre ρ w).mono ?_
        rintro e w' ⟨rfl, hb⟩
        exact ⟨ρ, fun _ _ => rfl, rfl, hrel.below hb, Ext.of_below hrel.phi hb⟩
      · split at h
        · rename_i fn hfn
          split at h
          · rename_i c hc
            split at h
            · simp [Tree.run] at h
            · obtain ⟨⟨ex, st'⟩, h1, h2⟩ := Tree.run_bind h
              have hgood := execE_good ihc ihm hspecs hdr n c
              refine calls_of_wp hfn hc ?_
              have hsat : Sat ρ Φ { tmps := args.map Slot.is ++ List.replicate (fn.ntmps - args.length) .unk, heap := H } { tmps := (SV.denL ρ args).toArray ++ Array.replicate (fn.ntmps - (SV.denL ρ args).toArray.size) undef, defers := [] } w := by
                refine ⟨rfl, by simp [SV.denL_length], ?_, hrel⟩
                intro t s ht
                rcases Nat.lt_or_ge t args.length with hlt | hge
                · rw [List.getElem?_append_left (by simpa using hlt)] at ht
                  simp only [List.getElem?_map, List.getElem?_eq_getElem hlt, Option.map_some, Option.some.injEq] at ht
                  subst ht
                  refine ⟨(args[t]).den ρ, ?_, rfl⟩
                  rw [Array.getElem?_append_left (by simpa [SV.denL_length] using hlt)]
                  simp [SV.denL_map, hlt]
                · rw [List.getElem?_append_right (by simpa using hge)] at ht
                  simp only [List.length_map] at ht
                  rw [List.getElem?_replicate] at ht
                  split at ht
                  · rename_i hlt
                    simp only [Option.some.injEq] at ht; subst ht
                    refine ⟨undef, ?_, trivial⟩
                    rw [Array.getElem?_append_right (by simpa [SV.denL_length] using hge)]
                    simp only [List.size_toArray, SV.denL_length]
                    rw [Array.getElem?_replicate, if_pos hlt]
                  · cases ht
              refine hgood.wp ρ Φ w _ _ ex st' _ hsat h1 ?_
              intro ρ1 a1 w1 hρ1 hs1 he1
              have fin : ∀ vs : List SV, (resultsE P st' fn.results.toList).run = some vs → r = oneOf vs → (∃ Hx, Rel ρ1 H' Φ w1 ∧ Hx = H') → bodyPost P fn (fun e w' => ∃ ρ' : Nat → Nat, (∀ k, k < H.length → ρ' k = ρ k) ∧ e = .returned (r.den ρ') ∧ Rel ρ' H' Φ w' ∧ Ext Φ w w') ex.exit? a1 w1 ∨ (∃ i, ex = .exit i) := by
                intro vs hvs hr hrel'
                cases ex with
                | exit i => exact .inr ⟨i, rfl⟩
                | normal =>
                  refine .inl ⟨hs1.defers, r.den ρ1, ?_, ρ1, hρ1, rfl, hrel'.choose_spec.1, he1⟩
                  rw [hr]; exact results_run hs1 hvs
                | ret =>
                  refine .inl ⟨hs1.defers, r.den ρ1, ?_, ρ1, hρ1, rfl, hrel'.choose_spec.1, he1⟩
                  rw [hr]; exact results_run hs1 hvs
              have heap' : ∀ vs : List SV, H' = (if (oneOf vs).low H.length && lowH H.length (st'.heap.take H.length) && Nat.ble H.length st'.heap.length then st'.heap.take H.length else st'.heap) → Rel ρ1 H' Φ w1 := by
                intro vs he
                split at he
                · subst he; exact hs1.rel.take _
                · subst he; exact hs1.rel
              cases ex with
              | exit i => simp [Tree.run] at h2
              | normal =>
                simp only at h2
                obtain ⟨vs, h3, h4⟩ := Tree.run_bind h2
                simp only [Tree.run, Option.some.injEq, Prod.mk.injEq] at h4
                obtain ⟨hr, hH⟩ := h4
                rcases fin vs h3 hr.symm ⟨H', heap' vs hH.symm, rfl⟩ with hf | ⟨i, hi⟩
                · exact hf
                · cases hi
              | ret =>
                simp only at h2
                obtain ⟨vs, h3, h4⟩ := Tree.run_bind h2
                simp only [Tree.run, Option.some.injEq, Prod.mk.injEq] at h4
                obtain ⟨hr, hH⟩ := h4
                rcases fin vs h3 hr.symm ⟨H', heap' vs hH.symm, rfl⟩ with hf | ⟨i, hi⟩
                · exact hf
                · cases hi
          · simp [Tree.run] at h
        · simp [Tree.run] at h
    · intro f args H r H' h
      simp only [callE] at h
      split at h
      · obtain ⟨_, h2⟩ := Tree.run_need h
        simp only [Tree.run, Option.some.injEq, Prod.mk.injEq] at h2
        obtain ⟨_, rfl⟩ := h2; exact Nat.le_refl _
      · split at h
        · rename_i fn hfn
          split at h
          · rename_i c hc
            split at h
            · simp [Tree.run] at h
            · obtain ⟨⟨ex, st'⟩, h1, h2⟩ := Tree.run_bind h
              have hgood := execE_good ihc ihm hspecs hdr n c
              have hm := hgood.mono _ ex st' h1
              have fin : ∀ vs : List SV, H' = (if (oneOf vs).low H.length && lowH H.length (st'.heap.take H.length) && Nat.ble H.length st'.heap.length then st'.heap.take H.length else st'.heap) → H.length ≤ H'.length := by
                intro vs he
                split at he
                · rename_i hc'
                  simp only [Bool.and_eq_true, Nat.ble_eq] at hc'
                  subst he
                  rw [List.length_take]; omega
                · subst he; exact hm
              cases ex with
              | exit i => simp [Tree.run] at h2
              | normal =>
                simp only at h2
                obtain ⟨vs, h3, h4⟩ := Tree.run_bind h2
                simp only [Tree.run, Option.some.injEq, Prod.mk.injEq] at h4
                exact fin vs h4.2.symm
              | ret =>
                simp only at h2
                obtain ⟨vs, h3, h4⟩ := Tree.run_bind h2
                simp only [Tree.run, Option.some.injEq, Prod.mk.injEq] at h4
                exact fin vs h4.2.symm
          · simp [Tree.run] at h
        · simp [Tree.run] at h

end
end Go.Sx
