/-
  A state and what it says; one operation with its guard; a region in the order of its text.
  No statement of the seat is proved here. Conditions: none.
-/
import Derived.Test.YtkkbbifhaanamaaY11
set_option linter.unusedSimpArgs false
set_option linter.unusedVariables false
namespace Go.Sy
open Go.RowKit

/-! ### 1. A state -/

structure Sat (ρ : Names) (Φ : Nat → Prop) (st : St) (a : Act) (w : World) : Prop where
  defers : a.defers = []
  size : a.tmps.size = st.tmps.length
  slot : ∀ (t : Nat) (s : Slot), st.tmps[t]? = some s → ∃ x, a.tmps[t]? = some x ∧ s.ok ρ Φ w x
  rel : Rel ρ st.heap Φ w

section
variable {ρ ρ' : Names} {Φ Φ' : Nat → Prop} {w w' : World} {st : St} {a : Act}

theorem slots_put (hsz : a.tmps.size = st.tmps.length) (h : ∀ (t : Nat) (s : Slot), st.tmps[t]? = some s → ∃ x, a.tmps[t]? = some x ∧ s.ok ρ Φ w x) (dst : Option Tmp) {s : Slot} {x : Value} (hs : s.ok ρ Φ w x) :
    (a.put dst x).tmps.size = (putS st.tmps dst s).length ∧ ∀ (t : Nat) (s' : Slot), (putS st.tmps dst s)[t]? = some s' → ∃ x', (a.put dst x).tmps[t]? = some x' ∧ s'.ok ρ Φ w x' := by
  cases dst with
  | none => exact ⟨hsz, h⟩
  | some d =>
    refine ⟨by simp [Act.put, putS, hsz, Tm.length_set], ?_⟩
    intro t s' ht
    simp only [putS] at ht
    rw [Tm.getElem?_set] at ht
    simp only [Act.put]
    rw [Array.getElem?_setIfInBounds, hsz]
    split at ht
    · rename_i he
      subst he
      split at ht
      · rename_i hlt
        simp only [Option.some.injEq] at ht; subst ht
        exact ⟨x, by simp [hlt], hs⟩
      · simp at ht
    · rename_i hne
      rw [if_neg hne]
      exact h t s' ht

/-- After an operation. -/
theorem Sat.next (h : Sat ρ Φ st a w) (g : Grow ρ Φ w ρ' Φ' w') {H' : Hp} (hr : Rel ρ' H' Φ' w') (dst : Option Tmp) {s : Slot} {x : Value} (hs : s.ok ρ' Φ' w' x) : Sat ρ' Φ' ⟨putS st.tmps dst s, H'⟩ (a.put dst x) w' := by
  obtain ⟨h1, h2⟩ := slots_put (ρ := ρ') (Φ := Φ') (w := w') h.size (fun t s ht => let ⟨x, hx, ho⟩ := h.slot t s ht; ⟨x, hx, Slot.ok_mono g ho⟩) dst hs
  refine ⟨?_, h1, h2, hr⟩
  cases dst <;> exact h.defers

theorem Sat.knows (h : Sat ρ Φ st a w) (x : Operand) : Knows (evS st.tmps) a.eval ρ Φ w x := by
  intro pc v hv hpc
  cases x with
  | const c => simp only [evS, Tree.run, Option.some.injEq] at hv; subst hv; exact ofConst_den c
  | global g => simp [evS, Tree.run] at hv
  | func f =>
    simp only [evS, Tree.run, Option.some.injEq] at hv; subst hv
    simp only [Den, Act.eval]
    exact ⟨[], [], rfl, .nil, .nil⟩
  | tmp t =>
    simp only [evS] at hv
    split at hv
    · rename_i v' ht
      simp only [Tree.run, Option.some.injEq] at hv; subst hv
      obtain ⟨x, hx, hs⟩ := h.slot t _ ht
      simp only [Slot.ok] at hs
      simpa [Act.eval, hx] using hs
    · rename_i c v' ht
      obtain ⟨hc, hv⟩ := Tree.run_need hv
      simp only [Tree.run, Option.some.injEq] at hv; subst hv
      obtain ⟨x, hx, hs⟩ := h.slot t _ ht
      simp only [Slot.ok] at hs
      subst hpc
      have hc' : c = true := by simpa using hc
      subst hc'
      simpa [Act.eval, hx] using hs
    · simp [Tree.run] at hv

def Guard.says : Guard → Bool
  | .yes => true
  | .no => false
  | .on pc => pc

theorem guard_key {ops : Array Oper} {tm : Tm} {o : Oper} {g : Guard} (h : ∀ (t : Nat) (s : Slot), (∃ j want, o.guard = some (j, want) ∧ (ops[j]?).bind (·.dst) = some t) → tm[t]? = some s → ∃ x, a.tmps[t]? = some x ∧ s.ok ρ Φ w x) (hg : guardOf ops tm o = some g) :
    Region.wanted o (yielded ops a.tmps) = g.says := by
  unfold guardOf at hg
  unfold Region.wanted
  split at hg
  · rename_i hn
    simp only [Option.some.injEq] at hg; subst hg
    simp [hn, Guard.says]
  · rename_i j want hn
    simp only [hn]
    split at hg
    · rename_i d hd
      have key : ∀ {s : Slot} (hs : tm[d]? = some s), ∃ x, s.ok ρ Φ w x ∧ yielded ops a.tmps j = (match x with | .bool b => some b | _ => none) := by
        intro s hs
        obtain ⟨x, hx, hok⟩ := h d s ⟨j, want, hn, hd⟩ hs
        exact ⟨x, hok, by simp only [yielded, hd]; rw [Option.bind_some, hx]; cases x <;> rfl⟩
      split at hg
      · rename_i b hs
        obtain ⟨x, hok, hy⟩ := key hs
        simp only [Slot.ok, Den] at hok; subst hok
        simp only [Option.some.injEq] at hg
        rw [hy]
        cases b <;> cases want <;> simp at hg <;> subst hg <;> simp [Guard.says]
      · rename_i b hs
        obtain ⟨x, hok, hy⟩ := key hs
        simp only [Slot.ok, Den] at hok; subst hok
        simp only [Option.some.injEq] at hg; subst hg
        rw [hy]
        cases b <;> cases want <;> simp [Guard.says, pol]
      · rename_i c b hs
        obtain ⟨x, hok, hy⟩ := key hs
        simp only [Slot.ok, Den] at hok
        rw [hy]
        cases c <;> cases b <;> cases want <;> simp at hg <;> subst hg <;> simp_all [Guard.says, pol, undef]
      · rename_i c b hs
        obtain ⟨x, hok, hy⟩ := key hs
        simp only [Slot.ok, Den] at hok
        simp only [Option.some.injEq] at hg; subst hg
        rw [hy]
        cases c <;> cases b <;> cases want <;> simp_all [Guard.says, pol, undef]
      · simp at hg
    · simp at hg

theorem guardOf_says (h : Sat ρ Φ st a w) {ops : Array Oper} {o : Oper} {g : Guard} (hg : guardOf ops st.tmps o = some g) : Region.wanted o (yielded ops a.tmps) = g.says :=
  guard_key (fun t s _ hs => h.slot t s hs) hg
end

/-! ### 2. Calls, and what is known ahead -/

/-- A call of the function enters its body. -/
def Enters (P : Program) (f : FuncId) : Prop := ∀ (args : Array Value) (w : World), (callFunc f args).run P w = .ok (.enter f args) w

theorem enters_of {P : Program} {f : FuncId} {fn : Func} {c : Code} (hf : P.funcs[f]? = some fn) (hb : fn.body = some c) (hn : (fn.name == "runtime.NumGoroutine") = false) : Enters P f := by
  intro args w
  have hn' : ¬ fn.name = "runtime.NumGoroutine" := by simpa using hn
  simp [callFunc, program, Sem.run, hf, hb, hn', pure]

/-- A call answers so. -/
def CallOK (P : Program) (f : FuncId) (args : List SV) (H : Hp) (r : SV) (H' : Hp) : Prop :=
  ∀ (ρ : Names) (Φ : Nat → Prop) (w : World) (vs : List Value), Rel ρ H Φ w → DenL ρ Φ w args vs →
    Calls P f vs.toArray w fun e w' => ∃ v ρ' Φ', e = .returned v ∧ Den ρ' Φ' w' r v ∧ Rel ρ' H' Φ' w' ∧ Grow ρ Φ w ρ' Φ' w'

structure GoodCall (P : Program) (call : CallE) : Prop where
  enters : ∀ f args H r, (call f args H).run = some r → Enters P f
  calls : ∀ f args H r H', (call f args H).run = some (r, H') → CallOK P f args H r H'

def Ex.exit? : Ex → Exit
  | .normal => .normal
  | .exit id => .exit id
  | .ret => .ret

/-- A piece of code runs so. -/
def GoodCode (P : Program) (c : Code) (run : St → Tree (Ex × St)) : Prop :=
  ∀ (ρ : Names) (Φ : Nat → Prop) (w : World) (st : St) (a : Act) (ex : Ex) (st' : St) (Q : Exit → Act → World → Prop), Sat ρ Φ st a w → (run st).run = some (ex, st') →
    (∀ (ρ' : Names) (Φ' : Nat → Prop) (a' : Act) (w' : World), Grow ρ Φ w ρ' Φ' w' → Sat ρ' Φ' st' a' w' → (∀ t, writes c t = false → a'.tmps[t]? = a.tmps[t]?) → Q ex.exit? a' w') → c.wp P Q a w

structure GoodEnv (P : Program) (E : Env) : Prop where
  pureEnters : ∀ f s, E.pure f = some s → Enters P f
  pure : ∀ f s ds pre r, E.pure f = some s → s.fn ds = some (pre, r) → pre = true → r.plain = true → ∀ (Φ : Nat → Prop) (w : World) (vs : List Value), (∀ k, Φ k → k < w.heap.size) → DenDs Φ w s.shapes (.a ds) 0 vs →
    Calls P f vs.toArray w fun e w' => ∃ v, e = .returned v ∧ Den (fun _ => none) (fun _ => False) w' r v ∧ Below w.heap.size w w'
  callEnters : ∀ f s args H t, E.calls f = some s → s args H = some t → Enters P f
  calls : ∀ f s args H t r H', E.calls f = some s → s args H = some t → t.run = some (r, H') → CallOK P f args H r H'
  loops : ∀ f fn c, P.funcs[f]? = some fn → fn.body = some c → ∀ i body, loopAt c i = some body → ∀ run, E.loops f i = some run → GoodCode P (.loop body) run

mutual
theorem plain_den {ρ ρ' : Names} {Φ Φ' : Nat → Prop} {w w' : World} : ∀ {v : SV} {x : Value}, v.plain = true → Den ρ Φ w v x → Den ρ' Φ' w' v x
  | .li .., x, _, h | .si .., x, _, h | .lb _, x, _, h | .sb _, x, _, h | .str _, x, _, h => by simpa [Den] using h
  | .agg cs, x, hp, h => by
    simp only [SV.plain] at hp
    simp only [Den] at h ⊢
    obtain ⟨vs, h1, h2⟩ := h
    exact ⟨vs, h1, plainL_den hp h2⟩
  | .tup cs, x, hp, h => by
    simp only [SV.plain] at hp
    simp only [Den] at h ⊢
    obtain ⟨vs, h1, h2⟩ := h
    exact ⟨vs, h1, plainL_den hp h2⟩
  | .val _, x, hp, h | .ref .., x, hp, h | .rref .., x, hp, h | .lref .., x, hp, h | .sl .., x, hp, h | .own _, x, hp, h | .lst .., x, hp, h | .clo .., x, hp, h | .mp _, x, hp, h => by simp [SV.plain] at hp
theorem plainL_den {ρ ρ' : Names} {Φ Φ' : Nat → Prop} {w w' : World} : ∀ {l : List SV} {vs : List Value}, SV.plainL l = true → DenL ρ Φ w l vs → DenL ρ' Φ' w' l vs
  | [], vs, _, h => by simpa [DenL] using h
  | c :: r, vs, hp, h => by
    simp only [SV.plainL, Bool.and_eq_true] at hp
    simp only [DenL] at h ⊢
    obtain ⟨v, rest, h1, h2, h3⟩ := h
    exact ⟨v, rest, h1, plain_den hp.1 h2, plainL_den hp.2 h3⟩
end

section
variable {P : Program} {T : Tab} [GoodTab P T] {E : Env} {call : CallE} {ρ : Names} {Φ : Nat → Prop} {w : World}

theorem tryPure_run (hE : GoodEnv P E) {f : FuncId} {args : List SV} {H : Hp} {pre : Bool} {r : SV} (h : tryPure E f args H = some (pre, r)) :
    Enters P f ∧ r.plain = true ∧ (pre = true → ∀ (ρ : Names) (Φ : Nat → Prop) (w : World) (vs : List Value), Rel ρ H Φ w → DenL ρ Φ w args vs → Calls P f vs.toArray w fun e w' => ∃ v, e = .returned v ∧ Den ρ Φ w' r v ∧ Below w.heap.size w w') := by
  unfold tryPure at h
  split at h
  · rename_i s hs
    split at h
    · rename_i ds H1 hfr
      split at h
      · rename_i pre' r' hfn
        split at h
        · rename_i hpl
          simp only [Option.some.injEq, Prod.mk.injEq] at h
          obtain ⟨rfl, rfl⟩ := h
          refine ⟨hE.pureEnters f s hs, hpl, fun hp ρ Φ w vs hrel hd => ?_⟩
          obtain ⟨Φ1, r1, g1, d1, _⟩ := freezeL_run _ _ _ _ _ hfr Φ hrel vs hd
          refine (hE.pure f s ds _ _ hs hfn hp hpl Φ1 w vs r1.phi (d1 (.a ds) 0 (fun i hi => by simp [D.at]))).mono ?_
          rintro e w' ⟨v, rfl, hv, hb⟩
          exact ⟨v, rfl, plain_den hpl hv, hb⟩
        · cases h
      · cases h
    · cases h
  · cases h

theorem exec_enter {a : Act} {o : Oper} {k : FuncId} {callee : Operand} {args : Array Operand} {argTypes : Array TypeId} {first caps as : List SV} {fv : Value} (hop : o.op = .call { callee := .value callee, args := args, argTypes := argTypes })
    (hf : Den ρ Φ w (.clo (.func k) first caps) (a.eval callee)) (ha : DenL ρ Φ w as (args.toList.map a.eval)) (hent : Enters P k) :
    ∃ vs, DenL ρ Φ w (first ++ as ++ caps) vs ∧ (execOp a.eval o).run P w = .ok (.enter k vs.toArray) w := by
  simp only [Den] at hf
  obtain ⟨fs, cs, he, h1, h2⟩ := hf
  refine ⟨fs ++ args.toList.map a.eval ++ cs, (h1.append ha).append h2, ?_⟩
  simp only [execOp, hop, resolve, he, Deferred.ofValue]
  simp only [Sem.run_bind, Sem.run_pure, Result.andThen_ok, invoke]
  have : fs.toArray ++ args.map a.eval ++ cs.toArray = (fs ++ args.toList.map a.eval ++ cs).toArray := by
    apply Array.ext'; simp
  rw [this, hent]

/-- The run of an operation whose guard says yes. -/
theorem opE_sound (hcall : GoodCall P call) {st : St} {a : Act} {o : Oper} {s : Slot} {eff : Eff} (hs : Sat ρ Φ st a w) (h : (opE T call (evS st.tmps) st.heap st.heap.length o.op).run = some (s, eff))
    {K : Act → World → Prop} {Q : Exit → Act → World → Prop} (hK : ∀ (ρ' : Names) (Φ' : Nat → Prop) (x : Value) (w' : World), Grow ρ Φ w ρ' Φ' w' → Sat ρ' Φ' ⟨putS st.tmps o.dst s, eff.on st.heap⟩ (a.put o.dst x) w' → K (a.put o.dst x) w') : o.wp P a w K Q := by
  have kn : ∀ x ∈ o.op.operands, Knows (evS st.tmps) a.eval ρ Φ w x := fun x _ => hs.knows x
  have value : ∀ (x : Value) (w' : World) (ρ' : Names) (Φ' : Nat → Prop), (execOp a.eval o).run P w = .ok (.value x) w' → Grow ρ Φ w ρ' Φ' w' → Rel ρ' (eff.on st.heap) Φ' w' → s.ok ρ' Φ' w' x → o.wp P a w K Q := by
    intro x w' ρ' Φ' hrun hg hr hok
    unfold Oper.wp
    rw [hrun, Oper.upon_value]
    exact hK ρ' Φ' x w' hg (hs.next hg hr o.dst hok)
  cases eff with
  | new b =>
    obtain ⟨hro, sv, x, ob, m, rfl, hrun, hm, hrest⟩ := newOp_run (P := P) hs.rel.phi kn h
    have he : Ext Φ w (w.alloc ob) := ⟨rfl, rfl, rfl, by simp, fun k hk => Below.heap_alloc _ _ _ (hs.rel.phi k hk)⟩
    obtain ⟨hok, hd⟩ := hrest (named ρ st.heap.length m) (named_at ..) (hs.rel.grow_named m he (fun q hq => .inl (Nat.le_of_eq (hm q hq).symm)) (fun k hk _ => Below.heap_alloc _ _ _ hk))
    obtain ⟨hr, hg⟩ := hs.rel.alloc hro hm hok
    exact value x _ _ Φ hrun hg hr hd
  | none =>
    have pc : (opE T call (evS st.tmps) st.heap st.heap.length o.op) = (pureOp T (evS st.tmps) true st.heap o.op).bind (fun v => Tree.ret (.is v, Eff.none)) → o.wp P a w K Q := by
      intro he
      rw [he] at h
      obtain ⟨v, h1, h2⟩ := Tree.run_bind h
      simp only [Tree.run, Option.some.injEq, Prod.mk.injEq] at h2
      obtain ⟨rfl, _⟩ := h2
      obtain ⟨r, hr, hd⟩ := pureOp_run (P := P) kn hs.rel h1
      exact value r w ρ Φ hr (Grow.refl ..) hs.rel hd
    obtain ⟨dst, op, ty, pos, after, guard⟩ := o
    simp only at h pc
    cases op
    case call c =>
      obtain ⟨callee, args, argTypes⟩ := c
      cases callee
      case value f =>
        simp only [opE] at h
        obtain ⟨fv, _, h2⟩ := Tree.run_bind h
        split at h2
        · obtain ⟨as, _, h4⟩ := Tree.run_bind h2
          obtain ⟨r, h5, h6⟩ := Tree.run_bind h4
          simp [Tree.run] at h6
        · simp [Tree.run] at h2
      case builtin bi =>
        cases bi
        case append =>
          simp only [opE] at h
          split at h
          · split at h
            · obtain ⟨_, _, h⟩ := Tree.run_bind h
              obtain ⟨_, _, h⟩ := Tree.run_bind h
              obtain ⟨_, _, h⟩ := Tree.run_bind h
              simp [Tree.run] at h
            · simp [Tree.run] at h
          · simp [Tree.run] at h
        all_goals exact pc rfl
      all_goals exact pc rfl
    case alloc t =>
      simp only [opE] at h
      split at h <;> simp [Tree.run] at h
    case box t y =>
      simp only [opE] at h
      obtain ⟨v, _, h2⟩ := Tree.run_bind h
      split at h2 <;> simp [Tree.run] at h2
    case store t y z =>
      simp only [opE] at h
      obtain ⟨_, _, h⟩ := Tree.run_bind h
      obtain ⟨_, _, h⟩ := Tree.run_bind h
      obtain ⟨_, _, h⟩ := Tree.run_bind h
      simp [Tree.run] at h
    case buildSlice t len parts =>
      simp only [opE] at h
      obtain ⟨vs, _, h2⟩ := Tree.run_bind h
      split at h2
      · split at h2
        · split at h2
          · split at h2 <;> simp [Tree.run] at h2
          · simp [Tree.run] at h2
        · simp [Tree.run] at h2
      · simp [Tree.run] at h2
    case makeSlice t y z =>
      simp only [opE] at h
      obtain ⟨_, _, h⟩ := Tree.run_bind h
      obtain ⟨_, _, h⟩ := Tree.run_bind h
      obtain ⟨_, _, h⟩ := Tree.run_bind h
      simp [Tree.run] at h
    all_goals exact pc rfl
  | all H' =>
    have pc : (opE T call (evS st.tmps) st.heap st.heap.length o.op) = (pureOp T (evS st.tmps) true st.heap o.op).bind (fun v => Tree.ret (.is v, Eff.none)) → o.wp P a w K Q := by
      intro he
      rw [he] at h
      obtain ⟨v, h1, h2⟩ := Tree.run_bind h
      simp [Tree.run] at h2
    obtain ⟨dst, op, ty, pos, after, guard⟩ := o
    simp only at h pc
    cases op
    case call c =>
      obtain ⟨callee, args, argTypes⟩ := c
      have m1 : ∀ x ∈ args.toList, Knows (evS st.tmps) a.eval ρ Φ w x := fun x _ => hs.knows x
      cases callee
      case value f =>
        simp only [opE] at h
        obtain ⟨fv, h1, h2⟩ := Tree.run_bind h
        have hf := hs.knows f true fv h1 rfl
        split at h2
        · rename_i k first caps
          obtain ⟨as, h3, h4⟩ := Tree.run_bind h2
          have e1 := evs_run (ρ := ρ) (Φ := Φ) (w := w) (evS st.tmps true) a.eval args.toList as (fun y hy v hv => m1 y hy true v hv rfl) h3
          obtain ⟨⟨rv, rH⟩, h5, h6⟩ := Tree.run_bind h4
          simp only [Tree.run, Option.some.injEq, Prod.mk.injEq, Eff.all.injEq] at h6
          obtain ⟨rfl, rfl⟩ := h6
          obtain ⟨vs, hvs, hex⟩ := exec_enter (P := P) (fv := a.eval f) (o := { dst := dst, op := .call { callee := .value f, args := args, argTypes := argTypes }, type := ty, pos := pos, after := after, guard := guard }) rfl hf e1 (hcall.enters _ _ _ _ h5)
          unfold Oper.wp
          rw [hex, Oper.upon_enter]
          refine (hcall.calls _ _ _ _ _ h5 ρ Φ w vs hs.rel hvs).mono ?_
          rintro e w' ⟨v, ρ', Φ', rfl, hd, hr, hg⟩
          exact hK ρ' Φ' v w' hg (hs.next hg hr dst hd)
        · simp [Tree.run] at h2
      case builtin bi =>
        cases bi
        case append =>
          simp only [opE] at h
          split at h
          · rename_i s0 x0 t t' ha ht
            split at h
            · rename_i htt
              have htt' : t = t' := by simpa using htt
              subst htt'
              obtain ⟨sv, h1, h⟩ := Tree.run_bind h
              obtain ⟨xv, h2, h⟩ := Tree.run_bind h
              obtain ⟨⟨rv, rH⟩, h3, h⟩ := Tree.run_bind h
              simp only [Tree.run, Option.some.injEq, Prod.mk.injEq, Eff.all.injEq] at h
              obtain ⟨rfl, rfl⟩ := h
              obtain ⟨r0, w', ρ', Φ', hrun, hd, hr, hg⟩ := appendE_run (P := P) (ty := ty) hs.rel (hs.knows s0 true sv h1 rfl) (hs.knows x0 true xv h2 rfl) h3
              refine value r0 w' ρ' Φ' ?_ hg hr hd
              have ea : args.map a.eval = #[a.eval s0, a.eval x0] := by
                rw [← Array.toArray_toList (xs := args.map a.eval), Array.toList_map, ha]; rfl
              have et : argTypes = #[t, t] := by rw [← Array.toArray_toList (xs := argTypes), ht]
              simp only [execOp, resolve]
              simp only [Sem.run_bind, Sem.run_pure, Result.andThen_ok, invoke, builtin, ea, et]
              rw [hrun]; simp
            · simp [Tree.run] at h
          · simp [Tree.run] at h
        all_goals exact pc rfl
      all_goals exact pc rfl
    case alloc t =>
      simp only [opE] at h
      split at h <;> simp [Tree.run] at h
    case box t y =>
      simp only [opE] at h
      obtain ⟨v, _, h2⟩ := Tree.run_bind h
      split at h2 <;> simp [Tree.run] at h2
    case store t y z =>
      simp only [opE] at h
      obtain ⟨yv, h1, h⟩ := Tree.run_bind h
      obtain ⟨zv, h2, h⟩ := Tree.run_bind h
      obtain ⟨H1, h3, h⟩ := Tree.run_bind h
      simp only [Tree.run, Option.some.injEq, Prod.mk.injEq, Eff.all.injEq] at h
      obtain ⟨rfl, rfl⟩ := h
      obtain ⟨w', Φ', hrun, hr, hg⟩ := storeE_run (P := P) hs.rel (hs.knows y true yv h1 rfl) (hs.knows z true zv h2 rfl) h3
      unfold Oper.wp
      have he : (execOp a.eval { dst := dst, op := .store t y z, type := ty, pos := pos, after := after, guard := guard }).run P w = .ok .skip w' := by
        simp only [execOp]
        simp [hrun]
      rw [he, Oper.upon_skip]
      exact hK ρ Φ' undef w' hg (hs.next hg hr dst (s := .unk) trivial)
    case buildSlice t len parts =>
      simp only [opE] at h
      obtain ⟨vs, _, h2⟩ := Tree.run_bind h
      split at h2
      · split at h2
        · split at h2
          · split at h2 <;> simp [Tree.run] at h2
          · simp [Tree.run] at h2
        · simp [Tree.run] at h2
      · simp [Tree.run] at h2
    case makeSlice t y z =>
      simp only [opE] at h
      obtain ⟨_, _, h⟩ := Tree.run_bind h
      obtain ⟨_, _, h⟩ := Tree.run_bind h
      obtain ⟨_, _, h⟩ := Tree.run_bind h
      simp [Tree.run] at h
    all_goals exact pc rfl

/-- One operation, with its guard. -/
theorem stepE_sound (hcall : GoodCall P call) (hE : GoodEnv P E) {ops : Array Oper} {st : St} {a : Act} {o : Oper} {st' : St} (hs : Sat ρ Φ st a w) (h : (stepE T E call ops o st).run = some st')
    {K : Act → World → Prop} {Q : Exit → Act → World → Prop} (hK : ∀ (ρ' : Names) (Φ' : Nat → Prop) (x : Value) (w' : World), Grow ρ Φ w ρ' Φ' w' → Sat ρ' Φ' st' (a.put o.dst x) w' → K (a.put o.dst x) w') :
    if Region.wanted o (yielded ops a.tmps) then o.wp P a w K Q else K (a.put o.dst undef) w := by
  unfold stepE at h
  cases hg : guardOf ops st.tmps o with
  | none => simp [hg, Tree.run] at h
  | some g =>
    have hw := guardOf_says hs hg
    rw [hw]
    simp only [hg] at h
    have full : ∀ {st' : St}, ((opE T call (evS st.tmps) st.heap st.heap.length o.op).bind fun r => Tree.ret (St.mk (putS st.tmps o.dst r.1) (r.2.on st.heap))).run = some st' →
        (∀ (ρ' : Names) (Φ' : Nat → Prop) (x : Value) (w' : World), Grow ρ Φ w ρ' Φ' w' → Sat ρ' Φ' st' (a.put o.dst x) w' → K (a.put o.dst x) w') → o.wp P a w K Q := by
      intro st' h hK
      obtain ⟨⟨s, eff⟩, h1, h2⟩ := Tree.run_bind h
      simp only [Tree.run, Option.some.injEq] at h2; subst h2
      exact opE_sound hcall hs h1 hK
    have skip : ∀ {s : Slot}, s.ok ρ Φ w undef → st' = { st with tmps := putS st.tmps o.dst s } → K (a.put o.dst undef) w := by
      intro s hok he
      subst he
      exact hK ρ Φ undef w (Grow.refl ..) (hs.next (Grow.refl ..) hs.rel o.dst hok)
    cases g with
    | no =>
      simp only [Tree.run, Option.some.injEq] at h
      simp only [Guard.says, Bool.false_eq_true, if_false]
      exact skip (s := .when false (.lb false)) rfl h.symm
    | yes =>
      simp only [Guard.says, if_true]
      exact full h hK
    | on pc =>
      simp only [Guard.says]
      have branch : ∀ {t : Tree St}, t = .ite pc ((opE T call (evS st.tmps) st.heap st.heap.length o.op).bind fun r => .ret (St.mk (putS st.tmps o.dst r.1) (r.2.on st.heap))) (.ret { st with tmps := putS st.tmps o.dst .unk }) → t.run = some st' →
          if pc = true then o.wp P a w K Q else K (a.put o.dst undef) w := by
        intro t ht hr
        subst ht
        rcases Tree.run_ite hr with ⟨hb, hr2⟩ | ⟨hb, hr2⟩
        · rw [if_pos hb]; exact full hr2 hK
        · rw [if_neg (by simp [hb])]
          simp only [Tree.run, Option.some.injEq] at hr2
          exact skip (s := .unk) trivial hr2.symm
      simp only at h
      split at h
      · obtain ⟨v, h1, h2⟩ := Tree.run_bind h
        simp only [Tree.run, Option.some.injEq] at h2
        cases pc with
        | false =>
          simp only [Bool.false_eq_true, if_false]
          exact skip (s := .when false v) rfl h2.symm
        | true =>
          simp only [if_true]
          obtain ⟨r, hr, hd⟩ := pureOp_run (P := P) (o := o) (eval := a.eval) (fun y _ => hs.knows y) hs.rel h1
          unfold Oper.wp
          rw [hr, Oper.upon_value]
          subst h2
          exact hK ρ Φ r w (Grow.refl ..) (hs.next (Grow.refl ..) hs.rel o.dst (s := .when true v) hd)
      · split at h
        · rename_i k args argTypes hop
          obtain ⟨as, h1, h2⟩ := Tree.run_bind h
          split at h2
          · rename_i pre r hsa
            obtain ⟨hpre, h3⟩ := Tree.run_need h2
            simp only [Tree.run, Option.some.injEq] at h3
            obtain ⟨hent, hpl, hc⟩ := tryPure_run hE hsa
            cases pc with
            | false =>
              simp only [Bool.false_eq_true, if_false]
              exact skip (s := .when false r) rfl h3.symm
            | true =>
              simp only [if_true]
              have e1 := evs_run (ρ := ρ) (Φ := Φ) (w := w) (evS st.tmps true) a.eval args.toList as (fun y _ v hv => hs.knows y true v hv rfl) h1
              obtain ⟨vs, hvs, hex⟩ := exec_enter (P := P) (fv := a.eval (.func k)) (o := o) (first := []) (caps := []) hop (by simp only [Den, Act.eval]; exact ⟨[], [], rfl, .nil, .nil⟩) e1 hent
              unfold Oper.wp
              rw [hex, Oper.upon_enter]
              refine (hc (by simpa using hpre) ρ Φ w vs hs.rel (by simpa using hvs)).mono ?_
              rintro e w' ⟨v, rfl, hd, hb⟩
              subst h3
              have gw : Grow ρ Φ w ρ Φ w' := Grow.below hs.rel.phi hb
              exact hK ρ Φ v w' gw (hs.next gw (hs.rel.below hb) o.dst (s := .when true r) hd)
          · exact branch rfl h2
        · exact branch rfl h

theorem put_frame (a : Act) (d : Option Tmp) (x : Value) (t : Nat) (h : d ≠ some t) : (a.put d x).tmps[t]? = a.tmps[t]? := by
  cases d with
  | none => rfl
  | some d =>
    have : d ≠ t := fun e => h (by rw [e])
    simp [Act.put, Array.getElem?_setIfInBounds, this]

/-- What was said, written out. -/
theorem Sat.written {ρ : Names} {Φ : Nat → Prop} {w : World} {st : St} {a : Act} (hs : Sat ρ Φ st a w) {d : Tmp} {b : Bool} (h : st.tmps[d]? = some (.is (.sb b))) : Sat ρ Φ ⟨st.tmps.set d (.is (.lb b)), st.heap⟩ a w := by
  refine ⟨hs.defers, by rw [hs.size]; exact Tm.length_set.symm, fun t s ht => ?_, hs.rel⟩
  rw [Tm.getElem?_set] at ht
  split at ht
  · rename_i e
    subst e
    split at ht
    · simp only [Option.some.injEq] at ht; subst ht
      obtain ⟨x, hx, ho⟩ := hs.slot d _ h
      exact ⟨x, hx, by simpa [Slot.ok, Den] using ho⟩
    · cases ht
  · exact hs.slot t s ht
theorem forkSt_run {g : Bool} {d : Option Tmp} {k : St → Tree St} {st st' : St} (h : (forkSt g d k st).run = some st') : ∃ st1, (k st1).run = some st' ∧ ∀ (ρ : Names) (Φ : Nat → Prop) (a : Act) (w : World), Sat ρ Φ st a w → Sat ρ Φ st1 a w := by
  unfold forkSt at h
  split at h
  · split at h
    · rename_i d' b hb
      rcases Tree.run_ite h with ⟨rfl, h⟩ | ⟨rfl, h⟩
      · exact ⟨_, h, fun ρ Φ a w hs => hs.written hb⟩
      · exact ⟨_, h, fun ρ Φ a w hs => hs.written hb⟩
    · exact ⟨st, h, fun _ _ _ _ h => h⟩
  · exact ⟨st, h, fun _ _ _ _ h => h⟩

/-- The operations of a region, in the order of the text. -/
theorem stepsE_sound (hcall : GoodCall P call) (hE : GoodEnv P E) {ops : Array Oper} {Q : Exit → Act → World → Prop} :
    ∀ (l : List Oper) {ρ : Names} {Φ : Nat → Prop} {w : World} {st : St} {a : Act} {st' : St}, Sat ρ Φ st a w → (stepsE T E call ops l st).run = some st' →
      (∀ (ρ' : Names) (Φ' : Nat → Prop) (a' : Act) (w' : World), Grow ρ Φ w ρ' Φ' w' → Sat ρ' Φ' st' a' w' → (∀ t, (∀ o ∈ l, o.dst ≠ some t) → a'.tmps[t]? = a.tmps[t]?) → Q .normal a' w') → wpList P ops Q l a w
  | [], ρ, Φ, w, st, a, st', hs, h, hQ => by
    simp only [stepsE, Tree.run, Option.some.injEq] at h; subst h
    exact hQ ρ Φ a w (Grow.refl ..) hs (fun _ _ => rfl)
  | o :: r, ρ, Φ, w, st, a, st', hs, h, hQ => by
    simp only [stepsE] at h
    obtain ⟨st1, h1, h2⟩ := Tree.run_bind h
    refine wpList_step fun K hKK => ?_
    refine stepE_sound hcall hE hs h1 ?_
    intro ρ1 Φ1 x w1 g1 hs1
    refine hKK _ w1 ?_
    obtain ⟨st2, h3, hst⟩ := forkSt_run h2
    refine stepsE_sound hcall hE r (hst _ _ _ _ hs1) h3 ?_
    intro ρ2 Φ2 a2 w2 g2 hs2 hf2
    refine hQ ρ2 Φ2 a2 w2 (g1.trans g2) hs2 (fun t ht => ?_)
    rw [hf2 t (fun o' ho' => ht o' (by simp [ho'])), put_frame _ _ _ _ (ht o (by simp))]
end
end Go.Sy
