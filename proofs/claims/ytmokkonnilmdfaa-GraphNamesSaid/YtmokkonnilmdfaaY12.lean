/-
  A state and what it says; one operation with its guard; a region in the order of its text.
  No statement of the seat is proved here. Conditions: none.
-/
import Derived.Test.YtmokkonnilmdfaaY30
set_option linter.unusedSimpArgs false
set_option linter.unusedVariables false
namespace Go.Sy
open Go.RowKit

/-! ### 1. A state -/

structure Sat (ρ : Names) (Φ : Nat → Prop) (st : St) (a : Act) (w : World) : Prop where
  defers : a.defers = []
  size : a.tmps.size = st.tmps.length
  slot : ∀ (t : Nat) (s : Slot), st.tmps[t]? = some s → ∃ x, a.tmps[t]? = some x ∧ s.ok ρ Φ w x
  rel : Rel ρ st.heap Φ w

section
variable {ρ ρ' : Names} {Φ Φ' : Nat → Prop} {w w' : World} {st : St} {a : Act}

theorem slots_put (hsz : a.tmps.size = st.tmps.length) (h : ∀ (t : Nat) (s : Slot), st.tmps[t]? = some s → ∃ x, a.tmps[t]? = some x ∧ s.ok ρ Φ w x) (dst : Option Tmp) {s : Slot} {x : Value} (hs : s.ok ρ Φ w x) :
    (a.put dst x).tmps.size = (putS st.tmps dst s).length ∧ ∀ (t : Nat) (s' : Slot), (putS st.tmps dst s)[t]? = some s' → ∃ x', (a.put dst x).tmps[t]? = some x' ∧ s'.ok ρ Φ w x' := by
  cases dst with
  | none => exact ⟨hsz, h⟩
  | some d =>
    refine ⟨by simp [Act.put, putS, hsz, Tm.length_set], ?_⟩
    intro t s' ht
    simp only [putS] at ht
    rw [Tm.getElem?_set] at ht
    simp only [Act.put]
    rw [Array.getElem?_setIfInBounds, hsz]
    split at ht
    · rename_i he
      subst he
      split at ht
      · rename_i hlt
        simp only [Option.some.injEq] at ht; subst ht
        exact ⟨x, by simp [hlt], hs⟩
      · simp at ht
    · rename_i hne
      rw [if_neg hne]
      exact h t s' ht

/-- After an operation. -/
theorem Sat.next (h : Sat ρ Φ st a w) (g : Grow ρ Φ w ρ' Φ' w') {H' : Hp} (hr : Rel ρ' H' Φ' w') (dst : Option Tmp) {s : Slot} {x : Value} (hs : s.ok ρ' Φ' w' x) : Sat ρ' Φ' ⟨putS st.tmps dst s, H'⟩ (a.put dst x) w' := by
  obtain ⟨h1, h2⟩ := slots_put (ρ := ρ') (Φ := Φ') (w := w') h.size (fun t s ht => let ⟨x, hx, ho⟩ := h.slot t s ht; ⟨x, hx, Slot.ok_mono g ho⟩) dst hs
  refine ⟨?_, h1, h2, hr⟩
  cases dst <;> exact h.defers

theorem Sat.knows (h : Sat ρ Φ st a w) (x : Operand) : Knows (evS st.tmps) a.eval ρ Φ w x := by
  intro pc v hv hpc
  cases x with
  | const c => simp only [evS, Tree.run, Option.some.injEq] at hv; subst hv; exact ofConst_den c
  | global g => simp [evS, Tree.run] at hv
  | func f =>
    simp only [evS, Tree.run, Option.some.injEq] at hv; subst hv
    simp only [Den, Act.eval]
    exact ⟨[], [], rfl, .nil, .nil⟩
  | tmp t =>
    simp only [evS] at hv
    split at hv
    · rename_i v' ht
      simp only [Tree.run, Option.some.injEq] at hv; subst hv
      obtain ⟨x, hx, hs⟩ := h.slot t _ ht
      simp only [Slot.ok] at hs
      simpa [Act.eval, hx] using hs
    · rename_i c v' ht
      obtain ⟨hc, hv⟩ := Tree.run_need hv
      simp only [Tree.run, Option.some.injEq] at hv; subst hv
      obtain ⟨x, hx, hs⟩ := h.slot t _ ht
      simp only [Slot.ok] at hs
      subst hpc
      have hc' : c = true := by simpa using hc
      subst hc'
      simpa [Act.eval, hx] using hs
    · simp [Tree.run] at hv

def Guard.says : Guard → Bool
  | .yes => true
  | .no => false
  | .on pc => pc

theorem guard_key {ops : Array Oper} {tm : Tm} {o : Oper} {g : Guard} (h : ∀ (t : Nat) (s : Slot), (∃ j want, o.guard = some (j, want) ∧ (ops[j]?).bind (·.dst) = some t) → tm[t]? = some s → ∃ x, a.tmps[t]? = some x ∧ s.ok ρ Φ w x) (hg : guardOf ops tm o = some g) :
    Region.wanted o (yielded ops a.tmps) = g.says := by
  unfold guardOf at hg
  unfold Region.wanted
  split at hg
  · rename_i hn
    simp only [Option.some.injEq] at hg; subst hg
    simp [hn, Guard.says]
  · rename_i j want hn
    simp only [hn]
    split at hg
    · rename_i d hd
      have key : ∀ {s : Slot} (hs : tm[d]? = some s), ∃ x, s.ok ρ Φ w x ∧ yielded ops a.tmps j = (match x with | .bool b => some b | _ => none) := by
        intro s hs
        obtain ⟨x, hx, hok⟩ := h d s ⟨j, want, hn, hd⟩ hs
        exact ⟨x, hok, by simp only [yielded, hd]; rw [Option.bind_some, hx]; cases x <;> rfl⟩
      split at hg
      · rename_i b hs
        obtain ⟨x, hok, hy⟩ := key hs
        simp only [Slot.ok, Den] at hok; subst hok
        simp only [Option.some.injEq] at hg
        rw [hy]
        cases b <;> cases want <;> simp at hg <;> subst hg <;> simp [Guard.says]
      · rename_i b hs
        obtain ⟨x, hok, hy⟩ := key hs
        simp only [Slot.ok, Den] at hok; subst hok
        simp only [Option.some.injEq] at hg; subst hg
        rw [hy]
        cases b <;> cases want <;> simp [Guard.says, pol]
      · rename_i c b hs
        obtain ⟨x, hok, hy⟩ := key hs
        simp only [Slot.ok, Den] at hok
        rw [hy]
        cases c <;> cases b <;> cases want <;> simp at hg <;> subst hg <;> simp_all [Guard.says, pol, undef]
      · rename_i c b hs
        obtain ⟨x, hok, hy⟩ := key hs
        simp only [Slot.ok, Den] at hok
        simp only [Option.some.injEq] at hg; subst hg
        rw [hy]
        cases c <;> cases b <;> cases want <;> simp_all [Guard.says, pol, undef]
      · simp at hg
    · simp at hg

theorem guardOf_says (h : Sat ρ Φ st a w) {ops : Array Oper} {o : Oper} {g : Guard} (hg : guardOf ops st.tmps o = some g) : Region.wanted o (yielded ops a.tmps) = g.says :=
  guard_key (fun t s _ hs => h.slot t s hs) hg
end

/-! ### 2. Calls, and what is known ahead -/

/-- A call of the function enters its body. -/
def Enters (P : Program) (f : FuncId) : Prop := ∀ (args : Array Value) (w : World), (callFunc f args).run P w = .ok (.enter f args) w

theorem enters_of {P : Program} {f : FuncId} {fn : Func} {c : Code} (hf : P.funcs[f]? = some fn) (hb : fn.body = some c) (hn : (fn.name == "runtime.NumGoroutine") = false) : Enters P f := by
  intro args w
  have hn' : ¬ fn.name = "runtime.NumGoroutine" := by simpa using hn
  simp [callFunc, program, Sem.run, hf, hb, hn', pure]

/-- A call answers so. -/
def CallOK (P : Program) (f : FuncId) (args : List SV) (H : Hp) (r : SV) (H' : Hp) : Prop :=
  ∀ (ρ : Names) (Φ : Nat → Prop) (w : World) (vs : List Value), Rel ρ H Φ w → DenL ρ Φ w args vs →
    Calls P f vs.toArray w fun e w' => ∃ v ρ' Φ', e = .returned v ∧ Den ρ' Φ' w' r v ∧ Rel ρ' H' Φ' w' ∧ Grow ρ Φ w ρ' Φ' w'

structure GoodCall (P : Program) (call : CallE) : Prop where
  enters : ∀ f args H r, (call f args H).run = some r → Enters P f
  calls : ∀ f args H r H', (call f args H).run = some (r, H') → CallOK P f args H r H'

def Ex.exit? : Ex → Exit
  | .normal => .normal
  | .exit id => .exit id
  | .ret => .ret

/-- A piece of code runs so. -/
def GoodCode (P : Program) (c : Code) (run : St → Tree (Ex × St)) : Prop :=
  ∀ (ρ : Names) (Φ : Nat → Prop) (w : World) (st : St) (a : Act) (ex : Ex) (st' : St) (Q : Exit → Act → World → Prop), Sat ρ Φ st a w → (run st).run = some (ex, st') →
    (∀ (ρ' : Names) (Φ' : Nat → Prop) (a' : Act) (w' : World), Grow ρ Φ w ρ' Φ' w' → Sat ρ' Φ' st' a' w' → (∀ t, writes c t = false → a'.tmps[t]? = a.tmps[t]?) → Q ex.exit? a' w') → c.wp P Q a w

structure GoodEnv (P : Program) (E : Env) : Prop where
  pureEnters : ∀ f s, E.pure f = some s → Enters P f
  pure : ∀ f s ds pre r, E.pure f = some s → s.fn ds = some (pre, r) → pre = true → r.plain = true → ∀ (Φ : Nat → Prop) (w : World) (vs : List Value), (∀ k, Φ k → k < w.heap.size) → DenDs Φ w s.shapes (.a ds) 0 vs →
    Calls P f vs.toArray w fun e w' => ∃ v, e = .returned v ∧ Den (fun _ => none) (fun _ => False) w' r v ∧ Below w.heap.size w w'
  callEnters : ∀ f s args H t, E.calls f = some s → s args H = some t → Enters P f
  calls : ∀ f s args H t r H', E.calls f = some s → s args H = some t → t.run = some (r, H') → CallOK P f args H r H'
  loops : ∀ f fn c, P.funcs[f]? = some fn → fn.body = some c → ∀ i body, loopAt c i = some body → ∀ run, E.loops f i = some run → GoodCode P (.loop body) run

mutual
theorem plain_den {ρ ρ' : Names} {Φ Φ' : Nat → Prop} {w w' : World} : ∀ {v : SV} {x : Value}, v.plain = true → Den ρ Φ w v x → Den ρ' Φ' w' v x
  | .li .., x, _, h | .si .., x, _, h | .lb _, x, _, h | .sb _, x, _, h | .str _, x, _, h => by simpa [Den] using h
  | .agg cs, x, hp, h => by
    simp only [SV.plain] at hp
    simp only [Den] at h ⊢
    obtain ⟨vs, h1, h2⟩ := h
    exact ⟨vs, h1, plainL_den hp h2⟩
  | .tup cs, x, hp, h => by
    simp only [SV.plain] at hp
    simp only [Den] at h ⊢
    obtain ⟨vs, h1, h2⟩ := h
    exact ⟨vs, h1, plainL_den hp h2⟩
  | .val _, x, hp, h | .ref .., x, hp, h | .rref .., x, hp, h | .lref .., x, hp, h | .sl .., x, hp, h | .own _, x, hp, h | .lst .., x, hp, h | .clo .., x, hp, h | .mp _, x, hp, h => by simp [SV.plain] at hp
theorem plainL_den {ρ ρ' : Names} {Φ Φ' : Nat → Prop} {w w' : World} : ∀ {l : List SV} {vs : List Value}, SV.plainL l = true → DenL ρ Φ w l vs → DenL ρ' Φ' w' l vs
  | [], vs, _, h => by simpa [DenL] using h
  | c :: r, vs, hp, h => by
    simp only [SV.plainL, Bool.and_eq_true] at hp
    simp only [DenL] at h ⊢
    obtain ⟨v, rest, h1, h2, h3⟩ := h
    exact ⟨v, rest, h1, plain_den hp.1 h2, plainL_den hp.2 h3⟩
end

section
variable {P : Program} {T : Tab} [GoodTab P T] {E : Env} {call : CallE} {ρ : Names} {Φ : Nat → Prop} {w : World}

theorem tryPure_run (hE : GoodEnv P E) {f : FuncId} {args : List SV} {H : Hp} {pre : Bool} {r : SV} (h : tryPure E f args H = some (pre, r)) :
    Enters P f ∧ r.plain = true ∧ (pre = true → ∀ (ρ : Names) (Φ : Nat → Prop) (w : World) (vs : List Value), Rel ρ H Φ w → DenL ρ Φ w args vs → Calls P f vs.toArray w fun e w' => ∃ v, e = .returned v ∧ Den ρ Φ w' r v ∧ Below w.heap.size w w') := by
  unfold tryPure at h
  split at h
  · rename_i s hs
    split at h
    · rename_i ds H1 hfr
      split at h
      · rename_i pre' r' hfn
        split at h
        · rename_i hpl
          simp only [Option.some.injEq, Prod.mk.injEq] at h
          obtain ⟨rfl, rfl⟩ := h
          refine ⟨hE.pureEnters f s hs, hpl, fun hp ρ Φ w vs hrel hd => ?_⟩
          obtain ⟨Φ1, r1, g1, d1, _⟩ := freezeL_run _ _ _ _ _ hfr Φ hrel vs hd
          refine (hE.pure f s ds _ _ hs hfn hp hpl Φ1 w vs r1.phi (d1 (.a ds) 0 (fun i hi => by simp [D.at]))).mono ?_
          rintro e w' ⟨v, rfl, hv, hb⟩
          exact ⟨v, rfl, plain_den hpl hv, hb⟩
        · cases h
      · cases h
    · cases h
  · cases h

theorem exec_enter {a : Act} {o : Oper} {k : FuncId} {callee : Operand} {args : Array Operand} {argTypes : Array TypeId} {first caps as : List SV} {fv : Value} (hop : o.op = .call { callee := .value callee, args := args, argTypes := argTypes })
    (hf : Den ρ Φ w (.clo (.func k) first caps) (a.eval callee)) (ha : DenL ρ Φ w as (args.toList.map a.eval)) (hent : Enters P k) :
    ∃ vs, DenL ρ Φ w (first ++ as ++ caps) vs ∧ (execOp a.eval o).run P w = .ok (.enter k vs.toArray) w := by
  simp only [Den] at hf
  obtain ⟨fs, cs, he, h1, h2⟩ := hf
  refine ⟨fs ++ args.toList.map a.eval ++ cs, (h1.append ha).append h2, ?_⟩
  simp only [execOp, hop, resolve, he, Deferred.ofValue]
  simp only [Sem.run_bind, Sem.run_pure, Result.andThen_ok, invoke]
  have : fs.toArray ++ args.map a.eval ++ cs.toArray = (fs ++ args.toList.map a.eval ++ cs).toArray := by
    apply Array.ext'; simp
  rw [this, hent]

/-- An operation that turns memory. -/
theorem sysE_sound {st : St} {a : Act} {o : Oper} {r : SV × Hp} {t : Tree (SV × Hp)} (hs : Sat ρ Φ st a w) (h : sysE T (evS st.tmps true) st.heap o.op = some t) (ht : t.run = some r)
    {K : Act → World → Prop} {Q : Exit → Act → World → Prop} (hK : ∀ (ρ' : Names) (Φ' : Nat → Prop) (x : Value) (w' : World), Grow ρ Φ w ρ' Φ' w' → Sat ρ' Φ' ⟨putS st.tmps o.dst (.is r.1), r.2⟩ (a.put o.dst x) w' → K (a.put o.dst x) w') : o.wp P a w K Q := by
  have value : ∀ (x : Value) (w' : World) (ρ' : Names) (Φ' : Nat → Prop), (execOp a.eval o).run P w = .ok (.value x) w' → Grow ρ Φ w ρ' Φ' w' → Rel ρ' r.2 Φ' w' → Den ρ' Φ' w' r.1 x → o.wp P a w K Q := by
    intro x w' ρ' Φ' hrun hg hr hok
    unfold Oper.wp
    rw [hrun, Oper.upon_value]
    exact hK ρ' Φ' x w' hg (hs.next hg hr o.dst (s := .is r.1) hok)
  obtain ⟨dst, op, ty, pos, after, guard⟩ := o
  simp only at h
  unfold sysE at h
  split at h
  · rename_i args argTypes
    simp only [Option.some.injEq] at h; subst h
    split at ht
    · rename_i x0 t ha hty
      obtain ⟨vx, h1, ht⟩ := Tree.run_bind ht
      obtain ⟨H', h2, ht⟩ := Tree.run_bind ht
      simp only [Tree.run, Option.some.injEq] at ht; subst ht
      have ea : args.map a.eval = #[a.eval x0] := by
        rw [← Array.toArray_toList (xs := args.map a.eval), Array.toList_map, ha]; rfl
      have et : argTypes = #[t] := by rw [← Array.toArray_toList (xs := argTypes), hty]
      obtain ⟨w', hrun, hr, hg⟩ := clearE_run (P := P) (ty := ty) (ts := argTypes) hs.rel (by rw [et]; rfl) (hs.knows x0 true vx h1 rfl) h2
      refine value (.tuple #[]) w' ρ Φ ?_ hg hr trivial
      simp only [execOp, resolve]
      simp only [Sem.run_bind, Sem.run_pure, Result.andThen_ok, invoke, builtin, ea]
      rw [hrun]; simp
    · simp [Tree.run] at ht
  · rename_i args argTypes
    simp only [Option.some.injEq] at h; subst h
    split at ht
    · rename_i x0 i0 t t' ha hty
      obtain ⟨vx, h1, ht⟩ := Tree.run_bind ht
      obtain ⟨vi, h3, ht⟩ := Tree.run_bind ht
      obtain ⟨H', h2, ht⟩ := Tree.run_bind ht
      simp only [Tree.run, Option.some.injEq] at ht; subst ht
      have ea : args.map a.eval = #[a.eval x0, a.eval i0] := by
        rw [← Array.toArray_toList (xs := args.map a.eval), Array.toList_map, ha]; rfl
      have et : argTypes = #[t, t'] := by rw [← Array.toArray_toList (xs := argTypes), hty]
      obtain ⟨w', hrun, hr, hg⟩ := mapDelE_run (P := P) (t' := t') (ty := ty) (ts := argTypes) hs.rel (by rw [et]; rfl) (hs.knows x0 true vx h1 rfl) (hs.knows i0 true vi h3 rfl) h2
      refine value (.tuple #[]) w' ρ Φ ?_ hg hr trivial
      simp only [execOp, resolve]
      simp only [Sem.run_bind, Sem.run_pure, Result.andThen_ok, invoke, builtin, ea]
      rw [hrun]; simp
    · simp [Tree.run] at ht
  · rename_i t x0 i0 y0
    simp only [Option.some.injEq] at h; subst h
    obtain ⟨vx, h1, ht⟩ := Tree.run_bind ht
    obtain ⟨vi, h2, ht⟩ := Tree.run_bind ht
    obtain ⟨vy, h3, ht⟩ := Tree.run_bind ht
    obtain ⟨H', h4, ht⟩ := Tree.run_bind ht
    simp only [Tree.run, Option.some.injEq] at ht; subst ht
    obtain ⟨w', Φ', hrun, hr, hg⟩ := mapSetE_run (P := P) hs.rel (hs.knows x0 true vx h1 rfl) (hs.knows i0 true vi h2 rfl) (hs.knows y0 true vy h3 rfl) h4
    unfold Oper.wp
    have he : (execOp a.eval { dst := dst, op := .mapUpdate t x0 i0 y0, type := ty, pos := pos, after := after, guard := guard }).run P w = .ok .skip w' := by
      simp only [execOp]
      simp [hrun]
    rw [he, Oper.upon_skip]
    exact hK ρ Φ' undef w' hg (hs.next hg hr dst (s := .is .any) trivial)
  · rename_i t x0 i0 y0
    simp only [Option.some.injEq] at h; subst h
    obtain ⟨vx, h1, ht⟩ := Tree.run_bind ht
    obtain ⟨vi, h2, ht⟩ := Tree.run_bind ht
    obtain ⟨vy, h3, ht⟩ := Tree.run_bind ht
    obtain ⟨H', h4, ht⟩ := Tree.run_bind ht
    simp only [Tree.run, Option.some.injEq] at ht; subst ht
    obtain ⟨w', Φ', hrun, hr, hg⟩ := mapSetE_run (P := P) hs.rel (hs.knows x0 true vx h1 rfl) (hs.knows i0 true vi h2 rfl) (hs.knows y0 true vy h3 rfl) h4
    unfold Oper.wp
    have he : (execOp a.eval { dst := dst, op := .insert t x0 i0 y0, type := ty, pos := pos, after := after, guard := guard }).run P w = .ok .skip w' := by
      simp only [execOp]
      simp [hrun]
    rw [he, Oper.upon_skip]
    exact hK ρ Φ' undef w' hg (hs.next hg hr dst (s := .is .any) trivial)
  · rename_i t
    simp only [Option.some.injEq] at h; subst h
    split at ht
    · rename_i r0 hr0
      simp only [Tree.run, Option.some.injEq] at ht; subst ht
      obtain ⟨hrun, hr, hg⟩ := makeMap_run (P := P) hs.rel r0.k r0.v t
      exact value (.map (some w.heap.size)) _ _ Φ (by simp [execOp, hrun]) hg hr (by simp only [Den]; exact ⟨_, named_at .., rfl⟩)
    · simp [Tree.run] at ht
  · cases h

/-- The run of an operation whose guard says yes. -/
theorem opE_sound (hcall : GoodCall P call) {st : St} {a : Act} {o : Oper} {s : Slot} {eff : Eff} (hs : Sat ρ Φ st a w) (h : (opE T call (evS st.tmps) st.heap st.heap.length o.op).run = some (s, eff))
    {K : Act → World → Prop} {Q : Exit → Act → World → Prop} (hK : ∀ (ρ' : Names) (Φ' : Nat → Prop) (x : Value) (w' : World), Grow ρ Φ w ρ' Φ' w' → Sat ρ' Φ' ⟨putS st.tmps o.dst s, eff.on st.heap⟩ (a.put o.dst x) w' → K (a.put o.dst x) w') : o.wp P a w K Q := by
  have kn : ∀ x ∈ o.op.operands, Knows (evS st.tmps) a.eval ρ Φ w x := fun x _ => hs.knows x
  have value : ∀ (x : Value) (w' : World) (ρ' : Names) (Φ' : Nat → Prop), (execOp a.eval o).run P w = .ok (.value x) w' → Grow ρ Φ w ρ' Φ' w' → Rel ρ' (eff.on st.heap) Φ' w' → s.ok ρ' Φ' w' x → o.wp P a w K Q := by
    intro x w' ρ' Φ' hrun hg hr hok
    unfold Oper.wp
    rw [hrun, Oper.upon_value]
    exact hK ρ' Φ' x w' hg (hs.next hg hr o.dst hok)
  cases eff with
  | new b =>
    obtain ⟨hro, sv, x, ob, m, rfl, hrun, hm, hrest⟩ := newOp_run (P := P) hs.rel.phi kn h
    have he : Ext Φ w (w.alloc ob) := ⟨rfl, rfl, rfl, by simp, fun k hk => Below.heap_alloc _ _ _ (hs.rel.phi k hk)⟩
    obtain ⟨hok, hd⟩ := hrest (named ρ st.heap.length m) (named_at ..) (hs.rel.grow_named m he (fun q hq => .inl (Nat.le_of_eq (hm q hq).symm)) (fun k hk _ => Below.heap_alloc _ _ _ hk))
    obtain ⟨hr, hg⟩ := hs.rel.alloc hro hm hok
    exact value x _ _ Φ hrun hg hr hd
  | none =>
    have pc : (opE T call (evS st.tmps) st.heap st.heap.length o.op) = (match sysE T (evS st.tmps true) st.heap o.op with
        | some t => t.bind fun r => Tree.ret (Slot.is r.1, Eff.all r.2)
        | none => (pureOp T (evS st.tmps) true st.heap o.op).bind fun v => Tree.ret (Slot.is v, Eff.none)) → o.wp P a w K Q := by
      intro he
      rw [he] at h
      split at h
      · obtain ⟨v, h1, h2⟩ := Tree.run_bind h
        simp [Tree.run] at h2
      obtain ⟨v, h1, h2⟩ := Tree.run_bind h
      simp only [Tree.run, Option.some.injEq, Prod.mk.injEq] at h2
      obtain ⟨rfl, _⟩ := h2
      obtain ⟨r, hr, hd⟩ := pureOp_run (P := P) kn hs.rel.own h1
      exact value r w ρ Φ hr (Grow.refl ..) hs.rel hd
    obtain ⟨dst, op, ty, pos, after, guard⟩ := o
    simp only at h pc
    cases op
    case call c =>
      obtain ⟨callee, args, argTypes⟩ := c
      cases callee
      case value f =>
        simp only [opE] at h
        obtain ⟨fv, _, h2⟩ := Tree.run_bind h
        split at h2
        · obtain ⟨as, _, h4⟩ := Tree.run_bind h2
          obtain ⟨r, h5, h6⟩ := Tree.run_bind h4
          simp [Tree.run] at h6
        · simp [Tree.run] at h2
      case builtin bi =>
        cases bi
        case append =>
          simp only [opE] at h
          split at h
          · split at h
            · obtain ⟨_, _, h⟩ := Tree.run_bind h
              obtain ⟨_, _, h⟩ := Tree.run_bind h
              obtain ⟨_, _, h⟩ := Tree.run_bind h
              simp [Tree.run] at h
            · simp [Tree.run] at h
          · simp [Tree.run] at h
        all_goals exact pc rfl
      all_goals exact pc rfl
    case alloc t =>
      simp only [opE] at h
      split at h <;> simp [Tree.run] at h
    case box t y =>
      simp only [opE] at h
      obtain ⟨v, _, h2⟩ := Tree.run_bind h
      split at h2 <;> simp [Tree.run] at h2
    case store t y z =>
      simp only [opE] at h
      obtain ⟨_, _, h⟩ := Tree.run_bind h
      obtain ⟨_, _, h⟩ := Tree.run_bind h
      obtain ⟨_, _, h⟩ := Tree.run_bind h
      simp [Tree.run] at h
    case buildSlice t len parts =>
      simp only [opE] at h
      obtain ⟨vs, _, h2⟩ := Tree.run_bind h
      split at h2
      · split at h2
        · split at h2
          · split at h2 <;> simp [Tree.run] at h2
          · split at h2 <;> simp [Tree.run] at h2
        · simp [Tree.run] at h2
      · simp [Tree.run] at h2
    case makeSlice t y z =>
      simp only [opE] at h
      obtain ⟨_, _, h⟩ := Tree.run_bind h
      obtain ⟨_, _, h⟩ := Tree.run_bind h
      obtain ⟨_, _, h⟩ := Tree.run_bind h
      simp [Tree.run] at h
    all_goals exact pc rfl
  | all H' =>
    have pc : (opE T call (evS st.tmps) st.heap st.heap.length o.op) = (match sysE T (evS st.tmps true) st.heap o.op with
        | some t => t.bind fun r => Tree.ret (Slot.is r.1, Eff.all r.2)
        | none => (pureOp T (evS st.tmps) true st.heap o.op).bind fun v => Tree.ret (Slot.is v, Eff.none)) → o.wp P a w K Q := by
      intro he
      rw [he] at h
      split at h
      · rename_i t hsys
        obtain ⟨r, h1, h2⟩ := Tree.run_bind h
        simp only [Tree.run, Option.some.injEq, Prod.mk.injEq, Eff.all.injEq] at h2
        obtain ⟨rfl, rfl⟩ := h2
        exact sysE_sound hs hsys h1 hK
      · obtain ⟨v, h1, h2⟩ := Tree.run_bind h
        simp [Tree.run] at h2
    obtain ⟨dst, op, ty, pos, after, guard⟩ := o
    simp only at h pc
    cases op
    case call c =>
      obtain ⟨callee, args, argTypes⟩ := c
      have m1 : ∀ x ∈ args.toList, Knows (evS st.tmps) a.eval ρ Φ w x := fun x _ => hs.knows x
      cases callee
      case value f =>
        simp only [opE] at h
        obtain ⟨fv, h1, h2⟩ := Tree.run_bind h
        have hf := hs.knows f true fv h1 rfl
        split at h2
        · rename_i k first caps
          obtain ⟨as, h3, h4⟩ := Tree.run_bind h2
          have e1 := evs_run (ρ := ρ) (Φ := Φ) (w := w) (evS st.tmps true) a.eval args.toList as (fun y hy v hv => m1 y hy true v hv rfl) h3
          obtain ⟨⟨rv, rH⟩, h5, h6⟩ := Tree.run_bind h4
          simp only [Tree.run, Option.some.injEq, Prod.mk.injEq, Eff.all.injEq] at h6
          obtain ⟨rfl, rfl⟩ := h6
          obtain ⟨vs, hvs, hex⟩ := exec_enter (P := P) (fv := a.eval f) (o := { dst := dst, op := .call { callee := .value f, args := args, argTypes := argTypes }, type := ty, pos := pos, after := after, guard := guard }) rfl hf e1 (hcall.enters _ _ _ _ h5)
          unfold Oper.wp
          rw [hex, Oper.upon_enter]
          refine (hcall.calls _ _ _ _ _ h5 ρ Φ w vs hs.rel hvs).mono ?_
          rintro e w' ⟨v, ρ', Φ', rfl, hd, hr, hg⟩
          exact hK ρ' Φ' v w' hg (hs.next hg hr dst hd)
        · simp [Tree.run] at h2
      case builtin bi =>
        cases bi
        case append =>
          simp only [opE] at h
          split at h
          · rename_i s0 x0 t t' ha ht
            split at h
            · rename_i htt
              have htt' : t = t' := by simpa using htt
              subst htt'
              obtain ⟨sv, h1, h⟩ := Tree.run_bind h
              obtain ⟨xv, h2, h⟩ := Tree.run_bind h
              obtain ⟨⟨rv, rH⟩, h3, h⟩ := Tree.run_bind h
              simp only [Tree.run, Option.some.injEq, Prod.mk.injEq, Eff.all.injEq] at h
              obtain ⟨rfl, rfl⟩ := h
              obtain ⟨r0, w', ρ', Φ', hrun, hd, hr, hg⟩ := appendE_run (P := P) (ty := ty) hs.rel (hs.knows s0 true sv h1 rfl) (hs.knows x0 true xv h2 rfl) h3
              refine value r0 w' ρ' Φ' ?_ hg hr hd
              have ea : args.map a.eval = #[a.eval s0, a.eval x0] := by
                rw [← Array.toArray_toList (xs := args.map a.eval), Array.toList_map, ha]; rfl
              have et : argTypes = #[t, t] := by rw [← Array.toArray_toList (xs := argTypes), ht]
              simp only [execOp, resolve]
              simp only [Sem.run_bind, Sem.run_pure, Result.andThen_ok, invoke, builtin, ea, et]
              rw [hrun]; simp
            · simp [Tree.run] at h
          · simp [Tree.run] at h
        all_goals exact pc rfl
      all_goals exact pc rfl
    case alloc t =>
      simp only [opE] at h
      split at h <;> simp [Tree.run] at h
    case box t y =>
      simp only [opE] at h
      obtain ⟨v, _, h2⟩ := Tree.run_bind h
      split at h2 <;> simp [Tree.run] at h2
    case store t y z =>
      simp only [opE] at h
      obtain ⟨yv, h1, h⟩ := Tree.run_bind h
      obtain ⟨zv, h2, h⟩ := Tree.run_bind h
      obtain ⟨H1, h3, h⟩ := Tree.run_bind h
      simp only [Tree.run, Option.some.injEq, Prod.mk.injEq, Eff.all.injEq] at h
      obtain ⟨rfl, rfl⟩ := h
      obtain ⟨w', ρ', Φ', hrun, hr, hg⟩ := storeN_run (P := P) hs.rel (hs.knows y true yv h1 rfl) (hs.knows z true zv h2 rfl) h3
      unfold Oper.wp
      have he : (execOp a.eval { dst := dst, op := .store t y z, type := ty, pos := pos, after := after, guard := guard }).run P w = .ok .skip w' := by
        simp only [execOp]
        simp [hrun]
      rw [he, Oper.upon_skip]
      exact hK ρ' Φ' undef w' hg (hs.next hg hr dst (s := .unk) trivial)
    case buildSlice t len parts =>
      simp only [opE] at h
      obtain ⟨vs, _, h2⟩ := Tree.run_bind h
      split at h2
      · split at h2
        · split at h2
          · split at h2 <;> simp [Tree.run] at h2
          · split at h2 <;> simp [Tree.run] at h2
        · simp [Tree.run] at h2
      · simp [Tree.run] at h2
    case makeSlice t y z =>
      simp only [opE] at h
      obtain ⟨_, _, h⟩ := Tree.run_bind h
      obtain ⟨_, _, h⟩ := Tree.run_bind h
      obtain ⟨_, _, h⟩ := Tree.run_bind h
      simp [Tree.run] at h
    all_goals exact pc rfl

theorem pureCall_op {op : Op} {k : FuncId} {args : List Operand} (h : pureCall E op = some (k, args)) : ∃ args' argTypes, op = .call { callee := .value (.func k), args := args', argTypes := argTypes } ∧ args = args'.toList := by
  unfold pureCall at h
  split at h
  · rename_i k' args' argTypes
    split at h
    · simp only [Option.some.injEq, Prod.mk.injEq] at h
      obtain ⟨rfl, rfl⟩ := h
      exact ⟨args', argTypes, rfl, rfl⟩
    · cases h
  · cases h

/-- One operation, with its guard. -/
theorem stepE_sound (hcall : GoodCall P call) (hE : GoodEnv P E) {ops : Array Oper} {st : St} {a : Act} {o : Oper} {st' : St} (hs : Sat ρ Φ st a w) (h : (stepE T E call ops o st).run = some st')
    {K : Act → World → Prop} {Q : Exit → Act → World → Prop} (hK : ∀ (ρ' : Names) (Φ' : Nat → Prop) (x : Value) (w' : World), Grow ρ Φ w ρ' Φ' w' → Sat ρ' Φ' st' (a.put o.dst x) w' → K (a.put o.dst x) w') :
    if Region.wanted o (yielded ops a.tmps) then o.wp P a w K Q else K (a.put o.dst undef) w := by
  unfold stepE at h
  cases hg : guardOf ops st.tmps o with
  | none => simp [hg, Tree.run] at h
  | some g =>
    have hw := guardOf_says hs hg
    rw [hw]
    simp only [hg] at h
    have full : ∀ {st' : St}, ((opE T call (evS st.tmps) st.heap st.heap.length o.op).bind fun r => Tree.ret (St.mk (putS st.tmps o.dst r.1) (r.2.on st.heap))).run = some st' →
        (∀ (ρ' : Names) (Φ' : Nat → Prop) (x : Value) (w' : World), Grow ρ Φ w ρ' Φ' w' → Sat ρ' Φ' st' (a.put o.dst x) w' → K (a.put o.dst x) w') → o.wp P a w K Q := by
      intro st' h hK
      obtain ⟨⟨s, eff⟩, h1, h2⟩ := Tree.run_bind h
      simp only [Tree.run, Option.some.injEq] at h2; subst h2
      exact opE_sound hcall hs h1 hK
    have skip : ∀ {s : Slot}, s.ok ρ Φ w undef → st' = { st with tmps := putS st.tmps o.dst s } → K (a.put o.dst undef) w := by
      intro s hok he
      subst he
      exact hK ρ Φ undef w (Grow.refl ..) (hs.next (Grow.refl ..) hs.rel o.dst hok)
    cases g with
    | no =>
      simp only [Tree.run, Option.some.injEq] at h
      simp only [Guard.says, Bool.false_eq_true, if_false]
      exact skip (s := .when false (.lb false)) rfl h.symm
    | yes =>
      simp only [Guard.says, if_true]
      simp only at h
      split at h
      · rename_i k args hpc
        obtain ⟨as, h1, h2⟩ := Tree.run_bind h
        split at h2
        · rename_i pre r hsa
          obtain ⟨hpre, h3⟩ := Tree.run_need h2
          simp only [Tree.run, Option.some.injEq] at h3
          obtain ⟨hent, hpl, hc⟩ := tryPure_run hE hsa
          obtain ⟨args', argTypes, hop, rfl⟩ := pureCall_op hpc
          have e1 := evs_run (ρ := ρ) (Φ := Φ) (w := w) (evS st.tmps true) a.eval args'.toList as (fun y _ v hv => hs.knows y true v hv rfl) h1
          obtain ⟨vs, hvs, hex⟩ := exec_enter (P := P) (fv := a.eval (.func k)) (o := o) (first := []) (caps := []) hop (by simp only [Den, Act.eval]; exact ⟨[], [], rfl, .nil, .nil⟩) e1 hent
          unfold Oper.wp
          rw [hex, Oper.upon_enter]
          refine (hc hpre ρ Φ w vs hs.rel (by simpa using hvs)).mono ?_
          rintro e w' ⟨v, rfl, hd, hb⟩
          subst h3
          have gw : Grow ρ Φ w ρ Φ w' := Grow.below hs.rel.phi hb
          exact hK ρ Φ v w' gw (hs.next gw (hs.rel.below hb) o.dst (s := .is r) hd)
        · exact full h2 hK
      · exact full h hK
    | on pc =>
      simp only [Guard.says]
      have branch : ∀ {t : Tree St}, t = .ite pc ((opE T call (evS st.tmps) st.heap st.heap.length o.op).bind fun r => .ret (St.mk (putS st.tmps o.dst r.1) (r.2.on st.heap))) (.ret { st with tmps := putS st.tmps o.dst .unk }) → t.run = some st' →
          if pc = true then o.wp P a w K Q else K (a.put o.dst undef) w := by
        intro t ht hr
        subst ht
        rcases Tree.run_ite hr with ⟨hb, hr2⟩ | ⟨hb, hr2⟩
        · rw [if_pos hb]; exact full hr2 hK
        · rw [if_neg (by simp [hb])]
          simp only [Tree.run, Option.some.injEq] at hr2
          exact skip (s := .unk) trivial hr2.symm
      simp only at h
      split at h
      · obtain ⟨v, h1, h2⟩ := Tree.run_bind h
        simp only [Tree.run, Option.some.injEq] at h2
        cases pc with
        | false =>
          simp only [Bool.false_eq_true, if_false]
          exact skip (s := .when false v) rfl h2.symm
        | true =>
          simp only [if_true]
          obtain ⟨r, hr, hd⟩ := pureOp_run (P := P) (o := o) (eval := a.eval) (fun y _ => hs.knows y) hs.rel.own h1
          unfold Oper.wp
          rw [hr, Oper.upon_value]
          subst h2
          exact hK ρ Φ r w (Grow.refl ..) (hs.next (Grow.refl ..) hs.rel o.dst (s := .when true v) hd)
      · split at h
        · rename_i k args argTypes hop
          obtain ⟨as, h1, h2⟩ := Tree.run_bind h
          split at h2
          · rename_i pre r hsa
            obtain ⟨hpre, h3⟩ := Tree.run_need h2
            simp only [Tree.run, Option.some.injEq] at h3
            obtain ⟨hent, hpl, hc⟩ := tryPure_run hE hsa
            cases pc with
            | false =>
              simp only [Bool.false_eq_true, if_false]
              exact skip (s := .when false r) rfl h3.symm
            | true =>
              simp only [if_true]
              have e1 := evs_run (ρ := ρ) (Φ := Φ) (w := w) (evS st.tmps true) a.eval args.toList as (fun y _ v hv => hs.knows y true v hv rfl) h1
              obtain ⟨vs, hvs, hex⟩ := exec_enter (P := P) (fv := a.eval (.func k)) (o := o) (first := []) (caps := []) hop (by simp only [Den, Act.eval]; exact ⟨[], [], rfl, .nil, .nil⟩) e1 hent
              unfold Oper.wp
              rw [hex, Oper.upon_enter]
              refine (hc (by simpa using hpre) ρ Φ w vs hs.rel (by simpa using hvs)).mono ?_
              rintro e w' ⟨v, rfl, hd, hb⟩
              subst h3
              have gw : Grow ρ Φ w ρ Φ w' := Grow.below hs.rel.phi hb
              exact hK ρ Φ v w' gw (hs.next gw (hs.rel.below hb) o.dst (s := .when true r) hd)
          · exact branch rfl h2
        · exact branch rfl h

theorem put_frame (a : Act) (d : Option Tmp) (x : Value) (t : Nat) (h : d ≠ some t) : (a.put d x).tmps[t]? = a.tmps[t]? := by
  cases d with
  | none => rfl
  | some d =>
    have : d ≠ t := fun e => h (by rw [e])
    simp [Act.put, Array.getElem?_setIfInBounds, this]

/-- What was said, written out. -/
theorem Sat.written {ρ : Names} {Φ : Nat → Prop} {w : World} {st : St} {a : Act} (hs : Sat ρ Φ st a w) {d : Tmp} {b : Bool} (h : st.tmps[d]? = some (.is (.sb b))) : Sat ρ Φ ⟨st.tmps.set d (.is (.lb b)), st.heap⟩ a w := by
  refine ⟨hs.defers, by rw [hs.size]; exact Tm.length_set.symm, fun t s ht => ?_, hs.rel⟩
  rw [Tm.getElem?_set] at ht
  split at ht
  · rename_i e
    subst e
    split at ht
    · simp only [Option.some.injEq] at ht; subst ht
      obtain ⟨x, hx, ho⟩ := hs.slot d _ h
      exact ⟨x, hx, by simpa [Slot.ok, Den] using ho⟩
    · cases ht
  · exact hs.slot t s ht
theorem forkSt_run {g : Bool} {d : Option Tmp} {k : St → Tree St} {st st' : St} (h : (forkSt g d k st).run = some st') : ∃ st1, (k st1).run = some st' ∧ ∀ (ρ : Names) (Φ : Nat → Prop) (a : Act) (w : World), Sat ρ Φ st a w → Sat ρ Φ st1 a w := by
  unfold forkSt at h
  split at h
  · split at h
    · rename_i d' b hb
      split at h
      · rcases Tree.run_ite h with ⟨rfl, h⟩ | ⟨rfl, h⟩
        · exact ⟨_, h, fun ρ Φ a w hs => hs.written hb⟩
        · exact ⟨_, h, fun ρ Φ a w hs => hs.written hb⟩
      · exact ⟨st, h, fun _ _ _ _ h => h⟩
    · exact ⟨st, h, fun _ _ _ _ h => h⟩
  · exact ⟨st, h, fun _ _ _ _ h => h⟩

/-- The operations of a region, in the order of the text. -/
theorem stepsE_sound (hcall : GoodCall P call) (hE : GoodEnv P E) {ops : Array Oper} {Q : Exit → Act → World → Prop} :
    ∀ (l : List Oper) {ρ : Names} {Φ : Nat → Prop} {w : World} {st : St} {a : Act} {st' : St}, Sat ρ Φ st a w → (stepsE T E call ops l st).run = some st' →
      (∀ (ρ' : Names) (Φ' : Nat → Prop) (a' : Act) (w' : World), Grow ρ Φ w ρ' Φ' w' → Sat ρ' Φ' st' a' w' → (∀ t, (∀ o ∈ l, o.dst ≠ some t) → a'.tmps[t]? = a.tmps[t]?) → Q .normal a' w') → wpList P ops Q l a w
  | [], ρ, Φ, w, st, a, st', hs, h, hQ => by
    simp only [stepsE, Tree.run, Option.some.injEq] at h; subst h
    exact hQ ρ Φ a w (Grow.refl ..) hs (fun _ _ => rfl)
  | o :: r, ρ, Φ, w, st, a, st', hs, h, hQ => by
    simp only [stepsE] at h
    obtain ⟨st1, h1, h2⟩ := Tree.run_bind h
    refine wpList_step fun K hKK => ?_
    refine stepE_sound hcall hE hs h1 ?_
    intro ρ1 Φ1 x w1 g1 hs1
    refine hKK _ w1 ?_
    obtain ⟨st2, h3, hst⟩ := forkSt_run h2
    refine stepsE_sound hcall hE r (hst _ _ _ _ hs1) h3 ?_
    intro ρ2 Φ2 a2 w2 g2 hs2 hf2
    refine hQ ρ2 Φ2 a2 w2 (g1.trans g2) hs2 (fun t ht => ?_)
    rw [hf2 t (fun o' ho' => ht o' (by simp [ho'])), put_frame _ _ _ _ (ht o (by simp))]

/-! ### Ways that meet again -/
theorem opE_pure {op : Op} (h : isPure op = true) (call : CallE) (ev : Bool → Operand → Tree SV) (H : Hp) (nm : Nat) : opE T call ev H nm op = (pureOp T ev true H op).bind fun v => .ret (.is v, Eff.none) := by
  cases op <;> first | (cases h; done) | rfl | skip
  rename_i c
  obtain ⟨callee, args, argTypes⟩ := c
  cases callee with
  | value f => cases h
  | builtin b => cases b <;> first | (cases h; done) | rfl
  | invoke => cases h
theorem pureCall_isPure {op : Op} {x : FuncId × List Operand} (h : pureCall E op = some x) : isPure op = false := by
  obtain ⟨k, args⟩ := x
  obtain ⟨args', ts, rfl, _⟩ := pureCall_op h
  rfl
theorem stepP_run {ops : Array Oper} {H : Hp} {o : Oper} {tm tm' : Tm} (h : (stepP T E ops H o tm).run = some tm') : (stepE T E call ops o ⟨tm, H⟩).run = some ⟨tm', H⟩ := by
  unfold stepP at h
  unfold stepE
  split at h
  · rename_i hg
    simp only [hg]
    simp only [Tree.run, Option.some.injEq] at h; subst h; rfl
  · rename_i hg
    simp only [hg]
    split at h
    · rename_i hp
      obtain ⟨v, h1, h2⟩ := Tree.run_bind h
      simp only [Tree.run, Option.some.injEq] at h2; subst h2
      cases hpc : pureCall E o.op with
      | some x => rw [pureCall_isPure hpc] at hp; cases hp
      | none =>
        rw [opE_pure hp]
        rw [Tree.bind_run (t := (pureOp T (evS tm) true H o.op).bind _) (a := (.is v, Eff.none)) (by rw [Tree.bind_run h1]; rfl)]
        rfl
    · split at h
      · rename_i k args hpc
        obtain ⟨as, h1, h2⟩ := Tree.run_bind h
        rw [Tree.bind_run h1]
        split at h2
        · rename_i pre r hsa
          obtain ⟨hpre, h3⟩ := Tree.run_need h2
          simp only [Tree.run, Option.some.injEq] at h3; subst h3
          subst hpre
          rfl
        · simp [Tree.run] at h2
      · simp [Tree.run] at h
  · simp [Tree.run] at h
theorem stepP_frame {ops : Array Oper} {H : Hp} {o : Oper} {tm tm' : Tm} (h : (stepP T E ops H o tm).run = some tm') : ∃ s, tm' = putS tm o.dst s := by
  unfold stepP at h
  split at h
  · simp only [Tree.run, Option.some.injEq] at h; exact ⟨_, h.symm⟩
  · split at h
    · obtain ⟨v, h1, h2⟩ := Tree.run_bind h
      simp only [Tree.run, Option.some.injEq] at h2; exact ⟨_, h2.symm⟩
    · split at h
      · obtain ⟨as, h1, h2⟩ := Tree.run_bind h
        split at h2
        · obtain ⟨hpre, h3⟩ := Tree.run_need h2
          simp only [Tree.run, Option.some.injEq] at h3; exact ⟨_, h3.symm⟩
        · simp [Tree.run] at h2
      · simp [Tree.run] at h
  · simp [Tree.run] at h
theorem putS_other {tm : Tm} {d : Option Tmp} {s : Slot} {t : Nat} (h : d ≠ some t) : (putS tm d s)[t]? = tm[t]? := by
  cases d with
  | none => rfl
  | some d =>
    simp only [putS]
    rw [Tm.getElem?_set, if_neg (fun e => h (by rw [e]))]
theorem putS_len {tm : Tm} {d : Option Tmp} {s : Slot} : (putS tm d s).length = tm.length := by
  cases d with
  | none => rfl
  | some d => exact Tm.length_set
theorem forkTm_run {α : Type} {g : Bool} {d : Option Tmp} {k : Tm → Tree α} {tm : Tm} {r : α} (h : (forkTm g d k tm).run = some r) : ∃ tm1, (tm1 = tm ∨ ∃ dd s, d = some dd ∧ tm1 = tm.set dd s) ∧ (k tm1).run = some r ∧ ∀ (k' : St → Tree St) (H : Hp) (r' : St), (k' ⟨tm1, H⟩).run = some r' → (forkSt g d k' ⟨tm, H⟩).run = some r' := by
  cases g with
  | false =>
    refine ⟨tm, .inl rfl, ?_, fun k' H r' hr => ?_⟩
    · unfold forkTm at h
      split at h
      · split at h
        · exact h
        · exact h
      · exact h
    · unfold forkSt
      split
      · split
        · exact hr
        · exact hr
      · exact hr
  | true =>
    cases d with
    | none => exact ⟨tm, .inl rfl, by simpa [forkTm] using h, fun k' H r' hr => by simpa [forkSt] using hr⟩
    | some d' =>
      simp only [forkTm] at h
      simp only [forkSt]
      generalize tm[d']? = o at h ⊢
      have key : (∃ b, o = some (.is (.sb b))) ∨ (∀ b, o ≠ some (.is (.sb b))) := by
        cases o with
        | none => exact .inr fun _ h => by cases h
        | some s =>
          cases s with
          | unk => exact .inr fun _ h => by cases h
          | when c v => exact .inr fun _ h => by cases h
          | is v => cases v <;> first | exact .inl ⟨_, rfl⟩ | exact .inr fun _ h => by cases h
      rcases key with ⟨b, rfl⟩ | key
      · simp only at h ⊢
        rcases Tree.run_ite h with ⟨rfl, h⟩ | ⟨rfl, h⟩
        · exact ⟨_, .inr ⟨d', _, rfl, rfl⟩, h, fun k' H r' hr => by simp only [Tree.run]; exact hr⟩
        · exact ⟨_, .inr ⟨d', _, rfl, rfl⟩, h, fun k' H r' hr => by simp only [Tree.run]; exact hr⟩
      · refine ⟨tm, .inl rfl, ?_, fun k' H r' hr => ?_⟩
        · split at h
          · rename_i b; exact (key b rfl).elim
          · exact h
        · split
          · rename_i b; exact (key b rfl).elim
          · exact hr
theorem stepsP_run {ops : Array Oper} {H : Hp} : ∀ {l : List Oper} {tm tm' : Tm}, (stepsP T E ops H l tm).run = some tm' → (stepsE T E call ops l ⟨tm, H⟩).run = some ⟨tm', H⟩ ∧ tm'.length = tm.length ∧ ∀ t, (∀ o ∈ l, o.dst ≠ some t) → tm'[t]? = tm[t]?
  | [], tm, tm', h => by
    simp only [stepsP, Tree.run, Option.some.injEq] at h; subst h
    exact ⟨rfl, rfl, fun _ _ => rfl⟩
  | o :: r, tm, tm', h => by
    simp only [stepsP] at h
    obtain ⟨tm1, h1, h2⟩ := Tree.run_bind h
    obtain ⟨tm2, hor, h3, h4⟩ := forkTm_run h2
    obtain ⟨h5, h6, h7⟩ := stepsP_run h3
    obtain ⟨s0, rfl⟩ := stepP_frame h1
    refine ⟨?_, ?_, ?_⟩
    · simp only [stepsE]
      rw [Tree.bind_run (stepP_run h1)]
      exact h4 _ H _ h5
    · rw [h6]
      rcases hor with rfl | ⟨dd, s, _, rfl⟩
      · exact putS_len
      · rw [Tm.length_set]; exact putS_len
    · intro t ht
      have ho := ht o (by simp)
      rw [h7 t (fun o' ho' => ht o' (by simp [ho']))]
      rcases hor with rfl | ⟨dd, s, hd, rfl⟩
      · exact putS_other ho
      · rw [Tm.getElem?_set, if_neg (fun e => ho (by rw [hd, e]))]
        exact putS_other ho

section
variable {ρ : Names} {Φ : Nat → Prop} {w : World}
mutual
theorem mergeV_den {b : Bool} : ∀ {x y r : SV} {v : Value}, mergeV b x y = some r → Den ρ Φ w (bif b then x else y) v → Den ρ Φ w r v
  | .lb p, y, r, v, h, hd => by
    cases y <;> simp only [mergeV] at h <;> try (cases h; done)
    · rename_i q
      cases p <;> cases q <;> simp at h <;> subst h <;> cases b <;> simpa [Den] using hd
    · rename_i q
      cases p <;> simp at h <;> subst h <;> cases b <;> simpa [Den] using hd
  | .sb p, y, r, v, h, hd => by
    cases y <;> simp only [mergeV] at h <;> try (cases h; done)
    · rename_i q
      cases q <;> simp at h <;> subst h <;> cases b <;> simpa [Den] using hd
    · simp at h; subst h; cases b <;> simpa [Den] using hd
  | .li k n, y, r, v, h, hd => by
    simp only [mergeV] at h
    split at h
    · rename_i k' m hy
      split at h
      · rename_i hk
        have := kbeq_eq hk; subst this
        simp only [Option.some.injEq] at h; subst h
        cases b
        · have := int?_den hy hd; subst this; simp [Den]
        · simpa [Den] using hd
      · cases h
    · cases h
  | .si k n, y, r, v, h, hd => by
    simp only [mergeV] at h
    split at h
    · rename_i k' m hy
      split at h
      · rename_i hk
        have := kbeq_eq hk; subst this
        simp only [Option.some.injEq] at h; subst h
        cases b
        · have := int?_den hy hd; subst this; simp [Den]
        · simpa [Den] using hd
      · cases h
    · cases h
  | .str s, y, r, v, h, hd => by
    cases y <;> simp only [mergeV] at h <;> try (cases h; done)
    simp at h; subst h; cases b <;> simpa [Den] using hd
  | .agg cs, y, r, v, h, hd => by
    cases y <;> simp only [mergeV] at h <;> try (cases h; done)
    rename_i ds
    split at h
    · rename_i l hl
      simp only [Option.some.injEq] at h; subst h
      have : Den ρ Φ w (.agg (bif b then cs else ds)) v := by cases b <;> exact hd
      simp only [Den] at this ⊢
      obtain ⟨vs, rfl, h2⟩ := this
      exact ⟨vs, rfl, mergeVs_den hl h2⟩
    · cases h
  | .ref p o, y, r, v, h, hd => by
    cases y <;> simp only [mergeV] at h <;> try (cases h; done)
    split at h
    · rename_i hb
      simp only [Bool.and_eq_true, Nat.beq_eq] at hb
      obtain ⟨rfl, rfl⟩ := hb
      simp only [Option.some.injEq] at h; subst h
      cases b <;> exact hd
    · cases h
  | .val _, y, r, v, h, hd | .rref .., y, r, v, h, hd | .lref .., y, r, v, h, hd | .sl .., y, r, v, h, hd | .own _, y, r, v, h, hd | .lst .., y, r, v, h, hd | .tup _, y, r, v, h, hd | .clo .., y, r, v, h, hd | .mp _, y, r, v, h, hd => by simp [mergeV] at h
theorem mergeVs_den {b : Bool} : ∀ {cs ds l : List SV} {vs : List Value}, mergeVs b cs ds = some l → DenL ρ Φ w (bif b then cs else ds) vs → DenL ρ Φ w l vs
  | [], ds, l, vs, h, hd => by
    cases ds <;> simp only [mergeVs] at h <;> try (cases h; done)
    simp at h; subst h; cases b <;> exact hd
  | c :: cs, ds, l, vs, h, hd => by
    cases ds <;> simp only [mergeVs] at h <;> try (cases h; done)
    rename_i d ds
    split at h
    · rename_i v l' hv hl
      simp only [Option.some.injEq] at h; subst h
      have : DenL ρ Φ w ((bif b then c else d) :: (bif b then cs else ds)) vs := by cases b <;> exact hd
      simp only [DenL] at this ⊢
      obtain ⟨x, rest, rfl, h1, h2⟩ := this
      exact ⟨x, rest, rfl, mergeV_den hv h1, mergeVs_den hl h2⟩
    · cases h
end
theorem mergeS_ok {b : Bool} {x y : Slot} {v : Value} (h : (bif b then x else y).ok ρ Φ w v) : (mergeS b x y).ok ρ Φ w v := by
  unfold mergeS
  split
  · rename_i p q
    split
    · rename_i r hr
      have : (Slot.is (bif b then p else q)).ok ρ Φ w v := by cases b <;> exact h
      exact mergeV_den hr this
    · trivial
  · trivial
end
/-- Slots that follow, one by one. -/
def Follows (l l' : List Slot) : Prop := ∀ (i : Nat) (s : Slot), l'[i]? = some s → ∃ s0, l[i]? = some s0 ∧ ∀ (ρ : Names) (Φ : Nat → Prop) (w : World) (v : Value), s0.ok ρ Φ w v → s.ok ρ Φ w v
theorem mergeSs_follows {b : Bool} : ∀ {l l' : List Slot} (r : List Slot), r = (bif b then l else l') → Follows r (mergeSs b l l')
  | [], l', r, e => by intro i s h; simp [mergeSs] at h
  | _ :: _, [], r, e => by intro i s h; simp [mergeSs] at h
  | x :: l, y :: l', r, e => by
    subst e
    intro i s h
    simp only [mergeSs] at h
    cases i with
    | zero =>
      simp at h; subst h
      refine ⟨bif b then x else y, by cases b <;> rfl, fun ρ Φ w v hv => mergeS_ok hv⟩
    | succ i =>
      obtain ⟨s0, h1, h2⟩ := mergeSs_follows (l := l) (l' := l') _ rfl i s (by simpa using h)
      exact ⟨s0, by cases b <;> simpa using h1, h2⟩
theorem Follows.trans {a b c : List Slot} (h : Follows a b) (k : Follows b c) : Follows a c := by
  intro i s hs
  obtain ⟨s1, h1, h2⟩ := k i s hs
  obtain ⟨s0, h3, h4⟩ := h i s1 h1
  exact ⟨s0, h3, fun ρ Φ w v hv => h2 ρ Φ w v (h4 ρ Φ w v hv)⟩
theorem mergeT_run {ds : List Tmp} : ∀ {t : Tree Tm} {n : Option Bool} {ls : List Slot}, mergeT ds t = some (n, ls) → getO n = true → ∃ tm, t.run = some tm ∧ Follows (ds.map fun d => tm.t.get d) ls
  | .ret tm, n, ls, h, hn => by
    simp only [mergeT, Option.some.injEq, Prod.mk.injEq] at h
    obtain ⟨rfl, rfl⟩ := h
    exact ⟨tm, rfl, fun i s hs => ⟨s, hs, fun _ _ _ _ h => h⟩⟩
  | .need p t, n, ls, h, hn => by
    simp only [mergeT] at h
    split at h
    · rename_i n' l hm
      simp only [Option.some.injEq, Prod.mk.injEq] at h
      obtain ⟨rfl, rfl⟩ := h
      simp only [getO, Bool.and_eq_true] at hn
      obtain ⟨tm, h1, h2⟩ := mergeT_run hm hn.2
      exact ⟨tm, by simp [Tree.run, hn.1, h1], h2⟩
    · cases h
  | .ite b t e, n, ls, h, hn => by
    simp only [mergeT] at h
    split at h
    · rename_i n1 l1 h1
      split at h
      · rename_i n2 l2 h2
        simp only [Option.some.injEq, Prod.mk.injEq] at h
        obtain ⟨rfl, rfl⟩ := h
        have hb : getO (bif b then n1 else n2) = true := by
          cases b <;> cases n1 <;> cases n2 <;> first | exact hn | rfl | (simp [mergeN, getO] at hn)
        cases b with
        | true =>
          obtain ⟨tm, h3, h4⟩ := mergeT_run h1 hb
          exact ⟨tm, by simpa [Tree.run] using h3, h4.trans (mergeSs_follows l1 rfl)⟩
        | false =>
          obtain ⟨tm, h3, h4⟩ := mergeT_run h2 hb
          exact ⟨tm, by simpa [Tree.run] using h3, h4.trans (mergeSs_follows l2 rfl)⟩
      · cases h
    · cases h
  | .bad _, n, ls, h, hn => by simp [mergeT] at h
theorem putAll_len : ∀ (ds : List Tmp) (ls : List Slot) (tm : Tm), (putAll tm ds ls).length = tm.length
  | [], ls, tm => by cases ls <;> rfl
  | d :: ds, [], tm => rfl
  | d :: ds, s :: ls, tm => by simp only [putAll]; rw [putAll_len ds ls]; exact Tm.length_set
theorem putAll_get : ∀ (ds : List Tmp) (ls : List Slot) (tm : Tm) (t : Nat) (s : Slot), (putAll tm ds ls)[t]? = some s → (∃ i : Nat, ds[i]? = some t ∧ ls[i]? = some s) ∨ ((∀ i : Nat, i < ls.length → ds[i]? ≠ some t) ∧ tm[t]? = some s)
  | [], ls, tm, t, s, h => by
    refine .inr ⟨fun i _ => by simp, ?_⟩
    cases ls <;> exact h
  | d :: ds, [], tm, t, s, h => .inr ⟨fun i hi => by simp at hi, h⟩
  | d :: ds, x :: ls, tm, t, s, h => by
    simp only [putAll] at h
    rcases putAll_get ds ls _ t s h with ⟨i, h1, h2⟩ | ⟨h1, h2⟩
    · exact .inl ⟨i + 1, by simpa using h1, by simpa using h2⟩
    · rw [Tm.getElem?_set] at h2
      split at h2
      · rename_i e
        split at h2
        · simp only [Option.some.injEq] at h2
          exact .inl ⟨0, by simpa using e, by simpa using h2⟩
        · cases h2
      · rename_i e
        refine .inr ⟨fun i hi => ?_, h2⟩
        cases i with
        | zero => simpa using e
        | succ i => simpa using h1 i (by simpa using hi)

theorem mergeT_len {ds : List Tmp} : ∀ {t : Tree Tm} {n : Option Bool} {ls : List Slot}, mergeT ds t = some (n, ls) → ls.length = ds.length
  | .ret tm, n, ls, h => by
    simp only [mergeT, Option.some.injEq, Prod.mk.injEq] at h
    obtain ⟨rfl, rfl⟩ := h; simp
  | .need p t, n, ls, h => by
    simp only [mergeT] at h
    split at h
    · rename_i n' l hm
      simp only [Option.some.injEq, Prod.mk.injEq] at h
      obtain ⟨rfl, rfl⟩ := h
      exact mergeT_len hm
    · cases h
  | .ite b t e, n, ls, h => by
    simp only [mergeT] at h
    split at h
    · rename_i n1 l1 h1
      split at h
      · rename_i n2 l2 h2
        simp only [Option.some.injEq, Prod.mk.injEq] at h
        obtain ⟨rfl, rfl⟩ := h
        have e1 := mergeT_len h1
        have e2 := mergeT_len h2
        have : ∀ (a c : List Slot), a.length = c.length → (mergeSs b a c).length = a.length := by
          intro a
          induction a with
          | nil => intro c _; simp [mergeSs]
          | cons x a ih =>
            intro c hc
            cases c with
            | nil => simp at hc
            | cons y c => simp [mergeSs, ih c (by simpa using hc)]
        rw [this l1 l2 (by omega), e1]
      · cases h
    · cases h
  | .bad _, n, ls, h => by simp [mergeT] at h

/-- What holds on the way that is gone holds of the ways together. -/
theorem Sat.merged {ρ : Names} {Φ : Nat → Prop} {w : World} {a : Act} {tm0 tm : Tm} {H : Hp} {ds : List Tmp} {ls : List Slot} (hs : Sat ρ Φ ⟨tm, H⟩ a w) (hlen : tm.length = tm0.length) (hfr : ∀ t, t ∉ ds → tm[t]? = tm0[t]?) (hf : Follows (ds.map fun d => tm.t.get d) ls) (hl : ls.length = ds.length) : Sat ρ Φ ⟨putAll tm0 ds ls, H⟩ a w := by
  refine ⟨hs.defers, by rw [hs.size]; exact hlen.trans (putAll_len ds ls tm0).symm, fun t s ht => ?_, hs.rel⟩
  have htl : t < tm.length := by
    have := Tm.lt_of_get ht
    rw [putAll_len] at this; omega
  rcases putAll_get ds ls tm0 t s ht with ⟨i, h1, h2⟩ | ⟨h1, h2⟩
  · obtain ⟨s0, h3, h4⟩ := hf i s h2
    rw [List.getElem?_map, h1] at h3
    simp only [Option.map_some, Option.some.injEq] at h3
    subst h3
    obtain ⟨x, hx, ho⟩ := hs.slot t _ (Tm.get_of_lt htl)
    exact ⟨x, hx, h4 _ _ _ _ ho⟩
  · have hn : t ∉ ds := by
      intro hm
      obtain ⟨i, hi⟩ := List.getElem?_of_mem hm
      have hil := (List.getElem?_eq_some_iff.1 hi).1
      exact h1 i (by omega) hi
    exact hs.slot t s (by rw [hfr t hn]; exact h2)

theorem needO_run {α : Type} {n : Option Bool} {t : Tree α} {r : α} (h : (needO n t).run = some r) : getO n = true ∧ t.run = some r := by
  cases n with
  | none => exact ⟨rfl, h⟩
  | some p => exact Tree.run_need h
theorem not_dst {ops : List Oper} {t : Nat} (h : t ∉ dstsOf ops) : ∀ o ∈ ops, o.dst ≠ some t := by
  intro o ho e
  exact h (List.mem_filterMap.2 ⟨o, ho, e⟩)
theorem regionE_run {ops : Array Oper} {st st' : St} (h : (regionE T E call ops st).run = some st') : ∃ st1, (stepsE T E call ops ops.toList st).run = some st1 ∧ ∀ (ρ : Names) (Φ : Nat → Prop) (a : Act) (w : World), Sat ρ Φ st1 a w → Sat ρ Φ st' a w := by
  unfold regionE at h
  split at h
  · split at h
    · rename_i n ls hm
      obtain ⟨hn, h1⟩ := needO_run h
      simp only [Tree.run, Option.some.injEq] at h1; subst h1
      obtain ⟨tm, h2, h3⟩ := mergeT_run hm hn
      obtain ⟨h4, h5, h6⟩ := stepsP_run (call := call) h2
      exact ⟨⟨tm, st.heap⟩, h4, fun ρ Φ a w hs => hs.merged h5 (fun t ht => h6 t (not_dst ht)) h3 (mergeT_len hm)⟩
    · exact ⟨st', h, fun _ _ _ _ h => h⟩
  · exact ⟨st', h, fun _ _ _ _ h => h⟩
end
end Go.Sy
