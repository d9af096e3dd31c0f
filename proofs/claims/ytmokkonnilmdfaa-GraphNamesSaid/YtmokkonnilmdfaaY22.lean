/-
  What is known ahead, put together ('PC', 'LC', 'envOf'); a function's run, its result told anew ('callG').
  No statement of the seat is proved here. Conditions: none.
-/
import Derived.Test.YtmokkonnilmdfaaY21
set_option linter.unusedSimpArgs false
set_option linter.unusedVariables false
namespace Go.Sy
open Go.RowKit

section
variable {P : Program}

/-- A contract of a function that only answers. -/
structure PC (P : Program) where
  f : FuncId
  spec : PSpec
  enters : Enters P f
  ok : ∀ ds pre r, spec.fn ds = some (pre, r) → pre = true → r.plain = true → CallOK P f (encL spec.shapes (.a ds) 0) [] r []

/-- What is known of a loop. -/
structure LC (P : Program) where
  f : FuncId
  i : Nat
  run : St → Tree (Ex × St)
  ok : ∀ fn c body, P.funcs[f]? = some fn → fn.body = some c → loopAt c i = some body → GoodCode P (.loop body) run

def findP : List (PC P) → FuncId → Option PSpec
  | [], _ => none
  | c :: r, f => match Nat.beq c.f f with
    | true => some c.spec
    | false => findP r f
def findC : List (Ct P) → FuncId → Option CSpec
  | [], _ => none
  | c :: r, f => match Nat.beq c.f f with
    | true => some fun args H => match c.spec args H with
      | some t => some t
      | none => match findC r f with
        | some s => s args H
        | none => none
    | false => findC r f
def findL : List (LC P) → FuncId → Nat → Option (St → Tree (Ex × St))
  | [], _, _ => none
  | c :: r, f, i => match Nat.beq c.f f && Nat.beq c.i i with
    | true => match findL r f i with
      | some run => some fun st => orElseT (c.run st) fun _ => run st
      | none => some c.run
    | false => findL r f i
/-- All that is known ahead. -/
def envOf (ps : List (PC P)) (cs : List (Ct P)) (ls : List (LC P)) : Env := ⟨findP ps, findC cs, findL ls, fun f => cs.any fun c => Nat.beq c.f f && c.turns⟩

theorem findP_spec : ∀ {l : List (PC P)} {f : FuncId} {s : PSpec}, findP l f = some s → ∃ c : PC P, c.f = f ∧ c.spec = s
  | [], f, s, h => by simp [findP] at h
  | c :: r, f, s, h => by
    simp only [findP] at h
    split at h
    · rename_i hb
      simp only [Option.some.injEq] at h
      exact ⟨c, by simpa using hb, h⟩
    · exact findP_spec h
theorem findC_spec : ∀ {l : List (Ct P)} {f : FuncId} {s : CSpec} {args : List SV} {H : Hp} {t : Tree (SV × Hp)}, findC l f = some s → s args H = some t → ∃ c : Ct P, c.f = f ∧ c.spec args H = some t
  | [], f, s, args, H, t, h, _ => by simp [findC] at h
  | c :: r, f, s, args, H, t, h, ht => by
    simp only [findC] at h
    split at h
    · rename_i hb
      simp only [Option.some.injEq] at h; subst h
      simp only at ht
      split at ht
      · rename_i t' h'
        simp only [Option.some.injEq] at ht; subst ht
        exact ⟨c, by simpa using hb, h'⟩
      · split at ht
        · rename_i s' hs'
          exact findC_spec hs' ht
        · cases ht
    · exact findC_spec h ht
theorem findL_spec : ∀ {l : List (LC P)} {f : FuncId} {i : Nat} {run : St → Tree (Ex × St)}, findL l f i = some run → ∃ c : LC P, c.f = f ∧ c.i = i ∧ c.run = run
  | [], f, i, run, h => by simp [findL] at h
  | c :: r, f, i, run, h => by
    simp only [findL] at h
    split at h
    · rename_i hb
      simp only [Bool.and_eq_true, Nat.beq_eq] at hb
      split at h
      · rename_i run' hr
        simp only [Option.some.injEq] at h
        obtain ⟨c', e1, e2, rfl⟩ := findL_spec hr
        refine ⟨⟨c.f, c.i, run, ?_⟩, hb.1, hb.2, rfl⟩
        intro fn cd body hfn hc hi ρ Φ w st a ex st' Q hs h2 hQ
        subst h
        simp only at h2
        have hor : orElseT (c.run st) (fun _ => c'.run st) = c.run st ∨ orElseT (c.run st) (fun _ => c'.run st) = c'.run st := by
          cases c.run st with
          | bad m => exact .inr rfl
          | ret y => exact .inl rfl
          | need c t => exact .inl rfl
          | ite c t u => exact .inl rfl
        rcases hor with e | e
        · rw [e] at h2; exact c.ok fn cd body hfn hc hi ρ Φ w st a ex st' Q hs h2 hQ
        · rw [e] at h2; exact c'.ok fn cd body (by rw [e1, ← hb.1]; exact hfn) hc (by rw [e2, ← hb.2]; exact hi) ρ Φ w st a ex st' Q hs h2 hQ
      · simp only [Option.some.injEq] at h
        exact ⟨c, hb.1, hb.2, h⟩
    · exact findL_spec h

theorem rel_empty {Φ : Nat → Prop} {w : World} (hphi : ∀ k, Φ k → k < w.heap.size) : Rel (fun _ => none) [] Φ w := by
  refine ⟨?_, ?_, ?_, ?_, hphi, ?_⟩
  · intro k b hk; simp [hget] at hk
  · intro k b m g hk; simp [hget] at hk
  · intro k b m g hk; simp [hget] at hk
  · intro k k' b b' m m' g hk; simp [hget] at hk
  · intro k m hk; cases hk

/-- A run that begins with nothing of its own leaves all that was there. -/
theorem Grow.old {ρ' : Names} {Φ Φ' : Nat → Prop} {w w' : World} (g : Grow (fun _ => none) Φ w ρ' Φ' w') : Below w.heap.size w w' :=
  ⟨g.ext.os, g.ext.tape, g.ext.output, g.ext.size, fun k hk => g.frame k hk (fun ⟨n, m, h, _⟩ => by cases h)⟩

theorem envOf_good (ps : List (PC P)) (cs : List (Ct P)) (ls : List (LC P)) : GoodEnv P (envOf ps cs ls) where
  pureEnters := by
    intro f s h
    obtain ⟨c, rfl, _⟩ := findP_spec h
    exact c.enters
  pure := by
    intro f s ds pre r hs hfn hp hpl Φ w vs hphi hd
    obtain ⟨c, rfl, rfl⟩ := findP_spec hs
    refine (c.ok ds pre r hfn hp hpl _ Φ w vs (rel_empty hphi) (encL_den.2 hd)).mono ?_
    rintro e w' ⟨v, ρ', Φ', rfl, hv, _, g⟩
    exact ⟨v, rfl, plain_den hpl hv, g.old⟩
  callEnters := by
    intro f s args H t h ht
    obtain ⟨c, rfl, _⟩ := findC_spec h ht
    exact c.enters
  calls := by
    intro f s args H t r H' h ht hr
    obtain ⟨c, rfl, hc⟩ := findC_spec h ht
    exact c.calls args H t r H' hc hr
  loops := by
    intro f fn c hfn hc i body hi run h
    obtain ⟨l, rfl, rfl, rfl⟩ := findL_spec h
    exact l.ok fn c body hfn hc hi

/-- A call, its result told anew. -/
def callG (T : Tab) (E : Env) (rounds depth : Nat) (f : FuncId) (args : List SV) (H : Hp) : Tree (SV × Hp) := ((callF T E rounds depth f args H).bind (gcR H.length)).bind fun x => .ret (x.1.norm, normH (List.range x.2.length) x.2)

theorem callG_ok {T : Tab} [GoodTab P T] (hm : P.follows .mixedOrders = true) {E : Env} (hE : GoodEnv P E) {rounds depth : Nat} {f : FuncId} {args : List SV} {H : Hp} {r : SV} {H' : Hp} (h : (callG T E rounds depth f args H).run = some (r, H')) :
    Enters P f ∧ CallOK P f args H r H' := by
  unfold callG at h
  obtain ⟨y, h0, h3⟩ := Tree.run_bind h
  obtain ⟨r2, H2⟩ := y
  simp only [Tree.run, Option.some.injEq, Prod.mk.injEq] at h3
  obtain ⟨rfl, rfl⟩ := h3
  obtain ⟨x, h1, h2⟩ := Tree.run_bind h0
  obtain ⟨r1, H1⟩ := x
  have hg := callF_good (T := T) hm hE rounds depth
  refine ⟨hg.enters f args H _ h1, ?_⟩
  have hok := CallOK.gc (hg.calls f args H r1 H1 h1) (Nat.le_refl _) h2
  intro ρ Φ w vs hr hd
  refine (hok ρ Φ w vs hr hd).mono ?_
  rintro e w' ⟨v, ρ', Φ', rfl, hv, hr', g⟩
  exact ⟨v, ρ', Φ', rfl, den_norm.2 hv, rel_normH _ hr', g⟩

/-- A round of a function's loop, as it runs. -/
def bodyF (T : Tab) (E : Env) (rounds depth : Nat) (f : FuncId) (i : Nat) (body : Code) : St → Tree (Ex × St) :=
  execE T E (callF T E rounds depth) (meetD T E (callF T E rounds depth)) (E.loops f) rounds body (i + 1)

/-- A loop by its rounds. -/
def LC.of {T : Tab} [GoodTab P T] (hm : P.follows .mixedOrders = true) {E : Env} (hE : GoodEnv P E) (rounds depth : Nat) (f : FuncId) (i : Nat) (fn : Func) (hfn : P.funcs[f]? = some fn) (c body : Code) (hc : fn.body = some c) (hi : loopAt c i = some body)
    (p : LP) (res : St → Tree (Ex × St))
    (hL : ∀ j x run, loopAt body j = some x → E.loops f (i + 1 + j) = some run → GoodCode P (.loop x) run)
    (hres : ∀ st ex st', (res st).run = some (ex, st') → ∃ n, iterC (roundC (bodyF T E rounds depth f i body) p) n st = some (ex, st')) : LC P where
  f := f
  i := i
  run := loopC p res
  ok := by
    intro fn' c' body' hfn' hc' hi'
    rw [hfn] at hfn'; simp only [Option.some.injEq] at hfn'; subst hfn'
    rw [hc] at hc'; simp only [Option.some.injEq] at hc'; subst hc'
    rw [hi] at hi'; simp only [Option.some.injEq] at hi'; subst hi'
    exact loopC_good (execF_good hm hE rounds depth hfn hc hi hL) hres

theorem loopAt_in : ∀ {c : Code} {i : Nat} {body : Code}, loopAt c i = some body → ∀ {j : Nat} {x : Code}, loopAt body j = some x → loopAt c (i + 1 + j) = some x ∧ i + 1 + j < loopsIn c
  | .seq a b, i, body, h, j, x, hx => by
    simp only [loopAt] at h
    split at h
    · rename_i hlt
      obtain ⟨h1, h2⟩ := loopAt_in h hx
      refine ⟨?_, by simp only [loopsIn]; omega⟩
      simp only [loopAt]; rw [nlt.2 h2]; exact h1
    · rename_i hlt
      have hge := nltf.1 hlt
      obtain ⟨h1, h2⟩ := loopAt_in h hx
      refine ⟨?_, by simp only [loopsIn]; omega⟩
      simp only [loopAt]; rw [nltf.2 (by omega)]
      have e : i + 1 + j - loopsIn a = i - loopsIn a + 1 + j := by omega
      rw [e]; exact h1
  | .cond q a b, i, body, h, j, x, hx => by
    simp only [loopAt] at h
    split at h
    · rename_i hlt
      obtain ⟨h1, h2⟩ := loopAt_in h hx
      refine ⟨?_, by simp only [loopsIn]; omega⟩
      simp only [loopAt]; rw [nlt.2 h2]; exact h1
    · rename_i hlt
      have hge := nltf.1 hlt
      obtain ⟨h1, h2⟩ := loopAt_in h hx
      refine ⟨?_, by simp only [loopsIn]; omega⟩
      simp only [loopAt]; rw [nltf.2 (by omega)]
      have e : i + 1 + j - loopsIn a = i - loopsIn a + 1 + j := by omega
      rw [e]; exact h1
  | .block id a, i, body, h, j, x, hx => by
    simp only [loopAt] at h ⊢
    simp only [loopsIn]
    exact loopAt_in h hx
  | .loop a, 0, body, h, j, x, hx => by
    simp only [loopAt, Option.some.injEq] at h; subst h
    have := loopAt_lt hx
    simp only [loopsIn]
    rw [Nat.zero_add, Nat.add_comm 1 j]
    exact ⟨hx, by omega⟩
  | .loop a, i + 1, body, h, j, x, hx => by
    simp only [loopAt] at h
    obtain ⟨h1, h2⟩ := loopAt_in h hx
    simp only [loopsIn]
    have e : i + 1 + 1 + j = (i + 1 + j) + 1 := by omega
    rw [e]
    exact ⟨h1, by omega⟩

/-- Loops within it are known by the same list. -/
theorem inner_loops {ls : List (LC P)} {ps : List (PC P)} {cs : List (Ct P)} {f : FuncId} {fn : Func} {c body : Code} {i : Nat} (hfn : P.funcs[f]? = some fn) (hc : fn.body = some c) (hi : loopAt c i = some body) :
    ∀ j x run, loopAt body j = some x → (envOf ps cs ls).loops f (i + 1 + j) = some run → GoodCode P (.loop x) run := by
  intro j x run hj hr
  exact (envOf_good ps cs ls).loops f fn c hfn hc _ x (loopAt_in hi hj).1 run hr
end
end Go.Sy
