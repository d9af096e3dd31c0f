/-
  Contracts of functions of integers, truth values, structs and arrays of these, for the runs of their callers.
  No statement of the seat is proved here. Conditions: none.
-/
import Derived.Test.YtkkbbifhaanamaaSxRow
set_option linter.unusedSimpArgs false
set_option linter.unusedVariables false
namespace Go.Sx
open Go.RowKit

/-- An argument: an integer, a truth value, an aggregate of integers. -/
inductive Pat where
  | i (k : IntKind)
  | b
  | a (ks : List IntKind)

def flatI : List IntKind → List SV → Option (List Int)
  | [], [] => some []
  | k :: ks, v :: vs => match v.int?, flatI ks vs with
    | some (k', n), some ns => if k = k' then some (n :: ns) else none
    | _, _ => none
  | _, _ => none

def canonI : List IntKind → List Int → List SV
  | k :: ks, n :: ns => .si k n :: canonI ks ns
  | _, _ => []

def flatP : List Pat → List SV → Option (List Int × List Bool)
  | [], [] => some ([], [])
  | .i k :: ps, v :: vs => match v.int?, flatP ps vs with
    | some (k', n), some (ns, bs) => if k = k' then some (n :: ns, bs) else none
    | _, _ => none
  | .b :: ps, v :: vs => match v.bool?, flatP ps vs with
    | some c, some (ns, bs) => some (ns, c :: bs)
    | _, _ => none
  | .a ks :: ps, .agg cs :: vs => match flatI ks cs, flatP ps vs with
    | some ms, some (ns, bs) => some (ms ++ ns, bs)
    | _, _ => none
  | _, _ => none

def canonP : List Pat → List Int → List Bool → List SV
  | .i k :: ps, n :: ns, bs => .si k n :: canonP ps ns bs
  | .b :: ps, ns, c :: bs => .sb c :: canonP ps ns bs
  | .a ks :: ps, ns, bs => .agg (canonI ks (ns.take ks.length)) :: canonP ps (ns.drop ks.length) bs
  | _, _, _ => []

theorem flatI_spec (ρ : Nat → Nat) : ∀ (ks : List IntKind) (vs : List SV) (ns : List Int), flatI ks vs = some ns → ns.length = ks.length ∧ SV.denL ρ vs = SV.denL id (canonI ks ns)
  | [], [], ns, h => by simp only [flatI, Option.some.injEq] at h; subst h; simp [SV.denL, canonI]
  | [], _ :: _, ns, h => by simp [flatI] at h
  | _ :: _, [], ns, h => by simp [flatI] at h
  | k :: ks, v :: vs, ns, h => by
    simp only [flatI] at h
    split at h
    · rename_i k' n ms hv hm
      split at h
      · rename_i hk
        simp only [Option.some.injEq] at h
        subst h; subst hk
        obtain ⟨h1, h2⟩ := flatI_spec ρ ks vs ms hm
        refine ⟨by simp [h1], ?_⟩
        simp only [SV.denL, canonI, SV.den, SV.int?_den ρ hv, h2]
      · cases h
    · cases h

theorem flatP_spec (ρ : Nat → Nat) : ∀ (ps : List Pat) (vs : List SV) (ns : List Int) (bs : List Bool), flatP ps vs = some (ns, bs) → SV.denL ρ vs = SV.denL id (canonP ps ns bs)
  | [], [], ns, bs, h => by simp only [flatP, Option.some.injEq, Prod.mk.injEq] at h; obtain ⟨rfl, rfl⟩ := h; simp [SV.denL, canonP]
  | [], _ :: _, ns, bs, h => by simp [flatP] at h
  | .i k :: ps, [], ns, bs, h => by simp [flatP] at h
  | .b :: ps, [], ns, bs, h => by simp [flatP] at h
  | .a ks :: ps, [], ns, bs, h => by simp [flatP] at h
  | .i k :: ps, v :: vs, ns, bs, h => by
    simp only [flatP] at h
    split at h
    · rename_i k' n ms cs hv hm
      split at h
      · rename_i hk
        simp only [Option.some.injEq, Prod.mk.injEq] at h
        obtain ⟨rfl, rfl⟩ := h
        subst hk
        simp only [SV.denL, canonP, SV.den, SV.int?_den ρ hv, flatP_spec ρ ps vs ms cs hm]
      · cases h
    · cases h
  | .b :: ps, v :: vs, ns, bs, h => by
    simp only [flatP] at h
    split at h
    · rename_i c ms cs hv hm
      simp only [Option.some.injEq, Prod.mk.injEq] at h
      obtain ⟨rfl, rfl⟩ := h
      simp only [SV.denL, canonP, SV.den, SV.bool?_den ρ hv, flatP_spec ρ ps vs ms cs hm]
    · cases h
  | .a ks :: ps, v :: vs, ns, bs, h => by
    cases v <;> simp only [flatP] at h <;> try (cases h; done)
    rename_i cs
    split at h
    · rename_i ms ns' bs' hm hp
      simp only [Option.some.injEq, Prod.mk.injEq] at h
      obtain ⟨rfl, rfl⟩ := h
      obtain ⟨h1, h2⟩ := flatI_spec ρ ks cs ms hm
      simp only [SV.denL, canonP, SV.den, h2, flatP_spec ρ ps vs ns' bs' hp]
      rw [List.take_append_of_le_length (by omega), List.take_of_length_le (by omega), List.drop_append_of_le_length (by omega), List.drop_of_length_le (by omega), List.nil_append]
    · cases h

/-- A function's contract. -/
structure Contract (P : Program) where
  f : FuncId
  spec : Spec
  enters : Enters P f
  calls : ∀ args pre r, spec args = some (pre, r) → pre = true → ∀ (ρ : Nat → Nat) (w : World), Calls P f (SV.denL ρ args).toArray w fun e w' => e = .returned (r.den ρ) ∧ Below w.heap.size w w'

def specsOf {P : Program} : List (Contract P) → Specs
  | [] => fun _ => none
  | c :: r => fun f => if Nat.beq c.f f then some c.spec else specsOf r f

theorem good_specsOf {P : Program} : ∀ l : List (Contract P), GoodSpecs P (specsOf l)
  | [] => good_none
  | c :: r => by
    have ih := good_specsOf r
    refine ⟨?_, ?_⟩
    · intro f args x h
      unfold trySpec specsOf at h
      by_cases hf : Nat.beq c.f f = true
      · have : c.f = f := by simpa using hf
        subst this; exact c.enters
      · refine ih.enters f args x ?_
        unfold trySpec
        rw [if_neg hf] at h; exact h
    · intro f args pre x h hp
      unfold trySpec specsOf at h
      by_cases hf : Nat.beq c.f f = true
      · have : c.f = f := by simpa using hf
        subst this
        rw [if_pos hf] at h
        exact c.calls args pre x h hp
      · refine ih.calls f args pre x ?_ hp
        unfold trySpec
        rw [if_neg hf] at h; exact h

/-- A contract out of a function of integers and truth values ('g'): what is asked, what is answered. -/
def Contract.of {P : Program} (f : FuncId) (ps : List Pat) (g : List Int → List Bool → Option (Bool × SV)) (henter : Enters P f) (hlow : ∀ ns bs pre r, g ns bs = some (pre, r) → r.low 0 = true)
    (h : ∀ ns bs pre r, g ns bs = some (pre, r) → pre = true → ∀ w : World, Calls P f (SV.denL id (canonP ps ns bs)).toArray w fun e w' => e = .returned (r.den id) ∧ Below w.heap.size w w') : Contract P where
  f := f
  spec := fun args => if args.all litAll then none else match flatP ps args with
    | some x => g x.1 x.2
    | none => none
  enters := henter
  calls := by
    intro args pre r hs hp ρ w
    split at hs
    · cases hs
    · split at hs
      · rename_i x hx
        obtain ⟨ns, bs⟩ := x
        rw [flatP_spec ρ ps args ns bs hx, SV.den_low (n := 0) (ρ := id) (ρ' := ρ) (fun k hk => by omega) r (hlow _ _ _ _ hs)]
        exact h ns bs pre r hs hp w
      · cases hs

/-- The same one; calls with literal arguments take it too. -/
def Contract.all {P : Program} (f : FuncId) (ps : List Pat) (g : List Int → List Bool → Option (Bool × SV)) (henter : Enters P f) (hlow : ∀ ns bs pre r, g ns bs = some (pre, r) → r.low 0 = true)
    (h : ∀ ns bs pre r, g ns bs = some (pre, r) → pre = true → ∀ w : World, Calls P f (SV.denL id (canonP ps ns bs)).toArray w fun e w' => e = .returned (r.den id) ∧ Below w.heap.size w w') : Contract P where
  f := f
  spec := fun args => match flatP ps args with
    | some x => g x.1 x.2
    | none => none
  enters := henter
  calls := by
    intro args pre r hs hp ρ w
    split at hs
    · rename_i x hx
      obtain ⟨ns, bs⟩ := x
      rw [flatP_spec ρ ps args ns bs hx, SV.den_low (n := 0) (ρ := id) (ρ' := ρ) (fun k hk => by omega) r (hlow _ _ _ _ hs)]
      exact h ns bs pre r hs hp w
    · cases hs

/-- The same of a function that has no arguments, or whose arguments are not looked at: a closed answer. -/
def Contract.closed {P : Program} (f : FuncId) (r : SV) (hr : r.low 0 = true) (h : ∀ w : World, Enters P f ∧ Calls P f #[] w fun e w' => e = .returned (r.den id) ∧ Below w.heap.size w w') : Contract P where
  f := f
  spec := fun args => match args with
    | [] => some (true, r)
    | _ => none
  enters := (h default).1
  calls := by
    intro args pre x hs hp ρ w
    split at hs
    · simp only [Option.some.injEq, Prod.mk.injEq] at hs
      obtain ⟨_, rfl⟩ := hs
      rw [SV.den_low (n := 0) (ρ := id) (ρ' := ρ) (fun k hk => by omega) r hr]
      simpa [SV.denL] using (h w).2
    · cases hs

end Go.Sx
