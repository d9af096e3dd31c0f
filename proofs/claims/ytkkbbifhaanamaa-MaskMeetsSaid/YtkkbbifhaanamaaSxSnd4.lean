/-
  'pureOp', 'opE' are what the model does, operation by operation.
  No statement of the seat is proved here. Conditions: none.
-/
import Derived.Test.YtkkbbifhaanamaaSxSnd3
set_option linter.unusedSimpArgs false
set_option linter.unusedVariables false
namespace Go.Sx
open Go.RowKit

section
variable {P : Program} {ρ : Nat → Nat} {H : Hp} {Φ : Nat → Prop} {w : World} {eval : Operand → Value} {ev : Bool → Operand → Tree SV}

/-- What is known of an operand. -/
def Knows (ev : Bool → Operand → Tree SV) (eval : Operand → Value) (ρ : Nat → Nat) (x : Operand) : Prop :=
  ∀ pc v, (ev pc x).run = some v → pc = true → eval x = v.den ρ

theorem evs_run (f : Operand → Tree SV) (g : Operand → Value) (ρ : Nat → Nat) : ∀ (l : List Operand) (vs : List SV), (∀ x ∈ l, ∀ v, (f x).run = some v → g x = v.den ρ) → (evs f l).run = some vs → l.map g = SV.denL ρ vs
  | [], vs, _, h => by simp [evs, Tree.run] at h; subst h; rfl
  | x :: r, vs, hk, h => by
    simp only [evs] at h
    obtain ⟨v, h1, h2⟩ := Tree.run_bind h
    obtain ⟨us, h3, h4⟩ := Tree.run_bind h2
    simp [Tree.run] at h4; subst h4
    simp only [List.map_cons, SV.denL]
    rw [hk x (by simp) v h1, evs_run f g ρ r us (fun y hy => hk y (by simp [hy])) h3]

theorem evsP_run (f : Operand → Tree SV) (g : Operand → Value) (ρ : Nat → Nat) : ∀ (l : List (Nat × Operand)) (vs : List (Nat × SV)), (∀ x ∈ l, ∀ v, (f x.2).run = some v → g x.2 = v.den ρ) → (evsP f l).run = some vs →
    l.map (fun x => (x.1, g x.2)) = vs.map fun x => (x.1, x.2.den ρ)
  | [], vs, _, h => by simp [evsP, Tree.run] at h; subst h; rfl
  | (i, x) :: r, vs, hk, h => by
    simp only [evsP] at h
    obtain ⟨v, h1, h2⟩ := Tree.run_bind h
    obtain ⟨us, h3, h4⟩ := Tree.run_bind h2
    simp [Tree.run] at h4; subst h4
    simp only [List.map_cons]
    have e1 := hk (i, x) (by simp) v h1
    simp only at e1
    rw [e1, evsP_run f g ρ r us (fun y hy => hk y (by simp [hy])) h3]

theorem merge_run {c : Bool} {x y v : SV} (h : (merge c x y).run = some v) : v.den ρ = if c then x.den ρ else y.den ρ := by
  unfold merge at h
  split at h
  · rename_i a b hx hy
    simp [Tree.run] at h; subst h
    rw [SV.bool?_den ρ hx, SV.bool?_den ρ hy]; cases c <;> simp [SV.den]
  · split at h
    · rename_i k a k' b hx hy
      split at h
      · rename_i hk; subst hk
        simp [Tree.run] at h; subst h
        rw [SV.int?_den ρ hx, SV.int?_den ρ hy]; cases c <;> simp [SV.den]
      · simp [Tree.run] at h
    · simp [Tree.run] at h

theorem fieldT_run {s : TypeId} {f : Nat} {fd : Field} (h : fieldT P s f = some fd) : ∃ fs, P.underlying s = some (.struct fs) ∧ fs[f]? = some fd := by
  unfold fieldT at h
  split at h
  · rename_i fs hu; exact ⟨fs, hu, h⟩
  · simp at h

theorem elemT_run {t e : TypeId} {len n : Nat} (h : elemT P t = some (len, e, n)) : P.underlying t = some (.array len e) ∧ sizeT P e = some n := by
  unfold elemT at h
  split at h
  · rename_i len' e' hu
    split at h
    · rename_i n' hs
      simp at h
      obtain ⟨rfl, rfl, rfl⟩ := h
      exact ⟨hu, hs⟩
    · simp at h
  · simp at h

theorem indexTree_go_run {α : Type} {f : Nat → Tree α} {len : Nat} {n : Int} {a : α} (h0 : 0 ≤ n) (h1 : n < (len : Int)) :
    ∀ m : Nat, ((len : Int) - m ≤ n) → m ≤ len → (indexTree.go f len n m).run = some a → (f n.toNat).run = some a
  | 0, hm, _, h => by simp [indexTree.go, Tree.run] at h
  | 1, hm, hl, h => by
    simp only [indexTree.go] at h
    have : n.toNat = len - 1 := by omega
    rw [this]; exact h
  | m + 2, hm, hl, h => by
    simp only [indexTree.go] at h
    rcases Tree.run_ite h with ⟨hb, h⟩ | ⟨hb, h⟩
    · have hb' : n = ((len - (m + 2) : Nat) : Int) := by simpa using hb
      have : n.toNat = len - (m + 2) := by omega
      rw [this]; exact h
    · have hb' : ¬ n = ((len - (m + 2) : Nat) : Int) := by simpa using hb
      exact indexTree_go_run h0 h1 (m + 1) (by omega) (by omega) h

theorem indexTree_run {α : Type} {f : Nat → Tree α} {len : Nat} {v : SV} {a : α} (h : (indexTree f len v).run = some a) :
    ∃ k n, v.int? = some (k, n) ∧ 0 ≤ n ∧ n < (len : Int) ∧ (f n.toNat).run = some a := by
  unfold indexTree at h
  split at h
  · rename_i k n
    split at h
    · rename_i hc
      simp at hc
      exact ⟨k, n, rfl, hc.1, hc.2, h⟩
    · simp [Tree.run] at h
  · rename_i k n
    obtain ⟨hc, h⟩ := Tree.run_need h
    simp at hc
    exact ⟨k, n, rfl, hc.1, hc.2, indexTree_go_run hc.1 hc.2 len (by omega) (Nat.le_refl _) h⟩
  · simp [Tree.run] at h

theorem build_run {t : TypeId} {z out : List SV} {pl : Nat → Option (Nat × Nat)} {parts : List (Nat × SV)} (hz : zeroL P t = some z) (hp : placesT P t = some pl) (hf : fillL pl z parts = some out) :
    (Instr.build t (parts.map fun x => (x.1, x.2.den ρ)).toArray).run P w = .ok (.agg (SV.denL ρ out).toArray) w := by
  have hfill := fillL_run ρ hf
  refine run_build w t _ _ ?_
  unfold zeroL at hz
  cases hi : P.info? t with
  | none => simp [hi] at hz
  | some it =>
    simp only [hi] at hz
    cases hzz : it.zero with
    | none => simp [hzz] at hz
    | some zv =>
      simp only [hzz, Option.some.injEq] at hz
      have hzc : zv.cells = (SV.denL ρ z).toArray := by rw [← hz, ofCells_den]
      unfold Program.built
      unfold placesT at hp
      split at hp
      · rename_i fs hu
        split at hp
        · rename_i l hl
          simp only [Option.some.injEq] at hp
          subst hp
          simp only [hi, hu, hzz, hl, hzc]
          simpa using hfill
        · simp at hp
      · rename_i len e hu
        split at hp
        · rename_i n hn
          simp only [Option.some.injEq] at hp
          subst hp
          unfold sizeT at hn
          cases hie : P.info? e with
          | none => simp [hie] at hn
          | some ie =>
            simp [hie] at hn
            simp only [hi, hu, hzz, hie, hzc, hn]
            simpa using hfill
        · simp at hp
      · simp at hp

theorem lenSV_run {t : TypeId} {x v : SV} (h : (lenSV P t x).run = some v) (args : Array Value) (argTypes : Array TypeId) (ty : TypeId) (ha : args[0]? = some (x.den ρ)) (ht : argTypes[0]? = some t) :
    (Builtin.len_ argTypes ty args).run P w = .ok (v.den ρ) w := by
  unfold lenSV at h
  split at h
  · rename_i e b off n cap hu
    simp only [Tree.run, Option.some.injEq] at h; subst h
    simp [Builtin.len_, ha, ht, run_underlying' hu, SV.den, litI_den, goInt]
  · rename_i e a n cap hu
    simp only [Tree.run, Option.some.injEq] at h; subst h
    simp [Builtin.len_, ha, ht, run_underlying' hu, SV.den, goInt]
  · rename_i s hu
    simp only [Tree.run, Option.some.injEq] at h; subst h
    simp [Builtin.len_, ha, ht, run_underlying' hu, SV.den, goInt]
  · rename_i n e hu
    simp only [Tree.run, Option.some.injEq] at h; subst h
    simp [Builtin.len_, ha, ht, run_underlying' hu, litI_den, goInt]
  · simp [Tree.run] at h

theorem foldI_run (mx : Bool) : ∀ (r : List SV) (x v : SV), (foldI mx x r).run = some v → ((SV.denL ρ r).foldlM (if mx then Builtin.max2 else Builtin.min2) (x.den ρ)).run P w = .ok (v.den ρ) w
  | [], x, v, h => by simp only [foldI, Tree.run, Option.some.injEq] at h; subst h; simp [SV.denL]
  | y :: r, x, v, h => by
    simp only [foldI] at h
    obtain ⟨z, h1, h2⟩ := Tree.run_bind h
    have ih := foldI_run mx r z v h2
    unfold pickI at h1
    split at h1
    · rename_i k a k' b hx hy
      simp only [Tree.run, Option.some.injEq] at h1
      have hz : z.den ρ = .int k (pickN mx a b) := by rw [← h1, mkI_den]
      simp only [SV.denL, List.foldlM_cons, SV.int?_den ρ hx, SV.int?_den ρ hy]
      cases mx
      · simp only [pickN] at hz
        simp only [Bool.false_eq_true, if_false, Builtin.min2, Sem.run_bind, Sem.run_pure, Result.andThen_ok]
        rw [← hz]; simpa using ih
      · simp only [pickN] at hz
        simp only [if_true, Builtin.max2, Sem.run_bind, Sem.run_pure, Result.andThen_ok]
        rw [← hz]; simpa using ih
    · simp [Tree.run] at h1

theorem pureOp_run {o : Oper} {v : SV} (hk : ∀ x ∈ o.op.operands, Knows ev eval ρ x) (hrel : Rel ρ H Φ w) (h : (pureOp P ev true H o.op).run = some v) :
    (execOp eval o).run P w = .ok (.value (v.den ρ)) w := by
  obtain ⟨dst, op, ty, pos, after, guard⟩ := o
  simp only at hk h
  cases op
  case move x =>
    simp only [pureOp] at h
    simp [execOp, hk x (by simp [Op.operands]) true v h rfl]
  case assign x =>
    simp only [pureOp] at h
    simp [execOp, hk x (by simp [Op.operands]) true v h rfl]
  case pick c a b =>
    simp only [pureOp] at h
    obtain ⟨cv, h1, h2⟩ := Tree.run_bind h
    have hc := hk c (by simp [Op.operands]) true cv h1 rfl
    split at h2
    · have ha := hk a (by simp [Op.operands]) true v h2 rfl
      simp [execOp, hc, SV.den, asBool, ha]
    · have hb := hk b (by simp [Op.operands]) true v h2 rfl
      simp [execOp, hc, SV.den, asBool, hb]
    · rename_i q
      obtain ⟨va, h3, h4⟩ := Tree.run_bind h2
      obtain ⟨vb, h5, h6⟩ := Tree.run_bind h4
      have hm := merge_run (ρ := ρ) h6
      have ha := hk a (by simp [Op.operands]) (true && q) va h3
      have hb := hk b (by simp [Op.operands]) (true && !q) vb h5
      cases q
      · simp [execOp, hc, SV.den, asBool, hm, hb (by simp)]
      · simp [execOp, hc, SV.den, asBool, hm, ha (by simp)]
    · simp [Tree.run] at h2
  case nilCheck x =>
    simp only [pureOp] at h
    obtain ⟨xv, h1, h2⟩ := Tree.run_bind h
    have hx := hk x (by simp [Op.operands]) true xv h1 rfl
    split at h2
    · simp [Tree.run] at h2; subst h2
      simp [execOp, hx, SV.den]
    · simp [Tree.run] at h2; subst h2
      simp [execOp, hx, SV.den]
    · simp [Tree.run] at h2
  case load t x =>
    simp only [pureOp] at h
    obtain ⟨xv, h1, h2⟩ := Tree.run_bind h
    have hx := hk x (by simp [Op.operands]) true xv h1 rfl
    split at h2
    · rename_i b off
      unfold loadH at h2
      split at h2
      · rename_i blk hb
        have hp := orBad_run h2
        have := loadVar_run (P := P) hrel hb hp
        simp [execOp, Instr.loadAt, Instr.sureAddr, hx, SV.den, this]
      · simp [Tree.run] at h2
    · simp [Tree.run] at h2
  case binOp op t x y yt =>
    simp only [pureOp] at h
    obtain ⟨xv, h1, h2⟩ := Tree.run_bind h
    obtain ⟨yv, h3, h4⟩ := Tree.run_bind h2
    have hx := hk x (by simp [Op.operands]) true xv h1 rfl
    have hy := hk y (by simp [Op.operands]) true yv h3 rfl
    have := binSV_run ρ h4 x y w
    simp only [execOp, hx, hy]
    rw [Sem.run_bind, this]; simp
  case unOp op t x =>
    simp only [pureOp] at h
    obtain ⟨xv, h1, h2⟩ := Tree.run_bind h
    have hx := hk x (by simp [Op.operands]) true xv h1 rfl
    unfold unSV at h2
    split at h2 <;> simp [Tree.run] at h2 <;> subst h2 <;> simp [execOp, hx, SV.den, litI_den, litB_den, Op.unary, Op.intArith, Op.intBits, bits]
  case convert src dst x =>
    simp only [pureOp] at h
    obtain ⟨xv, h1, h2⟩ := Tree.run_bind h
    have hx := hk x (by simp [Op.operands]) true xv h1 rfl
    split at h2
    · rename_i k0 k k1 n hs hd
      simp [Tree.run] at h2; subst h2
      simp [execOp, hx, SV.den, litI_den, convert, run_underlying' hs, run_underlying' hd, Conv.intToInt]
    · rename_i k0 k k1 n hs hd
      simp [Tree.run] at h2; subst h2
      simp [execOp, hx, SV.den, litI_den, convert, run_underlying' hs, run_underlying' hd, Conv.intToInt]
    · simp [Tree.run] at h2
  case makeFunc fn first caps =>
    simp only [pureOp] at h
    obtain ⟨fs, h1, h2⟩ := Tree.run_bind h
    obtain ⟨cs, h3, h4⟩ := Tree.run_bind h2
    simp [Tree.run] at h4; subst h4
    have m1 : ∀ x ∈ first.toList, x ∈ (Op.makeFunc fn first caps).operands := by
      intro x hx; simp only [Op.operands, Array.mem_append]; exact .inl (Array.mem_toList_iff.1 hx)
    have m2 : ∀ x ∈ caps.toList, x ∈ (Op.makeFunc fn first caps).operands := by
      intro x hx; simp only [Op.operands, Array.mem_append]; exact .inr (Array.mem_toList_iff.1 hx)
    have e1 := evs_run (ev true) eval ρ first.toList fs (fun x hx v hv => hk x (m1 x hx) true v hv rfl) h1
    have e2 := evs_run (ev true) eval ρ caps.toList cs (fun x hx v hv => hk x (m2 x hx) true v hv rfl) h3
    have a1 : first.map eval = (SV.denL ρ fs).toArray := by rw [← e1, ← Array.toList_map, Array.toArray_toList]
    have a2 : caps.map eval = (SV.denL ρ cs).toArray := by rw [← e2, ← Array.toList_map, Array.toArray_toList]
    simp [execOp, Instr.makeFunc, a1, a2, SV.den]
  case fieldAddr s x f =>
    simp only [pureOp] at h
    obtain ⟨xv, h1, h2⟩ := Tree.run_bind h
    have hx := hk x (by simp [Op.operands]) true xv h1 rfl
    split at h2
    · rename_i b off
      split at h2
      · rename_i fd hfd
        obtain ⟨fs, hu, hget⟩ := fieldT_run hfd
        split at h2
        · rename_i n hn
          split at h2
          · simp [Tree.run] at h2
          · rename_i hn0
            have hn0' : ¬ n = 0 := by simpa using hn0
            simp [Tree.run] at h2; subst h2
            simp [execOp, Instr.fieldAt, Instr.sureAddr, hx, SV.den, run_underlying' hu, hget, fieldPlace, sizeT_run hn, hn0', addr_add]
        · simp [Tree.run] at h2
      · simp [Tree.run] at h2
    · simp [Tree.run] at h2
  case field t x f =>
    simp only [pureOp] at h
    obtain ⟨xv, h1, h2⟩ := Tree.run_bind h
    have hx := hk x (by simp [Op.operands]) true xv h1 rfl
    split at h2
    · rename_i cs
      split at h2
      · rename_i fd hfd
        obtain ⟨fs, hu, hget⟩ := fieldT_run hfd
        have hp := orBad_run h2
        simp [execOp, Instr.field, hx, SV.den, run_underlying' hu, hget, asAgg, part_run ρ w hp]
      · simp [Tree.run] at h2
    · simp [Tree.run] at h2
  case indexAddr t x i =>
    simp only [pureOp] at h
    obtain ⟨xv, h1, h2⟩ := Tree.run_bind h
    have hx := hk x (by simp [Op.operands]) true xv h1 rfl
    split at h2
    · rename_i b off
      split at h2
      · rename_i len e n hel
        obtain ⟨hu, hn⟩ := elemT_run hel
        obtain ⟨iv, h3, h4⟩ := Tree.run_bind h2
        have hi := hk i (by simp [Op.operands]) true iv h3 rfl
        obtain ⟨k, m, hint, hm0, hm1, hf⟩ := indexTree_run h4
        simp [Tree.run] at hf; subst hf
        rw [SV.int?_den ρ hint] at hi
        simp [execOp, Instr.indexAt, Instr.sureAddr, hx, hi, SV.den, run_underlying' hu, asIntOf, sizeT_run hn, hm0, hm1, addr_add]
      · simp [Tree.run] at h2
    · rename_i b off len cap
      split at h2
      · rename_i e hu
        split at h2
        · rename_i n hn
          obtain ⟨iv, h3, h4⟩ := Tree.run_bind h2
          have hi := hk i (by simp [Op.operands]) true iv h3 rfl
          obtain ⟨k, m, hint, hm0, hm1, hf⟩ := indexTree_run h4
          simp [Tree.run] at hf; subst hf
          rw [SV.int?_den ρ hint] at hi
          simp [execOp, Instr.indexAt, Instr.sureAddr, hx, hi, SV.den, run_underlying' hu, asIntOf, sizeT_run hn, hm0, hm1, addr_add]
        · simp [Tree.run] at h2
      · simp [Tree.run] at h2
    · simp [Tree.run] at h2
  case index t x i =>
    simp only [pureOp] at h
    obtain ⟨xv, h1, h2⟩ := Tree.run_bind h
    have hx := hk x (by simp [Op.operands]) true xv h1 rfl
    split at h2
    · rename_i cs
      split at h2
      · rename_i len e n hel
        obtain ⟨hu, hn⟩ := elemT_run hel
        obtain ⟨iv, h3, h4⟩ := Tree.run_bind h2
        have hi := hk i (by simp [Op.operands]) true iv h3 rfl
        obtain ⟨k, m, hint, hm0, hm1, hf⟩ := indexTree_run h4
        have hp := orBad_run hf
        rw [SV.int?_den ρ hint] at hi
        simp [execOp, Instr.index, hx, hi, SV.den, run_underlying' hu, asIntOf, sizeT_run hn, hm0, hm1, part_run ρ w hp]
      · simp [Tree.run] at h2
    · simp [Tree.run] at h2
  case extract x i =>
    simp only [pureOp] at h
    obtain ⟨xv, h1, h2⟩ := Tree.run_bind h
    have hx := hk x (by simp [Op.operands]) true xv h1 rfl
    split at h2
    · rename_i vs
      have hp := orBad_run h2
      simp [execOp, Instr.extract, hx, SV.den, SV.denL_map, hp]
    · simp [Tree.run] at h2
  case build t parts =>
    simp only [pureOp] at h
    obtain ⟨vs, h1, h2⟩ := Tree.run_bind h
    have m1 : ∀ x ∈ parts.toList, x.2 ∈ (Op.build t parts).operands := by
      intro x hx; simp only [Op.operands, List.mem_toArray, List.mem_map]; exact ⟨x, hx, rfl⟩
    have e1 := evsP_run (ev true) eval ρ parts.toList vs (fun x hx v hv => hk x.2 (m1 x hx) true v hv rfl) h1
    split at h2
    · rename_i z pl hz hp
      have hb := orBad_run h2
      simp only [Option.map_eq_some_iff] at hb
      obtain ⟨out, hf, rfl⟩ := hb
      have hb := build_run (P := P) (ρ := ρ) (w := w) hz hp hf
      have a1 : parts.map (fun x => (x.1, eval x.2)) = (vs.map fun x => (x.1, x.2.den ρ)).toArray := by rw [← e1, ← Array.toList_map, Array.toArray_toList]
      simp only [execOp]
      rw [Sem.run_bind]
      simp only [a1, hb, SV.den]; simp
    · simp [Tree.run] at h2
  case call c =>
    obtain ⟨callee, args, argTypes⟩ := c
    cases callee
    case builtin bi =>
      have m1 : ∀ x ∈ args.toList, x ∈ (Op.call { callee := .builtin bi, args := args, argTypes := argTypes }).operands := by
        intro x hx; simp only [Op.operands, Call.operands, Array.mem_append]; exact .inr (Array.mem_toList_iff.1 hx)
      cases bi
      case len =>
        simp only [pureOp] at h
        split at h
        · rename_i x r t hargs ht
          obtain ⟨xv, h1, h2⟩ := Tree.run_bind h
          have hx := hk x (m1 x (by rw [hargs]; simp)) true xv h1 rfl
          have ha : (args.map eval)[0]? = some (xv.den ρ) := by
            rw [← hx, Array.getElem?_map, ← Array.getElem?_toList, hargs]; rfl
          have := lenSV_run (P := P) (w := w) (ρ := ρ) h2 (args.map eval) argTypes ty ha ht
          simp only [execOp, resolve]
          simp only [Sem.run_bind, Sem.run_pure, Result.andThen_ok, invoke, builtin]
          rw [this]; simp
        · simp [Tree.run] at h
      case min =>
        simp only [pureOp] at h
        obtain ⟨vs, h1, h2⟩ := Tree.run_bind h
        have e1 := evs_run (ev true) eval ρ args.toList vs (fun x hx v hv => hk x (m1 x hx) true v hv rfl) h1
        split at h2
        · rename_i x r
          have := foldI_run (P := P) (w := w) (ρ := ρ) false r x v h2
          simp only [execOp, resolve]
          simp only [Sem.run_bind, Sem.run_pure, Result.andThen_ok, invoke, builtin, Builtin.min_]
          have e2 : (args.map eval).toList = x.den ρ :: SV.denL ρ r := by rw [Array.toList_map, e1]; rfl
          rw [e2]
          simp only [Bool.false_eq_true, if_false] at this
          simp only [this]; simp
        · simp [Tree.run] at h2
      case max =>
        simp only [pureOp] at h
        obtain ⟨vs, h1, h2⟩ := Tree.run_bind h
        have e1 := evs_run (ev true) eval ρ args.toList vs (fun x hx v hv => hk x (m1 x hx) true v hv rfl) h1
        split at h2
        · rename_i x r
          have := foldI_run (P := P) (w := w) (ρ := ρ) true r x v h2
          simp only [execOp, resolve]
          simp only [Sem.run_bind, Sem.run_pure, Result.andThen_ok, invoke, builtin, Builtin.max_]
          have e2 : (args.map eval).toList = x.den ρ :: SV.denL ρ r := by rw [Array.toList_map, e1]; rfl
          rw [e2]
          simp only [if_true] at this
          simp only [this]; simp
        · simp [Tree.run] at h2
      all_goals (simp [pureOp, Tree.run] at h)
    all_goals (simp [pureOp, Tree.run] at h)
  all_goals (simp [pureOp, Tree.run] at h)
end
end Go.Sx
