/-
  What the runs of operations, of code and of calls come to, holds of the model ('stepE_sound', 'execE_sound', 'callE_sound').
  No statement of the seat is proved here. Conditions: none.
-/
import Derived.Test.YtkkbbifhaanamaaSxSnd4
set_option linter.unusedSimpArgs false
set_option linter.unusedVariables false
namespace Go.Sx
open Go.RowKit

/-! ### 1. A frame and a state -/

structure Sat (ρ : Nat → Nat) (Φ : Nat → Prop) (st : St) (a : Act) (w : World) : Prop where
  defers : a.defers = []
  size : a.tmps.size = st.tmps.length
  slot : ∀ (t : Nat) (s : Slot), st.tmps[t]? = some s → ∃ x, a.tmps[t]? = some x ∧ s.ok ρ x
  rel : Rel ρ st.heap Φ w

theorem Sat.put {ρ : Nat → Nat} {Φ : Nat → Prop} {st : St} {a : Act} {w : World} (h : Sat ρ Φ st a w) (dst : Option Tmp) {s : Slot} {x : Value} (hs : s.ok ρ x) :
    Sat ρ Φ { st with tmps := putS st.tmps dst s } (a.put dst x) w := by
  cases dst with
  | none => exact h
  | some d =>
    refine ⟨h.defers, ?_, ?_, h.rel⟩
    · simp [Act.put, putS, h.size]
    · intro t s' ht
      simp only [putS] at ht
      rw [List.getElem?_set] at ht
      simp only [Act.put]
      rw [Array.getElem?_setIfInBounds, h.size]
      split at ht
      · rename_i he
        subst he
        split at ht
        · rename_i hlt
          simp only [Option.some.injEq] at ht; subst ht
          exact ⟨x, by simp [hlt], hs⟩
        · simp at ht
      · rename_i hne
        rw [if_neg hne]
        exact h.slot t s' ht

theorem Sat.names {ρ ρ' : Nat → Nat} {Φ : Nat → Prop} {st : St} {a : Act} {w : World} (h : Sat ρ Φ st a w) {n : Nat} (hl : lowS n st.tmps = true) (hρ : ∀ k, k < n → ρ' k = ρ k) {H : Hp} {w' : World} (hr : Rel ρ' H Φ w') :
    Sat ρ' Φ { tmps := st.tmps, heap := H } a w' :=
  ⟨h.defers, h.size, fun t s ht => let ⟨x, hx, hs⟩ := h.slot t s ht; ⟨x, hx, Slot.ok_low hρ (lowS_get hl ht) hs⟩, hr⟩

theorem Sat.world {ρ : Nat → Nat} {Φ : Nat → Prop} {st : St} {a : Act} {w : World} (h : Sat ρ Φ st a w) {H : Hp} {w' : World} (hr : Rel ρ H Φ w') : Sat ρ Φ { tmps := st.tmps, heap := H } a w' :=
  ⟨h.defers, h.size, h.slot, hr⟩

theorem Sat.knows {ρ : Nat → Nat} {Φ : Nat → Prop} {st : St} {a : Act} {w : World} (h : Sat ρ Φ st a w) (x : Operand) : Knows (evS st.tmps) a.eval ρ x := by
  intro pc v hv hpc
  cases x with
  | const c => simp only [evS, Tree.run, Option.some.injEq] at hv; subst hv; rw [ofConst_den]; rfl
  | global g => simp [evS, Tree.run] at hv
  | func f => simp only [evS, Tree.run, Option.some.injEq] at hv; subst hv; simp [SV.den, SV.denL, Act.eval]
  | tmp t =>
    simp only [evS] at hv
    split at hv
    · rename_i v' ht
      simp only [Tree.run, Option.some.injEq] at hv; subst hv
      obtain ⟨x, hx, hs⟩ := h.slot t _ ht
      simp only [Slot.ok] at hs
      simp [Act.eval, hx, hs]
    · rename_i c v' ht
      obtain ⟨hc, hv⟩ := Tree.run_need hv
      simp only [Tree.run, Option.some.injEq] at hv; subst hv
      obtain ⟨x, hx, hs⟩ := h.slot t _ ht
      simp only [Slot.ok] at hs
      subst hpc
      have hc' : c = true := by simpa using hc
      subst hc'
      simp [Act.eval, hx, hs]
    · simp [Tree.run] at hv

def Guard.says : Guard → Bool
  | .yes => true
  | .no => false
  | .on pc => pc

theorem guardOf_says {ρ : Nat → Nat} {Φ : Nat → Prop} {st : St} {a : Act} {w : World} (h : Sat ρ Φ st a w) {ops : Array Oper} {o : Oper} {g : Guard} (hg : guardOf ops st.tmps o = some g) :
    Region.wanted o (yielded ops a.tmps) = g.says := by
  unfold guardOf at hg
  unfold Region.wanted
  split at hg
  · rename_i hn
    simp only [Option.some.injEq] at hg; subst hg
    simp [hn, Guard.says]
  · rename_i j want hn
    simp only [hn]
    split at hg
    · rename_i d hd
      have key : ∀ {s : Slot} (hs : st.tmps[d]? = some s), ∃ x, s.ok ρ x ∧ yielded ops a.tmps j = (match x with | .bool b => some b | _ => none) := by
        intro s hs
        obtain ⟨x, hx, hok⟩ := h.slot d s hs
        exact ⟨x, hok, by simp only [yielded, hd]; rw [Option.bind_some, hx]; cases x <;> rfl⟩
      split at hg
      · rename_i b hs
        obtain ⟨x, hok, hy⟩ := key hs
        simp only [Slot.ok, SV.den] at hok; subst hok
        simp only [Option.some.injEq] at hg
        rw [hy]
        cases b <;> cases want <;> simp at hg <;> subst hg <;> simp [Guard.says]
      · rename_i b hs
        obtain ⟨x, hok, hy⟩ := key hs
        simp only [Slot.ok, SV.den] at hok; subst hok
        simp only [Option.some.injEq] at hg; subst hg
        rw [hy]
        cases b <;> cases want <;> simp [Guard.says, pol]
      · rename_i c b hs
        obtain ⟨x, hok, hy⟩ := key hs
        simp only [Slot.ok, SV.den] at hok; subst hok
        simp only [Option.some.injEq] at hg; subst hg
        rw [hy]
        cases c <;> cases b <;> cases want <;> simp [Guard.says, pol, undef]
      · rename_i c b hs
        obtain ⟨x, hok, hy⟩ := key hs
        simp only [Slot.ok, SV.den] at hok; subst hok
        simp only [Option.some.injEq] at hg; subst hg
        rw [hy]
        cases c <;> cases b <;> cases want <;> simp [Guard.says, pol, undef]
      · simp at hg
    · simp at hg

/-! ### 2. Calls -/

/-- A call of the function enters its body. -/
def Enters (P : Program) (f : FuncId) : Prop := ∀ (args : Array Value) (w : World), (callFunc f args).run P w = .ok (.enter f args) w

theorem enters_of {P : Program} {f : FuncId} {fn : Func} {c : Code} (hf : P.funcs[f]? = some fn) (hb : fn.body = some c) (hn : (fn.name == "runtime.NumGoroutine") = false) : Enters P f := by
  intro args w
  have hn' : ¬ fn.name = "runtime.NumGoroutine" := by simpa using hn
  simp [callFunc, program, Sem.run, hf, hb, hn', pure]

structure GoodCall (P : Program) (call : CallE) : Prop where
  enters : ∀ f args H r, (call f args H).run = some r → Enters P f
  calls : ∀ f args H r H', (call f args H).run = some (r, H') → ∀ (ρ : Nat → Nat) (Φ : Nat → Prop) (w : World), Rel ρ H Φ w →
    Calls P f (SV.denL ρ args).toArray w fun e w' => ∃ ρ' : Nat → Nat, (∀ k, k < H.length → ρ' k = ρ k) ∧ e = .returned (r.den ρ') ∧ Rel ρ' H' Φ w' ∧ Ext Φ w w'

structure GoodSpecs (P : Program) (specs : Specs) : Prop where
  enters : ∀ f args r, trySpec specs f args = some r → Enters P f
  calls : ∀ f args pre r, trySpec specs f args = some (pre, r) → pre = true → ∀ (ρ : Nat → Nat) (w : World),
    Calls P f (SV.denL ρ args).toArray w fun e w' => e = .returned (r.den ρ) ∧ Below w.heap.size w w'

/-! ### 3. One operation -/
section
variable {P : Program} {call : CallE} {specs : Specs} {ρ : Nat → Nat} {Φ : Nat → Prop} {w : World}

theorem alloc_run {t : TypeId} {z : List SV} (hz : zeroL P t = some z) (w : World) : (Instr.alloc t true (.tuple #[])).run P w = .ok (.pointer (some ⟨w.heap.size, 0, none⟩)) (w.alloc (.cells (SV.denL ρ z).toArray t)) := by
  obtain ⟨v, hv, hc⟩ := zeroL_run hz ρ w
  unfold Instr.alloc
  rw [Sem.run_bind, hv, Result.andThen_ok]
  simp only [newVar, hc]
  rw [Sem.run_bind, newRow_run, Result.andThen_ok]
  rfl

theorem range_flatten (z : List Value) (n : Nat) (hz : z.length = n) (hn : 0 < n) : ∀ len : Nat, (List.range (len * n)).map (fun i => z.toArray[i % z.toArray.size]!) = (List.replicate len z).flatten
  | 0 => by simp
  | len + 1 => by
    have e : (len + 1) * n = n + len * n := by rw [Nat.add_mul]; omega
    rw [e, List.range_add, List.map_append, List.map_map, List.replicate_succ, List.flatten_cons, ← range_flatten z n hz hn len]
    congr 1
    · apply List.ext_getElem?
      intro i
      by_cases hi : i < n
      · simp [hi, hz, Nat.mod_eq_of_lt hi]
      · rw [List.getElem?_eq_none (by simp; omega), List.getElem?_eq_none (by omega)]
    · apply List.map_congr_left
      intro i _
      simp [hz]

theorem denL_flatten (ρ : Nat → Nat) (z : List SV) : ∀ len : Nat, SV.denL ρ (List.replicate len z).flatten = (List.replicate len (SV.denL ρ z)).flatten
  | 0 => by simp [SV.denL]
  | len + 1 => by rw [List.replicate_succ, List.flatten_cons, SV.denL_append, denL_flatten ρ z len, List.replicate_succ, List.flatten_cons]

/-- The run of an operation whose guard says yes. -/
theorem opE_sound (hcall : GoodCall P call) {st : St} {a : Act} {o : Oper} {st' : St} {x : SV × Eff} (hs : Sat ρ Φ st a w) (h : (opE P call (evS st.tmps) st.heap st.heap.length o.op).run = some x) (ha : (applyE o st x).run = some st')
    {K : Act → World → Prop} {Q : Exit → Act → World → Prop} (hK : ∀ (ρ' : Nat → Nat) (a' : Act) (w' : World), (∀ k, k < st.heap.length → ρ' k = ρ k) → Sat ρ' Φ st' a' w' → Ext Φ w w' → K a' w') : o.wp P a w K Q := by
  have pureCase : ∀ v, (pureOp P (evS st.tmps) true st.heap o.op).run = some v → x = (v, .none) → o.wp P a w K Q := by
    intro v hv hx
    subst hx
    simp only [applyE, Tree.run, Option.some.injEq] at ha
    subst ha
    have hrun := pureOp_run (P := P) (o := o) (eval := a.eval) (ρ := ρ) (w := w) (fun y _ => hs.knows y) hs.rel hv
    unfold Oper.wp
    rw [hrun, Oper.upon_value]
    exact hK ρ _ w (fun _ _ => rfl) (hs.put o.dst rfl) (Ext.refl _ _)
  have newCase : ∀ (v : Value) (b : Blk) (sv : SV), sv.den (named ρ st.heap.length w.heap.size) = v → (execOp a.eval o).run P w = .ok (.value v) (w.alloc (.cells (SV.denL ρ b.cells).toArray b.ty)) → x = (sv, .new b) → o.wp P a w K Q := by
    intro v b sv hsv hrun hx
    subst hx
    simp only [applyE] at ha
    split at ha
    · rename_i hlow
      simp only [Bool.and_eq_true] at hlow
      obtain ⟨⟨hl1, hl2⟩, hl3⟩ := hlow
      simp only [Tree.run, Option.some.injEq] at ha
      subst ha
      unfold Oper.wp
      rw [hrun, Oper.upon_value]
      have hr := hs.rel.new hl2 hl3
      refine hK (named ρ st.heap.length w.heap.size) _ _ (named_low ρ) ?_ (Ext.new hs.rel.phi _)
      exact (hs.names hl1 (named_low ρ) hr).put o.dst (s := .is sv) hsv.symm
    · simp [Tree.run] at ha
  obtain ⟨dst, op, ty, pos, after, guard⟩ := o
  simp only at h ha pureCase newCase hK ⊢
  cases op
  case alloc t =>
    simp only [opE] at h
    split at h
    · rename_i z hz
      simp only [Tree.run, Option.some.injEq] at h
      refine newCase (.pointer (some ⟨w.heap.size, 0, none⟩)) ⟨z, t⟩ (.ref st.heap.length 0) (by simp [SV.den, named_at]) ?_ h.symm
      simp only [execOp]
      rw [Sem.run_bind, alloc_run (ρ := ρ) hz, Result.andThen_ok]; rfl
    · simp [Tree.run] at h
  case box t y =>
    simp only [opE] at h
    obtain ⟨v, h1, h2⟩ := Tree.run_bind h
    have hy := hs.knows y true v h1 rfl
    split at h2
    · rename_i cs hf
      simp only [Tree.run, Option.some.injEq] at h2
      refine newCase (.pointer (some ⟨w.heap.size, 0, none⟩)) ⟨cs, t⟩ (.ref st.heap.length 0) (by simp [SV.den, named_at]) ?_ h2.symm
      simp only [execOp, Instr.box, newVar, hy, SV.flat_cells ρ hf]
      rw [Sem.run_bind, Sem.run_bind, newRow_run]; rfl
    · simp [Tree.run] at h2
  case store t y z =>
    simp only [opE] at h
    obtain ⟨yv, h1, h2⟩ := Tree.run_bind h
    have hy := hs.knows y true yv h1 rfl
    split at h2
    · rename_i b off
      obtain ⟨zv, h3, h4⟩ := Tree.run_bind h2
      have hz := hs.knows z true zv h3 rfl
      split at h4
      · rename_i vs n blk hf hn hb
        split at h4
        · rename_i hc
          simp only [Bool.and_eq_true, beq_iff_eq, Nat.ble_eq] at hc
          obtain ⟨⟨hlen, hle⟩, hat⟩ := hc
          simp only [Tree.run, Option.some.injEq] at h4
          subst h4
          simp only [applyE, Tree.run, Option.some.injEq] at ha
          subst ha
          have hrun := storeVar_run (P := P) hs.rel hb hn hf hlen hle hat
          unfold Oper.wp
          have he : (execOp a.eval { dst := dst, op := .store t y z, type := ty, pos := pos, after := after, guard := guard }).run P w = .ok .skip (putBlk w (ρ b) (.cells (SV.denL ρ (splice blk.cells off vs)).toArray blk.ty (0, 0))) := by
            simp only [execOp, Instr.storeAt, hy, hz, SV.den, Instr.sureAddr]
            simp [hrun]
          rw [he, Oper.upon_skip]
          refine hK ρ _ _ (fun _ _ => rfl) ?_ (Ext.put hs.rel hb _)
          exact (hs.world (hs.rel.put hb ⟨splice blk.cells off vs, blk.ty⟩)).put dst (s := .unk) trivial
        · simp [Tree.run] at h4
      · simp [Tree.run] at h4
    · simp [Tree.run] at h2
  case buildSlice t len parts =>
    simp only [opE] at h
    obtain ⟨vs, h1, h2⟩ := Tree.run_bind h
    have e1 := evsP_run (evS st.tmps true) a.eval ρ parts.toList vs (fun y _ v hv => hs.knows y.2 true v hv rfl) h1
    have a1 : parts.map (fun y => (y.1, a.eval y.2)) = (vs.map fun y => (y.1, y.2.den ρ)).toArray := by rw [← e1, ← Array.toList_map, Array.toArray_toList]
    split at h2
    · rename_i e hu
      split at h2
      · rename_i n z hn hz
        split at h2
        · rename_i hc
          simp only [Bool.and_eq_true, Nat.ble_eq, Bool.not_eq_true', beq_eq_false_iff_ne, ne_eq, beq_iff_eq] at hc
          obtain ⟨⟨hle, hne⟩, hzl⟩ := hc
          split at h2
          · rename_i cs hf
            simp only [Tree.run, Option.some.injEq] at h2
            refine newCase (.slice (some ⟨w.heap.size, 0, none⟩) len len) ⟨cs, e⟩ (.sl st.heap.length 0 len len) (by simp [SV.den, named_at]) ?_ h2.symm
            obtain ⟨zv, hzr, hzc⟩ := zeroL_run hz ρ w
            have hfill := fillL_run ρ hf
            have hn0 : 0 < n := by
              rcases Nat.eq_zero_or_pos n with h0 | h0
              · subst h0; simp at hne
              · exact h0
            have hcells : (Array.range (len * n)).map (fun i => zv.cells[i % zv.cells.size]!) = (SV.denL ρ (List.replicate len z).flatten).toArray := by
              rw [hzc, denL_flatten, ← range_flatten (SV.denL ρ z) n (by rw [SV.denL_length, hzl]) hn0 len]
              apply Array.ext'
              simp
            simp only [execOp, a1, Instr.buildSlice]
            rw [Sem.run_bind, Sem.run_bind, run_underlying' hu, Result.andThen_ok]
            simp only [Sem.run_bind, sizeT_run hn, Result.andThen_ok]
            rw [if_neg (by omega), if_neg hne]
            simp only [Sem.run_bind, hzr, Result.andThen_ok, Sem.run_pure]
            have hcells' : Array.map (fun i => zv.cells[i % zv.cells.size]!) (Array.range (len * n)) = (SV.denL ρ (List.replicate len z).flatten).toArray := hcells
            simp only [hcells']
            simp only [hfill]
            simp only [Sem.run_bind, newRow_run, Result.andThen_ok, Sem.run_pure]
          · simp [Tree.run] at h2
        · simp [Tree.run] at h2
      · simp [Tree.run] at h2
    · simp [Tree.run] at h2
  case call c =>
    obtain ⟨callee, args, argTypes⟩ := c
    cases callee
    case value f =>
      simp only [opE] at h
      obtain ⟨fv, h1, h2⟩ := Tree.run_bind h
      have hf := hs.knows f true fv h1 rfl
      split at h2
      · rename_i k first caps
        obtain ⟨as, h3, h4⟩ := Tree.run_bind h2
        have e1 := evs_run (evS st.tmps true) a.eval ρ args.toList as (fun y _ v hv => hs.knows y true v hv rfl) h3
        have a1 : args.map a.eval = (SV.denL ρ as).toArray := by rw [← e1, ← Array.toList_map, Array.toArray_toList]
        obtain ⟨r, h5, h6⟩ := Tree.run_bind h4
        simp only [Tree.run, Option.some.injEq] at h6
        subst h6
        simp only [applyE] at ha
        split at ha
        · rename_i hlow
          simp only [Tree.run, Option.some.injEq] at ha
          subst ha
          obtain ⟨rv, rH⟩ := r
          have hent := hcall.enters _ _ _ _ h5
          have hc := hcall.calls _ _ _ _ _ h5 ρ Φ w hs.rel
          unfold Oper.wp
          have he : (execOp a.eval { dst := dst, op := .call { callee := .value f, args := args, argTypes := argTypes }, type := ty, pos := pos, after := after, guard := guard }).run P w = .ok (.enter k (SV.denL ρ (first ++ as ++ caps)).toArray) w := by
            simp only [execOp, resolve, hf, SV.den, Deferred.ofValue, a1]
            simp only [Sem.run_bind, Sem.run_pure, Result.andThen_ok, invoke]
            have : (SV.denL ρ first).toArray ++ (SV.denL ρ as).toArray ++ (SV.denL ρ caps).toArray = (SV.denL ρ (first ++ as ++ caps)).toArray := by simp [SV.denL_append]
            rw [this, hent]
          rw [he, Oper.upon_enter]
          refine hc.mono ?_
          rintro e w' ⟨ρ', hρ, rfl, hrel, hext⟩
          exact hK ρ' _ w' hρ ((hs.names hlow hρ hrel).put dst (s := .is rv) rfl) hext
        · simp [Tree.run] at ha
      · simp [Tree.run] at h2
    all_goals
      simp only [opE] at h
      obtain ⟨v, hv, hx⟩ := Tree.run_bind h
      simp only [Tree.run, Option.some.injEq] at hx
      exact pureCase v hv hx.symm
  all_goals
    simp only [opE] at h
    obtain ⟨v, hv, hx⟩ := Tree.run_bind h
    simp only [Tree.run, Option.some.injEq] at hx
    exact pureCase v hv hx.symm
end
end Go.Sx
