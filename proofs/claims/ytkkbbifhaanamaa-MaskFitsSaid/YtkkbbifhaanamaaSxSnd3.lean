/-
  An operation that turns nothing in memory is run as 'pureOp' says.
  No statement of the seat is proved here. Conditions: none.
-/
import Derived.Test.YtkkbbifhaanamaaSxSnd2
import Derived.ChangeKeysEq
set_option linter.unusedSimpArgs false
set_option linter.unusedVariables false
namespace Go.Sx
open Go.RowKit

/-! ### 1. What a tree comes to -/

def Tree.run {α : Type} : Tree α → Option α
  | .ret a => some a
  | .need p t => if p then t.run else none
  | .ite b t e => if b then t.run else e.run
  | .bad _ => none

theorem Tree.run_bind {α β : Type} {f : α → Tree β} : ∀ {t : Tree α} {b : β}, (t.bind f).run = some b → ∃ a, t.run = some a ∧ (f a).run = some b
  | .ret a, b, h => ⟨a, rfl, h⟩
  | .need true t, b, h => by
    obtain ⟨a, h1, h2⟩ := Tree.run_bind (t := t) (by simpa [Tree.bind, Tree.run] using h); exact ⟨a, by simpa [Tree.run] using h1, h2⟩
  | .need false t, b, h => by simp [Tree.bind, Tree.run] at h
  | .ite true t e, b, h => by
    obtain ⟨a, h1, h2⟩ := Tree.run_bind (t := t) (by simpa [Tree.bind, Tree.run] using h); exact ⟨a, by simpa [Tree.run] using h1, h2⟩
  | .ite false t e, b, h => by
    obtain ⟨a, h1, h2⟩ := Tree.run_bind (t := e) (by simpa [Tree.bind, Tree.run] using h); exact ⟨a, by simpa [Tree.run] using h1, h2⟩
  | .bad _, b, h => by simp [Tree.bind, Tree.run] at h
theorem Tree.bind_run {α β : Type} {f : α → Tree β} : ∀ {t : Tree α} {a : α}, t.run = some a → (t.bind f).run = (f a).run
  | .ret _, a, h => by simp [Tree.run] at h; subst h; rfl
  | .need true t, a, h => by simpa [Tree.bind, Tree.run] using Tree.bind_run (t := t) (by simpa [Tree.run] using h)
  | .need false t, a, h => by simp [Tree.run] at h
  | .ite true t e, a, h => by simpa [Tree.bind, Tree.run] using Tree.bind_run (t := t) (by simpa [Tree.run] using h)
  | .ite false t e, a, h => by simpa [Tree.bind, Tree.run] using Tree.bind_run (t := e) (by simpa [Tree.run] using h)
  | .bad _, a, h => by simp [Tree.run] at h
theorem orBad_run {α : Type} {why : String} {o : Option α} {a : α} (h : (orBad why o).run = some a) : o = some a := by
  cases o <;> simp_all [orBad, Tree.run]
theorem Tree.run_need {α : Type} {p : Bool} {t : Tree α} {a : α} (h : (Tree.need p t).run = some a) : p = true ∧ t.run = some a := by
  cases p <;> simp_all [Tree.run]
theorem Tree.run_ite {α : Type} {b : Bool} {t e : Tree α} {a : α} (h : (Tree.ite b t e).run = some a) : (b = true ∧ t.run = some a) ∨ (b = false ∧ e.run = some a) := by
  cases b <;> simp_all [Tree.run]

/-! ### 2. Held against each other -/
section
variable {P : Program} (ρ : Nat → Nat)

theorem eqCell_run {t : TypeId} {x y : SV} {r : Bool} (h : eqCell P t x y = some r) (D : Nat) (w : World) : (Op.equalIn (D + 1) t (x.den ρ) (y.den ρ)).run P w = .ok r w := by
  unfold eqCell at h
  split at h
  · rename_i k hu
    split at h
    · rename_i k1 a k2 b hx hy
      split at h
      · rename_i hk
        simp at h; subst h; subst hk
        rw [SV.int?_den ρ hx, SV.int?_den ρ hy]
        simp [Op.equalIn, run_underlying' hu]
      · simp at h
    · simp at h
  · rename_i hu
    split at h
    · rename_i a b hx hy
      simp at h; subst h
      rw [SV.bool?_den ρ hx, SV.bool?_den ρ hy]
      simp [Op.equalIn, run_underlying' hu]
    · simp at h
  · rename_i hu
    split at h
    · simp at h; subst h
      simp [Op.equalIn, run_underlying' hu, SV.den]
    · simp at h
  · rename_i e hu
    split at h
    · rename_i b; simp at h; subst h; cases b <;> simp [Op.equalIn, run_underlying' hu, SV.den]
    · simp at h; subst h; simp [Op.equalIn, run_underlying' hu, SV.den]
    · simp at h; subst h; simp [Op.equalIn, run_underlying' hu, SV.den]
    · simp at h; subst h; simp [Op.equalIn, run_underlying' hu, SV.den]
    · simp at h
  · rename_i e hu
    split at h
    · simp at h; subst h; simp [Op.equalIn, run_underlying' hu, SV.den]
    · simp at h; subst h; simp [Op.equalIn, run_underlying' hu, SV.den]
    · simp at h; subst h; simp [Op.equalIn, run_underlying' hu, SV.den]
    · simp at h; subst h; simp [Op.equalIn, run_underlying' hu, SV.den]
    · simp at h
  · rename_i e hu
    split at h
    · simp at h; subst h; simp [Op.equalIn, run_underlying' hu, SV.den]
    · simp at h; subst h; simp [Op.equalIn, run_underlying' hu, SV.den]
    · simp at h
  · rename_i e hu
    split at h
    · simp at h; subst h; simp [Op.equalIn, run_underlying' hu, SV.den]
    · simp at h
  · rename_i e hu
    split at h
    · simp at h; subst h; simp [Op.equalIn, run_underlying' hu, SV.den]
    · simp at h; subst h; simp [Op.equalIn, run_underlying' hu, SV.den]
    · simp at h; subst h; simp [Op.equalIn, run_underlying' hu, SV.den]
    · simp at h
  · simp at h

theorem eqFields_run {rec : TypeId → SV → SV → Option Bool} {D : Nat} (hrec : ∀ t x y r w, rec t x y = some r → (Op.equalIn D t (x.den ρ) (y.den ρ)).run P w = .ok r w) (xs ys : List SV) (w : World) :
    ∀ (fs : List Field) (r : Bool), eqSV.eqFields P rec xs ys fs = some r → (Op.eqFields D (SV.denL ρ xs).toArray (SV.denL ρ ys).toArray fs).run P w = .ok r w
  | [], r, h => by simp [eqSV.eqFields] at h; subst h; simp [Op.eqFields]
  | f :: fs, r, h => by
    unfold eqSV.eqFields at h
    unfold Op.eqFields
    split at h
    · rename_i hn
      have hn' : f.name = "_" := by simpa using hn
      rw [if_neg (by simpa using hn')]
      exact eqFields_run hrec xs ys w fs r h
    · rename_i hn
      have hn' : f.name ≠ "_" := by simpa using hn
      rw [if_pos hn']
      split at h
      · rename_i a b ha hb
        split at h
        · rename_i r1 r2 h1 h2
          simp at h
          simp only [Sem.run_bind, part_run ρ w ha, part_run ρ w hb, Result.andThen_ok, hrec _ _ _ _ w h1]
          cases r1
          · simp at h; subst h; simp
          · simp at h; subst h
            simp only [Bool.not_true, Bool.false_eq_true, if_false]
            exact eqFields_run hrec xs ys w fs r2 h2
        · simp at h
      · simp at h

theorem eqElems_run {rec : TypeId → SV → SV → Option Bool} {D : Nat} (hrec : ∀ t x y r w, rec t x y = some r → (Op.equalIn D t (x.den ρ) (y.den ρ)).run P w = .ok r w) (e : TypeId) (n : Nat) (xs ys : List SV) (w : World) :
    ∀ (len i : Nat) (r : Bool), eqSV.eqElems P rec e n xs ys len i = some r → (Op.eqItems D e n (SV.denL ρ xs).toArray (SV.denL ρ ys).toArray (List.range' i len)).run P w = .ok r w
  | 0, i, r, h => by simp [eqSV.eqElems] at h; subst h; simp [Op.eqItems]
  | len + 1, i, r, h => by
    unfold eqSV.eqElems at h
    rw [List.range'_succ]
    unfold Op.eqItems
    split at h
    · rename_i a b ha hb
      split at h
      · rename_i r1 r2 h1 h2
        simp at h
        simp only [Sem.run_bind, part_run ρ w ha, part_run ρ w hb, Result.andThen_ok, hrec _ _ _ _ w h1]
        cases r1
        · simp at h; subst h; simp
        · simp at h; subst h
          simp only [Bool.not_true, Bool.false_eq_true, if_false]
          exact eqElems_run hrec e n xs ys w len (i + 1) r2 h2
      · simp at h
    · simp at h

theorem eqSV_run : ∀ (d : Nat) (t : TypeId) (x y : SV) (r : Bool) (D : Nat) (w : World), eqSV P d t x y = some r → d ≤ D → (Op.equalIn D t (x.den ρ) (y.den ρ)).run P w = .ok r w
  | 0, t, x, y, r, D, w, h, _ => by simp [eqSV] at h
  | d + 1, t, x, y, r, D, w, h, hD => by
    obtain ⟨D, rfl⟩ : ∃ m, D = m + 1 := ⟨D - 1, by omega⟩
    unfold eqSV at h
    split at h
    · rename_i fs xs ys hu
      split at h
      · simp at h
      · rename_i hst
        have hst' : P.stoodInHeld t = false := by simpa using hst
        have hu' : P.underlying t = some (.struct (P.fieldsOf t)) := by rw [hu]; simp [Program.fieldsOf, hu]
        have hfs : P.fieldsOf t = fs := by simp [Program.fieldsOf, hu]
        simp only [SV.den]
        rw [run_equalIn_struct w D t _ _ hu' hst', hfs]
        exact eqFields_run ρ (fun t x y r w h => eqSV_run d t x y r D w h (by omega)) xs ys w fs.toList r h
    · rename_i len e xs ys hu
      cases hs : sizeT P e with
      | none => simp [hs] at h
      | some n =>
        simp only [hs] at h
        have hi : ∃ i, P.info? e = some i ∧ P.cellsOf e = n := by
          unfold sizeT at hs
          cases hi : P.info? e with
          | none => simp [hi] at hs
          | some i => simp [hi] at hs; exact ⟨i, rfl, by simp [Program.cellsOf, hi, hs]⟩
        obtain ⟨i, hi, hc⟩ := hi
        simp only [SV.den]
        rw [run_equalIn_array w D _ _ hu hi, hc, List.range_eq_range']
        exact eqElems_run ρ (fun t x y r w h => eqSV_run d t x y r D w h (by omega)) e n xs ys w len 0 r h
    · exact eqCell_run ρ h D w

/-- Two operands. -/
theorem quo_run {k : IntKind} {a b : Int} (hb : b ≠ 0) (t : TypeId) (w : World) : (binOp .quo t (.int k a) (.int k b)).run P w = .ok (.int k (k.wrap (a.tdiv b))) w := by
  simp [binOp, Op.intDiv, hb]
theorem rem_run {k : IntKind} {a b : Int} (hb : b ≠ 0) (t : TypeId) (w : World) : (binOp .rem t (.int k a) (.int k b)).run P w = .ok (.int k (a.tmod b)) w := by
  simp [binOp, Op.intDiv, hb]

theorem intOp_run {op : BinOp} {lit : Bool} {k : IntKind} {a b : Int} {y v : SV} (hy : y.int? = some (k, b)) (hop : op ≠ .shl ∧ op ≠ .shr) (h : (intOp op lit k a y b).run = some v) (t : TypeId) (w : World) :
    (binOp op t (.int k a) (.int k b)).run P w = .ok (v.den ρ) w := by
  unfold intOp at h
  cases op
  case quo =>
    simp only [arithOf] at h
    split at h
    · rename_i k' n
      simp only [SV.int?, Option.some.injEq, Prod.mk.injEq] at hy
      obtain ⟨h1, h2⟩ := hy
      subst h1; subst h2
      split at h
      · simp [Tree.run] at h
      · rename_i hne
        simp only [Tree.run, Option.some.injEq] at h
        subst h
        rw [mkI_den]
        exact quo_run (by simpa using hne) t w
    · simp [Tree.run] at h
  case rem =>
    simp only [arithOf] at h
    split at h
    · rename_i k' n
      simp only [SV.int?, Option.some.injEq, Prod.mk.injEq] at hy
      obtain ⟨h1, h2⟩ := hy
      subst h1; subst h2
      split at h
      · simp [Tree.run] at h
      · rename_i hne
        simp only [Tree.run, Option.some.injEq] at h
        subst h
        rw [mkI_den]
        exact rem_run (by simpa using hne) t w
    · obtain ⟨hne, h⟩ := Tree.run_need h
      simp only [Tree.run, Option.some.injEq] at h
      subst h
      rw [mkI_den]
      exact rem_run (by simpa using hne) t w
  all_goals simp [arithOf, cmpOf, Tree.run] at h hop
  all_goals (subst h; simp [binOp, Op.intArith, Op.intBits, Op.intCmp, mkI_den, mkB_den, bits]; done)

/-- No number, no text, no interface. -/
def calm : Value → Bool
  | .int .. | .float .. | .complex .. | .string _ | .nilIface | .iface .. | .tuple _ => false
  | _ => true

theorem binOp_eql {u v : Value} (h : calm u = true) (t : TypeId) {r : Bool} {w : World} (hr : (Op.equalIn 10000 t u v).run P w = .ok r w) :
    (binOp .eql t u v).run P w = .ok (.bool r) w ∧ (binOp .neq t u v).run P w = .ok (.bool (!r)) w := by
  have e1 : binOp .eql t u v = (do pure (.bool (← Op.equal t u v)) : Sem Value) := by cases u <;> first | rfl | simp [calm] at h
  have e2 : binOp .neq t u v = (do pure (.bool (!(← Op.equal t u v))) : Sem Value) := by cases u <;> first | rfl | simp [calm] at h
  rw [e1, e2]
  simp only [Op.equal, Op.maxDepth, Sem.run_bind, hr, Result.andThen_ok, Sem.run_pure]
  exact ⟨trivial, trivial⟩

theorem eqGuard_calm {u v : Value} (h : calm u = true) {op : BinOp} {t : TypeId} (hg : P.eqGuardType P.depth t = false) (ox oy : Operand) (w : World) : (eqGuard op t ox oy u v).run P w = .ok () w := by
  unfold eqGuard
  cases u <;> cases v <;> simp_all [calm, program, Sem.run, pure]
  all_goals (cases op <;> simp [hg, Sem.run])

theorem eqCell_calm {t : TypeId} {x y : SV} {r : Bool} (h : eqCell P t x y = some r)
    (h1 : ∀ k a k' b, x.int? = some (k, a) → y.int? = some (k', b) → False) (h2 : ∀ a b, x = .val (.string a) → y = .val (.string b) → False) : calm (x.den ρ) = true := by
  unfold eqCell at h
  split at h
  · split at h
    · rename_i hx hy; exact (h1 _ _ _ _ hx hy).elim
    · simp at h
  · split at h
    · rename_i hx hy; rw [SV.bool?_den ρ hx]; rfl
    · simp at h
  · split at h
    · exact (h2 _ _ rfl rfl).elim
    · simp at h
  all_goals first
    | (split at h <;> first | (simp at h; done) | (simp [SV.den, calm]; done))
    | (simp at h; done)

theorem eqSV_calm {d : Nat} {t : TypeId} {x y : SV} {r : Bool} (h : eqSV P d t x y = some r)
    (h1 : ∀ k a k' b, x.int? = some (k, a) → y.int? = some (k', b) → False) (h2 : ∀ a b, x = .val (.string a) → y = .val (.string b) → False) : calm (x.den ρ) = true := by
  cases d with
  | zero => simp [eqSV] at h
  | succ d =>
    unfold eqSV at h
    split at h
    · simp [SV.den, calm]
    · simp [SV.den, calm]
    · exact eqCell_calm ρ h h1 h2

theorem binSV_run {op : BinOp} {t : TypeId} {x y v : SV} (h : (binSV P op t x y).run = some v) (ox oy : Operand) (w : World) :
    (do eqGuard op t ox oy (x.den ρ) (y.den ρ); binOp op t (x.den ρ) (y.den ρ) : Sem Value).run P w = .ok (v.den ρ) w := by
  unfold binSV at h
  split at h
  · rename_i k a k' b hx hy
    split at h
    · rename_i hk
      subst hk
      rw [SV.int?_den ρ hx, SV.int?_den ρ hy]
      have hg : (eqGuard op t ox oy (.int k a) (.int k b)).run P w = .ok () w := by
        unfold eqGuard; cases op <;> simp
      rw [Sem.run_bind, hg, Result.andThen_ok]
      split at h
      · simp [Tree.run] at h
      · simp [Tree.run] at h
      · rename_i h1 h2
        exact intOp_run ρ hy ⟨fun e => h1 e, fun e => h2 e⟩ h t w
    · simp [Tree.run] at h
  · rename_i hni
    split at h
    · rename_i a b
      have hg : (eqGuard op t ox oy (.string a) (.string b)).run P w = .ok () w := by
        unfold eqGuard; cases op <;> simp
      simp only [SV.den]
      rw [Sem.run_bind, hg, Result.andThen_ok]
      split at h
      · simp [Tree.run] at h; subst h; simp [binOp, Op.stringOp, SV.den]
      · simp [Tree.run] at h; subst h; simp [binOp, Op.stringOp, SV.den]
      · simp [Tree.run] at h
    · rename_i hns
      split at h
      · simp [Tree.run] at h
      · rename_i hgt
        have hgt' : P.eqGuardType P.depth t = false := by simpa using hgt
        have key : ∀ r, eqSV P 60 t x y = some r → (eqGuard op t ox oy (x.den ρ) (y.den ρ)).run P w = .ok () w ∧ (∀ op', op' = .eql ∨ op' = .neq → (binOp op' t (x.den ρ) (y.den ρ)).run P w = .ok (.bool (if op' = .eql then r else !r)) w) := by
          intro r hr
          have hrun := eqSV_run ρ 60 t x y r 10000 w hr (by omega)
          have hc := eqSV_calm ρ hr (fun k a k' b ha hb => hni k a k' b ha hb) (fun a b ha hb => hns a b ha hb)
          obtain ⟨b1, b2⟩ := binOp_eql hc t hrun
          refine ⟨eqGuard_calm hc hgt' ox oy w, ?_⟩
          rintro op' (rfl | rfl)
          · simpa using b1
          · simpa using b2
        split at h
        · split at h
          · rename_i r hr
            simp [Tree.run] at h; subst h
            obtain ⟨k1, k2⟩ := key r hr
            rw [Sem.run_bind, k1, Result.andThen_ok, k2 _ (.inl rfl), mkB_den]; simp
          · simp [Tree.run] at h
        · split at h
          · rename_i r hr
            simp [Tree.run] at h; subst h
            obtain ⟨k1, k2⟩ := key r hr
            rw [Sem.run_bind, k1, Result.andThen_ok, k2 _ (.inr rfl), mkB_den]; simp
          · simp [Tree.run] at h
        · simp [Tree.run] at h

end
end Go.Sx
