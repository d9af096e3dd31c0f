/-
  What is held against each other, arithmetic, texts: as the model has them.
  No statement of the seat is proved here. Conditions: none.
-/
import Derived.Test.YtmokkonnilmdfaaY3
import Derived.Test.YtmokkonnilmdfaaY4
import Derived.ChangeKeysEq
set_option linter.unusedSimpArgs false
set_option linter.unusedVariables false
namespace Go.Sy
open Go.RowKit

theorem ba_beq (a b : List UInt8) : ((⟨a.toArray⟩ : ByteArray) == ⟨b.toArray⟩) = (a == b) := by
  show (a.toArray == b.toArray) = _
  simp
theorem ba_toList (a : List UInt8) : (⟨a.toArray⟩ : ByteArray).toList = a := by simp
theorem ba_append (a b : List UInt8) : (⟨a.toArray⟩ : ByteArray) ++ ⟨b.toArray⟩ = ⟨(a ++ b).toArray⟩ := by
  apply ByteArray.ext; simp
theorem ba_extract (a : List UInt8) (i j : Nat) : (⟨a.toArray⟩ : ByteArray).extract i j = ⟨((a.take j).drop i).toArray⟩ := by
  apply ByteArray.ext; simp [List.drop_take]
theorem ba_size (a : List UInt8) : (⟨a.toArray⟩ : ByteArray).size = a.length := by simp [ByteArray.size]
theorem ba_get (a : List UInt8) (i : Nat) (h : i < a.length) : (⟨a.toArray⟩ : ByteArray)[i]? = some (a.getD i 0) := by
  have hs : i < (⟨a.toArray⟩ : ByteArray).size := by rw [ba_size]; exact h
  rw [getElem?_pos (⟨a.toArray⟩ : ByteArray) i hs]
  congr 1
  simp only [List.getD_eq_getElem?_getD, List.getElem?_eq_getElem h, Option.getD_some]
  rfl

section
variable {P : Program} {T : Tab} [GoodTab P T] {ρ : Names} {Φ : Nat → Prop} {w : World}

set_option maxHeartbeats 2000000 in
theorem eqCell_run {t : TypeId} {x y : SV} {u v : Value} {r : Bool} (h : eqCell T t x y = some r) (hx : Den ρ Φ w x u) (hy : Den ρ Φ w y v) (d : Nat) (w' : World) : (Op.equalIn (d + 1) t u v).run P w' = .ok r w' := by
  unfold eqCell at h
  split at h
  · rename_i k hu
    split at h
    · rename_i k1 a k2 b ha hb
      split at h
      · rename_i hk
        simp at h; subst h; have := kbeq_eq hk; subst this
        rw [int?_den ha hx, int?_den hb hy]
        simp [Op.equalIn, run_underlying' hu]
      · simp at h
    · simp at h
  · rename_i hu
    split at h
    · rename_i a b ha hb
      simp at h; subst h
      rw [bool?_den ha hx, bool?_den hb hy]
      simp [Op.equalIn, run_underlying' hu]
    · simp at h
  · rename_i hu
    split at h
    · rename_i a b
      simp at h; subst h
      simp only [Den] at hx hy; subst hx; subst hy
      simp [Op.equalIn, run_underlying' hu, ba_beq]
    · simp at h
  · rename_i e hu
    split at h
    · rename_i b; simp at h; subst h; simp only [Den] at hx hy; subst hx; subst hy; cases b <;> simp [Op.equalIn, run_underlying' hu]
    · simp at h; subst h; simp only [Den] at hx hy; subst hx; subst hy; simp [Op.equalIn, run_underlying' hu]
    · simp at h; subst h; simp only [Den] at hx hy; obtain ⟨_, _, rfl⟩ := hx; subst hy; simp [Op.equalIn, run_underlying' hu]
    · simp at h; subst h; simp only [Den] at hx hy; obtain ⟨_, _, rfl⟩ := hy; subst hx; simp [Op.equalIn, run_underlying' hu]
    · simp at h
  · rename_i e hu
    split at h
    · simp at h; subst h; simp only [Den] at hx hy; subst hx; subst hy; simp [Op.equalIn, run_underlying' hu]
    · simp at h; subst h; simp only [Den] at hx hy; subst hx; subst hy; simp [Op.equalIn, run_underlying' hu]
    · simp at h; subst h; simp only [Den] at hx hy; obtain ⟨_, _, rfl⟩ := hx; subst hy; simp [Op.equalIn, run_underlying' hu]
    · simp at h; subst h; simp only [Den] at hx hy; obtain ⟨_, _, rfl⟩ := hy; subst hx; simp [Op.equalIn, run_underlying' hu]
    · simp at h; subst h; simp only [Den] at hx hy; obtain ⟨a, rfl, rfl⟩ := hx; subst hy; cases a <;> simp [Op.equalIn, run_underlying' hu]
    · simp at h; subst h; simp only [Den] at hx hy; obtain ⟨a, rfl, rfl⟩ := hy; subst hx; cases a <;> simp [Op.equalIn, run_underlying' hu]
    · simp at h; subst h; simp only [Den, DenD] at hx hy; obtain ⟨a, cap, rfl, _, _, h4, _⟩ := hx; subst hy
      simp only [D.nl] at h4
      cases a with
      | none => rw [h4.2 rfl]; simp [Op.equalIn, run_underlying' hu]
      | some p =>
        have : ¬ (_ = true) := fun e => by have := h4.1 e; cases this
        simp [Op.equalIn, run_underlying' hu, Bool.eq_false_iff.2 this]
    · simp at h; subst h; simp only [Den, DenD] at hx hy; obtain ⟨a, cap, rfl, _, _, h4, _⟩ := hy; subst hx
      simp only [D.nl] at h4
      cases a with
      | none => rw [h4.2 rfl]; simp [Op.equalIn, run_underlying' hu]
      | some p =>
        have : ¬ (_ = true) := fun e => by have := h4.1 e; cases this
        simp [Op.equalIn, run_underlying' hu, Bool.eq_false_iff.2 this]
    · simp at h
  · rename_i e hu
    split at h
    · simp at h; subst h; simp only [Den] at hx hy; subst hx; subst hy; simp [Op.equalIn, run_underlying' hu]
    · simp at h; subst h; simp only [Den] at hx hy; subst hx; subst hy; simp [Op.equalIn, run_underlying' hu]
    · simp at h; subst h; simp only [Den] at hx hy; obtain ⟨_, _, rfl⟩ := hx; subst hy; simp [Op.equalIn, run_underlying' hu]
    · simp at h
  · rename_i e hu
    split at h
    · simp at h; subst h; simp only [Den] at hx hy; subst hx; subst hy; simp [Op.equalIn, run_underlying' hu]
    · simp at h
  · rename_i e hu
    split at h
    · simp at h; subst h; simp only [Den] at hx hy; subst hx; subst hy; simp [Op.equalIn, run_underlying' hu]
    · simp at h; subst h; simp only [Den] at hx hy; obtain ⟨_, _, rfl, _⟩ := hy; subst hx; simp [Op.equalIn, run_underlying' hu]
    · simp at h; subst h; simp only [Den] at hx hy; obtain ⟨_, _, rfl, _⟩ := hx; subst hy; simp [Op.equalIn, run_underlying' hu]
    · simp at h
  · simp at h

theorem eqFields_run {rec : TypeId → SV → SV → Option Bool} {d : Nat} (hrec : ∀ t x y u v r w', rec t x y = some r → Den ρ Φ w x u → Den ρ Φ w y v → (Op.equalIn d t u v).run P w' = .ok r w')
    {xs ys : List SV} {us vs : List Value} (hx : DenL ρ Φ w xs us) (hy : DenL ρ Φ w ys vs) (w' : World) :
    ∀ (fs : List Field) (r : Bool), eqSV.eqFields T rec xs ys fs = some r → (Op.eqFields d us.toArray vs.toArray fs).run P w' = .ok r w'
  | [], r, h => by simp [eqSV.eqFields] at h; subst h; simp [Op.eqFields]
  | f :: fs, r, h => by
    unfold eqSV.eqFields at h
    unfold Op.eqFields
    split at h
    · rename_i hn
      have hn' : f.name = "_" := by simpa using hn
      rw [if_neg (by simpa using hn')]
      exact eqFields_run hrec hx hy w' fs r h
    · rename_i hn
      have hn' : f.name ≠ "_" := by simpa using hn
      rw [if_pos hn']
      split at h
      · rename_i a b ha hb
        split at h
        · rename_i r1 r2 h1 h2
          simp at h
          obtain ⟨u, e1, d1⟩ := part_run (P := P) hx ha
          obtain ⟨v, e2, d2⟩ := part_run (P := P) hy hb
          simp only [Sem.run_bind, e1, e2, Result.andThen_ok, hrec _ _ _ _ _ _ w' h1 d1 d2]
          cases r1
          · simp at h; subst h; simp
          · simp at h; subst h
            simp only [Bool.not_true, Bool.false_eq_true, if_false]
            exact eqFields_run hrec hx hy w' fs r2 h2
        · simp at h
      · simp at h

theorem eqElems_run {rec : TypeId → SV → SV → Option Bool} {d : Nat} (hrec : ∀ t x y u v r w', rec t x y = some r → Den ρ Φ w x u → Den ρ Φ w y v → (Op.equalIn d t u v).run P w' = .ok r w') (e : TypeId) (n : Nat)
    {xs ys : List SV} {us vs : List Value} (hx : DenL ρ Φ w xs us) (hy : DenL ρ Φ w ys vs) (w' : World) :
    ∀ (len i : Nat) (r : Bool), eqSV.eqElems T rec e n xs ys len i = some r → (Op.eqItems d e n us.toArray vs.toArray (List.range' i len)).run P w' = .ok r w'
  | 0, i, r, h => by simp [eqSV.eqElems] at h; subst h; simp [Op.eqItems]
  | len + 1, i, r, h => by
    unfold eqSV.eqElems at h
    rw [List.range'_succ]
    unfold Op.eqItems
    split at h
    · rename_i a b ha hb
      split at h
      · rename_i r1 r2 h1 h2
        simp at h
        obtain ⟨u, e1, d1⟩ := part_run (P := P) hx ha
        obtain ⟨v, e2, d2⟩ := part_run (P := P) hy hb
        simp only [Sem.run_bind, e1, e2, Result.andThen_ok, hrec _ _ _ _ _ _ w' h1 d1 d2]
        cases r1
        · simp at h; subst h; simp
        · simp at h; subst h
          simp only [Bool.not_true, Bool.false_eq_true, if_false]
          exact eqElems_run hrec e n hx hy w' len (i + 1) r2 h2
      · simp at h
    · simp at h

theorem eqSV_run : ∀ (d : Nat) (t : TypeId) (x y : SV) (u v : Value) (r : Bool) (D : Nat) (w' : World), eqSV T d t x y = some r → d ≤ D → Den ρ Φ w x u → Den ρ Φ w y v → (Op.equalIn D t u v).run P w' = .ok r w'
  | 0, t, x, y, u, v, r, D, w', h, _, _, _ => by simp [eqSV] at h
  | d + 1, t, x, y, u, v, r, D, w', h, hD, hx, hy => by
    obtain ⟨D, rfl⟩ : ∃ m, D = m + 1 := ⟨D - 1, by omega⟩
    unfold eqSV at h
    split at h
    · rename_i fs xs ys hu
      split at h
      · simp at h
      · rename_i hst
        have hu0 := und_of (P := P) hu
        have hst : P.stoodInHeld t = false := stood_of (T := T) hst
        have hu' : P.underlying t = some (.struct (P.fieldsOf t)) := by rw [hu0]; simp [Program.fieldsOf, hu0]
        have hfs : P.fieldsOf t = fs := by simp [Program.fieldsOf, hu0]
        simp only [Den] at hx hy
        obtain ⟨us, rfl, h1⟩ := hx
        obtain ⟨vs, rfl, h2⟩ := hy
        rw [run_equalIn_struct w' D t _ _ hu' hst, hfs]
        exact eqFields_run (fun t x y u v r w'' h a b => eqSV_run d t x y u v r D w'' h (by omega) a b) h1 h2 w' fs.toList r h
    · rename_i len e xs ys hu
      cases hs : sizeT T e with
      | none => simp [hs] at h
      | some n =>
        simp only [hs] at h
        have hi : ∃ i, P.info? e = some i ∧ P.cellsOf e = n := by
          obtain ⟨i, hi, hsz⟩ := info_of (P := P) hs
          exact ⟨i, hi, by simp [Program.cellsOf, hi, hsz]⟩
        obtain ⟨i, hi, hc⟩ := hi
        have hu := und_of (P := P) hu
        simp only [Den] at hx hy
        obtain ⟨us, rfl, h1⟩ := hx
        obtain ⟨vs, rfl, h2⟩ := hy
        rw [run_equalIn_array w' D _ _ hu hi, hc, List.range_eq_range']
        exact eqElems_run (fun t x y u v r w'' h a b => eqSV_run d t x y u v r D w'' h (by omega) a b) e n h1 h2 w' len 0 r h
    · exact eqCell_run h hx hy D w'

theorem quo_run {k : IntKind} {a b : Int} (hb : b ≠ 0) (t : TypeId) (w : World) : (binOp .quo t (.int k a) (.int k b)).run P w = .ok (.int k (k.wrap (a.tdiv b))) w := by
  simp [binOp, Op.intDiv, hb]
theorem rem_run {k : IntKind} {a b : Int} (hb : b ≠ 0) (t : TypeId) (w : World) : (binOp .rem t (.int k a) (.int k b)).run P w = .ok (.int k (a.tmod b)) w := by
  simp [binOp, Op.intDiv, hb]

theorem intOp_run {op : BinOp} {lit : Bool} {k : IntKind} {a b : Int} {y z : SV} (hy : y.int? = some (k, b)) (hop : op ≠ .shl ∧ op ≠ .shr) (h : (intOp op lit k a y b).run = some z) (t : TypeId) (w' : World) :
    ∃ x, (binOp op t (.int k a) (.int k b)).run P w' = .ok x w' ∧ Den ρ Φ w z x := by
  unfold intOp at h
  cases op
  case quo =>
    simp only [arithOf] at h
    split at h
    · rename_i k' n
      simp only [SV.int?, Option.some.injEq, Prod.mk.injEq] at hy
      obtain ⟨h1, h2⟩ := hy
      subst h1; subst h2
      split at h
      · simp [Tree.run] at h
      · rename_i hne
        simp only [Tree.run, Option.some.injEq] at h
        subst h
        exact ⟨_, quo_run (by simpa using hne) t w', mkI_den ..⟩
    · obtain ⟨hne, h⟩ := Tree.run_need h
      simp only [Tree.run, Option.some.injEq] at h
      subst h
      exact ⟨_, quo_run (by simpa using hne) t w', mkI_den ..⟩
  case rem =>
    simp only [arithOf] at h
    split at h
    · rename_i k' n
      simp only [SV.int?, Option.some.injEq, Prod.mk.injEq] at hy
      obtain ⟨h1, h2⟩ := hy
      subst h1; subst h2
      split at h
      · simp [Tree.run] at h
      · rename_i hne
        simp only [Tree.run, Option.some.injEq] at h
        subst h
        exact ⟨_, rem_run (by simpa using hne) t w', mkI_den ..⟩
    · obtain ⟨hne, h⟩ := Tree.run_need h
      simp only [Tree.run, Option.some.injEq] at h
      subst h
      exact ⟨_, rem_run (by simpa using hne) t w', mkI_den ..⟩
  all_goals simp [arithOf, cmpOf, Tree.run] at h hop
  all_goals (subst h; first
    | (refine ⟨_, ?_, mkI_den lit k _⟩; simp [binOp, Op.intArith, Op.intBits, Op.intCmp, bits]; done)
    | (refine ⟨_, ?_, mkB_den lit _⟩; simp [binOp, Op.intArith, Op.intBits, Op.intCmp, bits]; done))

/-- No number, no text, no interface. -/
def calm : Value → Bool
  | .int .. | .float .. | .complex .. | .string _ | .nilIface | .iface .. | .tuple _ => false
  | _ => true

theorem binOp_eql {u v : Value} (h : calm u = true) (t : TypeId) {r : Bool} {w : World} (hr : (Op.equalIn 10000 t u v).run P w = .ok r w) :
    (binOp .eql t u v).run P w = .ok (.bool r) w ∧ (binOp .neq t u v).run P w = .ok (.bool (!r)) w := by
  have e1 : binOp .eql t u v = (do pure (.bool (← Op.equal t u v)) : Sem Value) := by cases u <;> first | rfl | simp [calm] at h
  have e2 : binOp .neq t u v = (do pure (.bool (!(← Op.equal t u v))) : Sem Value) := by cases u <;> first | rfl | simp [calm] at h
  rw [e1, e2]
  simp only [Op.equal, Op.maxDepth, Sem.run_bind, hr, Result.andThen_ok, Sem.run_pure]
  exact ⟨trivial, trivial⟩

theorem eqGuard_calm {u v : Value} (h : calm u = true) {op : BinOp} {t : TypeId} (hg : P.eqGuardType P.depth t = false) (ox oy : Operand) (w : World) : (eqGuard op t ox oy u v).run P w = .ok () w := by
  unfold eqGuard
  cases u <;> cases v <;> simp_all [calm, program, Sem.run, pure]
  all_goals (cases op <;> simp [hg, Sem.run])

set_option maxHeartbeats 2000000 in
theorem eqCell_calm {t : TypeId} {x y : SV} {u : Value} {r : Bool} (h : eqCell T t x y = some r) (hx : Den ρ Φ w x u)
    (h1 : ∀ k a k' b, x.int? = some (k, a) → y.int? = some (k', b) → False) (h2 : ∀ a b, x = .str a → y = .str b → False) : calm u = true := by
  unfold eqCell at h
  split at h
  · split at h
    · rename_i ha hb; exact (h1 _ _ _ _ ha hb).elim
    · simp at h
  · split at h
    · rename_i ha hb; rw [bool?_den ha hx]; rfl
    · simp at h
  · split at h
    · exact (h2 _ _ rfl rfl).elim
    · simp at h
  all_goals first
    | (split at h <;> first
        | (simp at h; done)
        | (simp only [Den, DenD] at hx; first
            | (subst hx; rfl)
            | (obtain ⟨_, _, rfl⟩ := hx; rfl)
            | (obtain ⟨_, _, rfl, _⟩ := hx; rfl)))
    | (simp at h; done)

theorem eqSV_calm {d : Nat} {t : TypeId} {x y : SV} {u : Value} {r : Bool} (h : eqSV T d t x y = some r) (hx : Den ρ Φ w x u)
    (h1 : ∀ k a k' b, x.int? = some (k, a) → y.int? = some (k', b) → False) (h2 : ∀ a b, x = .str a → y = .str b → False) : calm u = true := by
  cases d with
  | zero => simp [eqSV] at h
  | succ d =>
    unfold eqSV at h
    split at h
    · simp only [Den] at hx; obtain ⟨_, rfl, _⟩ := hx; rfl
    · simp only [Den] at hx; obtain ⟨_, rfl, _⟩ := hx; rfl
    · exact eqCell_calm h hx h1 h2

theorem strOp_run {op : BinOp} {a b : List UInt8} {z : SV} (h : (strOp op a b).run = some z) (t : TypeId) (w' : World) :
    ∃ x, (binOp op t (.string ⟨a.toArray⟩) (.string ⟨b.toArray⟩)).run P w' = .ok x w' ∧ Den ρ Φ w z x := by
  unfold strOp at h
  split at h
  · simp only [Tree.run, Option.some.injEq] at h; subst h
    exact ⟨.bool (a == b), by simp [binOp, Op.stringOp], by simp [Den]⟩
  · simp only [Tree.run, Option.some.injEq] at h; subst h
    exact ⟨.bool (!(a == b)), by simp [binOp, Op.stringOp], by simp [Den]⟩
  · obtain ⟨hle, h⟩ := Tree.run_need h
    simp only [Tree.run, Option.some.injEq] at h; subst h
    have hle' : ((a ++ b).length : Int) ≤ IntKind.i64.max := by simpa using hle
    refine ⟨.string ⟨(a ++ b).toArray⟩, ?_, by simp [Den]⟩
    have hn : ¬ (((⟨a.toArray⟩ : ByteArray).size + (⟨b.toArray⟩ : ByteArray).size : Nat) : Int) > IntKind.i64.max := by
      rw [ba_size, ba_size]; simp only [List.length_append] at hle'; omega
    simp only [binOp, Op.stringOp]
    rw [if_neg hn, ba_append]; simp
  · simp [Tree.run] at h

theorem binSV_run {op : BinOp} {t : TypeId} {x y z : SV} {u v : Value} (h : (binSV T op t x y).run = some z) (hx : Den ρ Φ w x u) (hy : Den ρ Φ w y v) (ox oy : Operand) (w' : World) :
    ∃ r, (do eqGuard op t ox oy u v; binOp op t u v : Sem Value).run P w' = .ok r w' ∧ Den ρ Φ w z r := by
  unfold binSV at h
  split at h
  · rename_i k a k' b ha hb
    have e1 := int?_den ha hx
    have e2 := int?_den hb hy
    subst e1; subst e2
    have hg : (eqGuard op t ox oy (.int k a) (.int k' b)).run P w' = .ok () w' := by
      unfold eqGuard; cases op <;> simp
    rw [Sem.run_bind, hg, Result.andThen_ok]
    split at h
    · rename_i k2 n
      simp only [SV.int?, Option.some.injEq, Prod.mk.injEq] at hb
      obtain ⟨rfl, rfl⟩ := hb
      split at h
      · rename_i hn
        have hn' : 0 ≤ n := by simpa using hn
        simp only [Tree.run, Option.some.injEq] at h; subst h
        refine ⟨_, ?_, mkI_den _ k _⟩; simp [binOp, Op.shift, show ¬ n < 0 by omega]
      · simp [Tree.run] at h
    · rename_i k2 n
      simp only [SV.int?, Option.some.injEq, Prod.mk.injEq] at hb
      obtain ⟨rfl, rfl⟩ := hb
      split at h
      · rename_i hn
        have hn' : 0 ≤ n := by simpa using hn
        simp only [Tree.run, Option.some.injEq] at h; subst h
        refine ⟨_, ?_, mkI_den _ k _⟩; simp [binOp, Op.shift, show ¬ n < 0 by omega]
      · simp [Tree.run] at h
    · simp [Tree.run] at h
    · simp [Tree.run] at h
    · rename_i h1 h2 h3 h4
      split at h
      · rename_i hk
        have := kbeq_eq hk; subst this
        exact intOp_run hb ⟨by intro e; first | exact h1 e | exact h2 e | exact h3 e | exact h4 e, by intro e; first | exact h1 e | exact h2 e | exact h3 e | exact h4 e⟩ h t w'
      · simp [Tree.run] at h
  · rename_i hni
    split at h
    · rename_i a b
      simp only [Den] at hx hy; subst hx; subst hy
      have hg : (eqGuard op t ox oy (.string ⟨a.toArray⟩) (.string ⟨b.toArray⟩)).run P w' = .ok () w' := by
        unfold eqGuard; cases op <;> simp
      rw [Sem.run_bind, hg, Result.andThen_ok]
      exact strOp_run h t w'
    · rename_i hns
      split at h
      · simp [Tree.run] at h
      · rename_i hgt
        have hgt : P.eqGuardType P.depth t = false := eqG_of (T := T) hgt
        have key : ∀ r, eqSV T 60 t x y = some r → (eqGuard op t ox oy u v).run P w' = .ok () w' ∧ (binOp .eql t u v).run P w' = .ok (.bool r) w' ∧ (binOp .neq t u v).run P w' = .ok (.bool (!r)) w' := by
          intro r hr
          have hrun := eqSV_run (P := P) 60 t x y u v r 10000 w' hr (by omega) hx hy
          have hc := eqSV_calm hr hx (fun k a k' b ha hb => hni k a k' b ha hb) (fun a b ha hb => hns a b ha hb)
          obtain ⟨b1, b2⟩ := binOp_eql hc t hrun
          exact ⟨eqGuard_calm hc hgt ox oy w', b1, b2⟩
        split at h
        · split at h
          · rename_i r hr
            simp [Tree.run] at h; subst h
            obtain ⟨k1, k2, _⟩ := key r hr
            exact ⟨_, by rw [Sem.run_bind, k1, Result.andThen_ok, k2], mkB_den ..⟩
          · simp [Tree.run] at h
        · split at h
          · rename_i r hr
            simp [Tree.run] at h; subst h
            obtain ⟨k1, _, k2⟩ := key r hr
            exact ⟨_, by rw [Sem.run_bind, k1, Result.andThen_ok, k2], mkB_den ..⟩
          · simp [Tree.run] at h
        · simp [Tree.run] at h
end
end Go.Sy
