/-
  A region that draws its order, whole ('drawnE_good'); a function, whole ('calls_of_run').
  No statement of the seat is proved here. Conditions: none.
-/
import Derived.Test.YtkkbbifhaanamaaSxDraw2
set_option linter.unusedSimpArgs false
set_option linter.unusedVariables false
namespace Go.Sx
open Go.RowKit

section
variable {P : Program} {call : CallE} {specs : Specs} {ops : Array Oper}

def isL (listed : Array Bool) (i : Nat) : Bool := listed.getD i false

theorem ready_spec {listed : Array Bool} (hsz : listed.size = ops.size) {i : Nat} : i ∈ Region.ready .any ops listed ↔ i < ops.size ∧ isL listed i = false ∧ ∃ o, ops[i]? = some o ∧ ∀ e ∈ o.after.toList, Region.binds .any e = true → isL listed e.on = true := by
  unfold Region.ready isL
  rw [List.mem_filter, List.mem_range]
  constructor
  · rintro ⟨hi, h⟩
    refine ⟨hi, ?_⟩
    have hil : i < listed.size := by omega
    simp only [Bool.and_eq_true, Bool.not_eq_true'] at h
    obtain ⟨h1, h2⟩ := h
    have ho : ops[i]? = some ops[i] := Array.getElem?_eq_getElem hi
    rw [ho] at h2
    simp only [Option.map_some, Option.getD_some, Array.all_eq_true'] at h2
    refine ⟨?_, ops[i], ho, ?_⟩
    · simpa [Array.getD, hil] using h1
    · intro e he hb
      have := h2 e (Array.mem_toList_iff.1 he)
      simpa [hb] using this
  · rintro ⟨hi, h1, o, ho, h2⟩
    refine ⟨hi, ?_⟩
    have hil : i < listed.size := by omega
    simp only [Bool.and_eq_true, Bool.not_eq_true']
    rw [ho]
    simp only [Option.map_some, Option.getD_some, Array.all_eq_true']
    refine ⟨?_, ?_⟩
    · simpa [Array.getD, hil] using h1
    · intro e he
      cases hb : Region.binds .any e with
      | false => simp
      | true => simpa using h2 e (Array.mem_toList_iff.2 he) hb

theorem isL_set {listed : Array Bool} {i : Nat} (hi : i < listed.size) : isL (listed.setIfInBounds i true) = more (isL listed) i := by
  funext j
  unfold isL more
  simp only [Array.getD_eq_getD_getElem?, Array.getElem?_setIfInBounds]
  by_cases h : i = j
  · subst h; simp [hi]
  · have : ¬ j = i := fun e => h e.symm
    simp [h, this]

theorem countP_lt {p p' : Nat → Bool} {i : Nat} (hle : ∀ j, p' j = true → p j = true) (hp : p i = true) (hp' : p' i = false) : ∀ l : List Nat, i ∈ l → l.countP p' < l.countP p
  | [], h => by simp at h
  | a :: r, h => by
    have hmono : r.countP p' ≤ r.countP p := List.countP_mono_left fun x _ hx => hle x hx
    rw [List.countP_cons, List.countP_cons]
    by_cases ha : a = i
    · subst ha; simp [hp, hp']; omega
    · have hr : i ∈ r := by
        rcases List.mem_cons.1 h with e | e
        · exact absurd e.symm ha
        · exact e
      have := countP_lt hle hp hp' r hr
      by_cases h1 : p' a = true
      · simp [h1, hle a h1]; omega
      · simp [h1]; split <;> omega

/-- All that the checks say. -/
structure Ordered (ops : Array Oper) (b : List Nat) (m : Nat) : Prop where
  fine : Fine ops (ops.toList.take m) b
  edges : ∀ (i : Nat) (o : Oper), ops[i]? = some o → ∀ e ∈ o.after.toList, Region.binds .any e = true → e.on < i
  late : ∀ j, m ≤ j → j < ops.size → ∀ i, i < j → (b.getD j 0).testBit i = true

theorem earlyN_le : ∀ l : List Oper, earlyN l ≤ l.length
  | [] => by simp [earlyN]
  | o :: r => by
    have := earlyN_le r
    unfold earlyN
    split <;> simp <;> omega

theorem checked_of {m : Nat} (hm : m ≤ ops.size) (h : orderOk ops (bef ops.toList []) m = true) : Ordered ops (bef ops.toList []) m := by
  unfold orderOk at h
  simp only [Bool.and_eq_true] at h
  obtain ⟨⟨h1, h2⟩, h3⟩ := h
  have at_ : ∀ (j : Nat) (o : Oper), (ops.toList.take m)[j]? = some o → ops[j]? = some o ∧ j < m := by
    intro j o hj
    rw [List.getElem?_take] at hj
    split at hj
    · rename_i hlt; exact ⟨by simpa using hj, hlt⟩
    · cases hj
  have hsc := scanOk_spec (ops.toList.take m) 0 [] [] h1 (fun t j hj => by simp at hj)
  refine ⟨⟨fun j o hj => (at_ j o hj).1, ?_⟩, ?_, ?_⟩
  · intro i j oi oj t hi hj hij hd
    by_cases hji : j < i
    · obtain ⟨_, _, g⟩ := hsc i oi hi
      have := (g j oj hji hj).1 t hd
      simp only [Nat.zero_add] at this
      refine ⟨this.1, fun ht => ?_⟩
      rw [if_pos hji]; exact this.2 ht
    · have hlt : i < j := by omega
      obtain ⟨_, _, g⟩ := hsc j oj hj
      have hg := g i oi hlt hi
      simp only [Nat.zero_add] at hg
      refine ⟨fun hdi => (hg.1 t hdi).1 hd, fun ht => ?_⟩
      rw [if_neg hji]; exact hg.2 t ht hd
  · intro i o hi e he hb
    have := edgesOk_spec ops.toList 0 h2 i o (by simpa using hi) e he hb
    omega
  · intro j hmj hj i hij
    have hlen := bef_length ops.toList []
    have := lateOk_spec _ m h3 (j - m) (by simp [hlen]; omega) i (by omega)
    rw [List.getD_eq_getElem?_getD, List.getElem?_drop] at this
    have e : m + (j - m) = j := by omega
    rw [e, ← List.getD_eq_getElem?_getD] at this
    exact this

theorem drawnE_good (hm : P.follows .mixedOrders = true) (hcall : GoodCall P call) (hmono : MonoCall call) (hspecs : GoodSpecs P specs) : GoodDrawn P (drawnE P specs call) := by
  have open_ : ∀ (ops : Array Oper) (st st' : St), (drawnE P specs call ops st).run = some st' → ∃ rs, Ordered ops (bef ops.toList []) (earlyN ops.toList) ∧ lowS st.heap.length st.tmps = true ∧ lowH st.heap.length st.heap = true ∧
      (earlyE P call specs ops st.heap 0 (ops.toList.take (earlyN ops.toList)) st.tmps).run = some rs ∧ RefsFine st.heap.length (bef ops.toList []) rs ∧
      (stepsE P call specs ops (ops.toList.drop (earlyN ops.toList)) { tmps := tmAt (ops.toList.take (earlyN ops.toList)) rs st.tmps, heap := st.heap ++ rs.map (·.2) }).run = some st' := by
    intro ops st st' h
    unfold drawnE at h
    simp only at h
    split at h
    · rename_i hc
      simp only [Bool.and_eq_true] at hc
      obtain ⟨⟨hc1, hc2⟩, hc3⟩ := hc
      obtain ⟨rs, h1, h2⟩ := Tree.run_bind h
      split at h2
      · rename_i hr
        refine ⟨rs, checked_of (by have := earlyN_le ops.toList; simpa using this) hc1, hc2, hc3, h1, ?_, h2⟩
        intro j x hj
        have := refsOk_fine rs 0 hr j x hj
        simpa using this
      · simp [Tree.run] at h2
    · simp [Tree.run] at h
  refine ⟨?_, ?_⟩
  · intro ops st st' h
    obtain ⟨rs, _, _, _, _, _, h2⟩ := open_ ops st st' h
    have := stepsE_mono hmono _ h2
    simp at this; omega
  · intro ops id ρ Φ w st a st' Q hs h hQ
    obtain ⟨rs, hck, hl0, hh0, hearly, hrf, hlate⟩ := open_ ops st st' h
    generalize hmm : earlyN ops.toList = m at *
    generalize hbb : bef ops.toList [] = b at *
    have hmn : m ≤ ops.size := by have := earlyN_le ops.toList; rw [hmm] at this; simpa using this
    obtain ⟨hlen, hsteps⟩ := earlyE_spec _ _ _ _ hearly
    have hlm : (ops.toList.take m).length = m := by simp; omega
    have hrsm : rs.length = m := by omega
    refine wp_region_any hm ?_
    -- the invariant
    have main : ∀ (fuel : Nat) (listed : Array Bool), listed.size = ops.size → (List.range ops.size).countP (fun i => !isL listed i) ≤ fuel →
        (∀ j, isL listed j = true → ∀ k, (b.getD j 0).testBit k = true → isL listed k = true) →
        ∀ (ρ1 : Nat → Nat) (a1 : Act) (w1 : World), (∀ k, k < st.heap.length → ρ1 k = ρ k) → Ext Φ w w1 →
        ((∃ k, k < m ∧ isL listed k = false) ∧ (∀ k, m ≤ k → isL listed k = false) ∧ RepE (ops.toList.take m) rs st.tmps st.heap Φ (isL listed) ρ1 a1 w1 ∨
          ∃ (k : Nat) (stk : St), m ≤ k ∧ k ≤ ops.size ∧ (∀ i, isL listed i = true ↔ i < k) ∧ st.heap.length ≤ stk.heap.length ∧ Sat ρ1 Φ stk a1 w1 ∧ (stepsE P call specs ops (ops.toList.drop k) stk).run = some st') →
        wpAny P .any ops Q fuel listed a1 w1 := by
      intro fuel
      induction fuel with
      | zero =>
        intro listed hsz hcount hcl ρ1 a1 w1 hρ1 he1 hor
        have hall : ∀ i, i < ops.size → isL listed i = true := by
          intro i hi
          have h0 : (List.range ops.size).countP (fun i => !isL listed i) = 0 := by omega
          rw [List.countP_eq_zero] at h0
          have := h0 i (List.mem_range.2 hi)
          simpa using this
        refine ⟨?_, ?_⟩
        · rcases hr : Region.ready .any ops listed with _ | ⟨i, r⟩
          · rfl
          · have hi : i ∈ Region.ready .any ops listed := by rw [hr]; simp
            obtain ⟨h1, h2, _⟩ := (ready_spec hsz).1 hi
            rw [hall i h1] at h2; cases h2
        · rcases hor with ⟨⟨k, hk, hk2⟩, _⟩ | ⟨k, stk, hmk, hkn, hiff, hle, hsat, hrun⟩
          · rw [hall k (by omega)] at hk2; cases hk2
          · have : k = ops.size := by
              rcases Nat.lt_or_ge k ops.size with hlt | hge
              · have := (hiff k).1 (hall k hlt); omega
              · omega
            subst this
            rw [List.drop_of_length_le (by simp)] at hrun
            simp only [stepsE, Tree.run, Option.some.injEq] at hrun
            subst hrun
            exact hQ ρ1 a1 w1 hρ1 hsat he1
      | succ fuel ih =>
        intro listed hsz hcount hcl ρ1 a1 w1 hρ1 he1 hor
        refine ⟨?_, ?_⟩
        · intro hnil
          have hall : ∀ i, i < ops.size → isL listed i = true := by
            intro i
            induction i using Nat.strongRecOn with
            | _ i ihi =>
              intro hi
              cases hLi : isL listed i with
              | true => rfl
              | false =>
                have : i ∈ Region.ready .any ops listed := by
                  refine (ready_spec hsz).2 ⟨hi, hLi, ops[i], Array.getElem?_eq_getElem hi, ?_⟩
                  intro e he hb
                  have hlt := hck.edges i ops[i] (Array.getElem?_eq_getElem hi) e he hb
                  exact ihi e.on hlt (by omega)
                rw [hnil] at this; cases this
          rcases hor with ⟨⟨k, hk, hk2⟩, _⟩ | ⟨k, stk, hmk, hkn, hiff, hle, hsat, hrun⟩
          · rw [hall k (by omega)] at hk2; cases hk2
          · have : k = ops.size := by
              rcases Nat.lt_or_ge k ops.size with hlt | hge
              · have := (hiff k).1 (hall k hlt); omega
              · omega
            subst this
            rw [List.drop_of_length_le (by simp)] at hrun
            simp only [stepsE, Tree.run, Option.some.injEq] at hrun
            subst hrun
            exact hQ ρ1 a1 w1 hρ1 hsat he1
        · intro i hi
          obtain ⟨hin, hLi, o, ho, hafter⟩ := (ready_spec hsz).1 hi
          have hsz' : (listed.setIfInBounds i true).size = ops.size := by simpa using hsz
          have hL' : isL (listed.setIfInBounds i true) = more (isL listed) i := isL_set (by omega)
          have hoL : ops.toList[i]? = some o := by simpa using ho
          have hbi : ∀ k, (b.getD i 0).testBit k = true → isL listed k = true := by
            intro k hk
            rw [← hbb] at hk
            obtain ⟨e, he, hb, hor2⟩ := bef_spec hoL hk
            rcases hor2 with rfl | hk2
            · exact hafter e he hb
            · rw [hbb] at hk2
              exact hcl e.on (hafter e he hb) k hk2
          have hcl' : ∀ j, isL (listed.setIfInBounds i true) j = true → ∀ k, (b.getD j 0).testBit k = true → isL (listed.setIfInBounds i true) k = true := by
            rw [hL']
            intro j hj k hk
            simp only [more, Bool.or_eq_true, beq_iff_eq] at hj ⊢
            rcases hj with rfl | hj
            · exact .inr (hbi k hk)
            · exact .inr (hcl j hj k hk)
          have hcount' : (List.range ops.size).countP (fun j => !isL (listed.setIfInBounds i true) j) ≤ fuel := by
            have := countP_lt (p := fun j => !isL listed j) (p' := fun j => !isL (listed.setIfInBounds i true) j) (i := i) (by
              intro j hj
              rw [hL'] at hj
              simp [more] at hj
              simp [hj.2]) (by simp [hLi]) (by rw [hL']; simp [more]) (List.range ops.size) (List.mem_range.2 hin)
            omega
          -- the operation
          have go : ∀ {X : Prop}, ((∀ (ρ2 : Nat → Nat) (a2 : Act) (w2 : World), (∀ k, k < st.heap.length → ρ2 k = ρ1 k) → Ext Φ w1 w2 →
              ((∃ k, k < m ∧ isL (listed.setIfInBounds i true) k = false) ∧ (∀ k, m ≤ k → isL (listed.setIfInBounds i true) k = false) ∧ RepE (ops.toList.take m) rs st.tmps st.heap Φ (isL (listed.setIfInBounds i true)) ρ2 a2 w2 ∨
                ∃ (k : Nat) (stk : St), m ≤ k ∧ k ≤ ops.size ∧ (∀ j, isL (listed.setIfInBounds i true) j = true ↔ j < k) ∧ st.heap.length ≤ stk.heap.length ∧ Sat ρ2 Φ stk a2 w2 ∧ (stepsE P call specs ops (ops.toList.drop k) stk).run = some st') →
              wpAny P .any ops Q fuel (listed.setIfInBounds i true) a2 w2) → X) → X := by
            intro X hX
            refine hX ?_
            intro ρ2 a2 w2 hρ2 he2 hor2
            exact ih _ hsz' hcount' hcl' ρ2 a2 w2 (fun k hk => (hρ2 k hk).trans (hρ1 k hk)) (he1.trans he2) hor2
          refine go fun hnext => ?_
          unfold wpOp
          simp only [ho]
          have wrap : (if Region.wanted o (yielded ops a1.tmps) then o.wp P a1 w1 (wpAny P .any ops Q fuel (listed.setIfInBounds i true)) Q else wpAny P .any ops Q fuel (listed.setIfInBounds i true) (a1.put o.dst undef) w1) →
              (if Region.wanted o (yielded ops a1.tmps) then o.wp P a1 w1 (wpAny P .any ops Q fuel (listed.setIfInBounds i true)) Q ∨ (o.asks P a1 w1 ∧ LetsOut Q) else wpAny P .any ops Q fuel (listed.setIfInBounds i true) (a1.put o.dst undef) w1) := by
            intro hh
            split at hh
            · rename_i hw; rw [if_pos hw]; exact .inl hh
            · rename_i hw; rw [if_neg hw]; exact hh
          apply wrap
          rcases hor with ⟨⟨k, hk, hk2⟩, hnolate, hrep⟩ | ⟨k, stk, hmk, hkn, hiff, hle, hsat, hrun⟩
          · -- one of the early ones
            have him : i < m := by
              rcases Nat.lt_or_ge i m with hlt | hge
              · exact hlt
              · have := hbi k (hck.late i hge hin k (by omega))
                rw [this] at hk2; cases hk2
            have hoT : (ops.toList.take m)[i]? = some o := by rw [List.getElem?_take, if_pos him]; exact hoL
            obtain ⟨x, hx, hst⟩ := hsteps i o hoT
            simp only [Nat.zero_add] at hst
            refine early_sound hcall hspecs hck.fine hlen hrep hrf hl0 hh0 hcl hoT hx hLi hbi hst ?_
            intro ρ2 a2 w2 hρ2 hrep2 he2
            refine hnext ρ2 a2 w2 hρ2 he2 ?_
            rw [hL']
            by_cases hdone : ∃ j, j < m ∧ more (isL listed) i j = false
            · refine .inl ⟨hdone, ?_, hrep2⟩
              intro j hj
              have h1 := hnolate j hj
              have h2 : ¬ j = i := by omega
              simp [more, h1, h2]
            · have hall : ∀ j, j < m → more (isL listed) i j = true := by
                intro j hj
                cases hmj : more (isL listed) i j with
                | true => rfl
                | false => exact absurd ⟨j, hj, hmj⟩ hdone
              refine .inr ⟨m, { tmps := tmAt (ops.toList.take m) rs st.tmps, heap := st.heap ++ rs.map (·.2) }, Nat.le_refl _, hmn, ?_, by simp, ?_, hlate⟩
              · intro j
                constructor
                · intro hj
                  rcases Nat.lt_or_ge j m with hlt | hge
                  · exact hlt
                  · have h1 := hnolate j hge
                    have h2 : ¬ j = i := by omega
                    simp [more, h1, h2] at hj
                · exact hall j
              · refine ⟨hrep2.defers, by rw [tmAt_length]; exact hrep2.size, ?_, ?_⟩
                · intro t s hts
                  have htl : t < st.tmps.length := by
                    have := (List.getElem?_eq_some_iff.1 hts).1
                    rwa [tmAt_length] at this
                  obtain ⟨v, hv, hor3⟩ := hrep2.slot t st.tmps[t] (List.getElem?_eq_getElem htl)
                  refine ⟨v, hv, ?_⟩
                  rcases tmAt_get _ _ _ t s hlen hts with ⟨j, oj, y, h1, h2, h3, h4⟩ | ⟨h1, h2⟩
                  · rcases hor3 with ⟨j', oj', y', _, h1', h2', h3', h4'⟩ | ⟨hno, _⟩
                    · by_cases hjj : j = j'
                      · subst hjj
                        rw [h2] at h2'
                        simp only [Option.some.injEq] at h2'
                        subst h2'; subst h4; exact h4'
                      · exact absurd h3' (hck.fine.pair j' j oj' oj t h1' h1 (fun e => hjj e.symm) h3).1
                    · have hjm : j < m := by
                        have := (List.getElem?_eq_some_iff.1 h1).1
                        simp at this; omega
                      exact absurd h3 (hno j oj (hall j hjm) h1)
                  · rcases hor3 with ⟨j', oj', y', _, h1', h2', h3', h4'⟩ | ⟨_, hok⟩
                    · exact absurd h3' (h1 j' oj' h1')
                    · rw [List.getElem?_eq_getElem htl] at h2
                      simp only [Option.some.injEq] at h2
                      subst h2; exact hok
                · have := hrep2.rel
                  rw [newsL_all rs _ (fun j hj => hall j (by omega))] at this
                  exact this
          · -- one of the others: the next
            have hik : i = k := by
              have h1 : ¬ i < k := fun hlt => by rw [(hiff i).2 hlt] at hLi; cases hLi
              rcases Nat.lt_or_ge k i with hlt | hge
              · have := hbi k (hck.late i (by omega) hin k hlt)
                have := (hiff k).1 this; omega
              · omega
            subst hik
            have hdrop : ops.toList.drop i = o :: ops.toList.drop (i + 1) := by
              have hlt : i < ops.toList.length := by simpa using hin
              rw [List.drop_eq_getElem_cons hlt]
              congr 1
              rw [List.getElem?_eq_getElem hlt] at hoL
              simpa using hoL
            rw [hdrop] at hrun
            simp only [stepsE] at hrun
            obtain ⟨st1, h1, h2⟩ := Tree.run_bind hrun
            refine stepE_sound hcall hspecs hsat h1 ?_
            intro ρ2 a2 w2 hρ2 hs2 he2
            refine hnext ρ2 a2 w2 (fun q hq => hρ2 q (by omega)) he2 (.inr ⟨i + 1, st1, by omega, by omega, ?_, ?_, hs2, h2⟩)
            · rw [hL']
              intro j
              simp only [more, Bool.or_eq_true, beq_iff_eq, hiff]
              omega
            · exact Nat.le_trans hle (stepE_mono hmono h1)
    have hfalse : ∀ i, isL (Array.replicate ops.size false) i = false := by
      intro i; unfold isL
      rw [Array.getD_eq_getD_getElem?, Array.getElem?_replicate]
      split <;> rfl
    refine main ops.size _ (by simp) ?_ ?_ ρ a _ (fun _ _ => rfl) (Ext.refl _ _).drew ?_
    · have := List.countP_le_length (p := fun i => !isL (Array.replicate ops.size false) i) (l := List.range ops.size)
      simpa using this
    · intro j hj; rw [hfalse] at hj; cases hj
    · have hrep0 : RepE (ops.toList.take m) rs st.tmps st.heap Φ (isL (Array.replicate ops.size false)) ρ a { w with drawn := w.drawn + 1 } := by
        refine ⟨hs.defers, hs.size, ?_, ?_⟩
        · intro t s0 ht
          obtain ⟨v, hv, hok⟩ := hs.slot t s0 ht
          exact ⟨v, hv, .inr ⟨fun j o hj => (by rw [hfalse] at hj; cases hj), hok⟩⟩
        · have hr := hs.rel.drew
          have none_ : ∀ (k : Nat) (c : Blk), (st.heap ++ newsL rs (isL (Array.replicate ops.size false)))[k]? = some (some c) → st.heap[k]? = some (some c) := by
            intro k c hk
            rcases Nat.lt_or_ge k st.heap.length with hlt | hge
            · rwa [List.getElem?_append_left hlt] at hk
            · rw [List.getElem?_append_right hge] at hk
              have hkl : k - st.heap.length < rs.length := by
                have := (List.getElem?_eq_some_iff.1 hk).1; simpa [newsL] using this
              rw [newsL_get rs _ (List.getElem?_eq_getElem hkl), hfalse] at hk
              simp at hk
          exact ⟨fun k c hk => hr.own k c (none_ k c hk), fun k c hk => hr.apart k c (none_ k c hk), fun k k' c c' hk hk' => hr.inj k k' c c' (none_ k c hk) (none_ k' c' hk'), hr.phi⟩
      rcases Nat.eq_zero_or_pos m with h0 | h0
      · refine .inr ⟨0, { tmps := tmAt (ops.toList.take m) rs st.tmps, heap := st.heap ++ rs.map (·.2) }, by omega, by omega, ?_, by simp, ?_, ?_⟩
        · intro i; rw [hfalse]; simp
        · subst h0
          have : rs = [] := List.length_eq_zero_iff.1 hrsm
          subst this
          simp only [List.take_zero, tmAt, List.map_nil, List.append_nil]
          exact ⟨hs.defers, hs.size, hs.slot, hs.rel.drew⟩
        · rw [h0] at hlate ⊢; exact hlate
      · exact .inl ⟨⟨0, h0, hfalse 0⟩, fun k _ => hfalse k, hrep0⟩

/-! ### A function, whole -/

/-- A function's run: of these arguments, to what it comes. -/
def runF (P : Program) (specs : Specs) (rounds depth : Nat) (f : FuncId) (args : List SV) : Tree SV :=
  (callE P specs (fun c => drawnE P specs c) rounds depth f args []).bind fun r => .ret r.1

theorem calls_of_run (hm : P.follows .mixedOrders = true) (hspecs : GoodSpecs P specs) {rounds depth : Nat} {f : FuncId} {args : List SV} {r : SV} (h : (runF P specs rounds depth f args).run = some r) (ρ : Nat → Nat) (w : World)
    (hr : r.low 0 = true) : Enters P f ∧ Calls P f (SV.denL ρ args).toArray w fun e w' => e = .returned (r.den ρ) ∧ Below w.heap.size w w' := by
  unfold runF at h
  obtain ⟨⟨r', H'⟩, h1, h2⟩ := Tree.run_bind h
  simp only [Tree.run, Option.some.injEq] at h2
  subst h2
  obtain ⟨hc, hmo⟩ := callE_good hspecs (fun c hc hmo => drawnE_good hm hc hmo hspecs) rounds depth
  refine ⟨hc.enters _ _ _ _ h1, ?_⟩
  have hrel : Rel ρ [] (fun k => k < w.heap.size) w := ⟨fun k b hk => by simp at hk, fun k b hk => by simp at hk, fun k k' b b' hk => by simp at hk, fun k hk => hk⟩
  refine (hc.calls _ _ _ _ _ h1 ρ _ w hrel).mono ?_
  rintro e w' ⟨ρ', _, rfl, _, hext⟩
  refine ⟨?_, ⟨hext.os, hext.tape, hext.output, hext.size, hext.block⟩⟩
  rw [SV.den_low (n := 0) (fun k hk => by omega) r' hr]

end
end Go.Sx
