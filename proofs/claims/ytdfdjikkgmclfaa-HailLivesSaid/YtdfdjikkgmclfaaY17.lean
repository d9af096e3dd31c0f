/-
  A region that draws its order, whole ('drawnE_good'); a function, whole.
  No statement of the seat is proved here. Conditions: none.
-/
import Derived.Test.YtdfdjikkgmclfaaY16
set_option linter.unusedSimpArgs false
set_option linter.unusedVariables false
namespace Go.Sy
open Go.RowKit

section
variable {P : Program} {T : Tab} [GoodTab P T] {E : Env} {call : CallE}

/-- All that the checks say. -/
structure Ordered (ops : Array Oper) (b : List Nat) (m : Nat) : Prop where
  fine : Fine ops (ops.toList.take m) b
  edges : ∀ (i : Nat) (o : Oper), ops[i]? = some o → ∀ e ∈ o.after.toList, Region.binds .any e = true → e.on < i
  late : ∀ j, m ≤ j → j < ops.size → ∀ i, i < j → (b.getD j 0).testBit i = true

theorem checked_of {ops : Array Oper} {m : Nat} (hm : m ≤ ops.size) (h : orderOk ops (bef ops.toList []) m = true) : Ordered ops (bef ops.toList []) m := by
  unfold orderOk at h
  simp only [Bool.and_eq_true] at h
  obtain ⟨⟨h1, h2⟩, h3⟩ := h
  have at_ : ∀ (j : Nat) (o : Oper), (ops.toList.take m)[j]? = some o → ops[j]? = some o ∧ j < m := by
    intro j o hj
    rw [List.getElem?_take] at hj
    split at hj
    · rename_i hlt; exact ⟨by simpa using hj, hlt⟩
    · cases hj
  have hsc := scanOk_spec (ops.toList.take m) 0 [] [] h1 (fun t j hj => by simp at hj)
  refine ⟨⟨fun j o hj => (at_ j o hj).1, ?_⟩, ?_, ?_⟩
  · intro i j oi oj t hi hj hij hd
    by_cases hji : j < i
    · obtain ⟨_, _, g⟩ := hsc i oi hi
      have := (g j oj hji hj).1 t hd
      simp only [Nat.zero_add] at this
      refine ⟨this.1, fun ht => ?_⟩
      rw [if_pos hji]; exact this.2 ht
    · have hlt : i < j := by omega
      obtain ⟨_, _, g⟩ := hsc j oj hj
      have hg := g i oi hlt hi
      simp only [Nat.zero_add] at hg
      refine ⟨fun hdi => (hg.1 t hdi).1 hd, fun ht => ?_⟩
      rw [if_neg hji]; exact hg.2 t ht hd
  · intro i o hi e he hb
    have := edgesOk_spec ops.toList 0 h2 i o (by simpa using hi) e he hb
    omega
  · intro j hmj hj i hij
    have hlen := bef_length ops.toList []
    have := lateOk_spec _ m h3 (j - m) (by simp [hlen]; omega) i (by omega)
    rw [List.getD_eq_getElem?_getD, List.getElem?_drop] at this
    have e : m + (j - m) = j := by omega
    rw [e, ← List.getD_eq_getElem?_getD] at this
    exact this

theorem earlyM_le : ∀ (l : List Nat) (i m : Nat), m ≤ i → earlyM i l m ≤ i + l.length
  | [], i, m, h => by simpa [earlyM] using h
  | x :: r, i, m, h => by
    have := earlyM_le r (i + 1) (nextM i x m) (by unfold nextM; split <;> omega)
    simp only [earlyM, List.length_cons]
    omega

def allYes' : Nat → Bool := fun _ => false
theorem outL_congr {m : Nat} {rs : List Res} {L L' : Nat → Bool} {H0 : Hp} : ∀ (V : Outs) (H : Hp), (∀ j x, rs[j]? = some x → L j = L' j) → outL m rs L H0 V H = outL m rs L' H0 V H
  | [], H, h => rfl
  | (_, q) :: r, H, h => by
    simp only [outL]
    rw [outL_congr r _ h, evAt_congr _ _ _ (fun j x b hj _ => by simpa using h j x hj)]
theorem drawnE_good (hm : P.follows .mixedOrders = true) (hcall : GoodCall P call) (hE : GoodEnv P E) : GoodDrawn P (drawnE T E call) := by
  intro ops id ρ Φ w st a st' Q hs h hQ
  obtain ⟨U, rs, hck, hlowb, hUok, hevs, hearly, hlate⟩ : ∃ (U : Outs) (rs : List Res), Ordered ops (bef ops.toList []) (earlyM 0 (bef ops.toList []) 0) ∧ lowBits 0 (bef ops.toList []) = true ∧ outsOk (bef ops.toList []) U = true ∧ evsOk (earlyM 0 (bef ops.toList []) 0) U (bef ops.toList []) 0 rs = true ∧
      (earlyE T E call ops st.heap (earlyM 0 (bef ops.toList []) 0) U (bef ops.toList []) (ops.toList.take (earlyM 0 (bef ops.toList []) 0)) [] st.tmps).run = some rs ∧
      (stepsE T E call ops (ops.toList.drop (earlyM 0 (bef ops.toList []) 0)) { tmps := tmAt (ops.toList.take (earlyM 0 (bef ops.toList []) 0)) rs st.tmps, heap := outL (earlyM 0 (bef ops.toList []) 0) rs allYes st.heap U st.heap ++ newsL (earlyM 0 (bef ops.toList []) 0) rs allYes }).run = some st' := by
    unfold drawnE at h
    simp only at h
    split at h
    · rename_i hc1
      simp only [Bool.and_eq_true] at hc1
      obtain ⟨rs, h1, h2⟩ := Tree.run_bind h
      split at h2
      · rename_i hr
        refine ⟨_, rs, checked_of ?_ hc1.1, hc1.2.1, hc1.2.2, hr, h1, ?_⟩
        · have := earlyM_le (bef ops.toList []) 0 0 (Nat.le_refl _)
          rw [bef_length] at this; simpa using this
        · have e : newsEnd (earlyM 0 (bef ops.toList []) 0) rs = newsL (earlyM 0 (bef ops.toList []) 0) rs allYes := by
            unfold newsEnd
            split
            · rename_i hn
              unfold newsL
              have : ∀ k, evAt allYes k 0 rs none = none := fun k => noEv_spec hn allYes k 0 none
              simp only [this]
              rw [List.map_const', List.length_range]
            · rfl
          rw [e] at h2; exact h2
      · simp [Tree.run] at h2
    · simp [Tree.run] at h
  generalize hbb : bef ops.toList [] = b at *
  generalize hmm : earlyM 0 b 0 = m at *
  have hmn : m ≤ ops.size := by
    have := earlyM_le b 0 0 (Nat.le_refl _)
    rw [hmm, ← hbb, bef_length] at this; simpa using this
  obtain ⟨xs, hxs, hlen, hsteps⟩ := earlyE_spec _ _ _ _ hearly
  simp only [List.nil_append] at hxs; subst hxs
  simp only [List.length_nil, Nat.zero_add, List.nil_append] at hsteps
  have hlm : (ops.toList.take m).length = m := by simp; omega
  have hrsm : rs.length = m := by omega
  have hev : EvsFine (ops.toList.take m).length b rs := by
    intro j x k c hj hx hk
    have := evsOk_fine rs 0 hevs j x k c hj hx (by rwa [hlm] at hk)
    simpa using this
  have hout : ∀ j x k c, rs[j]? = some x → x.2 = some (k, c) → (ops.toList.take m).length ≤ k → (j, k - (ops.toList.take m).length) ∈ U := by
    intro j x k c hj hx hk
    rw [hlm] at hk ⊢
    have := evsOk_out rs 0 hevs j x k c hj hx hk
    simpa using this
  have hlow : ∀ k j, (b.getD k 0).testBit j = true → j < k := by
    intro k j hj
    have := lowBits_spec b 0 hlowb k j hj
    omega
  refine wp_region_any hm ?_
  have frame_late : ∀ (k : Nat), (∀ t, (∀ o ∈ ops.toList, o.dst ≠ some t) → ∀ o ∈ ops.toList.drop k, o.dst ≠ some t) := fun k t ht o ho => ht o (List.mem_of_mem_drop ho)
  -- the invariant
  have main : ∀ (fuel : Nat) (listed : Array Bool), listed.size = ops.size → (List.range ops.size).countP (fun i => !isL listed i) ≤ fuel →
      (∀ j, isL listed j = true → ∀ k, (b.getD j 0).testBit k = true → isL listed k = true) →
      ∀ (ρ1 : Names) (Φ1 : Nat → Prop) (a1 : Act) (w1 : World), Grow ρ Φ w ρ1 Φ1 w1 →
      ((∃ k, k < m ∧ isL listed k = false) ∧ (∀ k, m ≤ k → isL listed k = false) ∧ RepE U (ops.toList.take m) rs st.tmps a st.heap (isL listed) ρ1 Φ1 a1 w1 ∨
        ∃ (k : Nat) (stk : St), m ≤ k ∧ k ≤ ops.size ∧ (∀ i, isL listed i = true ↔ i < k) ∧ Sat ρ1 Φ1 stk a1 w1 ∧ (∀ t, (∀ o ∈ ops.toList, o.dst ≠ some t) → a1.tmps[t]? = a.tmps[t]?) ∧ (stepsE T E call ops (ops.toList.drop k) stk).run = some st') →
      wpAny P .any ops Q fuel listed a1 w1 := by
    intro fuel
    induction fuel with
    | zero =>
      intro listed hsz hcount hcl ρ1 Φ1 a1 w1 hg1 hor
      have hall : ∀ i, i < ops.size → isL listed i = true := by
        intro i hi
        have h0 : (List.range ops.size).countP (fun i => !isL listed i) = 0 := by omega
        rw [List.countP_eq_zero] at h0
        have := h0 i (List.mem_range.2 hi)
        simpa using this
      refine ⟨?_, ?_⟩
      · rcases hr : Region.ready .any ops listed with _ | ⟨i, r⟩
        · rfl
        · have hi : i ∈ Region.ready .any ops listed := by rw [hr]; simp
          obtain ⟨h1, h2, _⟩ := (ready_spec hsz).1 hi
          rw [hall i h1] at h2; cases h2
      · rcases hor with ⟨⟨k, hk, hk2⟩, _⟩ | ⟨k, stk, hmk, hkn, hiff, hsat, hfr, hrun⟩
        · rw [hall k (by omega)] at hk2; cases hk2
        · have : k = ops.size := by
            rcases Nat.lt_or_ge k ops.size with hlt | hge
            · have := (hiff k).1 (hall k hlt); omega
            · omega
          subst this
          rw [List.drop_of_length_le (by simp)] at hrun
          simp only [stepsE, Tree.run, Option.some.injEq] at hrun
          subst hrun
          exact hQ ρ1 Φ1 a1 w1 hg1 hsat hfr
    | succ fuel ih =>
      intro listed hsz hcount hcl ρ1 Φ1 a1 w1 hg1 hor
      refine ⟨?_, ?_⟩
      · intro hnil
        have hall : ∀ i, i < ops.size → isL listed i = true := by
          intro i
          induction i using Nat.strongRecOn with
          | _ i ihi =>
            intro hi
            cases hLi : isL listed i with
            | true => rfl
            | false =>
              have : i ∈ Region.ready .any ops listed := by
                refine (ready_spec hsz).2 ⟨hi, hLi, ops[i], Array.getElem?_eq_getElem hi, ?_⟩
                intro e he hb
                have hlt := hck.edges i ops[i] (Array.getElem?_eq_getElem hi) e he hb
                exact ihi e.on hlt (by omega)
              rw [hnil] at this; cases this
        rcases hor with ⟨⟨k, hk, hk2⟩, _⟩ | ⟨k, stk, hmk, hkn, hiff, hsat, hfr, hrun⟩
        · rw [hall k (by omega)] at hk2; cases hk2
        · have : k = ops.size := by
            rcases Nat.lt_or_ge k ops.size with hlt | hge
            · have := (hiff k).1 (hall k hlt); omega
            · omega
          subst this
          rw [List.drop_of_length_le (by simp)] at hrun
          simp only [stepsE, Tree.run, Option.some.injEq] at hrun
          subst hrun
          exact hQ ρ1 Φ1 a1 w1 hg1 hsat hfr
      · intro i hi
        obtain ⟨hin, hLi, o, ho, hafter⟩ := (ready_spec hsz).1 hi
        have hsz' : (listed.setIfInBounds i true).size = ops.size := by simpa using hsz
        have hL' : isL (listed.setIfInBounds i true) = more (isL listed) i := isL_set (by omega)
        have hoL : ops.toList[i]? = some o := by simpa using ho
        have hbi : ∀ k, (b.getD i 0).testBit k = true → isL listed k = true := by
          intro k hk
          rw [← hbb] at hk
          obtain ⟨e, he, hb, hor2⟩ := bef_spec hoL hk
          rcases hor2 with rfl | hk2
          · exact hafter e he hb
          · rw [hbb] at hk2
            exact hcl e.on (hafter e he hb) k hk2
        have hcl' : ∀ j, isL (listed.setIfInBounds i true) j = true → ∀ k, (b.getD j 0).testBit k = true → isL (listed.setIfInBounds i true) k = true := by
          rw [hL']
          intro j hj k hk
          simp only [more, Bool.or_eq_true, beq_iff_eq] at hj ⊢
          rcases hj with rfl | hj
          · exact .inr (hbi k hk)
          · exact .inr (hcl j hj k hk)
        have hcount' : (List.range ops.size).countP (fun j => !isL (listed.setIfInBounds i true) j) ≤ fuel := by
          have := countP_lt (p := fun j => !isL listed j) (p' := fun j => !isL (listed.setIfInBounds i true) j) (i := i) (by
            intro j hj
            rw [hL'] at hj
            simp [more] at hj
            simp [hj.2]) (by simp [hLi]) (by rw [hL']; simp [more]) (List.range ops.size) (List.mem_range.2 hin)
          omega
        -- the operation
        have hnext : ∀ (ρ2 : Names) (Φ2 : Nat → Prop) (a2 : Act) (w2 : World), Grow ρ1 Φ1 w1 ρ2 Φ2 w2 →
            ((∃ k, k < m ∧ more (isL listed) i k = false) ∧ (∀ k, m ≤ k → more (isL listed) i k = false) ∧ RepE U (ops.toList.take m) rs st.tmps a st.heap (more (isL listed) i) ρ2 Φ2 a2 w2 ∨
              ∃ (k : Nat) (stk : St), m ≤ k ∧ k ≤ ops.size ∧ (∀ j, more (isL listed) i j = true ↔ j < k) ∧ Sat ρ2 Φ2 stk a2 w2 ∧ (∀ t, (∀ o ∈ ops.toList, o.dst ≠ some t) → a2.tmps[t]? = a.tmps[t]?) ∧ (stepsE T E call ops (ops.toList.drop k) stk).run = some st') →
            wpAny P .any ops Q fuel (listed.setIfInBounds i true) a2 w2 := by
          intro ρ2 Φ2 a2 w2 hg2 hor2
          rw [← hL'] at hor2
          exact ih _ hsz' hcount' hcl' ρ2 Φ2 a2 w2 (hg1.trans hg2) hor2
        unfold wpOp
        simp only [ho]
        have wrap : (if Region.wanted o (yielded ops a1.tmps) then o.wp P a1 w1 (wpAny P .any ops Q fuel (listed.setIfInBounds i true)) Q else wpAny P .any ops Q fuel (listed.setIfInBounds i true) (a1.put o.dst undef) w1) →
            (if Region.wanted o (yielded ops a1.tmps) then o.wp P a1 w1 (wpAny P .any ops Q fuel (listed.setIfInBounds i true)) Q ∨ (o.asks P a1 w1 ∧ LetsOut Q) else wpAny P .any ops Q fuel (listed.setIfInBounds i true) (a1.put o.dst undef) w1) := by
          intro hh
          split at hh
          · rename_i hw; rw [if_pos hw]; exact .inl hh
          · rename_i hw; rw [if_neg hw]; exact hh
        apply wrap
        rcases hor with ⟨⟨k, hk, hk2⟩, hnolate, hrep⟩ | ⟨k, stk, hmk, hkn, hiff, hsat, hfr, hrun⟩
        · -- one of the early ones
          have him : i < m := by
            rcases Nat.lt_or_ge i m with hlt | hge
            · exact hlt
            · have := hbi k (hck.late i hge hin k (by omega))
              rw [this] at hk2; cases hk2
          have hoT : (ops.toList.take m)[i]? = some o := by rw [List.getElem?_take, if_pos him]; exact hoL
          obtain ⟨x0, x, hx, hxa, hxb, hst⟩ := hsteps i o hoT
          refine early_sound hcall hE hck.fine hlen hev hout hUok hlow hrep hcl hoT hx hxa hxb hLi hbi (by rw [hlm]; exact hst) ?_
          intro ρ2 Φ2 v w2 hg2 hrep2
          refine hnext ρ2 Φ2 _ w2 hg2 ?_
          by_cases hdone : ∃ j, j < m ∧ more (isL listed) i j = false
          · refine .inl ⟨hdone, ?_, hrep2⟩
            intro j hj
            have h1 := hnolate j hj
            have h2 : ¬ j = i := by omega
            simp [more, h1, h2]
          · have hall : ∀ j, j < m → more (isL listed) i j = true := by
              intro j hj
              cases hmj : more (isL listed) i j with
              | true => rfl
              | false => exact absurd ⟨j, hj, hmj⟩ hdone
            refine .inr ⟨m, { tmps := tmAt (ops.toList.take m) rs st.tmps, heap := outL m rs allYes st.heap U st.heap ++ newsL m rs allYes }, Nat.le_refl _, hmn, ?_, ?_, ?_, hlate⟩
            · intro j
              constructor
              · intro hj
                rcases Nat.lt_or_ge j m with hlt | hge
                · exact hlt
                · have h1 := hnolate j hge
                  have h2 : ¬ j = i := by omega
                  simp [more, h1, h2] at hj
              · exact hall j
            · refine ⟨hrep2.defers, by rw [tmAt_length]; exact hrep2.size, ?_, ?_⟩
              · intro t s hts
                have htl : t < st.tmps.length := by
                  have := Tm.lt_of_get hts
                  rwa [tmAt_length] at this
                obtain ⟨v', hv, hor3⟩ := hrep2.slot t st.tmps[t] (Tm.get_of_lt htl)
                refine ⟨v', hv, ?_⟩
                rcases tmAt_get _ _ _ t s hlen hts with ⟨j, oj, y, h1, h2, h3, h4⟩ | ⟨h1, h2⟩
                · rcases hor3 with ⟨j', oj', y', _, h1', h2', h3', h4'⟩ | ⟨hno, _⟩
                  · by_cases hjj : j = j'
                    · subst hjj
                      rw [h2] at h2'
                      simp only [Option.some.injEq] at h2'
                      subst h2'; subst h4; exact h4'
                    · exact absurd h3' (hck.fine.pair j' j oj' oj t h1' h1 (fun e => hjj e.symm) h3).1
                  · have hjm : j < m := by
                      have := (List.getElem?_eq_some_iff.1 h1).1
                      simp at this; omega
                    exact absurd h3 (hno j oj (hall j hjm) h1)
                · rcases hor3 with ⟨j', oj', y', _, h1', h2', h3', h4'⟩ | ⟨_, hok⟩
                  · exact absurd h3' (h1 j' oj' h1')
                  · rw [Tm.get_of_lt htl] at h2
                    simp only [Option.some.injEq] at h2
                    subst h2; exact hok
              · have := hrep2.rel
                rw [hlm] at this
                have e : newsL m rs (more (isL listed) i) = newsL m rs allYes := by
                  unfold newsL
                  apply List.map_congr_left
                  intro k _
                  refine evAt_congr _ _ _ fun j y c hj _ => ?_
                  have hjm : j < m := by have := (List.getElem?_eq_some_iff.1 hj).1; omega
                  simp only [Nat.zero_add]
                  rw [hall j hjm]; rfl
                have e2 : outL m rs (more (isL listed) i) st.heap U st.heap = outL m rs allYes st.heap U st.heap := by
                  refine outL_congr _ _ fun j x hj => ?_
                  have hjm : j < m := by have := (List.getElem?_eq_some_iff.1 hj).1; omega
                  rw [hall j hjm]; rfl
                rw [e, e2] at this
                exact this
            · intro t ht
              exact hrep2.frame t (fun o' ho' => ht o' (List.mem_of_mem_take ho'))
        · -- one of the others: the next
          have hik : i = k := by
            have h1 : ¬ i < k := fun hlt => by rw [(hiff i).2 hlt] at hLi; cases hLi
            rcases Nat.lt_or_ge k i with hlt | hge
            · have := hbi k (hck.late i (by omega) hin k hlt)
              have := (hiff k).1 this; omega
            · omega
          subst hik
          have hdrop : ops.toList.drop i = o :: ops.toList.drop (i + 1) := by
            have hlt : i < ops.toList.length := by simpa using hin
            rw [List.drop_eq_getElem_cons hlt]
            congr 1
            rw [List.getElem?_eq_getElem hlt] at hoL
            simpa using hoL
          rw [hdrop] at hrun
          simp only [stepsE] at hrun
          obtain ⟨st1, h1, h2⟩ := Tree.run_bind hrun
          obtain ⟨st2, h3, hst2⟩ := forkSt_run h2
          refine stepE_sound hcall hE hsat h1 ?_
          intro ρ2 Φ2 v w2 hg2 hs2
          refine hnext ρ2 Φ2 _ w2 hg2 (.inr ⟨i + 1, st2, by omega, by omega, ?_, hst2 _ _ _ _ hs2, ?_, h3⟩)
          · intro j
            simp only [more, Bool.or_eq_true, beq_iff_eq, hiff]
            omega
          · intro t ht
            rw [put_frame _ _ _ _ (ht o (List.mem_of_getElem? hoL))]
            exact hfr t ht
  have hfalse : ∀ i, isL (Array.replicate ops.size false) i = false := by
    intro i; unfold isL
    rw [Array.getD_eq_getD_getElem?, Array.getElem?_replicate]
    split <;> rfl
  have gd : Grow ρ Φ w ρ Φ { w with drawn := w.drawn + 1 } := Grow.world (Ext.refl _ _).drew (fun _ _ _ => rfl)
  refine main ops.size _ (by simp) ?_ ?_ ρ Φ a _ gd ?_
  · have := List.countP_le_length (p := fun i => !isL (Array.replicate ops.size false) i) (l := List.range ops.size)
    simpa using this
  · intro j hj; rw [hfalse] at hj; cases hj
  · have hnone : ∀ L : Nat → Bool, (∀ i, L i = false) → ∀ (k : Nat) (c : Blk), hget (outL m rs L st.heap U st.heap ++ newsL m rs L) k = some c → hget st.heap k = some c := by
      intro L hL k c hk
      rw [hget_iff] at hk
      rcases Nat.lt_or_ge k st.heap.length with hlt | hge
      · rw [List.getElem?_append_left (by rw [outL_length]; exact hlt)] at hk
        rcases outL_get (m := m) (rs := rs) (L := L) (H0 := st.heap) U st.heap k hlt with ⟨h3, _⟩ | ⟨h3, _⟩
        · rw [h3, evAt_skip _ _ _ (fun i x b _ _ => hL _)] at hk
          simpa using hk
        · rw [h3] at hk; exact hget_iff.2 hk
      · rw [List.getElem?_append_right (by rw [outL_length]; exact hge), outL_length] at hk
        refine hget_iff.2 ?_
        have hkl : k - st.heap.length < m := by
          have := (List.getElem?_eq_some_iff.1 hk).1; simpa [newsL_length] using this
        rw [newsL_get hkl, evAt_skip _ _ _ (fun i x b _ _ => hL _)] at hk
        simp at hk
    have hr := hs.rel.drew
    have slots : ∀ (t : Nat) (s0 : Slot), st.tmps[t]? = some s0 → ∃ v, a.tmps[t]? = some v ∧ s0.ok ρ Φ { w with drawn := w.drawn + 1 } v := by
      intro t s0 ht
      obtain ⟨v, hv, hok⟩ := hs.slot t s0 ht
      exact ⟨v, hv, Slot.ok_mono gd hok⟩
    rcases Nat.eq_zero_or_pos m with h0 | h0
    · subst h0
      refine .inr ⟨0, { tmps := tmAt (ops.toList.take 0) rs st.tmps, heap := outL 0 rs allYes st.heap U st.heap ++ newsL 0 rs allYes }, by omega, by omega, ?_, ?_, fun t _ => rfl, ?_⟩
      · intro i; rw [hfalse]; simp
      · have : rs = [] := List.length_eq_zero_iff.1 hrsm
        subst this
        simp only [List.take_zero, tmAt, newsL, List.range_zero, List.map_nil, List.append_nil]
        refine ⟨hs.defers, hs.size, slots, hr.sub (fun k c hk => ?_) (by rw [outL_length]; exact Nat.le_refl _)⟩
        refine hnone allYes' (fun _ => rfl) k c ?_
        rw [hget_iff] at hk ⊢
        have e : outL 0 ([] : List Res) allYes st.heap U st.heap = outL 0 ([] : List Res) allYes' st.heap U st.heap := outL_congr _ _ fun j x hj => by simp at hj
        rw [e] at hk
        rw [List.getElem?_append_left (by have := (List.getElem?_eq_some_iff.1 hk).1; exact this)]
        exact hk
      · exact hlate
    · refine .inl ⟨⟨0, h0, hfalse 0⟩, fun k _ => hfalse k, ⟨hs.defers, hs.size, ?_, fun t _ => rfl, ?_, ?_⟩⟩
      · intro t s0 ht
        obtain ⟨v, hv, hok⟩ := slots t s0 ht
        exact ⟨v, hv, .inr ⟨fun j o hj => (by rw [hfalse] at hj; cases hj), hok⟩⟩
      · intro k _
        cases hρ : ρ (st.heap.length + k) with
        | none => rfl
        | some x => have := hs.rel.dom _ _ hρ; omega
      · rw [hlm]
        exact hr.sub (hnone _ hfalse) (by simp [outL_length])

/-! ### Ways that meet again -/
theorem tmAt_other : ∀ (l : List Oper) (rs : List Res) (tm : Tm) (t : Nat), (∀ o ∈ l, o.dst ≠ some t) → (tmAt l rs tm)[t]? = tm[t]?
  | [], rs, tm, t, _ => by simp [tmAt]
  | o :: l, [], tm, t, _ => by simp [tmAt]
  | o :: l, x :: rs, tm, t, h => by
    simp only [tmAt]
    rw [tmAt_other l rs _ t (fun o' ho' => h o' (by simp [ho'])), putS_other (h o (by simp))]

/-- A region that draws its order; its ways meet again, where they can. -/
def meetD (T : Tab) (E : Env) (call : CallE) (ops : Array Oper) (st : St) : Tree St :=
  match meets E ops && (orderOk ops (bef ops.toList []) (earlyM 0 (bef ops.toList []) 0) && (lowBits 0 (bef ops.toList []) && outsOk (bef ops.toList []) (outsOf ops.toList st.heap.length st.tmps 0 (ops.toList.take (earlyM 0 (bef ops.toList []) 0))))) with
  | true => match mergeT (dstsOf ops.toList) ((earlyE T E call ops st.heap (earlyM 0 (bef ops.toList []) 0) (outsOf ops.toList st.heap.length st.tmps 0 (ops.toList.take (earlyM 0 (bef ops.toList []) 0))) (bef ops.toList []) (ops.toList.take (earlyM 0 (bef ops.toList []) 0)) [] st.tmps).bind fun rs => match evsOk (earlyM 0 (bef ops.toList []) 0) (outsOf ops.toList st.heap.length st.tmps 0 (ops.toList.take (earlyM 0 (bef ops.toList []) 0))) (bef ops.toList []) 0 rs && noEv rs with
      | true => stepsP T E ops (st.heap ++ List.replicate (earlyM 0 (bef ops.toList []) 0) none) (ops.toList.drop (earlyM 0 (bef ops.toList []) 0)) (tmAt (ops.toList.take (earlyM 0 (bef ops.toList []) 0)) rs st.tmps)
      | false => .bad "it turns something") with
    | some (n, ls) => needO n (.ret ⟨putAll st.tmps (dstsOf ops.toList) ls, st.heap ++ List.replicate (earlyM 0 (bef ops.toList []) 0) none⟩)
    | none => drawnE T E call ops st
  | false => drawnE T E call ops st
theorem outL_noEv {m : Nat} {rs : List Res} {L : Nat → Bool} {H0 : Hp} (h : noEv rs = true) : ∀ (V : Outs) (H : Hp), (∀ k b, H[k]? = some b → hget H0 k = b) → outL m rs L H0 V H = H
  | [], H, _ => rfl
  | (_, q) :: r, H, hH => by
    simp only [outL]
    rw [noEv_spec h]
    have e : H.set q (hget H0 q) = H := by
      apply List.ext_getElem?
      intro k
      rw [List.getElem?_set]
      by_cases hk : q = k
      · subst hk
        by_cases hl : q < H.length
        · rw [if_pos rfl, if_pos hl, List.getElem?_eq_getElem hl, hH q _ (List.getElem?_eq_getElem hl)]
        · rw [if_pos rfl, if_neg hl, List.getElem?_eq_none (by omega)]
      · rw [if_neg hk]
    rw [e]
    exact outL_noEv h r H hH
theorem meetD_run {ops : Array Oper} {st st' : St} (h : (meetD T E call ops st).run = some st') : ∃ st1, (drawnE T E call ops st).run = some st1 ∧ ∀ (ρ : Names) (Φ : Nat → Prop) (a : Act) (w : World), Sat ρ Φ st1 a w → Sat ρ Φ st' a w := by
  unfold meetD at h
  split at h
  · rename_i hc
    simp only [Bool.and_eq_true] at hc
    obtain ⟨_, hc1, hc2⟩ := hc
    split at h
    · rename_i n ls hm
      obtain ⟨hn, h1⟩ := needO_run h
      simp only [Tree.run, Option.some.injEq] at h1; subst h1
      obtain ⟨tm, h2, h3⟩ := mergeT_run hm hn
      obtain ⟨rs, h4, h5⟩ := Tree.run_bind h2
      split at h5
      · rename_i he
        simp only [Bool.and_eq_true] at he
        obtain ⟨h6, h7, h8⟩ := stepsP_run (call := call) h5
        refine ⟨⟨tm, st.heap ++ List.replicate (earlyM 0 (bef ops.toList []) 0) none⟩, ?_, fun ρ Φ a w hs => hs.merged (h7.trans (tmAt_length ..)) (fun t ht => ?_) h3 (mergeT_len hm)⟩
        · unfold drawnE
          simp only [hc1, hc2.1, hc2.2, Bool.and_self]
          rw [Tree.bind_run h4]
          simp only [he.1]
          rw [outL_noEv he.2 _ _ (fun k b hk => by unfold hget; rw [hk]; cases b <;> rfl)]
          unfold newsEnd
          rw [he.2]
          exact h6
        · have hd := not_dst ht
          rw [h8 t (fun o ho => hd o (List.mem_of_mem_drop ho)), tmAt_other _ _ _ _ (fun o ho => hd o (List.mem_of_mem_take ho))]
      · simp [Tree.run] at h5
    · exact ⟨st', h, fun _ _ _ _ h => h⟩
  · exact ⟨st', h, fun _ _ _ _ h => h⟩
theorem meetD_good (hm : P.follows .mixedOrders = true) (hcall : GoodCall P call) (hE : GoodEnv P E) : GoodDrawn P (meetD T E call) := by
  intro ops id ρ Φ w st a st' Q hs h hQ
  obtain ⟨st1, h1, h2⟩ := meetD_run h
  exact drawnE_good hm hcall hE ops id ρ Φ w st a st1 Q hs h1 (fun ρ' Φ' a' w' g hs' hf => hQ ρ' Φ' a' w' g (h2 _ _ _ _ hs') hf)

/-! ### A function, whole -/

/-- The calls of a program. -/
def callF (T : Tab) (E : Env) (rounds depth : Nat) : CallE := callE T E (meetD T E) rounds depth

theorem callF_good (hm : P.follows .mixedOrders = true) (hE : GoodEnv P E) (rounds depth : Nat) : GoodCall P (callF T E rounds depth) :=
  callE_good hE (fun c hc => meetD_good hm hc hE) rounds depth

/-- A piece of code of a function, by its run. -/
theorem execF_good (hm : P.follows .mixedOrders = true) (hE : GoodEnv P E) (rounds depth : Nat) {f : FuncId} {fn : Func} {c : Code} (hfn : P.funcs[f]? = some fn) (hc : fn.body = some c) {i : Nat} {body : Code} (hi : loopAt c i = some body)
    (hL : ∀ j x run, loopAt body j = some x → E.loops f (i + 1 + j) = some run → GoodCode P (.loop x) run) :
    GoodCode P body (execE T E (callF T E rounds depth) (meetD T E (callF T E rounds depth)) (E.loops f) rounds body (i + 1)) :=
  execE_good (callF_good hm hE rounds depth) hE (meetD_good hm (callF_good hm hE rounds depth) hE) rounds body (i + 1) hL
end
end Go.Sy
