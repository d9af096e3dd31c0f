/-
  HailOne: each round keeps what holds.
  No statement of the seat is proved here. Conditions: none.
-/
import Derived.Test.YtdfdjikkgmclfaaY25
import Derived.Test.YtdfdjikkgmclfaaTab16
import Derived.Test.YtdfdjikkgmclfaaON16
import Derived.Test.YtdfdjikkgmclfaaONL
set_option linter.unusedSimpArgs false
set_option linter.unusedVariables false
set_option maxRecDepth 100000
set_option maxHeartbeats 8000000
namespace Go.Proofs.Ytdfdjikkgmclfaa
open Go.Sy Go.RowKit
/-- A round ends in a state that is told alike. -/
def Good1 (how_nl : Bool) (how : List D) (i : Int) (T : Tree (Ex × St)) : Prop :=
  ∃ (boot epoch c2 c3 g2 : Int) (wire b : List D) (wn ln : Bool), OneI boot epoch (i + 1) c2 c3 g2 wire b ∧ T.run = some (.normal, one0_tm how_nl how boot epoch true (i + 1) 4 epoch c2 c3 4 boot g2 wn wire ln b)
section
variable {how_nl : Bool} {how : List D} {boot epoch i c2 c3 g2 : Int} {wire b : List D}
theorem Good1.ite {c : Bool} {A B : Tree (Ex × St)} (h1 : c = true → Good1 how_nl how i A) (h0 : c = false → Good1 how_nl how i B) : Good1 how_nl how i (.ite c A B) := by
  unfold Good1
  simp only [Tree.run_ite']
  cases c
  · exact h0 rfl
  · exact h1 rfl
theorem Good1.iteF {c : Bool} {A B : Tree (Ex × St)} (hc : c = false) (h0 : Good1 how_nl how i B) : Good1 how_nl how i (.ite c A B) := Good1.ite (fun h => by rw [hc] at h; cases h) (fun _ => h0)
theorem Good1.iteT {c : Bool} {A B : Tree (Ex × St)} (hc : c = true) (h0 : Good1 how_nl how i A) : Good1 how_nl how i (.ite c A B) := Good1.ite (fun _ => h0) (fun h => by rw [hc] at h; cases h)
theorem Good1.need {c : Bool} {A : Tree (Ex × St)} (hc : c = true) (h : Good1 how_nl how i A) : Good1 how_nl how i (.need c A) := by
  unfold Good1
  simp only [Tree.run_need', hc]
  exact h
theorem Good1.fin {A N : Tree (Ex × St)} {c3 e : Int} {b : List D} (hl : b.length = 256) (h0 : 0 ≤ e) (h1 : e < 256) (ho : c3 = 2 → byA b e ≠ 0) (hN : Good1 how_nl how i N) :
    Good1 how_nl how i (.ite (c3 == 2) (.need (decide (0 ≤ e) && decide (e < ((b.length : Nat) : Int)) && decide (e < 256)) (.ite ((b.getD e.toNat default).int == 0) A N)) N) := by
  refine Good1.ite (fun h => ?_) (fun _ => hN)
  have h2 : c3 = 2 := by simpa using h
  refine Good1.need (by simp; omega) (Good1.iteF ?_ hN)
  have := ho h2
  unfold byA at this
  simpa using this
theorem c1_mem (hw : wire.length ≠ 0) : one0_c1 how i wire ∈ wire ∧ 0 ≤ Int.tmod (IntKind.wrap IntKind.i64 (Int.tdiv (bringI (D.int (List.getD how (Int.toNat i) default)) 400) 8)) (wire.length : Nat) ∧ Int.tmod (IntKind.wrap IntKind.i64 (Int.tdiv (bringI (D.int (List.getD how (Int.toNat i) default)) 400) 8)) (wire.length : Nat) < (wire.length : Nat) := by
  obtain ⟨a1, a2⟩ := bring_range (D.int (List.getD how (Int.toNat i) default)) (n := 400) (by omega) (by omega)
  unfold one0_c1
  generalize bringI (D.int (List.getD how (Int.toNat i) default)) 400 = X at *
  have e1 : Int.tdiv X 8 = X / 8 := Int.tdiv_eq_ediv_of_nonneg a1
  have w : IntKind.wrap IntKind.i64 (Int.tdiv X 8) = X / 8 := by rw [e1]; exact wrap64 (by omega) (by omega)
  rw [w]
  have e2 : Int.tmod (X / 8) (wire.length : Nat) = (X / 8) % (wire.length : Nat) := Int.tmod_eq_emod_of_nonneg (by omega)
  rw [e2]
  have p1 : 0 ≤ (X / 8) % ((wire.length : Nat) : Int) := Int.emod_nonneg _ (by omega)
  have p2 : (X / 8) % ((wire.length : Nat) : Int) < (wire.length : Nat) := Int.emod_lt_of_pos _ (by omega)
  refine ⟨?_, p1, p2⟩
  rw [getD_at (by omega)]
  exact List.getElem_mem _
theorem gin_facts {x : D} {R : GIn} (hR : R = ⟨4, boot, g2, kdS x, (x.at 1).int, (x.at 2).int, (x.at 3).int, epS x, boS x, (x.at 6).int, (x.at 7).int, (x.at 8).xs.length⟩) :
    (R.sy = true → kdS x = 3 ∧ boS x = boot ∧ g2 ≤ epS x ∧ R.g = epS x ∧ R.e = epS x ∧ R.k = 4) ∧ (R.sy = false → R.g = g2 ∧ R.on = false ∧ R.k ≠ 3 ∧ R.k ≠ 4) ∧ R.on = (R.sy && decide (epS x > g2)) := by
  have hsy : R.sy = true → kdS x = 3 ∧ boS x = boot ∧ g2 ≤ epS x := by
    intro h
    subst hR
    simp only [GIn.sy, syB, Bool.and_eq_true, beq_iff_eq, Bool.not_eq_true', decide_eq_false_iff_not] at h
    exact ⟨h.2.2.1, h.2.2.2.1, by have := h.2.2.2.2; omega⟩
  refine ⟨fun h => ?_, fun h => ?_, by subst hR; rfl⟩
  · obtain ⟨q1, q2, q3⟩ := hsy h
    have hhe : R.he = false := by
      subst hR
      simp only [GIn.he, heB]
      have : (kdS x == 1) = false := by rw [q1]; rfl
      rw [this]; simp
    refine ⟨q1, q2, q3, ?_, ?_, ?_⟩
    · unfold GIn.g; rw [h, cond_true]; subst hR; rfl
    · unfold GIn.e ansN; rw [h, cond_true]; subst hR; rfl
    · unfold GIn.k ansK; rw [h, hhe]; rfl
  · refine ⟨?_, ?_, ?_, ?_⟩
    · unfold GIn.g; rw [h, cond_false]; subst hR; rfl
    · unfold GIn.on; rw [h]; rfl
    · unfold GIn.k ansK; rw [h]; cases R.he <;> decide
    · unfold GIn.k ansK; rw [h]; cases R.he <;> decide
theorem one_good (I : OneI boot epoch i c2 c3 g2 wire b) (wn ln : Bool) (h1 : i < (how.length : Nat)) (h2 : i < 200) :
    Good1 how_nl how i (roundC (bodyF tab (envOf (P := Try.prog) [bring_pc, works_pc, check_pc] [says_ct, ctk_ct, gtk_ct, epoch_ct, open_ct] []) 20 12 3 0 (loopOf (codeOf Try.f3) 0)) one0_lp (one0_tm how_nl how boot epoch true i 4 epoch c2 c3 4 boot g2 wn wire ln b)) := by
  have hb := I.hb; have he := I.he; have hi := I.hi; have hc := I.hc; have hg := I.hg; have hw := I.hw
  have w1 : IntKind.wrap .i64 (i + 1) = i + 1 := wrap64 (by omega) (by omega)
  have wb : IntKind.wrap .i64 (boot + 1) = boot + 1 := wrap64 (by omega) (by omega)
  have we : IntKind.wrap .i64 (epoch + 1) = epoch + 1 := wrap64 (by omega) (by omega)
  have z4 : ((4 : Int) == 0) = false := rfl
  have z256 : ((256 : Int) == 0) = false := rfl
  have z400 : ((400 : Int) == 0) = false := rfl
  have mem := fun hw => c1_mem (how := how) (i := i) (wire := wire) hw
  have hroom : (decide ((wire.length + 1) * 88 ≤ 140737488355328) && decide (wire.length + 1 ≤ 4611686018427387904)) = true := by simp; omega
  rw [one0_round]
  delta one0_c5 one0_c6 one0_c7
  simp only [w1, wb, we, z4, z256, z400, cond_false, Bool.not_false]
  refine Good1.iteT (by simp; omega) (Good1.need (by simp; omega) (Good1.need rfl ?_))
  have J := I.same h2
  refine Good1.ite (fun _ => ?_) (fun _ => Good1.ite (fun _ => ?_) (fun _ => Good1.ite (fun _ => ?_) (fun _ => ?_)))
  · -- what the call says
    refine Good1.need (by simp; omega) (Good1.ite (fun hs => ?_) (fun hs => ?_))
    · have hs2 : c3 ≠ 2 := by simpa using hs
      refine Good1.need hroom (Good1.iteT rfl (Good1.fin I.hl (by omega) (by omega) I.o ?_))
      refine ⟨_, _, _, _, _, _, _, _, _, I.add h2 (fun h => ?_) (fun h => ?_), rfl⟩
      · have h' : sayK c3 = 3 := h
        have : c3 = 0 ∨ c3 = 1 := by omega
        rcases this with rfl | rfl
        · cases h'
        · exact ⟨rfl, by omega, rfl⟩
      · have h' : sayK c3 = 4 := h
        have : c3 = 0 ∨ c3 = 1 := by omega
        rcases this with rfl | rfl <;> cases h'
    · exact Good1.iteT rfl (Good1.fin I.hl (by omega) (by omega) I.o ⟨_, _, _, _, _, _, _, _, _, J, rfl⟩)
  · -- what comes
    refine Good1.ite (fun _ => Good1.iteT rfl (Good1.fin I.hl (by omega) (by omega) I.o ⟨_, _, _, _, _, _, _, _, _, J, rfl⟩)) (fun hz => ?_)
    have hz' : wire.length ≠ 0 := by
      have : ((wire.length : Nat) : Int) ≠ 0 := by simpa using hz
      omega
    obtain ⟨m1, m2, m3⟩ := mem hz'
    refine Good1.need (by rw [hz]; rfl) (Good1.need (by simp only [Bool.and_eq_true, decide_eq_true_eq]; exact ⟨m2, m3⟩) (Good1.ite (fun _ => ?_) (fun _ => ?_)))
    · have K := I.took h2 m1 (q := one0_c3 how i 4 epoch c2 c3 wire) rfl
      exact Good1.iteT rfl (Good1.fin K.hl (by omega) (by omega) K.o ⟨_, _, _, _, _, _, _, _, _, K, rfl⟩)
    · refine Good1.need rfl ?_
      obtain ⟨f1, f2, f3⟩ := gin_facts (boot := boot) (g2 := g2) (x := one0_c1 how i wire) (R := one0_c0 how i 4 boot g2 wire) rfl
      generalize hx : one0_c1 how i wire = x at m1 f1 f2 f3 ⊢
      cases hsy : (one0_c0 how i 4 boot g2 wire).sy
      · obtain ⟨q1, q2, q3, q4⟩ := f2 hsy
        have t1 : (!((one0_c0 how i 4 boot g2 wire).on == decide ((one0_c0 how i 4 boot g2 wire).g > g2))) = false := by rw [q1, q2]; simp
        have t2 : decide ((one0_c0 how i 4 boot g2 wire).g < g2) = false := by rw [q1]; simp
        refine Good1.ite (fun _ => ?_) (fun _ => ?_)
        · refine Good1.need hroom (Good1.iteF t1 (Good1.iteF t2 (Good1.iteF q2 (Good1.iteF q2 (Good1.iteT rfl (Good1.fin I.hl (by omega) (by omega) I.o ?_))))))
          rw [q1]
          exact ⟨_, _, _, _, _, _, _, _, _, I.add h2 (y := .a [.i (one0_c0 how i 4 boot g2 wire).k, .i 0, .i (one0_c0 how i 4 boot g2 wire).f, .i (one0_c0 how i 4 boot g2 wire).h, .i (one0_c0 how i 4 boot g2 wire).e, .i (one0_c0 how i 4 boot g2 wire).b, .i 0, .i 0, .l true []]) (fun h => absurd h q3) (fun h => absurd h q4), rfl⟩
        · refine Good1.iteF t1 (Good1.iteF t2 (Good1.iteF q2 (Good1.iteF q2 (Good1.iteT rfl (Good1.fin I.hl (by omega) (by omega) I.o ?_)))))
          rw [q1]
          exact ⟨_, _, _, _, _, _, _, _, _, J, rfl⟩
      · obtain ⟨q1, q2, q3, q4, q5, q6⟩ := f1 hsy
        have his : (one0_c0 how i 4 boot g2 wire).is = true := by unfold GIn.is; rw [hsy]; simp
        obtain ⟨p1, p2, _⟩ := I.s1 x m1 q1
        refine Good1.iteT his (Good1.need hroom ?_)
        by_cases hon : g2 < epS x
        · have on : (one0_c0 how i 4 boot g2 wire).on = true := by rw [f3, hsy]; simpa using hon
          have t1 : (!((one0_c0 how i 4 boot g2 wire).on == decide ((one0_c0 how i 4 boot g2 wire).g > g2))) = false := by rw [q4, on]; simpa using hon
          have t2 : decide ((one0_c0 how i 4 boot g2 wire).g < g2) = false := by rw [q4]; simp; omega
          have t3 : (D.int (D.at x 5) != boot) = false := by have : D.int (D.at x 5) = boot := q2; rw [this]; simp
          have bi : bringI (one0_c0 how i 4 boot g2 wire).g 256 = epS x := by rw [q4]; exact bring_id (by omega) (by omega)
          have hl := I.hl
          have t5 : (decide (0 ≤ bringI (one0_c0 how i 4 boot g2 wire).g 256) && decide (bringI (one0_c0 how i 4 boot g2 wire).g 256 < ((b.length : Nat) : Int)) && decide (bringI (one0_c0 how i 4 boot g2 wire).g 256 < 256)) = true := by rw [bi]; simp; omega
          have t6 : (D.int (List.getD b (Int.toNat (bringI (one0_c0 how i 4 boot g2 wire).g 256)) default) != 0) = false := by
            rw [bi]
            have := I.once m1 q1 q2 hon
            unfold byA at this
            rw [this]; rfl
          have c4e : one0_c4 how boot i 4 boot g2 wire b = b.set (epS x).toNat (.i boot) := by
            have : one0_c4 how boot i 4 boot g2 wire b = b.set (Int.toNat (bringI (one0_c0 how i 4 boot g2 wire).g 256)) (.i boot) := rfl
            rw [this, bi]
          refine Good1.iteF t1 (Good1.iteF t2 (Good1.iteT on (Good1.iteF t3 (Good1.need rfl (Good1.need t5 (Good1.iteF t6 (Good1.iteT on (Good1.need rfl (Good1.need t5 (Good1.iteT rfl ?_))))))))))
          have K := I.begun h2 (y := .a [.i (one0_c0 how i 4 boot g2 wire).k, .i 0, .i (one0_c0 how i 4 boot g2 wire).f, .i (one0_c0 how i 4 boot g2 wire).h, .i (one0_c0 how i 4 boot g2 wire).e, .i (one0_c0 how i 4 boot g2 wire).b, .i 0, .i 0, .l true []]) m1 q1 q2 hon (by show (one0_c0 how i 4 boot g2 wire).k ≠ 3; rw [q6]; decide) (fun _ => q5)
          rw [c4e]
          refine Good1.fin K.hl (by omega) (by omega) K.o ?_
          rw [q4]
          exact ⟨_, _, _, _, _, _, _, _, _, K, rfl⟩
        · have on : (one0_c0 how i 4 boot g2 wire).on = false := by rw [f3, hsy]; simp; omega
          have eg : epS x = g2 := by omega
          have t1 : (!((one0_c0 how i 4 boot g2 wire).on == decide ((one0_c0 how i 4 boot g2 wire).g > g2))) = false := by rw [q4, on, eg]; simp
          have t2 : decide ((one0_c0 how i 4 boot g2 wire).g < g2) = false := by rw [q4]; simp; omega
          refine Good1.iteF t1 (Good1.iteF t2 (Good1.iteF on (Good1.iteF on (Good1.iteT rfl (Good1.fin I.hl (by omega) (by omega) I.o ?_)))))
          rw [q4, eg]
          refine ⟨_, _, _, _, _, _, _, _, _, I.add h2 (fun h => ?_) (fun h => ?_), rfl⟩
          · have : (one0_c0 how i 4 boot g2 wire).k = 3 := h
            rw [q6] at this; cases this
          · have e5 : (one0_c0 how i 4 boot g2 wire).e = epS x := q5
            show 1 ≤ (one0_c0 how i 4 boot g2 wire).e ∧ (one0_c0 how i 4 boot g2 wire).e ≤ epoch ∧ byA b (one0_c0 how i 4 boot g2 wire).e ≠ 0
            rw [e5]
            exact ⟨p1, p2, by rw [eg]; exact I.g (by omega)⟩
  · -- the switch begins anew
    refine Good1.ite (fun _ => Good1.iteF (by simp; omega) ?_) (fun _ => Good1.iteT rfl (Good1.fin I.hl (by omega) (by omega) I.o ⟨_, _, _, _, _, _, _, _, _, J, rfl⟩))
    exact Good1.fin I.hl (by omega) (by omega) I.o ⟨_, _, _, _, _, _, _, _, _, I.newBoot h2, rfl⟩
  · -- a new call
    refine Good1.ite (fun _ => Good1.iteF (by simp; omega) ?_) (fun _ => Good1.iteT rfl (Good1.fin I.hl (by omega) (by omega) I.o ⟨_, _, _, _, _, _, _, _, _, J, rfl⟩))
    exact Good1.fin I.hl (by omega) (by omega) (fun h => by cases h) ⟨_, _, _, _, _, _, _, _, _, I.newCall h2, rfl⟩
end
end Go.Proofs.Ytdfdjikkgmclfaa
