/-
  HailOne: what holds at each round's begin.
  No statement of the seat is proved here. Conditions: none.
-/
import Derived.Test.YtdfdjikkgmclfaaY25
import Derived.Test.YtdfdjikkgmclfaaTab16
import Derived.Test.YtdfdjikkgmclfaaON16
set_option linter.unusedSimpArgs false
set_option linter.unusedVariables false
set_option maxRecDepth 100000
set_option maxHeartbeats 4000000
namespace Go.Proofs.Ytdfdjikkgmclfaa
open Go.Sy Go.RowKit
def kdS (x : D) : Int := (x.at 0).int
def epS (x : D) : Int := (x.at 4).int
def boS (x : D) : Int := (x.at 5).int
def byA (b : List D) (e : Int) : Int := (b.getD e.toNat default).int
/-- What holds: what is under way, who has begun what. -/
structure OneI (boot epoch i c2 c3 g2 : Int) (wire b : List D) : Prop where
  hb : 1 ≤ boot ∧ boot ≤ i + 1
  he : 1 ≤ epoch ∧ epoch ≤ i + 1
  hi : 0 ≤ i ∧ i ≤ 200
  hc : 0 ≤ c3 ∧ c3 < 3
  hg : 0 ≤ g2 ∧ g2 ≤ epoch
  hw : (wire.length : Int) ≤ i
  hl : b.length = 256
  s1 : ∀ x ∈ wire, kdS x = 3 → 1 ≤ epS x ∧ epS x ≤ epoch ∧ (epS x = epoch → 1 ≤ c3 ∧ boS x = c2)
  s2 : ∀ x ∈ wire, ∀ y ∈ wire, kdS x = 3 → kdS y = 3 → epS x = epS y → boS x = boS y
  b1 : ∀ e : Int, 0 ≤ e → e < 256 → byA b e ≠ 0 → byA b e ≤ boot ∧ (byA b e = boot → e ≤ g2) ∧ ∃ x ∈ wire, kdS x = 3 ∧ epS x = e ∧ boS x = byA b e
  b2 : ∀ x ∈ wire, kdS x = 4 → 1 ≤ epS x ∧ epS x ≤ epoch ∧ byA b (epS x) ≠ 0
  g : 1 ≤ g2 → byA b g2 ≠ 0
  o : c3 = 2 → byA b epoch ≠ 0
variable {how_nl : Bool} {how : List D} {boot epoch i c2 c3 g2 : Int} {wire b : List D}
theorem OneI.same (I : OneI boot epoch i c2 c3 g2 wire b) (h2 : i < 200) : OneI boot epoch (i + 1) c2 c3 g2 wire b :=
  ⟨⟨I.hb.1, by have := I.hb.2; omega⟩, ⟨I.he.1, by have := I.he.2; omega⟩, by have := I.hi; omega, I.hc, I.hg, by have := I.hw; omega, I.hl, I.s1, I.s2, I.b1, I.b2, I.g, I.o⟩
theorem OneI.newBoot (I : OneI boot epoch i c2 c3 g2 wire b) (h2 : i < 200) : OneI (boot + 1) epoch (i + 1) c2 c3 0 wire b :=
  ⟨by have := I.hb; omega, ⟨I.he.1, by have := I.he.2; omega⟩, by have := I.hi; omega, I.hc, by have := I.he; omega, by have := I.hw; omega, I.hl, I.s1, I.s2,
    fun e h0 h1 hne => by
      obtain ⟨q1, q2, q3⟩ := I.b1 e h0 h1 hne
      exact ⟨by omega, fun h => by omega, q3⟩, I.b2, fun h => by omega, I.o⟩
theorem OneI.newCall (I : OneI boot epoch i c2 c3 g2 wire b) (h2 : i < 200) : OneI boot (epoch + 1) (i + 1) 0 0 g2 wire b :=
  ⟨⟨I.hb.1, by have := I.hb.2; omega⟩, by have := I.he; omega, by have := I.hi; omega, by omega, by have := I.hg; omega, by have := I.hw; omega, I.hl,
    fun x hx hk => by obtain ⟨q1, q2, _⟩ := I.s1 x hx hk; exact ⟨q1, by omega, fun h => by omega⟩, I.s2, I.b1,
    fun x hx hk => by obtain ⟨q1, q2, q3⟩ := I.b2 x hx hk; exact ⟨q1, by omega, q3⟩, I.g, fun h => by omega⟩
/-- A segment more, that is no answer of a guest that has begun. -/
theorem OneI.add (I : OneI boot epoch i c2 c3 g2 wire b) (h2 : i < 200) {y : D} (h3 : kdS y = 3 → epS y = epoch ∧ 1 ≤ c3 ∧ boS y = c2) (h4 : kdS y = 4 → 1 ≤ epS y ∧ epS y ≤ epoch ∧ byA b (epS y) ≠ 0) : OneI boot epoch (i + 1) c2 c3 g2 (wire ++ [y]) b := by
  refine ⟨⟨I.hb.1, by have := I.hb.2; omega⟩, ⟨I.he.1, by have := I.he.2; omega⟩, by have := I.hi; omega, I.hc, I.hg, by have := I.hw; simp; omega, I.hl, ?_, ?_, ?_, ?_, I.g, I.o⟩
  · intro x hx hk
    rcases List.mem_append.1 hx with hx | hx
    · exact I.s1 x hx hk
    · simp only [List.mem_singleton] at hx; subst hx
      obtain ⟨q1, q2, q3⟩ := h3 hk
      have := I.he
      exact ⟨by omega, by omega, fun _ => ⟨q2, q3⟩⟩
  · intro x hx z hz hk hk' he
    rcases List.mem_append.1 hx with a1 | a1 <;> rcases List.mem_append.1 hz with a2 | a2
    · exact I.s2 x a1 z a2 hk hk' he
    · have e2 : z = y := by simpa using a2
      rw [e2] at he hk' ⊢
      obtain ⟨q1, q2, q3⟩ := h3 hk'
      obtain ⟨_, _, p3⟩ := I.s1 x a1 hk
      rw [(p3 (by omega)).2, q3]
    · have e1 : x = y := by simpa using a1
      rw [e1] at he hk ⊢
      obtain ⟨q1, q2, q3⟩ := h3 hk
      obtain ⟨_, _, p3⟩ := I.s1 z a2 hk'
      rw [(p3 (by omega)).2, q3]
    · have e1 : x = y := by simpa using a1
      have e2 : z = y := by simpa using a2
      rw [e1, e2]
  · intro e h0 h1 hne
    obtain ⟨q1, q2, x, q3, q4⟩ := I.b1 e h0 h1 hne
    exact ⟨q1, q2, x, List.mem_append_left _ q3, q4⟩
  · intro x hx hk
    rcases List.mem_append.1 hx with hx | hx
    · exact I.b2 x hx hk
    · simp only [List.mem_singleton] at hx; subst hx; exact h4 hk
/-- The call has taken something. -/
theorem OneI.took (I : OneI boot epoch i c2 c3 g2 wire b) (h2 : i < 200) {x : D} (hx : x ∈ wire) {q : CIn} (hq : q = ⟨4, epoch, c2, c3, kdS x, (x.at 1).int, (x.at 2).int, (x.at 3).int, epS x, boS x, (x.at 6).int, (x.at 7).int, (x.at 8).xs.length⟩) :
    OneI boot epoch (i + 1) q.c2' q.c3' g2 wire b := by
  unfold CIn.c2' CIn.c3'
  cases hh : q.hi
  · cases ha : q.aB
    · subst hq; exact I.same h2
    · have h : kdS x = 4 ∧ c3 = 1 ∧ epS x = epoch := by
        subst hq
        simp only [CIn.aB, akB, Bool.and_eq_true, beq_iff_eq] at ha
        exact ⟨ha.2.2.1, ha.2.2.2.1, ha.2.2.2.2⟩
      have J := I.same h2
      simp only [cond_true, cond_false]
      have hc2 : q.c2 = c2 := by subst hq; rfl
      rw [hc2]
      refine ⟨J.hb, J.he, J.hi, by omega, J.hg, J.hw, J.hl, fun y hy hk => ?_, J.s2, J.b1, J.b2, J.g, fun _ => ?_⟩
      · obtain ⟨p1, p2, p3⟩ := I.s1 y hy hk
        exact ⟨p1, p2, fun he => ⟨by omega, (p3 he).2⟩⟩
      · have := (I.b2 x hx h.1).2.2
        rw [h.2.2] at this; exact this
  · have h : c3 = 0 := by
      subst hq
      simp only [CIn.hi, hiB, Bool.and_eq_true, beq_iff_eq] at hh
      exact hh.2.2.2
    have J := I.same h2
    simp only [cond_true]
    refine ⟨J.hb, J.he, J.hi, by omega, J.hg, J.hw, J.hl, fun y hy hk => ?_, J.s2, J.b1, J.b2, J.g, fun h => by omega⟩
    obtain ⟨p1, p2, p3⟩ := I.s1 y hy hk
    exact ⟨p1, p2, fun he => by have := (p3 he).1; omega⟩
theorem bring_id {n : Int} (h0 : 0 ≤ n) (h1 : n < 256) : bringI n 256 = n := by
  unfold bringI
  have : Int.tmod n 256 = n := Int.tmod_eq_of_lt h0 h1
  rw [this]
  have : decide (n < 0) = false := by simp; omega
  rw [this]; rfl
theorem byA_set {e n : Int} {v : Int} (hl : b.length = 256) (h0 : 0 ≤ n) (h1 : n < 256) (he : 0 ≤ e) : byA (b.set n.toNat (.i v)) e = if e = n then v else byA b e := by
  unfold byA
  rw [List.getD_eq_getElem?_getD, List.getElem?_set, List.getD_eq_getElem?_getD]
  by_cases h : e = n
  · subst h
    rw [if_pos rfl, if_pos (by omega), if_pos rfl]; rfl
  · rw [if_neg (by omega), if_neg h]
/-- The guest has begun. -/
theorem OneI.begun (I : OneI boot epoch i c2 c3 g2 wire b) (h2 : i < 200) {x y : D} (hx : x ∈ wire) (hk : kdS x = 3) (hbo : boS x = boot) (hep : g2 < epS x) (hy : kdS y ≠ 3) (hy4 : kdS y = 4 → epS y = epS x) :
    OneI boot epoch (i + 1) c2 c3 (epS x) (wire ++ [y]) (b.set (epS x).toNat (.i boot)) := by
  obtain ⟨p1, p2, _⟩ := I.s1 x hx hk
  have he256 : epS x < 256 := by have := I.he; have := I.hi; omega
  have set_ := fun e (he : 0 ≤ e) => byA_set (b := b) (e := e) (n := epS x) (v := boot) I.hl (by omega) he256 he
  have hbt : boot ≠ 0 := by have := I.hb; omega
  refine ⟨⟨I.hb.1, by have := I.hb.2; omega⟩, ⟨I.he.1, by have := I.he.2; omega⟩, by have := I.hi; omega, I.hc, by omega, by have := I.hw; simp; omega, by rw [List.length_set]; exact I.hl, ?_, ?_, ?_, ?_, ?_, ?_⟩
  · intro z hz hkz
    rcases List.mem_append.1 hz with hz | hz
    · exact I.s1 z hz hkz
    · simp only [List.mem_singleton] at hz; subst hz; exact absurd hkz hy
  · intro z hz u hu hkz hku he
    rcases List.mem_append.1 hz with hz | hz <;> rcases List.mem_append.1 hu with hu | hu
    · exact I.s2 z hz u hu hkz hku he
    · simp only [List.mem_singleton] at hu; subst hu; exact absurd hku hy
    · simp only [List.mem_singleton] at hz; subst hz; exact absurd hkz hy
    · simp only [List.mem_singleton] at hz; subst hz; exact absurd hkz hy
  · intro e h0 h1 hne
    rw [set_ e h0] at hne ⊢
    by_cases hc : e = epS x
    · rw [if_pos hc]
      exact ⟨Int.le_refl _, fun _ => by omega, x, List.mem_append_left _ hx, hk, hc.symm, hbo⟩
    · rw [if_neg hc] at hne ⊢
      obtain ⟨q1, q2, z, q3, q4⟩ := I.b1 e h0 h1 hne
      exact ⟨q1, fun h => by have := q2 h; omega, z, List.mem_append_left _ q3, q4⟩
  · intro z hz hkz
    rcases List.mem_append.1 hz with hz | hz
    · obtain ⟨q1, q2, q3⟩ := I.b2 z hz hkz
      refine ⟨q1, q2, ?_⟩
      rw [set_ _ (by omega)]
      split
      · exact hbt
      · exact q3
    · simp only [List.mem_singleton] at hz; subst hz
      rw [hy4 hkz, set_ _ (by omega), if_pos rfl]
      exact ⟨p1, p2, hbt⟩
  · intro _
    rw [set_ _ (by omega), if_pos rfl]; exact hbt
  · intro hc
    rw [set_ _ (by have := I.he; omega)]
    split
    · exact hbt
    · exact I.o hc
/-- What has been begun once is not begun again. -/
theorem OneI.once (I : OneI boot epoch i c2 c3 g2 wire b) {x : D} (hx : x ∈ wire) (hk : kdS x = 3) (hbo : boS x = boot) (hep : g2 < epS x) : byA b (epS x) = 0 := by
  obtain ⟨p1, p2, _⟩ := I.s1 x hx hk
  by_cases h : byA b (epS x) = 0
  · exact h
  · obtain ⟨_, q2, y, q3, q4, q5, q6⟩ := I.b1 (epS x) (by omega) (by have := I.he; have := I.hi; omega) h
    have := I.s2 x hx y q3 hk q4 q5.symm
    have := q2 (by omega)
    omega
end Go.Proofs.Ytdfdjikkgmclfaa
