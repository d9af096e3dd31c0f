/-
  What masks fit: plain laws of 'fitsB', 'meetOk', 'covB'.
  No statement of the seat is proved here. Conditions: none.
-/
import Derived.Test.YtkkbbifhaanamaaM07
set_option linter.unusedSimpArgs false
set_option linter.unusedVariables false
namespace Go.Proofs.Ytkkbbifhaanamaa
open Go.Sy

theorem bitB_iff (b i h : Int) : bitB b i h = true ↔ ∀ k, k < 8 → ((bv i).getLsbD k && (bv b).getLsbD k) = ((bv h).getLsbD k && (bv b).getLsbD k) := by
  unfold bitB
  rw [beq_iff_eq, and_un, and_un, un_inj, bv_ext]
  simp only [BitVec.getLsbD_and]
theorem clash_iff (b i c j : Int) : clash b i c j = false ↔ ∀ k, k < 8 → (((bv i).getLsbD k ^^ (bv j).getLsbD k) && (bv b).getLsbD k && (bv c).getLsbD k) = false := by
  unfold clash
  rw [xor_un, and_un, and_un, bv_un, bv_un]
  rw [bne_eq_false_iff_eq, un_zero, bv_ext]
  simp only [BitVec.getLsbD_and, BitVec.getLsbD_xor, BitVec.getLsbD_zero]
theorem bit_meet {b i c j : Int} (h : Int) (hc : clash b i c j = false) : bitB (bits .or .u8 b c) (orM b i c j) h = (bitB b i h && bitB c j h) := by
  rw [Bool.eq_iff_iff, Bool.and_eq_true, bitB_iff, bitB_iff, bitB_iff]
  rw [clash_iff] at hc
  unfold orM
  simp only [and_un, or_un, bv_un, BitVec.getLsbD_and, BitVec.getLsbD_or]
  constructor
  · intro hh
    refine ⟨fun k hk => ?_, fun k hk => ?_⟩ <;>
    · have h1 := hh k hk; have h2 := hc k hk; revert h1 h2
      cases (bv i).getLsbD k <;> cases (bv j).getLsbD k <;> cases (bv b).getLsbD k <;> cases (bv c).getLsbD k <;> cases (bv h).getLsbD k <;> simp
  · rintro ⟨h1, h2⟩ k hk
    have h1 := h1 k hk; have h2 := h2 k hk; have h3 := hc k hk; revert h1 h2 h3
    cases (bv i).getLsbD k <;> cases (bv j).getLsbD k <;> cases (bv b).getLsbD k <;> cases (bv c).getLsbD k <;> cases (bv h).getLsbD k <;> simp
theorem bit_clash {b i c j : Int} (h : Int) (hc : clash b i c j = true) : (bitB b i h && bitB c j h) = false := by
  rw [← Bool.not_eq_true, Bool.and_eq_true, bitB_iff, bitB_iff]
  rintro ⟨h1, h2⟩
  have : clash b i c j = false := by
    rw [clash_iff]
    intro k hk
    have h1 := h1 k hk; have h2 := h2 k hk; revert h1 h2
    cases (bv i).getLsbD k <;> cases (bv j).getLsbD k <;> cases (bv b).getLsbD k <;> cases (bv c).getLsbD k <;> cases (bv h).getLsbD k <;> simp
  rw [hc] at this; cases this
theorem either_meet {v v' any : Int} (x : Int) (h : eitherB v v' any = true) : (eitherN v v' any == any || eitherN v v' any == x) = ((v == any || v == x) && (v' == any || v' == x)) := by
  unfold eitherB eitherN at *
  by_cases h1 : v = any
  · subst h1; simp
  · have e1 : (v == any) = false := by simpa using h1
    rw [e1] at h ⊢
    by_cases h2 : v' = any
    · subst h2; simp [e1]
    · have e2 : (v' == any) = false := by simpa using h2
      rw [e2] at h ⊢
      simp at h; subst h; simp [e1]
theorem either_no {v v' any : Int} (x : Int) (h : eitherB v v' any = false) : ((v == any || v == x) && (v' == any || v' == x)) = false := by
  unfold eitherB at h
  simp only [Bool.or_eq_false_iff, beq_eq_false_iff_ne] at h
  obtain ⟨h1, h2, h3⟩ := h
  by_cases h4 : v = x
  · subst h4
    have : ¬ v' = v := fun e => h3 e.symm
    simp [h1, h2, this]
  · simp [h1, h4]

/-- What two fit is what their meeting fits. -/
theorem fits_meet (v p b0 b1 b2 i0 i1 i2 v' p' c0 c1 c2 j0 j1 j2 x y h0 h1 h2 : Int) (hm : meetOk v p b0 b1 b2 i0 i1 i2 v' p' c0 c1 c2 j0 j1 j2 = true) :
    fitsB (eitherN v v' 0) (eitherN p p' (-1)) (bits .or .u8 b0 c0) (bits .or .u8 b1 c1) (bits .or .u8 b2 c2) (orM b0 i0 c0 j0) (orM b1 i1 c1 j1) (orM b2 i2 c2 j2) x y h0 h1 h2 =
      (fitsB v p b0 b1 b2 i0 i1 i2 x y h0 h1 h2 && fitsB v' p' c0 c1 c2 j0 j1 j2 x y h0 h1 h2) := by
  unfold meetOk at hm
  simp only [Bool.and_eq_true, Bool.not_eq_true'] at hm
  obtain ⟨⟨q1, q2⟩, ⟨q3, q4⟩, q5⟩ := hm
  unfold fitsB
  rw [either_meet x q1, either_meet y q2, bit_meet h0 q3, bit_meet h1 q4, bit_meet h2 q5]
  generalize (v == 0 || v == x) = a1; generalize (v' == 0 || v' == x) = a2
  generalize (p == -1 || p == y) = a3; generalize (p' == -1 || p' == y) = a4
  generalize bitB b0 i0 h0 = a5; generalize bitB c0 j0 h0 = a6
  generalize bitB b1 i1 h1 = a7; generalize bitB c1 j1 h1 = a8
  generalize bitB b2 i2 h2 = a9; generalize bitB c2 j2 h2 = a10
  cases a1 <;> cases a2 <;> cases a3 <;> cases a4 <;> simp
  cases a5 <;> cases a6 <;> cases a7 <;> cases a8 <;> simp
theorem fits_clash (v p b0 b1 b2 i0 i1 i2 v' p' c0 c1 c2 j0 j1 j2 x y h0 h1 h2 : Int) (hm : meetOk v p b0 b1 b2 i0 i1 i2 v' p' c0 c1 c2 j0 j1 j2 = false) :
    (fitsB v p b0 b1 b2 i0 i1 i2 x y h0 h1 h2 && fitsB v' p' c0 c1 c2 j0 j1 j2 x y h0 h1 h2) = false := by
  have key : ∀ (v v' p p' : Bool) (x0 y0 x1 y1 x2 y2 : Bool), (v && v') = false ∨ (p && p') = false ∨ (x0 && y0) = false ∨ (x1 && y1) = false ∨ (x2 && y2) = false → ((v && p && (x0 && x1 && x2)) && (v' && p' && (y0 && y1 && y2))) = false := by
    intro v v' p p' x0 y0 x1 y1 x2 y2 h
    rw [← Bool.not_eq_true]
    simp only [Bool.and_eq_true]
    rintro ⟨⟨⟨a1, a2⟩, ⟨a3, a4⟩, a5⟩, ⟨b1, b2⟩, ⟨b3, b4⟩, b5⟩
    subst a1; subst a2; subst a3; subst a4; subst a5; subst b1; subst b2; subst b3; subst b4; subst b5
    simp at h
  unfold fitsB
  refine key _ _ _ _ _ _ _ _ _ _ ?_
  unfold meetOk at hm
  cases q1 : eitherB v v' 0
  · exact .inl (either_no x q1)
  cases q2 : eitherB p p' (-1)
  · exact .inr (.inl (either_no y q2))
  cases q3 : clash b0 i0 c0 j0
  · cases q4 : clash b1 i1 c1 j1
    · cases q5 : clash b2 i2 c2 j2
      · rw [q1, q2, q3, q4, q5] at hm; cases hm
      · exact .inr (.inr (.inr (.inr (bit_clash h2 q5))))
    · exact .inr (.inr (.inr (.inl (bit_clash h1 q4))))
  · exact .inr (.inr (.inl (bit_clash h0 q3)))
/-- The round's question of MaskBoth. -/
theorem both_fine (v p b0 b1 b2 i0 i1 i2 v' p' c0 c1 c2 j0 j1 j2 x y h0 h1 h2 : Int) :
    (bif (bif (bif fitsB v p b0 b1 b2 i0 i1 i2 x y h0 h1 h2 then fitsB v' p' c0 c1 c2 j0 j1 j2 x y h0 h1 h2 else false) then !meetOk v p b0 b1 b2 i0 i1 i2 v' p' c0 c1 c2 j0 j1 j2 else false) then true else
      bif meetOk v p b0 b1 b2 i0 i1 i2 v' p' c0 c1 c2 j0 j1 j2 then !(fitsB (sel (meetOk v p b0 b1 b2 i0 i1 i2 v' p' c0 c1 c2 j0 j1 j2) (eitherN v v' 0)) (sel (meetOk v p b0 b1 b2 i0 i1 i2 v' p' c0 c1 c2 j0 j1 j2) (eitherN p p' (-1))) (sel (meetOk v p b0 b1 b2 i0 i1 i2 v' p' c0 c1 c2 j0 j1 j2) (bits .or .u8 b0 c0)) (sel (meetOk v p b0 b1 b2 i0 i1 i2 v' p' c0 c1 c2 j0 j1 j2) (bits .or .u8 b1 c1)) (sel (meetOk v p b0 b1 b2 i0 i1 i2 v' p' c0 c1 c2 j0 j1 j2) (bits .or .u8 b2 c2)) (sel (meetOk v p b0 b1 b2 i0 i1 i2 v' p' c0 c1 c2 j0 j1 j2) (orM b0 i0 c0 j0)) (sel (meetOk v p b0 b1 b2 i0 i1 i2 v' p' c0 c1 c2 j0 j1 j2) (orM b1 i1 c1 j1)) (sel (meetOk v p b0 b1 b2 i0 i1 i2 v' p' c0 c1 c2 j0 j1 j2) (orM b2 i2 c2 j2)) x y h0 h1 h2 == (bif fitsB v p b0 b1 b2 i0 i1 i2 x y h0 h1 h2 then fitsB v' p' c0 c1 c2 j0 j1 j2 x y h0 h1 h2 else false)) else false) = false := by
  cases hm : meetOk v p b0 b1 b2 i0 i1 i2 v' p' c0 c1 c2 j0 j1 j2
  · have := fits_clash v p b0 b1 b2 i0 i1 i2 v' p' c0 c1 c2 j0 j1 j2 x y h0 h1 h2 hm
    revert this
    generalize fitsB v p b0 b1 b2 i0 i1 i2 x y h0 h1 h2 = q1
    generalize fitsB v' p' c0 c1 c2 j0 j1 j2 x y h0 h1 h2 = q2
    cases q1 <;> cases q2 <;> simp
  · have := fits_meet v p b0 b1 b2 i0 i1 i2 v' p' c0 c1 c2 j0 j1 j2 x y h0 h1 h2 hm
    simp only [sel, cond_true, this]
    generalize fitsB v p b0 b1 b2 i0 i1 i2 x y h0 h1 h2 = q1
    generalize fitsB v' p' c0 c1 c2 j0 j1 j2 x y h0 h1 h2 = q2
    cases q1 <;> cases q2 <;> simp
end Go.Proofs.Ytkkbbifhaanamaa
