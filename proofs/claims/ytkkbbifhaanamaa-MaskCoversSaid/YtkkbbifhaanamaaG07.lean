/-
  What a mask covers: plain laws of 'covB' and 'fitsB'.
  No statement of the seat is proved here. Conditions: none.
-/
import Derived.Test.YtkkbbifhaanamaaF07
set_option linter.unusedSimpArgs false
set_option linter.unusedVariables false
namespace Go.Proofs.Ytkkbbifhaanamaa
open Go.Sy

def hb (c j h : Int) : Int := bits .or .u8 (bits .andNot .u8 h c) (bits .and .u8 j c)
def ho (b i c h : Int) : Int := bits .or .u8 (bits .andNot .u8 h (bits .andNot .u8 b c)) (bits .and .u8 (bits .xor .u8 (if IntKind.signed IntKind.u8 = true then (-1 : Int) else IntKind.max IntKind.u8) i) (bits .andNot .u8 b c))
theorem ones_bit (i : Int) (k : Nat) (hk : k < 8) : (bv (bits .xor .u8 (if IntKind.signed IntKind.u8 = true then (-1 : Int) else IntKind.max IntKind.u8) i)).getLsbD k = !(bv i).getLsbD k := by
  have e : (if IntKind.signed IntKind.u8 = true then (-1 : Int) else IntKind.max IntKind.u8) = 255 := by decide
  rw [e, xor_un, bv_un, BitVec.getLsbD_xor]
  have : (bv 255).getLsbD k = true := by
    have : bv 255 = BitVec.allOnes 8 := by decide
    rw [this, BitVec.getLsbD_allOnes]; simpa using hk
  rw [this]; simp
theorem hb_bit (c j h : Int) (k : Nat) (hk : k < 8) : (bv (hb c j h)).getLsbD k = (((bv h).getLsbD k && !(bv c).getLsbD k) || ((bv j).getLsbD k && (bv c).getLsbD k)) := by
  unfold hb
  simp only [or_un, andNot_un, and_un, bv_un, BitVec.getLsbD_or, BitVec.getLsbD_and, BitVec.getLsbD_not, hk, decide_true, Bool.true_and]
theorem ho_bit (b i c h : Int) (k : Nat) (hk : k < 8) : (bv (ho b i c h)).getLsbD k = (((bv h).getLsbD k && !((bv b).getLsbD k && !(bv c).getLsbD k)) || (!(bv i).getLsbD k && ((bv b).getLsbD k && !(bv c).getLsbD k))) := by
  unfold ho
  rw [or_un, bv_un, BitVec.getLsbD_or, andNot_un, bv_un, and_un, bv_un, BitVec.getLsbD_and, BitVec.getLsbD_and, BitVec.getLsbD_not, ones_bit i k hk, andNot_un, bv_un, BitVec.getLsbD_and, BitVec.getLsbD_not]
  simp [hk]
theorem ctB_iff (b i c j : Int) : ctB b i c j = true ↔ ∀ k, k < 8 → ((bv b).getLsbD k && !(bv c).getLsbD k) = false ∧ (((bv i).getLsbD k ^^ (bv j).getLsbD k) && (bv b).getLsbD k) = false := by
  unfold ctB
  rw [Bool.and_eq_true, beq_iff_eq, beq_iff_eq, andNot_un, xor_un, and_un, bv_un, un_zero, un_zero, bv_ext, bv_ext]
  simp only [BitVec.getLsbD_and, BitVec.getLsbD_xor, BitVec.getLsbD_not, BitVec.getLsbD_zero]
  constructor
  · rintro ⟨h1, h2⟩ k hk
    have := h1 k hk
    simp only [hk, decide_true, Bool.true_and] at this
    exact ⟨this, h2 k hk⟩
  · intro h
    refine ⟨fun k hk => ?_, fun k hk => (h k hk).2⟩
    simp only [hk, decide_true, Bool.true_and]; exact (h k hk).1
theorem bit_hb (c j h : Int) : bitB c j (hb c j h) = true := by
  rw [bitB_iff]
  intro k hk
  rw [hb_bit c j h k hk]
  cases (bv c).getLsbD k <;> cases (bv j).getLsbD k <;> cases (bv h).getLsbD k <;> rfl
theorem bit_cov {b i c j h : Int} (hc : ctB b i c j = true) (hf : bitB c j h = true) : bitB b i h = true := by
  rw [ctB_iff] at hc
  rw [bitB_iff] at hf ⊢
  intro k hk
  have h1 := hc k hk; have h2 := hf k hk; revert h1 h2
  cases (bv b).getLsbD k <;> cases (bv c).getLsbD k <;> cases (bv i).getLsbD k <;> cases (bv j).getLsbD k <;> cases (bv h).getLsbD k <;> simp
theorem bit_ho (b i c j h : Int) : bitB c j (ho b i c (hb c j h)) = true := by
  rw [bitB_iff]
  intro k hk
  rw [ho_bit b i c _ k hk, hb_bit c j h k hk]
  cases (bv b).getLsbD k <;> cases (bv c).getLsbD k <;> cases (bv i).getLsbD k <;> cases (bv j).getLsbD k <;> cases (bv h).getLsbD k <;> rfl
theorem bit_no {b i c j : Int} (h : Int) (hc : ctB b i c j = false) : bitB b i (ho b i c (hb c j h)) = false := by
  rw [← Bool.not_eq_true] at hc ⊢
  intro hf
  apply hc
  rw [bitB_iff] at hf
  rw [ctB_iff]
  intro k hk
  have h1 := hf k hk
  rw [ho_bit b i c _ k hk, hb_bit c j h k hk] at h1
  revert h1
  cases (bv b).getLsbD k <;> cases (bv c).getLsbD k <;> cases (bv i).getLsbD k <;> cases (bv j).getLsbD k <;> cases (bv h).getLsbD k <;> simp
theorem ct_self (b i : Int) : ctB b i b i = true := by
  rw [ctB_iff]
  intro k hk
  cases (bv b).getLsbD k <;> cases (bv i).getLsbD k <;> simp
theorem ct_any (c j : Int) : ctB 0 0 c j = true := by
  rw [ctB_iff]
  intro k hk
  have : (bv 0).getLsbD k = false := by
    have : bv 0 = 0#8 := by decide
    rw [this]; simp
  simp [this]

theorem cov_self (v p b0 b1 b2 i0 i1 i2 : Int) : covB v p b0 b1 b2 i0 i1 i2 v p b0 b1 b2 i0 i1 i2 = true := by
  simp [covB, ct_self]
theorem cov_any (v p b0 b1 b2 i0 i1 i2 : Int) : covB 0 (-1) 0 0 0 0 0 0 v p b0 b1 b2 i0 i1 i2 = true := by
  simp [covB, ct_any]
theorem fits_hb {v p c0 c1 c2 j0 j1 j2 x y : Int} (h0 h1 h2 : Int) (hx : (v == 0 || v == x) = true) (hy : (p == -1 || p == y) = true) : fitsB v p c0 c1 c2 j0 j1 j2 x y (hb c0 j0 h0) (hb c1 j1 h1) (hb c2 j2 h2) = true := by
  unfold fitsB; rw [hx, hy]; simp [bit_hb]
theorem fits_ho {v p c0 c1 c2 j0 j1 j2 x y : Int} (b0 b1 b2 i0 i1 i2 h0 h1 h2 : Int) (hx : (v == 0 || v == x) = true) (hy : (p == -1 || p == y) = true) : fitsB v p c0 c1 c2 j0 j1 j2 x y (ho b0 i0 c0 (hb c0 j0 h0)) (ho b1 i1 c1 (hb c1 j1 h1)) (ho b2 i2 c2 (hb c2 j2 h2)) = true := by
  unfold fitsB; rw [hx, hy]; simp [bit_ho]
theorem fits_cov {v p b0 b1 b2 i0 i1 i2 v' p' c0 c1 c2 j0 j1 j2 x y h0 h1 h2 : Int} (hc : covB v p b0 b1 b2 i0 i1 i2 v' p' c0 c1 c2 j0 j1 j2 = true) (hf : fitsB v' p' c0 c1 c2 j0 j1 j2 x y h0 h1 h2 = true) : fitsB v p b0 b1 b2 i0 i1 i2 x y h0 h1 h2 = true := by
  unfold covB at hc
  unfold fitsB at hf ⊢
  simp only [Bool.and_eq_true, Bool.or_eq_true, beq_iff_eq] at hc hf ⊢
  obtain ⟨⟨q1, q2⟩, ⟨q3, q4⟩, q5⟩ := hc
  obtain ⟨⟨r1, r2⟩, ⟨r3, r4⟩, r5⟩ := hf
  refine ⟨⟨?_, ?_⟩, ⟨bit_cov q3 r3, bit_cov q4 r4⟩, bit_cov q5 r5⟩
  · rcases q1 with q1 | q1
    · exact .inl q1
    · subst q1; exact r1
  · rcases q2 with q2 | q2
    · exact .inl q2
    · subst q2; exact r2
theorem fits_no {v p b0 b1 b2 i0 i1 i2 v' p' c0 c1 c2 j0 j1 j2 x y : Int} (h0 h1 h2 : Int) (hc : covB v p b0 b1 b2 i0 i1 i2 v' p' c0 c1 c2 j0 j1 j2 = false) (hx : (v == 0 || v == x) = true → (v == 0 || v == v') = true) (hy : (p == -1 || p == y) = true → (p == -1 || p == p') = true) :
    fitsB v p b0 b1 b2 i0 i1 i2 x y (ho b0 i0 c0 (hb c0 j0 h0)) (ho b1 i1 c1 (hb c1 j1 h1)) (ho b2 i2 c2 (hb c2 j2 h2)) = false := by
  rw [← Bool.not_eq_true] at hc ⊢
  intro hf
  apply hc
  unfold fitsB at hf
  simp only [Bool.and_eq_true] at hf
  obtain ⟨⟨r1, r2⟩, ⟨r3, r4⟩, r5⟩ := hf
  have g : ∀ {b i c j h : Int}, bitB b i (ho b i c (hb c j h)) = true → ctB b i c j = true := by
    intro b i c j h hh
    cases hq : ctB b i c j
    · rw [bit_no h hq] at hh; cases hh
    · rfl
  unfold covB
  rw [hx r1, hy r2, g r3, g r4, g r5]; rfl
theorem wrap_ne {v : Int} (h1 : -9223372036854775808 ≤ v) (h2 : v ≤ 9223372036854775807) : (v == IntKind.i64.wrap (v + 1)) = false := by
  rw [beq_eq_false_iff_ne]
  simp [IntKind.wrap, IntKind.bits, IntKind.signed]
  omega
end Go.Proofs.Ytkkbbifhaanamaa
