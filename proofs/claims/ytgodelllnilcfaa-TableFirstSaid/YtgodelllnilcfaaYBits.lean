/-
  Bits of bytes: what '&', '|', '^', '&^' of the model are, on eight bits.
  No statement of the seat is proved here. Conditions: none.
-/
import Derived.WalkKit
set_option linter.unusedSimpArgs false
namespace Go.Sy

def bv (x : Int) : BitVec 8 := BitVec.ofInt 8 x
def un (r : BitVec 8) : Int := (r.toNat : Int)
theorem bv_un (r : BitVec 8) : bv (un r) = r := by
  unfold bv un; simp
theorem un_inj {a b : BitVec 8} : un a = un b ↔ a = b := by
  unfold un
  rw [Int.ofNat_inj]
  exact ⟨BitVec.eq_of_toNat_eq, fun h => by rw [h]⟩
theorem wrap_un (r : BitVec 8) : IntKind.u8.wrap (r.toNat : Int) = un r := by
  unfold un
  have := r.isLt
  simp [IntKind.wrap, IntKind.bits, IntKind.signed]
  omega
theorem and_un (x y : Int) : bits .and .u8 x y = un (bv x &&& bv y) := wrap_un _
theorem or_un (x y : Int) : bits .or .u8 x y = un (bv x ||| bv y) := wrap_un _
theorem xor_un (x y : Int) : bits .xor .u8 x y = un (bv x ^^^ bv y) := wrap_un _
theorem andNot_un (x y : Int) : bits .andNot .u8 x y = un (bv x &&& ~~~bv y) := wrap_un _
theorem un_zero {r : BitVec 8} : un r = 0 ↔ r = (BitVec.ofNat 8 0) := by
  have : (0 : Int) = un (BitVec.ofNat 8 0) := rfl
  rw [this, un_inj]
theorem un_bv {x : Int} (h0 : 0 ≤ x) (h1 : x ≤ 255) : un (bv x) = x := by
  unfold un bv
  simp
  omega
theorem bv_ext {a b : BitVec 8} : a = b ↔ ∀ k, k < 8 → a.getLsbD k = b.getLsbD k :=
  ⟨fun h k _ => by rw [h], fun h => BitVec.eq_of_getLsbD_eq h⟩
theorem xor_and_zero (h i b : BitVec 8) : (h ^^^ i) &&& b = (BitVec.ofNat 8 0) ↔ i &&& b = h &&& b := by
  simp only [bv_ext, BitVec.getLsbD_and, BitVec.getLsbD_xor, BitVec.getLsbD_zero]
  refine forall_congr' fun k => forall_congr' fun _ => ?_
  cases h.getLsbD k <;> cases i.getLsbD k <;> cases b.getLsbD k <;> simp
end Go.Sy
