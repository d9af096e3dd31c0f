/-
  graph.Reach, by hand.
  No statement of the seat is proved here. Conditions: none.
-/
import Derived.Test.YtmokkonnilmdfaaRK12
import Derived.Shelf.SortG.Plain
import Derived.Shelf.SlicesG.Turned
import Derived.Ground.SlgnProg
set_option linter.unusedVariables false
set_option linter.unusedSimpArgs false
namespace Go.Proofs.Ytmokkonnilmdfaa
open Go.Shelf Go.RowKit Go.Lib Go.Maps Go.Sort Go.Sy
shelf_lay_g SlLaysN.n53 Slgn 53 at Try 27 as sortI
shelf_lay_g SlLaysN.n31 Slgn 31 at Try 26 as containsI

/-- graph.beside: three boxes, and the iterator. -/
theorem beside_in (F : Fence) (n : Nat) (h25 : F.fn 25) (hro : F.round = none) (mb : Option Nat) (ua : Option Addr) (un uc : Nat) (s : Int) (w : World) :
    CallsIn F n Try.prog 25 #[.map mb, .slice ua un uc, .int .i64 s] w fun e w' => e = .returned (.func (.func 34) #[] #[.pointer (some ⟨w.heap.size, 0, none⟩), .pointer (some ⟨w.heap.size + 2, 0, none⟩), .pointer (some ⟨w.heap.size + 1, 0, none⟩)]) ∧
      w' = ((w.alloc (.cells #[.map mb] 47)).alloc (.cells #[.slice ua un uc] 25)).alloc (.cells #[.int .i64 s] 3) := by
  have mixed : Try.prog.follows .mixedOrders = true := by kernel_rfl
  refine callsIn_of_wp Try.func25 rfl h25 ?_ hro
  simp only [Try.ntmps25, List.size_toArray, List.length_cons, List.length_nil, Nat.reduceAdd, Nat.reduceSub, Array.replicate_succ, Array.replicate_zero, List.push_toArray, List.append_toArray, List.nil_append, List.cons_append]
  gi_wp2
  go_ret
  exact ⟨rfl, rfl⟩

/-- Reach's temporaries between two rounds. -/
abbrev rtm (sw from_ : Int) (la : Option Addr) (ln lc : Nat) (ua : Option Addr) (un uc B0 Bo b : Nat) (i : Int) (u31 u32 u33 u34 u35 u36 u37 u38 u39 u40 u41 u42 u43 : Value) : Array Value :=
  #[.agg #[.int .i64 sw, .slice la ln lc], .slice ua un uc, .int .i64 from_, .pointer (some ⟨B0, 0, none⟩), undef, undef, .slice none 0 0, .map (some b), .bool true,
    .pointer (some ⟨Bo, 0, none⟩), .int .i64 i, undef, .tuple #[.map (some b), .bool true], .agg #[.int .i64 sw, .slice la ln lc], .tuple #[.map (some b), .bool true], .map (some b), .bool true, .bool true,
    .bool false, .bool false, .int .i64 from_, .bool false, .bool false, .bool false, .int .i64 from_, .pointer (some ⟨B0, 0, none⟩), .int .i64 sw, .bool false, .bool false, .int .i64 from_, .slice (some ⟨Bo - 1, 0, none⟩) 1 1,
    u31, u32, u33, u34, u35, u36, u37, u38, u39, u40, u41, u42, u43, undef, undef, undef, undef, undef, undef, undef, undef, undef, undef, undef, undef]

/-- What holds of the world between two rounds. -/
structure RW (w2 : World) (xs : List Int) (Ds : List Nat) (W : World) : Prop where
  box : ∃ g cap, W.heap[w2.heap.size + 1]? = some (.cells #[.slice (some ⟨g, 0, none⟩) xs.length cap] 27 (0, 0)) ∧ W.ownsRow w2.heap.size 3 1 (.slice (some ⟨g, 0, none⟩) xs.length cap) xs.length (xs.map (.int .i64)) ∧ (g < w2.heap.size + 1 ∨ 2 ≤ xs.length)
  low : Below w2.heap.size w2 W
  ds : ∀ D ∈ Ds, w2.heap.size ≤ D ∧ W.heap[D]? = some (.deferred (some []))
  dn : Ds.Nodup

theorem row_cell {W : World} {base g cap : Nat} {zs : List Int} (h : W.ownsRow base 3 1 (.slice (some ⟨g, 0, none⟩) zs.length cap) zs.length (zs.map (.int .i64))) : ∃ cur, W.heap[g]? = some (.cells cur 3 (0, 0)) ∧ base ≤ g ∧ zs.length ≤ cap ∧ cap ≤ maxLen ∧ cur.size = cap ∧ ∀ j, j < zs.length → W.cell? ⟨g, 0 + j, none⟩ = some (.int .i64 (zs.getD j 0)) := by
  rcases h.2 with ⟨h0, _⟩ | ⟨g', cap', cur, h0, hb, hg, h1, h2, h3, h4⟩
  · cases h0
  · injection h0 with h0 _ h5
    injection h0 with h0
    injection h0 with h0
    subst h0
    subst h5
    refine ⟨cur, hg, hb, h1, h2, by omega, fun j hj => ?_⟩
    simp only [World.cell?, hg]
    have : (cur.toList.take (zs.length * 1))[j]? = (zs.map (Value.int .i64))[j]? := by rw [h4]
    rw [List.getElem?_take_of_lt (by omega), Array.getElem?_toList] at this
    simp [this, hj]
theorem RW.up {w2 W W3 : World} {xs : List Int} {Ds : List Nat} (h : RW w2 xs Ds W) (hb : Below W.heap.size W W3) : RW w2 xs Ds W3 := by
  obtain ⟨⟨g, cap, h1, h2, h3⟩, h4, h5, h6⟩ := h
  have hg : W.grownBy W3 none := ⟨hb.os, hb.tape, hb.output, hb.size, fun k hk _ => hb.block k hk⟩
  refine ⟨⟨g, cap, (hb.block _ (Array.getElem?_eq_some_iff.1 h1).1).trans h1, h2.kept hg (.inr (by simp [Value.ownBlock])), h3⟩, h4.trans (hb.mono h4.size), fun D hD => ⟨(h5 D hD).1, (hb.block _ (Array.getElem?_eq_some_iff.1 (h5 D hD).2).1).trans (h5 D hD).2⟩, h6⟩
theorem RW.stays {w2 : World} {xs : List Int} {Ds : List Nat} {B : Nat} (hB : w2.heap.size ≤ B) (hD : ∀ D ∈ Ds, D < B) : Stays B (RW w2 xs Ds) := by
  rintro W W' row ⟨⟨g, cap, h1, h2, h3⟩, h4, h5, h6⟩ hg hr
  have hr' := fun r e => (hr r e).2
  exact ⟨⟨g, cap, cells_stay h1 hg hr', row_stays h2 hg hr', h3⟩, h4.grown hg h4.size (fun k e => Nat.le_trans hB (hr k e).1),
    fun D hd => ⟨(h5 D hd).1, (hg.block D (Array.getElem?_eq_some_iff.1 (h5 D hd).2).1 (fun e => by have := (hr D e.symm).1; have := hD D hd; omega)).trans (h5 D hd).2⟩, h6⟩
theorem kept_stays {K : Nat → Prop} {W3 : World} {B : Nat} (hK : ∀ k, K k → k < B) (hB : B = W3.heap.size) : Stays B (fun W => W3.heap.size ≤ W.heap.size ∧ ∀ k, K k → W.heap[k]? = W3.heap[k]?) := by
  rintro W W' row ⟨h0, h⟩ hg hr
  exact ⟨Nat.le_trans h0 hg.size, fun k hk => (hg.block k (by have := hK k hk; omega) (fun e => by have := (hr k e.symm).1; have := hK k hk; omega)).trans (h k hk)⟩
theorem st_and {B : Nat} {I J : World → Prop} (h : Stays B I) (k : Stays B J) : Stays B (fun W => I W ∧ J W) := fun W W' row hs hg hr => ⟨h W W' row hs.1 hg hr, k W W' row hs.2 hg hr⟩
theorem st_const {B : Nat} {p : Prop} : Stays B (fun _ => p) := fun _ _ _ hs _ _ => hs

/-- A map's entries, in the map's order. -/
def EntsAt (w : World) (b : Nat) (kv : List KV) : Prop := ∃ ents clock, w.heap[b]? = some (.map (List.toArray ents) clock) ∧ (∀ x ∈ ents, x.born < clock) ∧ (ents.map (·.born)).Nodup ∧ ents.map (fun x => (x.key, x.val)) = kv.map encKV

def addOne (xs : List Int) (y : Int) : List Int := bif xs.contains y then xs else xs ++ [y]
def addAll (xs ys : List Int) : List Int := ys.foldl addOne xs
theorem addAll_snoc (xs ys : List Int) (y : Int) : addAll xs (ys ++ [y]) = addOne (addAll xs ys) y := by simp [addAll]

theorem addAll_len (xs : List Int) : ∀ (ys : List Int), (addAll xs ys).length ≤ xs.length + ys.length := by
  intro ys
  unfold addAll
  induction ys generalizing xs with
  | nil => simp
  | cons y r ih =>
    rw [List.foldl_cons, List.length_cons]
    have h1 := ih (addOne xs y)
    have h2 : (addOne xs y).length ≤ xs.length + 1 := by unfold addOne; cases xs.contains y <;> simp
    omega
/-- Who is reached. -/
inductive Rch (kv : List KV) (us : List Bool) (from_ : Int) : Int → Prop
  | start : Rch kv us from_ from_
  | step {x y : Int} : Rch kv us from_ x → y ∈ nbrL x us kv → Rch kv us from_ y

theorem Rch.perm {kv kv0 : List KV} (h : kv.Perm kv0) {us : List Bool} {from_ x : Int} (hr : Rch kv us from_ x) : Rch kv0 us from_ x := by
  induction hr with
  | start => exact .start
  | step _ hy ih => exact .step ih (((h.filter _).map _).mem_iff.1 hy)

/-- What holds between two rounds. -/
structure Good (kv : List KV) (us : List Bool) (from_ : Int) (xs : List Int) (i : Nat) : Prop where
  nd : xs.Nodup
  rch : ∀ x ∈ xs, Rch kv us from_ x
  st : from_ ∈ xs
  cl : ∀ j x, j < i → xs[j]? = some x → ∀ y ∈ nbrL x us kv, y ∈ xs

theorem addOne_mem {xs : List Int} {y z : Int} : z ∈ addOne xs y ↔ z ∈ xs ∨ z = y := by
  unfold addOne
  cases h : xs.contains y with
  | true => simp only [cond_true]; constructor
            · exact .inl
            · rintro (h1 | rfl)
              · exact h1
              · simpa using h
  | false => simp
theorem addAll_mem {xs : List Int} {z : Int}  {ys : List Int} : z ∈ addAll xs ys ↔ z ∈ xs ∨ z ∈ ys := by
    unfold addAll
    induction ys generalizing xs with
    | nil => simp
    | cons y r ih => rw [List.foldl_cons, ih, addOne_mem]; simp [or_assoc]
theorem addAll_pre {xs ys : List Int} : ∃ t, addAll xs ys = xs ++ t := by
    unfold addAll
    induction ys generalizing xs with
    | nil => exact ⟨[], by simp⟩
    | cons y r ih =>
      rw [List.foldl_cons]
      obtain ⟨t, ht⟩ := ih (xs := addOne xs y)
      rw [ht]
      unfold addOne
      cases xs.contains y with
      | true => exact ⟨t, rfl⟩
      | false => exact ⟨y :: t, by simp⟩
theorem addAll_nodup {xs : List Int} {ys : List Int} (h : xs.Nodup) : (addAll xs ys).Nodup := by
    unfold addAll
    induction ys generalizing xs with
    | nil => exact h
    | cons y r ih =>
      rw [List.foldl_cons]
      refine ih ?_
      unfold addOne
      cases hc : xs.contains y with
      | true => exact h
      | false =>
        simp only [cond_false]
        rw [List.nodup_append]
        refine ⟨h, by simp, ?_⟩
        intro a ha b hb e
        simp at hb; subst hb; subst e
        simp at hc; exact hc ha
theorem Good.next {kv : List KV} {us : List Bool} {from_ : Int} {xs : List Int} {i : Nat} (h : Good kv us from_ xs i) {x : Int} (hx : xs[i]? = some x) {ys : List Int} (hy : ys.Perm (nbrL x us kv)) : Good kv us from_ (addAll xs ys) (i + 1) := by
  refine ⟨addAll_nodup h.nd, ?_, addAll_mem.2 (.inl h.st), ?_⟩
  · intro z hz
    rcases addAll_mem.1 hz with h1 | h1
    · exact h.rch z h1
    · exact .step (h.rch x (List.mem_of_getElem? hx)) (hy.mem_iff.1 h1)
  · intro j z hj hz y hyz
    obtain ⟨t, ht⟩ := addAll_pre (xs := xs) (ys := ys)
    have hil := (List.getElem?_eq_some_iff.1 hx).1
    rw [ht, List.getElem?_append_left (by omega)] at hz
    rcases Nat.lt_succ_iff_lt_or_eq.1 hj with hlt | rfl
    · exact addAll_mem.2 (.inl (h.cl j z hlt hz y hyz))
    · rw [hx] at hz
      simp only [Option.some.injEq] at hz
      subst hz
      exact addAll_mem.2 (.inr (hy.mem_iff.2 hyz))
theorem Good.ends {kv : List KV} {us : List Bool} {from_ : Int} {xs : List Int} (h : Good kv us from_ xs xs.length) {x : Int} : x ∈ xs ↔ Rch kv us from_ x := by
  constructor
  · exact h.rch x
  · intro hr
    induction hr with
    | start => exact h.st
    | step _ hy ih =>
      obtain ⟨j, hj⟩ := List.getElem?_of_mem ih
      exact h.cl j _ (List.getElem?_eq_some_iff.1 hj).1 hj _ hy

set_option maxHeartbeats 4000000 in
set_option maxRecDepth 100000 in
/-- Reach, beside what sides has said. -/
theorem reach_calls (sw from_ : Int) (la : Option Addr) (ln lc : Nat) (ua : Option Addr) (uc : Nat) (us : List Bool) (bad : Bool) (kv0 : List KV) (w : World) (hup : UpAt w ua us) (hua : ∀ a, us ≠ [] → ua = some a → a.block < w.heap.size) (hlk : ∀ p ∈ kv0, 0 ≤ p.2.2.2) (hkl : kv0.length ≤ 1000)
    (hb7 : ∀ x, Rch kv0 us from_ x → 1 ≤ x ∧ x ≤ 6 ∨ bad = true ∨ from_ < 1 ∨ sw < from_)
    (hsd : Calls Try.prog 24 #[.agg #[.int .i64 sw, .slice la ln lc]] (w.alloc (.cells #[.int .i64 sw, .slice la ln lc] 24)) fun e w2 => ∃ mb, e = .returned (.tuple #[.map mb, .bool (!bad)]) ∧ Below (w.heap.size + 1) (w.alloc (.cells #[.int .i64 sw, .slice la ln lc] 24)) w2 ∧ (bad = false → ∃ b kv, mb = some b ∧ EntsAt w2 b kv ∧ kv.Perm kv0)) :
    Calls Try.prog 9 #[.agg #[.int .i64 sw, .slice la ln lc], .slice ua us.length uc, .int .i64 from_] w fun e w' =>
      ∃ (v : Value) (xs : List Int), e = .returned v ∧ (bif bad || (decide (from_ < 1) || decide (from_ > sw)) then xs = [] else xs.Nodup ∧ ∀ x, x ∈ xs ↔ Rch kv0 us from_ x) ∧
        w'.ownsRow w.heap.size 3 1 v xs.length ((xs.mergeSort fun x y => decide (x ≤ y)).map (.int .i64)) ∧ (v = .slice none 0 0 ↔ xs = []) ∧ Below w.heap.size w w' := by
  have mixed : Try.prog.follows .mixedOrders = true := by kernel_rfl
  have hF24 : Fence.wide.fn 24 := trivial
  have hF25 : Fence.wide.fn 25 := trivial
  have hF26 : Fence.wide.fn 26 := trivial
  have hF27 : Fence.wide.fn 27 := trivial
  have hF34 : Fence.wide.fn 34 := trivial
  refine (callsIn_wide (n := 20)).1 ?_
  refine callsIn_of_wp_marks Try.func9 rfl trivial ?_ rfl
  simp only [Try.ntmps9, List.size_toArray, List.length_cons, List.length_nil, Nat.reduceAdd, Nat.reduceSub, Array.replicate_succ, Array.replicate_zero, List.push_toArray, List.append_toArray, List.nil_append, List.cons_append]
  have cg0 := Lib.hid (show (w.alloc (.cells #[.int .i64 sw, .slice la ln lc] 24)).cell? ⟨w.heap.size, 0, none⟩ = some (.int .i64 sw) by simp only [World.cell?, World.alloc_heap_new]; rfl)
  cases bad with
  | true =>
    gi_wp2_with (first
      | (gi_at_call 24; refine (callsIn_wide.2 hsd).mono ?_; rintro e w2 ⟨mb, rfl, hb2, hmb⟩
         have cg : w2.cell? ⟨w.heap.size, 0, none⟩ = some (.int .i64 sw) := (hb2.cell (p := ⟨w.heap.size, 0, none⟩) (by simp)).trans cg0.out)
      | gi_in)
    have hbw : Below w.heap.size w w2 := ((Below.refl w.heap.size w).alloc (Nat.le_refl _) (.cells #[.int .i64 sw, .slice la ln lc] 24)).trans (hb2.mono (Nat.le_succ _))
    exact ⟨_, results_tmp rfl _ _ _, _, [], rfl, by simp [], (by rw [List.mergeSort_nil]; exact World.ownsRow_nil _ _ _ _), (by simp [Array.getD]), hbw⟩
  | false =>
    by_cases f1 : from_ < 1
    · have f1' : decide (from_ < 1) = true := by simpa using f1
      gi_wp2_with (first
        | (gi_at_call 24; refine (callsIn_wide.2 hsd).mono ?_; rintro e w2 ⟨mb, rfl, hb2, hmb⟩
           have cg : w2.cell? ⟨w.heap.size, 0, none⟩ = some (.int .i64 sw) := (hb2.cell (p := ⟨w.heap.size, 0, none⟩) (by simp)).trans cg0.out)
        | gi_in)
      have hbw : Below w.heap.size w w2 := ((Below.refl w.heap.size w).alloc (Nat.le_refl _) (.cells #[.int .i64 sw, .slice la ln lc] 24)).trans (hb2.mono (Nat.le_succ _))
      exact ⟨_, results_tmp rfl _ _ _, _, [], rfl, by simp [f1], (by rw [List.mergeSort_nil]; exact World.ownsRow_nil _ _ _ _), (by simp [Array.getD]), hbw⟩
    · have f1' : decide (from_ < 1) = false := by simpa using f1
      by_cases f2 : from_ > sw
      · have f2' : decide (from_ > sw) = true := by simpa using f2
        gi_wp2_with (first
          | (gi_at_call 24; refine (callsIn_wide.2 hsd).mono ?_; rintro e w2 ⟨mb, rfl, hb2, hmb⟩
             have cg : w2.cell? ⟨w.heap.size, 0, none⟩ = some (.int .i64 sw) := (hb2.cell (p := ⟨w.heap.size, 0, none⟩) (by simp)).trans cg0.out)
          | gi_in)
        have hbw : Below w.heap.size w w2 := ((Below.refl w.heap.size w).alloc (Nat.le_refl _) (.cells #[.int .i64 sw, .slice la ln lc] 24)).trans (hb2.mono (Nat.le_succ _))
        exact ⟨_, results_tmp rfl _ _ _, _, [], rfl, by simp [f2], (by rw [List.mergeSort_nil]; exact World.ownsRow_nil _ _ _ _), (by simp [Array.getD]), hbw⟩
      · have f2' : decide (from_ > sw) = false := by simpa using f2
        gi_wp2_with (first
          | (gi_at_call 24; refine (callsIn_wide.2 hsd).mono ?_; rintro e w2 ⟨mb, rfl, hb2, hmb⟩
             have cg : w2.cell? ⟨w.heap.size, 0, none⟩ = some (.int .i64 sw) := (hb2.cell (p := ⟨w.heap.size, 0, none⟩) (by simp)).trans cg0.out)
          | gi_in)
        obtain ⟨b, kv, rfl, hE, hperm⟩ := hmb trivial
        have hbw : Below w.heap.size w w2 := ((Below.refl w.heap.size w).alloc (Nat.le_refl _) (.cells #[.int .i64 sw, .slice la ln lc] 24)).trans (hb2.mono (Nat.le_succ _))
        have h7 : ∀ x, Rch kv0 us from_ x → 1 ≤ x ∧ x ≤ 6 := fun x hx => by
          rcases hb7 x hx with h | h | h | h
          · exact h
          · cases h
          · omega
          · omega
        have hR0 : RW w2 [from_] [] ((w2.alloc (.cells #[.int .i64 from_] 3)).alloc (.cells #[.slice (some ⟨w2.heap.size, 0, none⟩) 1 1] 27)) := by
          have e0 := World.alloc_heap_new w2 (.cells #[.int .i64 from_] 3)
          have e1 := World.alloc_heap_new (w2.alloc (.cells #[.int .i64 from_] 3)) (.cells #[.slice (some ⟨w2.heap.size, 0, none⟩) 1 1] 27)
          rw [World.size_alloc] at e1
          have e2 := (Below.heap_alloc (w2.alloc (.cells #[.int .i64 from_] 3)) (.cells #[.slice (some ⟨w2.heap.size, 0, none⟩) 1 1] 27) w2.heap.size (by simp)).trans e0
          refine ⟨⟨w2.heap.size, 1, e1, ⟨rfl, .inr ⟨w2.heap.size, 1, _, rfl, Nat.le_refl _, e2, Nat.le_refl _, by decide, rfl, rfl⟩⟩, .inl (by omega)⟩, ((Below.refl w2.heap.size w2).alloc (Nat.le_refl _) _).alloc (by simp) _, by simp, List.nodup_nil⟩
        have hG0 : Good kv us from_ [from_] 0 := ⟨by simp, fun x hx => by simp at hx; subst hx; exact .start, by simp, fun j x hj => by omega⟩
        revert hR0
        generalize ((w2.alloc (.cells #[.int .i64 from_] 3)).alloc (.cells #[.slice (some ⟨w2.heap.size, 0, none⟩) 1 1] 27)) = W0
        intro hR0
        refine wpIn_loop (fun a W => ∃ (xs : List Int) (i : Nat) (Ds : List Nat) (u31 u32 u33 u34 u35 u36 u37 u38 u39 u40 u41 u42 u43 : Value), a = { tmps := rtm sw from_ la ln lc ua us.length uc w.heap.size (w2.heap.size + 1) b i u31 u32 u33 u34 u35 u36 u37 u38 u39 u40 u41 u42 u43, defers := Ds.map fun D => { target := .collected D, args := #[] } } ∧ RW w2 xs Ds W ∧ Good kv us from_ xs i ∧ i ≤ xs.length)
          (fun a W => 100 - (intOf (a.tmps.getD 10 undef)).toNat) ?start ?round
        case start => exact ⟨[from_], 0, [], _, _, _, _, _, _, _, _, _, _, _, _, _, rfl, hR0, hG0, by simp⟩
        case round =>
          rintro _ W ⟨xs, i, Ds, u31, u32, u33, u34, u35, u36, u37, u38, u39, u40, u41, u42, u43, rfl, hR, hG, hi⟩
          have hx7 : xs.length ≤ 7 := by
            refine len_le (m := [0, 1, 2, 3, 4, 5, 6]) hG.nd fun x hx => ?_
            have := h7 x ((hG.rch x hx).perm hperm)
            have : x = 1 ∨ x = 2 ∨ x = 3 ∨ x = 4 ∨ x = 5 ∨ x = 6 := by omega
            simp only [List.mem_cons]
            omega
          obtain ⟨⟨g, cap, hbox, hrow, hfr⟩, hlow, hds, hdn⟩ := hR
          obtain ⟨cbx, fbx⟩ := cell_of_box_a hbox
          have hcx : i < xs.length → W.cell? ⟨g, i, none⟩ = some (.int .i64 (xs.getD i 0)) := fun h => by
            rcases hrow.2 with ⟨h0, _⟩ | ⟨g', cap', cur, h0, _, hg, h1, h2, h3, h4⟩
            · cases h0
            · injection h0 with h0 _ h5
              injection h0 with h0
              injection h0 with h0
              subst h0
              simp only [World.cell?, hg]
              have : (cur.toList.take (xs.length * 1))[i]? = (xs.map (Value.int .i64))[i]? := by rw [h4]
              rw [List.getElem?_take_of_lt (by omega), Array.getElem?_toList] at this
              simp [this, h]
          obtain ⟨x, hxi⟩ : ∃ x, i < xs.length → xs[i]? = some x := ⟨xs.getD i 0, fun h => by simp [h]⟩
          have hcx2 : i < xs.length → W.cell? ⟨g, i, none⟩ = some (.int .i64 x) := fun h => by rw [hcx h]; have := hxi h; simp [List.getElem?_eq_some_iff] at this; obtain ⟨_, e⟩ := this; simp [h, e]
          have hxi' := Lib.hid hxi
          have hR' := Lib.hid (show RW w2 xs Ds W from ⟨⟨g, cap, hbox, hrow, hfr⟩, hlow, hds, hdn⟩)
          clear hxi hcx hrow hds hdn hbox hlow
          simp only [rtm]
          gi_wp2_with (first
            | (gi_at_call 25; refine (beside_in Fence.wide 19 trivial rfl _ _ _ _ _ _).mono ?_; rintro e w3 ⟨rfl, rfl⟩)
            | gi_in)
          · have hlt : i < xs.length := by assumption
            have hxi := hxi'.out hlt
            have hR := hR'.out
            obtain ⟨ents, clock, hm1, hold, hnd, hkv⟩ := hE
            have el : ents.length = kv.length := by have := congrArg List.length hkv; simpa using this
            have sW : w2.heap.size + 2 ≤ W.heap.size := by
              obtain ⟨g', cap', h1, _⟩ := hR.box
              have := (Array.getElem?_eq_some_iff.1 h1).1; omega
            have low3 : Below W.heap.size W (((W.alloc (.cells #[.map (some b)] 47)).alloc (.cells #[.slice ua us.length uc] 25)).alloc (.cells #[.int .i64 x] 3)) := (((Below.refl W.heap.size W).alloc (Nat.le_refl _) _).alloc (by simp) _).alloc (by simp; omega) _
            have k0 : (((W.alloc (.cells #[.map (some b)] 47)).alloc (.cells #[.slice ua us.length uc] 25)).alloc (.cells #[.int .i64 x] 3)).heap[W.heap.size]? = some (.cells #[.map (some b)] 47 (0, 0)) := (Below.heap_alloc _ _ _ (by simp; omega)).trans ((Below.heap_alloc _ _ _ (by simp)).trans (World.alloc_heap_new _ _))
            have k1 : (((W.alloc (.cells #[.map (some b)] 47)).alloc (.cells #[.slice ua us.length uc] 25)).alloc (.cells #[.int .i64 x] 3)).heap[W.heap.size + 1]? = some (.cells #[.slice ua us.length uc] 25 (0, 0)) := (Below.heap_alloc _ _ _ (by simp)).trans (by have := World.alloc_heap_new (W.alloc (.cells #[.map (some b)] 47)) (.cells #[.slice ua us.length uc] 25); rwa [World.size_alloc] at this)
            have k2 : (((W.alloc (.cells #[.map (some b)] 47)).alloc (.cells #[.slice ua us.length uc] 25)).alloc (.cells #[.int .i64 x] 3)).heap[W.heap.size + 2]? = some (.cells #[.int .i64 x] 3 (0, 0)) := by have := World.alloc_heap_new ((W.alloc (.cells #[.map (some b)] 47)).alloc (.cells #[.slice ua us.length uc] 25)) (.cells #[.int .i64 x] 3); rwa [World.size_alloc, World.size_alloc] at this
            have s3 : (((W.alloc (.cells #[.map (some b)] 47)).alloc (.cells #[.slice ua us.length uc] 25)).alloc (.cells #[.int .i64 x] 3)).heap.size = W.heap.size + 3 := by simp
            revert low3 k0 k1 k2 s3
            generalize (((W.alloc (.cells #[.map (some b)] 47)).alloc (.cells #[.slice ua us.length uc] 25)).alloc (.cells #[.int .i64 x] 3)) = W3
            intro low3 k0 k1 k2 s3
            have hwW3 : Below w.heap.size w W3 := (hbw.trans (hR.low.mono hbw.size)).trans (low3.mono (Nat.le_trans hbw.size hR.low.size))
            have hw2W3 : Below w2.heap.size w2 W3 := hR.low.trans (low3.mono hR.low.size)
            have seq := beside1_stops Fence.wide 19 trivial rfl (by decide) W.heap.size (W.heap.size + 2) (W.heap.size + 1) b x ua uc us ents clock kv W3 (by omega) (by omega) (by omega) (fun a h0 ha => Nat.lt_of_lt_of_le (hua a h0 ha) hwW3.size)
              (cell_of_box_a k0).1 (cell_of_box_a k2).1 (cell_of_box_a k1).1 (fun j hj => by obtain ⟨a, e1, e2, e3⟩ := hup j hj; exact ⟨a, e1, e2, (hwW3.cell (p := ⟨a.block, a.off + j, none⟩) (hua a (fun e => by rw [e] at hj; simp at hj) e1)).trans e3⟩)
              ((hw2W3.block b (Array.getElem?_eq_some_iff.1 hm1).1).trans hm1) hold hnd hkv (fun p hp => hlk p (hperm.mem_iff.1 hp))
            have hK0 : ∀ k, K0 (W.heap.size + 2) (W.heap.size + 1) ua us k → k < W3.heap.size := by
              rintro k (rfl | rfl | ⟨a, h0, h1, rfl⟩)
              · omega
              · omega
              · exact Nat.lt_of_lt_of_le (hua a h0 h1) hwW3.size
            have hR3 : RW w2 xs Ds W3 := hR.up low3
            have hDlt : ∀ D ∈ Ds, D < W3.heap.size := fun D hD => Nat.lt_of_lt_of_le (Array.getElem?_eq_some_iff.1 (hR.ds D hD).2).1 low3.size
            clear hR'
            refine wpIn_rangeFunc_all rfl (by decide) (gf := 34) rfl trivial (enters_of Try.func34 (by kernel_rfl) rfl) (K0 := K0 (W.heap.size + 2) (W.heap.size + 1) ua us) hK0 seq (fun _ => rfl)
              (fun pre W' => RW w2 (addAll xs pre) Ds W' ∧ (W3.heap.size ≤ W'.heap.size ∧ ∀ k, K0 (W.heap.size + 2) (W.heap.size + 1) ua us k → W'.heap[k]? = W3.heap[k]?))
              (fun pre y a1 W' => (RW w2 (addAll xs pre) Ds W' ∧ (W3.heap.size ≤ W'.heap.size ∧ ∀ k, K0 (W.heap.size + 2) (W.heap.size + 1) ua us k → W'.heap[k]? = W3.heap[k]?)) ∧ a1 = { tmps := #[.agg #[.int .i64 sw, .slice la ln lc], .slice ua us.length uc, .int .i64 from_, .pointer (some ⟨w.heap.size, 0, none⟩), undef, undef, .slice none 0 0, .map (some b), .bool true, .pointer (some ⟨w2.heap.size + 1, 0, none⟩), .int .i64 i, .int .i64 y, .tuple #[.map (some b), .bool true], .agg #[.int .i64 sw, .slice la ln lc], .tuple #[.map (some b), .bool true], .map (some b), .bool true, .bool true, .bool false, .bool false, .int .i64 from_, .bool false, .bool false, .bool false, .int .i64 from_, .pointer (some ⟨w.heap.size, 0, none⟩), .int .i64 sw, .bool false, .bool false, .int .i64 from_, .slice (some ⟨w2.heap.size, 0, none⟩) 1 1, .int .i64 i, .slice (some ⟨g, 0, none⟩) xs.length cap, .int .i64 xs.length, .bool true, u35, u36, .map (some b), .slice ua us.length uc, .slice (some ⟨g, 0, none⟩) xs.length cap, .int .i64 i, .pointer (some ⟨g, i, none⟩), .int .i64 x, .func (.func 34) #[] #[.pointer (some ⟨W.heap.size, 0, none⟩), .pointer (some ⟨W.heap.size + 2, 0, none⟩), .pointer (some ⟨W.heap.size + 1, 0, none⟩)], .int .i64 y, undef, undef, undef, undef, undef, undef, undef, undef, undef, undef, undef], defers := [] })
              ?stI ?stA ⟨hR3, Nat.le_refl _, fun _ _ => rfl⟩ ?assign ?body ?done
            case stI => exact fun pre => st_and (RW.stays hw2W3.size hDlt) (kept_stays hK0 rfl)
            case stA => exact fun pre y a1 => st_and (st_and (RW.stays hw2W3.size hDlt) (kept_stays hK0 rfl)) st_const
            case assign =>
              intro l pre y W' K hI hlen hsz hK
              gi_wp2_with gi_round_op_a
              exact hK _ _ (KeepsOthers.refl _) (fun _ _ => rfl) ⟨hI, rfl⟩
            case body =>
              rintro l pre y a1 W' ⟨⟨hRp, hKp⟩, rfl⟩ hlen hsz
              have hF26r : (Fence.wide.inRound l).fn 26 := trivial
              have hRp0 := hRp
              obtain ⟨⟨g', cap', hbox', hrow', hfr'⟩, hlow', hds', hdn'⟩ := hRp
              have hsn := addAll_snoc xs pre y
              have hzl : (addAll xs pre).length ≤ 2000 := by have := addAll_len xs pre; have := hperm.length_eq; omega
              have hz1 : 1 ≤ (addAll xs pre).length := by obtain ⟨t, ht⟩ := addAll_pre (xs := xs) (ys := pre); rw [ht, List.length_append]; omega
              rw [hsn] at *
              generalize addAll xs pre = zs at *
              obtain ⟨cbx', fbx'⟩ := cell_of_box_a hbox'
              obtain ⟨cur', hgb', hbase', hzc, hcm, hcs', hcz⟩ := row_cell hrow'
              have hcon := AnyG.slices_Contains_int containsI g' 0 zs.length cap' zs y W' (Nat.le_refl _) (by omega) hcz
              change Calls Try.prog 26 _ _ _ at hcon
              rw [List.take_length] at hcon
              have hcon' : CallsIn (Fence.wide.inRound l) 17 Try.prog 26 #[.slice (some ⟨g', 0, none⟩) zs.length cap', .int .i64 y] W' fun e w' => e = .returned (.bool (zs.contains y)) ∧ w' = W' := callsIn_wide.2 hcon
              obtain ⟨bb, hbb⟩ : ∃ bb, zs.contains y = bb := ⟨_, rfl⟩
              rw [hbb] at hcon'
              have hbb' := Lib.hid hbb
              clear hcz hcon hbb hsn
              cases bb with
              | true =>
                gi_wp2_with (first
                  | (gi_at_call 26; refine hcon'.mono ?_; rintro e w5 ⟨rfl, rfl⟩)
                  | gi_round_op_a)
                exact ⟨KeepsOthers.refl _, fun _ _ => trivial, by rw [show addOne zs y = zs by unfold addOne; rw [hbb'.out]; rfl]; exact hRp0, hKp⟩
              | false =>
                have hone : addOne zs y = zs ++ [y] := by unfold addOne; rw [hbb'.out]; rfl
                have hone' := Lib.hid hone
                clear hone
                have hneb : RowKit.Hid (some (w2.heap.size + 1) ≠ (Value.slice (some ⟨g', 0, none⟩) zs.length cap').ownBlock) := Lib.hid fun hc => by
                  simp [Value.ownBlock] at hc
                  subst hc; rw [hbox'] at hgb'; simp at hgb'
                obtain ⟨i0, hi0, hz0, hz1', hz2⟩ : ∃ i, Try.prog.info? 3 = some i ∧ i.zero = some (.int .i64 0) ∧ i.size = 1 ∧ i.bytes = 8 := by
                  have h : (Try.prog.info? 3).map (fun i => (i.zero, i.size, i.bytes)) = some (some (.int .i64 0), 1, 8) := by kernel_rfl
                  cases hq : Try.prog.info? 3 with
                  | none => rw [hq] at h; cases h
                  | some x => rw [hq] at h; simp at h; exact ⟨x, rfl, h.1, h.2.1, h.2.2⟩
                gi_wp2_with (first
                  | (gi_at_call 26; refine hcon'.mono ?_; rintro e w5 ⟨rfl, rfl⟩)
                  | (gi_at_builtin; refine wpListIn_append_own _ rfl _ _ 27 rfl w2.heap.size 3 i0 (.int .i64 0) 1 8 Try.underlying27 hi0 hz0 hz1' hz2 rfl (by decide) _ _ _ rfl (hrow'.alloc _) ⟨w5.heap.size, 0, none⟩ 1 1 [.int .i64 y] rfl rfl (cell_one_at _ _ _ _ rfl) (ints_oneCell .i64 [y]) (by unfold maxLen; omega) (by omega) (by have := hlow'.size; simp; omega) ?_
                     intro v6 w6 hown6 hg6 hnil6
                     have hv6 : w6.heap[w2.heap.size + 1]? = some (.cells #[.slice (some ⟨g', 0, none⟩) zs.length cap'] 27 (0, 0)) := (hg6.block _ (by simp; have := (Array.getElem?_eq_some_iff.1 hbox').1; omega) hneb.out).trans ((Below.heap_alloc _ _ _ (Array.getElem?_eq_some_iff.1 hbox').1).trans hbox')
                     obtain ⟨hc6, hf6⟩ := cell_of_box_a hv6
                     obtain ⟨g6, cap6, cur6, rfl, hbase6, hgb6, hr1, hr2, hr3, hr4⟩ : ∃ g6 cap6 cur6, v6 = .slice (some ⟨g6, 0, none⟩) (zs.length + 1) cap6 ∧ w2.heap.size ≤ g6 ∧ w6.heap[g6]? = some (.cells cur6 3 (0, 0)) ∧ zs.length + 1 ≤ cap6 ∧ cap6 ≤ maxLen ∧ cur6.size = cap6 * 1 ∧ cur6.toList.take ((zs.length + 1) * 1) = zs.map (.int .i64) ++ [.int .i64 y] := by
                       rcases hown6.2 with ⟨_, h0⟩ | h'
                       · exact absurd h0 (by omega)
                       · exact h'
                     go_frame)
                  | gi_round_op_a)
                have hg6' : (w5.alloc (.cells #[.int .i64 y] 3)).grownBy w6 (some g') := hg6
                obtain ⟨w7, hw7⟩ : ∃ w7, w6.setCell ⟨w2.heap.size + 1, 0, none⟩ (.slice (some ⟨g6, 0, none⟩) (zs.length + 1) cap6) = w7 := ⟨_, rfl⟩
                rw [hw7]
                have hg7 : w6.grownBy w7 (some (w2.heap.size + 1)) := by rw [← hw7]; exact grownBy_setCell0_a _ _ _
                have hv7 : w7.heap[w2.heap.size + 1]? = some (.cells #[.slice (some ⟨g6, 0, none⟩) (zs.length + 1) cap6] 27 (0, 0)) := by rw [← hw7]; exact heap_setCell_box_a _ hv6
                have same : ∀ (k : Nat) (o : Obj), w5.heap[k]? = some o → k ≠ g' → k ≠ w2.heap.size + 1 → w7.heap[k]? = some o := fun k o hk n1 n2 => by
                  have hlt := (Array.getElem?_eq_some_iff.1 hk).1
                  have h1 := (hg6'.block k (by simp; omega) (fun e => n1 (by cases e; rfl))).trans ((Below.heap_alloc w5 _ k hlt).trans hk)
                  exact (hg7.block k (Array.getElem?_eq_some_iff.1 h1).1 (fun e => n2 (by cases e; rfl))).trans h1
                have hsz7 : w5.heap.size ≤ w7.heap.size := Nat.le_trans (by simp) (Nat.le_trans hg6'.size hg7.size)
                have hkk : ∀ k, K0 (W.heap.size + 2) (W.heap.size + 1) ua us k → k ≠ g' ∧ k ≠ w2.heap.size + 1 := by
                  intro k hk
                  have hk3 := hKp.2 k hk
                  rcases hk with rfl | rfl | ⟨a, h0, h1, rfl⟩
                  · refine ⟨fun e => ?_, by omega⟩
                    rw [k2, e, hgb'] at hk3
                    simp only [Option.some.injEq, Obj.cells.injEq] at hk3
                    have := hk3.1
                    rw [this] at hcs'
                    simp at hcs'
                    omega
                  · refine ⟨fun e => ?_, by omega⟩
                    rw [k1, e, hgb'] at hk3
                    simp at hk3
                  · have := hua a h0 h1
                    have := hbw.size
                    exact ⟨by omega, by omega⟩
                have hkeep : ∀ k, K0 (W.heap.size + 2) (W.heap.size + 1) ua us k → w7.heap[k]? = w5.heap[k]? := fun k hk => by
                  have hlt : k < w5.heap.size := Nat.lt_of_lt_of_le (hK0 k hk) hKp.1
                  rw [same k _ (Array.getElem?_eq_getElem hlt) (hkk k hk).1 (hkk k hk).2, Array.getElem?_eq_getElem hlt]
                have hko : KeepsOthers w5 w7 := ⟨hsz7, fun k o hk ho => same k o hk (fun e => by subst e; rw [hgb'] at hk; cases hk; cases ho) (fun e => by subst e; rw [hbox'] at hk; cases hk; cases ho)⟩
                refine ⟨hko, hkeep, ?_, Nat.le_trans hKp.1 hsz7, fun k hk => (hkeep k hk).trans (hKp.2 k hk)⟩
                rw [hone'.out]
                have hown7 := hown6.kept hg7 (by
                  refine .inr fun hc => ?_
                  simp [Value.ownBlock] at hc
                  subst hc; rw [hv6] at hgb6; simp at hgb6)
                refine ⟨⟨g6, cap6, by simpa using hv7, by simpa using hown7, .inr (by simp; omega)⟩, ?_, fun D hD => ⟨(hds' D hD).1, hko.same D _ (hds' D hD).2 rfl⟩, hdn'⟩
                have hb6 : Below w2.heap.size w2 w6 := (hlow'.alloc hlow'.size _).grown hg6' (by have := hlow'.size; simp; omega) (fun k e => by cases e; exact hbase')
                exact hb6.grown hg7 hb6.size (fun k e => by cases e; omega)
            case done =>
              rintro D ys W' hD hS ⟨hRp, hKp⟩ hDd
              gi_wp2
              obtain ⟨t, ht⟩ := addAll_pre (xs := xs) (ys := ys)
              have hal : xs.length ≤ (addAll xs ys).length := by rw [ht, List.length_append]; omega
              refine ⟨⟨addAll xs ys, i + 1, D :: Ds, _, _, _, _, _, _, _, _, _, _, _, _, _, rfl, ⟨hRp.box, hRp.low, ?_, List.nodup_cons.2 ⟨fun hc => by have := hDlt D hc; omega, hRp.dn⟩⟩, hG.next hxi hS, by omega⟩, ?_⟩
              · intro D' hD'
                rcases List.mem_cons.1 hD' with rfl | hD'
                · exact ⟨Nat.le_trans hw2W3.size hD, hDd⟩
                · exact hRp.ds D' hD'
              · simp [intOf]; omega
          · have hlt : ¬ i < xs.length := by assumption
            have hie : i = xs.length := by omega
            subst hie
            have hR := hR'.out
            obtain ⟨⟨g', cap', hbox, hrow, _⟩, hlow, hds, hdn⟩ := hR
            have eb : (Value.slice (some ⟨g', 0, none⟩) xs.length cap') = .slice (some ⟨g, 0, none⟩) xs.length cap := by
              have := (cell_of_box_a hbox).1; rw [cbx] at this; exact (Option.some.inj this).symm
            rw [eb] at hbox hrow
            clear eb
            obtain ⟨cur, hgb, hbase, hzc, hcm, hcs, hcz⟩ := row_cell hrow
            have hH : Holds (Value.int .i64) W g 0 xs.toArray := by
              intro j hj
              have hj' : j < xs.length := by simpa using hj
              refine ⟨?_, by simp [World.frozen?, hgb]⟩
              rw [hcz j hj']
              simp [hj']
            have cS := AnyG.slices_Sort_int sortI g 0 cap xs W hH (Array.getElem?_eq_some_iff.1 hgb).1 (by omega)
            change Calls Try.prog 27 _ _ _ at cS
            refine (callsIn_wide.2 cS).mono ?_
            rintro e w5 ⟨rfl, nn, os, hw5⟩
            rw [putRow_map] at hw5
            have hg5 : W.grownBy w5 (some g) := by rw [hw5]; exact grownBy_putRow _
            have hown5 : w5.ownsRow w2.heap.size 3 1 (.slice (some ⟨g, 0, none⟩) xs.length cap) xs.length ((xs.mergeSort fun x y => decide (x ≤ y)).map (.int .i64)) := by
              rw [hw5]
              have := ownsRow_put (w := W) (n := nn) (os := os) (k := 1) (fl := (xs.mergeSort fun x y => decide (x ≤ y)).map (Value.int .i64)) (m := xs.length) (by simp) hbase hgb hzc hcm (by omega)
              simpa using this
            have hbox5 : w5.heap[w2.heap.size + 1]? = some (.cells #[.slice (some ⟨g, 0, none⟩) xs.length cap] 27 (0, 0)) := (hg5.block _ (Array.getElem?_eq_some_iff.1 hbox).1 (fun e => by cases e; rw [hbox] at hgb; simp at hgb)).trans hbox
            have hds5 : ∀ D ∈ Ds, w.heap.size ≤ D ∧ w5.heap[D]? = some (.deferred (some [])) := fun D hD => ⟨Nat.le_trans hbw.size (hds D hD).1, (hg5.block D (Array.getElem?_eq_some_iff.1 (hds D hD).2).1 (fun e => by have h9 := (hds D hD).2; cases e; rw [hgb] at h9; cases h9)).trans (hds D hD).2⟩
            have hlow5 : Below w.heap.size w w5 := (hbw.trans (hlow.mono hbw.size)).grown hg5 (hbw.trans (hlow.mono hbw.size)).size (fun k e => by cases e; exact Nat.le_trans hbw.size hbase)
            obtain ⟨cb5, fb5⟩ := cell_of_box_a hbox5
            have hown5' := Lib.hid hown5
            have hds5' := Lib.hid hds5
            clear hw5 hg5 hown5 hbox5 hds5 hcz hH cS hds hbox hgb
            gi_wp2
            refine leaves_marks (B := w.heap.size) (I := fun W5 => W5.ownsRow w2.heap.size 3 1 (.slice (some ⟨g, 0, none⟩) xs.length cap) xs.length ((xs.mergeSort fun x y => decide (x ≤ y)).map (.int .i64)) ∧ Below w.heap.size w W5) ?_ ?_ Ds w5 hdn hds5'.out ⟨hown5'.out, hlow5⟩
            · rintro X Y row ⟨h1, h2⟩ hg hr
              exact ⟨row_stays h1 hg (fun r e => (hr r e).2), h2.grown hg h2.size (fun k e => (hr k e).1)⟩
            · rintro W5 ⟨h1, h2⟩
              refine ⟨_, results_tmp rfl _ _ _, _, xs, rfl, ?_, ownsRow_base_a h1 hbw.size, ?_, h2⟩
              · rw [f1', f2']
                exact ⟨hG.nd, fun z => ⟨fun hz => (hG.ends.1 hz).perm hperm, fun hz => hG.ends.2 (hz.perm hperm.symm)⟩⟩
              · constructor
                · intro h; simp [Array.getD] at h
                · intro h; rw [h] at hG; exact absurd hG.st (by simp)


end Go.Proofs.Ytmokkonnilmdfaa
