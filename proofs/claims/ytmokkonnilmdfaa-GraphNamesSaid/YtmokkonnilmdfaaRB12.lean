/-
  graph.Reach, as a contract: who is reached.
  No statement of the seat is proved here. Conditions: none.
-/
import Derived.Test.YtmokkonnilmdfaaRC12
set_option linter.unusedVariables false
set_option linter.unusedSimpArgs false
namespace Go.Proofs.Ytmokkonnilmdfaa
open Go.Sy Go.RowKit

def kvOf (ls : List D) : List KV := (mAt ls ls.length).map fun d => (keyI d, valI d)
/-- Ever more of those who are reached. -/
def clR (kv : List KV) (us : List Bool) : Nat → List Int → List Int
  | 0, xs => xs
  | k + 1, xs => clR kv us k (addAll xs (xs.flatMap fun x => nbrL x us kv))
def reachI (sw : Int) (ls : List D) (us : List Bool) (from_ : Int) : List Int := bif badG sw ls || (decide (from_ < 1) || decide (from_ > sw)) then [] else ([1, 2, 3, 4, 5, 6] : List Int).filter fun x => (clR (kvOf ls) us 6 [from_]).contains x

theorem mAt_vals (ls : List D) : ∀ i d, d ∈ mAt ls i → ∃ j, j < i ∧ (valI d = (((ls.getD j default).at 2).int, ((ls.getD j default).at 3).int, (j : Int)) ∨ valI d = (((ls.getD j default).at 0).int, ((ls.getD j default).at 1).int, (j : Int)))
  | 0, d, h => by simp [mAt] at h
  | i + 1, d, hd => by
    unfold mAt at hd
    rcases setK_keys hd with hd | rfl
    · unfold mA at hd
      rcases setK_keys hd with hd | rfl
      · obtain ⟨j, hj, h2⟩ := mAt_vals ls i d hd
        exact ⟨j, by omega, h2⟩
      · exact ⟨i, by omega, .inl rfl⟩
    · exact ⟨i, by omega, .inr rfl⟩
theorem good_vals {sw : Int} {ls : List D} (h : badG sw ls = false) {d : D} (hd : d ∈ mAt ls ls.length) : 1 ≤ (valI d).1 ∧ (valI d).1 ≤ 6 := by
  have h6 := (good_keys h).1
  obtain ⟨j, hj, hc⟩ := mAt_vals ls _ d hd
  unfold badG at h
  simp only [Bool.or_eq_false_iff, decide_eq_false_iff_not] at h
  have hl := List.any_eq_false.1 h.2 j (by simpa using hj)
  simp only [badL, Bool.or_eq_true, not_or, Bool.not_eq_true] at hl
  have hA := hl.1; have hB := hl.2.1
  simp only [badA, badB, Bool.or_eq_false_iff] at hA hB
  have h1 := outB_false hA.2
  have h2 := outB_false hB.2
  rcases hc with e | e
  · rw [e]; simp only; omega
  · rw [e]; simp only; omega
theorem kv_link {ls : List D} : ∀ p ∈ kvOf ls, 0 ≤ p.2.2.2 := by
  intro p hp
  obtain ⟨d, hd, rfl⟩ := List.mem_map.1 hp
  obtain ⟨j, hj, hc⟩ := mAt_vals ls _ d hd
  rcases hc with e | e
  · simp only [e]; omega
  · simp only [e]; omega
theorem nbr_mem {kv : List KV} {us : List Bool} {x y : Int} (h : y ∈ nbrL x us kv) : ∃ p ∈ kv, p.1.1 = x ∧ upB us p.2.2.2 = true ∧ p.2.1 = y := by
  unfold nbrL at h
  obtain ⟨p, hp, rfl⟩ := List.mem_map.1 h
  have := List.mem_filter.1 hp
  simp only [nbrB, Bool.and_eq_true, beq_iff_eq] at this
  exact ⟨p, this.1, this.2.1, this.2.2, rfl⟩
theorem rch_bound {sw : Int} {ls : List D} {us : List Bool} {from_ : Int} (h : badG sw ls = false) (f1 : 1 ≤ from_) (f2 : from_ ≤ sw) {x : Int} (hr : Rch (kvOf ls) us from_ x) : 1 ≤ x ∧ x ≤ 6 := by
  have h6 := (good_keys h).1
  induction hr with
  | start => omega
  | step _ hy _ =>
    obtain ⟨p, hp, _, _, rfl⟩ := nbr_mem hy
    obtain ⟨d, hd, rfl⟩ := List.mem_map.1 hp
    exact good_vals h hd

/-- No more comes. -/
def Shut (kv : List KV) (us : List Bool) (xs : List Int) : Prop := ∀ x ∈ xs, ∀ y ∈ nbrL x us kv, y ∈ xs
theorem clR_sound {kv : List KV} {us : List Bool} {from_ : Int} : ∀ (k : Nat) (xs : List Int), (∀ x ∈ xs, Rch kv us from_ x) → ∀ x ∈ clR kv us k xs, Rch kv us from_ x
  | 0, xs, h => h
  | k + 1, xs, h => clR_sound k _ fun x hx => by
    rcases addAll_mem.1 hx with h1 | h1
    · exact h x h1
    · obtain ⟨z, hz, hxz⟩ := List.mem_flatMap.1 h1
      exact .step (h z hz) hxz
theorem clR_nodup {kv : List KV} {us : List Bool} : ∀ (k : Nat) (xs : List Int), xs.Nodup → (clR kv us k xs).Nodup
  | 0, xs, h => h
  | k + 1, xs, h => clR_nodup k _ (addAll_nodup h)
theorem clR_more {kv : List KV} {us : List Bool} : ∀ (k : Nat) (xs : List Int), ∀ x ∈ xs, x ∈ clR kv us k xs
  | 0, xs, x, h => h
  | k + 1, xs, x, h => clR_more k _ x (addAll_mem.2 (.inl h))
theorem clR_shut {kv : List KV} {us : List Bool} : ∀ (k : Nat) (xs : List Int), Shut kv us xs → clR kv us k xs = xs
  | 0, xs, _ => rfl
  | k + 1, xs, h => by
    have e : addAll xs (xs.flatMap fun x => nbrL x us kv) = xs := by
      have key : ∀ ys : List Int, (∀ y ∈ ys, y ∈ xs) → addAll xs ys = xs := by
        intro ys
        unfold addAll
        induction ys with
        | nil => intro _; rfl
        | cons y r ih =>
          intro hy
          rw [List.foldl_cons, show addOne xs y = xs by unfold addOne; rw [show xs.contains y = true by simpa using hy y (by simp)]; rfl]
          exact ih fun z hz => hy z (by simp [hz])
      exact key _ fun y hy => by obtain ⟨z, hz, h2⟩ := List.mem_flatMap.1 hy; exact h z hz y h2
    unfold clR
    rw [e]
    exact clR_shut k xs h
/-- Either it is shut, or it has grown. -/
theorem clR_grows {kv : List KV} {us : List Bool} : ∀ (k : Nat) (xs : List Int), xs.Nodup → Shut kv us (clR kv us k xs) ∨ xs.length + k ≤ (clR kv us k xs).length
  | 0, xs, _ => .inr (by simp [clR])
  | k + 1, xs, hn => by
    by_cases hs : Shut kv us xs
    · rw [clR_shut _ _ hs]; exact .inl hs
    · unfold clR
      obtain ⟨t, ht⟩ := addAll_pre (xs := xs) (ys := xs.flatMap fun x => nbrL x us kv)
      have hlt : xs.length + 1 ≤ (addAll xs (xs.flatMap fun x => nbrL x us kv)).length := by
        rw [ht, List.length_append]
        rcases t with _ | ⟨a, t⟩
        · exfalso
          rw [List.append_nil] at ht
          refine hs fun x hx y hy => ?_
          have : y ∈ addAll xs (xs.flatMap fun x => nbrL x us kv) := addAll_mem.2 (.inr (List.mem_flatMap.2 ⟨x, hx, hy⟩))
          rwa [ht] at this
        · simp
      rcases clR_grows k _ (addAll_nodup hn) with h | h
      · exact .inl h
      · exact .inr (by omega)
theorem clR_iff {sw : Int} {ls : List D} {us : List Bool} {from_ : Int} (h : badG sw ls = false) (f1 : 1 ≤ from_) (f2 : from_ ≤ sw) (x : Int) : x ∈ clR (kvOf ls) us 6 [from_] ↔ Rch (kvOf ls) us from_ x := by
  have hsnd := clR_sound (kv := kvOf ls) (us := us) (from_ := from_) 6 [from_] (by intro x hx; simp at hx; subst hx; exact .start)
  have hshut : Shut (kvOf ls) us (clR (kvOf ls) us 6 [from_]) := by
    rcases clR_grows (kv := kvOf ls) (us := us) 6 [from_] (by simp) with h1 | h1
    · exact h1
    · have := len_le (m := [1, 2, 3, 4, 5, 6]) (clR_nodup (kv := kvOf ls) (us := us) 6 [from_] (by simp)) (fun z hz => by
        have := rch_bound h f1 f2 (hsnd z hz)
        have : z = 1 ∨ z = 2 ∨ z = 3 ∨ z = 4 ∨ z = 5 ∨ z = 6 := by omega
        simpa using this)
      simp at h1 this
      omega
  constructor
  · exact hsnd x
  · intro hr
    induction hr with
    | start => exact clR_more _ _ _ (by simp)
    | step _ hy ih => exact hshut _ ih _ hy

theorem reach_sorted {sw : Int} {ls : List D} {us : List Bool} {from_ : Int} (h : badG sw ls = false) (f1 : ¬ from_ < 1) (f2 : ¬ from_ > sw) {xs : List Int} (hn : xs.Nodup) (hx : ∀ x, x ∈ xs ↔ Rch (kvOf ls) us from_ x) :
    (xs.mergeSort fun x y => decide (x ≤ y)) = reachI sw ls us from_ := by
  unfold reachI
  rw [h, decide_eq_false f1, decide_eq_false f2]
  simp only [Bool.or_self, cond_false]
  refine sorted_eq ?_ (List.Pairwise.filter _ (by decide)) fun z => ?_
  · have h1 : (xs.mergeSort fun x y => decide (x ≤ y)).Pairwise (fun a b => decide (a ≤ b) = true) := List.pairwise_mergeSort (fun a b c h1 h2 => by simp at *; omega) (fun a b => by simp; omega) xs
    have h2 : (xs.mergeSort fun x y => decide (x ≤ y)).Nodup := (List.mergeSort_perm xs _).nodup_iff.2 hn
    exact (List.Pairwise.and h1 h2).imp fun {a b} hab => by simp at hab; omega
  · rw [(List.mergeSort_perm xs _).mem_iff, hx, List.mem_filter, List.contains_iff_mem, clR_iff h (by omega) (by omega)]
    constructor
    · intro hr
      have := rch_bound h (by omega) (by omega) hr
      have : z = 1 ∨ z = 2 ∨ z = 3 ∨ z = 4 ∨ z = 5 ∨ z = 6 := by omega
      exact ⟨by simpa using this, hr⟩
    · exact fun hr => hr.2

theorem bools_rows {Φ : Nat → Prop} {w : World} : ∀ {us : List D} {fl : List Value}, RowsP (fun d v => DenD Φ w .bool d v) false 1 us fl → fl = us.map fun d => .bool d.bool
  | [], fl, h => by simp only [RowsP] at h; subst h; rfl
  | d :: r, fl, h => by
    simp only [RowsP] at h
    obtain ⟨row, rest, rfl, hl, hd, hr⟩ := h
    obtain ⟨v, rfl⟩ : ∃ v, row = [v] := by
      match row, hl with
      | [v], _ => exact ⟨v, rfl⟩
    simp only [packV, DenD, List.headD] at hd
    rw [bools_rows hr, hd]
    rfl

/-- Reach. -/
theorem reach_ok (sw : Int) (nl : Bool) (ls : List D) (unl : Bool) (us : List D) (from_ : Int) (hs : shortB ls.length = true) :
    CallOK Try.prog 9 [GRa sw nl ls, .lst .bool unl us, .si .i64 from_] [] (.own 0) [some ⟨.rows (.int .i64) ((reachI sw ls (us.map D.bool) from_).map D.i).isEmpty ((reachI sw ls (us.map D.bool) from_).map D.i), 3, false⟩] := by
  intro ρ Φ w vs hr hd
  simp only [DenL] at hd
  obtain ⟨gv, _, rfl, hgv, uv, _, rfl, huv, fv, _, rfl, hfv, rfl⟩ := hd
  simp only [Den, DenL] at hgv
  obtain ⟨_, rfl, _, _, rfl, rfl, lv, _, rfl, hl, rfl⟩ := hgv
  simp only [Den] at hfv
  subst hfv
  have hρ : ρ = fun _ => none := by
    funext k
    cases h : ρ k with
    | none => rfl
    | some m => have := hr.dom k m h; simp at this
  subst hρ
  have hl0 := hl
  simp only [DenD, D.nl, D.xs] at hl
  obtain ⟨la, lc, rfl, _⟩ := hl
  simp only [Den, DenD, D.nl, D.xs] at huv
  obtain ⟨ua, uc, rfl, _, _, _, hua0, hread⟩ := huv
  have hlow : Below w.heap.size w (w.alloc (.cells #[.int .i64 sw, .slice la ls.length lc] 24)) := (Below.refl _ w).alloc (Nat.le_refl _) _
  have hl1 : DenD Φ (w.alloc (.cells #[.int .i64 sw, .slice la ls.length lc] 24)) (.list LINKs) (.l nl ls) (.slice la ls.length lc) := DenD.mono (Ext.of_below hr.phi hlow) (fun _ h => h) hl0
  have hsd := sides_w sw nl ls hs (Φ := Φ) (fun k hk => Nat.lt_of_lt_of_le (hr.phi k hk) hlow.size) hl1
  have hsd2 : Calls Try.prog 24 #[.agg #[.int .i64 sw, .slice la ls.length lc]] (w.alloc (.cells #[.int .i64 sw, .slice la ls.length lc] 24)) fun e w2 => (badG sw ls = false → Apart mp47.3 (mAt ls ls.length)) ∧ ∃ mb, e = .returned (.tuple #[.map mb, .bool (!badG sw ls)]) ∧ Below (w.heap.size + 1) (w.alloc (.cells #[.int .i64 sw, .slice la ls.length lc] 24)) w2 ∧ (badG sw ls = false → ∃ b kv, mb = some b ∧ EntsAt w2 b kv ∧ kv.Perm (kvOf ls)) := by
    refine hsd.mono ?_
    rintro e w2 ⟨mb, may, ents, clock, es', rfl, hb, rfl, h⟩
    rw [World.size_alloc] at hb
    cases mb with
    | none =>
      have h' : badG sw ls = true := h
      exact ⟨fun hc => (by rw [h'] at hc; cases hc), none, rfl, hb, fun hc => (by rw [h'] at hc; cases hc)⟩
    | some b =>
      obtain ⟨h0, h1, h2, h3, h4, h5, h6⟩ := h
      refine ⟨fun _ => h4, some b, rfl, hb, fun _ => ⟨b, es'.map fun d => (keyI d, valI d), rfl, ⟨ents, clock, h1, h2, h3, ?_⟩, h5.map _⟩⟩
      rw [h6, List.map_map]
      rfl
  have hap : badG sw ls = false → Apart mp47.3 (mAt ls ls.length) := by
    obtain ⟨e, w2, fr, ⟨h, _⟩, _⟩ := hsd2 []
    exact h
  obtain ⟨ub, hub⟩ : ∃ ub : List Bool, ub = us.map D.bool := ⟨_, rfl⟩
  have hul : us.length = ub.length := by rw [hub, List.length_map]
  have hub2 : us ≠ [] → ∀ a, ua = some a → a.spot = none ∧ a.block < w.heap.size ∧ ∀ j, j < ub.length → w.cell? ⟨a.block, a.off + j, none⟩ = some (.bool (ub.getD j false)) := fun hne a ha => by
    obtain ⟨q1, q2, fl, q3, q4⟩ := hread a ha hne
    refine ⟨q1, hr.phi _ q2, fun j hj => q4 j _ ?_⟩
    have hfl := bools_rows (Φ := Φ) (w := w) (by simpa [DenD, Sh.isAgg, Sh.size] using q3)
    rw [hfl, List.getElem?_map, hub]
    have hj' : j < us.length := by omega
    simp [hj']
  have hne : ub ≠ [] → us ≠ [] := fun h e => h (by rw [hub, e]; rfl)
  have hup : UpAt w ua ub := fun j hj => by
    have h0 : us ≠ [] := hne fun e => by rw [e] at hj; simp at hj
    cases hua : ua with
    | none => exact absurd (hua0 hua).1 h0
    | some a =>
      obtain ⟨q1, q2, q3⟩ := hub2 h0 a hua
      exact ⟨a, rfl, q1, q3 j hj⟩
  rw [hul]
  have hkl : (kvOf ls).length ≤ 1000 ∨ badG sw ls = true := by
    cases hb : badG sw ls with
    | true => exact .inr rfl
    | false =>
      have := few_keys hb (apart_nodup (hap hb)) (fun q hq => hq)
      simp only [List.length_map] at this
      exact .inl (by unfold kvOf; rw [List.length_map]; omega)
  obtain ⟨kv0, hkv0⟩ : ∃ kv0, kv0 = bif badG sw ls then [] else kvOf ls := ⟨_, rfl⟩
  have hgood : badG sw ls = false → kv0 = kvOf ls := fun h => by rw [hkv0, h]; rfl
  have hbad : badG sw ls = true → kv0 = [] := fun h => by rw [hkv0, h]; rfl
  refine (reach_calls sw from_ la ls.length lc ua uc ub (badG sw ls) kv0 w hup (fun a h0 ha => (hub2 (hne h0) a ha).2.1) ?_ ?_ ?_ (hsd2.mono fun e w2 ⟨_, mb, h1, h2, h3⟩ => ⟨mb, h1, h2, fun hc => by rw [hgood hc]; exact h3 hc⟩)).mono ?_
  · intro p hp
    cases hb : badG sw ls with
    | true => rw [hbad hb] at hp; cases hp
    | false => rw [hgood hb] at hp; exact kv_link p hp
  · cases hb : badG sw ls with
    | true => rw [hbad hb]; simp
    | false => 
      rw [hgood hb]
      rcases hkl with h | h
      · exact h
      · rw [hb] at h; cases h
  · intro x hx
    cases hb : badG sw ls with
    | true => exact .inr (.inl rfl)
    | false =>
      rw [hgood hb] at hx
      by_cases f1 : from_ < 1
      · exact .inr (.inr (.inl f1))
      · by_cases f2 : sw < from_
        · exact .inr (.inr (.inr f2))
        · exact .inl (rch_bound hb (by omega) (by omega) hx)
  · rintro e w' ⟨v, xs, rfl, hcase, hrow, hn, hb⟩
    have hout : (xs.mergeSort fun x y => decide (x ≤ y)) = reachI sw ls ub from_ ∧ (xs = [] ↔ reachI sw ls ub from_ = []) := by
      have hlen : (xs.mergeSort fun x y => decide (x ≤ y)).length = xs.length := List.length_mergeSort _
      have fin : (xs.mergeSort fun x y => decide (x ≤ y)) = reachI sw ls ub from_ → ((xs.mergeSort fun x y => decide (x ≤ y)) = reachI sw ls ub from_ ∧ (xs = [] ↔ reachI sw ls ub from_ = [])) := fun h => ⟨h, by rw [← h, ← List.length_eq_zero_iff, ← List.length_eq_zero_iff, hlen]⟩
      refine fin ?_
      cases hc : badG sw ls || (decide (from_ < 1) || decide (from_ > sw)) with
      | true =>
        rw [hc, cond_true] at hcase
        subst hcase
        unfold reachI
        rw [hc]
        simp
      | false =>
        rw [hc, cond_false] at hcase
        simp only [Bool.or_eq_false_iff, decide_eq_false_iff_not] at hc
        refine reach_sorted hc.1 hc.2.1 hc.2.2 hcase.1 fun x => ?_
        rw [hcase.2, hgood hc.1]
    rw [hout.1] at hrow
    rw [hout.2] at hn
    have hle : xs.length = (reachI sw ls ub from_).length := by rw [← hout.1, List.length_mergeSort]
    obtain ⟨ρ', h1, h2, h3⟩ := own_new (sh := .int .i64) (xs := (reachI sw ls ub from_).map D.i) hr.phi hrow (ints_rows _) (by simp [hle]) (by rw [hn]; simp) hb
    exact ⟨v, ρ', Φ, rfl, h1, by rw [← hub]; exact h2, h3⟩


end Go.Proofs.Ytmokkonnilmdfaa
