/-
  slices.SortedFunc(maps.Keys(m), by port), by hand.
  No statement of the seat is proved here. Conditions: none.
-/
import Derived.Test.YtmokkonnilmdfaaYS
import Derived.Test.YtmokkonnilmdfaaSQ12
import Derived.Shelf.Lay
import Derived.Lib.Hide
import Derived.Shelf.SlSortCmp.NoneTotal

import Derived.Ground.SlsfProg
import Derived.Ground.NamesProg
set_option linter.unusedVariables false
set_option linter.unusedSimpArgs false
namespace Go.Proofs.Ytmokkonnilmdfaa
open Go.Shelf Go.RowKit Go.Lib Go.Maps Go.Sort Go.Sy
shelf_lay_g SlLaysF0.n6 Slsf 6 at Try 39 as sortEnds

/-- An end whose port is small. -/
abbrev PE := { p : Int × Int // 0 ≤ p.2 ∧ p.2 ≤ 100 }
instance : Inhabited PE := ⟨⟨(0, 0), by decide⟩⟩
def cfE (x y : PE) : Int := x.1.2 - y.1.2
theorem ltE (x y : PE) : ltOf cfE x y = decide (x.1.2 < y.1.2) := by
  unfold ltOf cfE
  by_cases h : x.1.2 < y.1.2
  · rw [decide_eq_true h, decide_eq_true (by omega)]
  · rw [decide_eq_false h, decide_eq_false (by omega)]
theorem swoE : SWO (ltOf cfE) where
  irrefl x := by rw [ltE]; simp
  trans x y z h1 h2 := by rw [ltE] at *; simp at *; omega
  ntrans x y z h1 h2 := by rw [ltE] at *; simp at *; omega

set_option maxHeartbeats 1000000 in
theorem ports1 (x y : PE) (W : World) : Calls Try.prog 31 #[.agg #[.int .i64 x.1.1, .int .i64 x.1.2], .agg #[.int .i64 y.1.1, .int .i64 y.1.2]] W fun e w' => e = .returned (.int .i64 (cfE x y)) ∧ ∃ q os', w' = grow (W.drewN q) os' := by
  have mixed : Try.prog.follows .mixedOrders = true := by kernel_rfl
  have hw : IntKind.i64.wrap (x.1.2 - y.1.2) = cfE x y := by
    have := x.2; have := y.2
    unfold cfE
    rw [IntKind.wrap_i64]; omega
  go_enter Try.func31, Try.ntmps31
  go_wp2
  go_ret
  exact ⟨rfl, 0, _, by rw [alloc_eq_grow, alloc_eq_grow, grow_grow]; rfl⟩

theorem e40 : ∀ args w, (callFunc 40 args).run Try.prog w = .ok (.enter 40 args) w := enters_of Try.func40 (by kernel_rfl) rfl
theorem e31 : ∀ args w, (callFunc 31 args).run Try.prog w = .ok (.enter 31 args) w := enters_of Try.func31 (by kernel_rfl) rfl

theorem pmap_val {ss : List (Int × Int)} (h : ∀ k ∈ ss, 0 ≤ k.2 ∧ k.2 ≤ 100) : (ss.pmap (fun p hp => (⟨p, hp⟩ : PE)) h).map (·.1) = ss := by
  rw [List.map_pmap]; simp

theorem flat_val (l : List PE) : (l.map (·.1)).flatMap cellsE = l.flatMap fun x => cellsE x.1 := by rw [List.flatMap_map]

set_option maxHeartbeats 2000000 in
set_option maxRecDepth 100000 in
/-- The ends of a map, by port. -/
theorem sortedFunc_calls (Bm N : Nat) (ks : List (Int × Int)) (w : World) (hp : ∀ k ∈ ks, 0 ≤ k.2 ∧ k.2 ≤ 100) (hlen : N ≤ 1000000) (hkl : ks.length ≤ N)
    (hseq : SeqStopsA Fence.wide 7 Try.prog 40 #[.pointer (some ⟨Bm, 0, none⟩)] (fun p => #[encE p]) (fun ss => ss.Perm ks) (fun _ => True) N w) :
    Calls Try.prog 29 #[.func (.func 40) #[] #[.pointer (some ⟨Bm, 0, none⟩)], .func (.func 31) #[] #[]] w fun e w' =>
      ∃ (v : Value) (ss : List (Int × Int)), e = .returned v ∧ ss.Perm ks ∧ ss.Pairwise (fun a b => a.2 ≤ b.2) ∧ w'.ownsRow w.heap.size 33 2 v ss.length (ss.flatMap cellsE) ∧ Below w.heap.size w w' := by
  have mixed : Try.prog.follows .mixedOrders = true := by kernel_rfl
  have hcol := callsIn_wide.1 (collect_in Fence.wide 9 trivial trivial rfl (by decide) 40 #[.pointer (some ⟨Bm, 0, none⟩)] trivial e40 (fun ss => ss.Perm ks) N (Nat.le_trans hlen (by decide)) (by omega) w hseq)
  clear hseq
  go_enter Try.func29, Try.ntmps29
  go_wp2_with (go_at_call 38; refine hcol.mono ?_; rintro e w1 ⟨v, ss, rfl, hS, hrow, hnil, hbel⟩)
  have hps : ∀ k ∈ ss, 0 ≤ k.2 ∧ k.2 ≤ 100 := fun k hk => hp k (hS.mem_iff.1 hk)
  rcases hrow.2 with ⟨rfl, hz⟩ | ⟨gb, cap, cur, rfl, hbase, hgb, r1, r2, r3, r4⟩
  · have hss : ss = [] := List.eq_nil_of_length_eq_zero hz
    subst hss
    have cN := fun W => AnyF.slices_SortFunc_none sortEnds none 0 (.func (.func 31) #[] #[]) W
    change ∀ W, Calls Try.prog 39 _ _ _ at cN
    go_wp2_with (go_at_call 39; refine (cN _).mono ?_; rintro e w2 ⟨rfl, rfl⟩)
    go_ret
    exact ⟨_, [], rfl, hS, List.Pairwise.nil, hrow, hbel⟩
  · have hgl : gb < w1.heap.size := (Array.getElem?_eq_some_iff.1 hgb).1
    have hk2 : ∀ x : PE, (cellsE x.1).length = 2 := fun _ => rfl
    obtain ⟨ps, hps'⟩ : ∃ ps : List PE, ps.map (·.1) = ss := ⟨_, pmap_val hps⟩
    have hpl : ps.length = ss.length := by rw [← hps', List.length_map]
    have hflat : flatK (fun x : PE => cellsE x.1) 2 ps.toArray = (ss.flatMap cellsE).toArray := by
      rw [flatK_list hk2, ← hps', flat_val]
    have hH : HoldsK (fun x : PE => cellsE x.1) 2 w1 gb 0 ps.toArray := by
      unfold HoldsK
      rw [hflat]
      exact holds_row hgb hrow.1 r4
    have hsz : ps.toArray.size = ss.length := by simpa using hpl
    have hle : ss.length ≤ 1000000 := by rw [hS.length_eq]; omega
    have cS := AnyQ.slices_SortFunc sortEnds 2 Try.isAgg33 Try.sizeOf33 (fun x : PE => cellsE x.1) hk2 (fun x v hv => by simp [cellsE] at hv; rcases hv with rfl | rfl <;> rfl) cfE swoE 31 #[] gb 0 cap ps.toArray w1 e31 (fun _ _ _ _ x y => ports1 x y _) hH hgl (by omega)
    change Calls Try.prog 39 _ _ _ at cS
    rw [hsz] at cS
    clear hH hflat
    go_wp2_with (go_at_call 39; refine cS.mono ?_; rintro e w2 ⟨rfl, d', nn, os, hpm, hso, rfl⟩)
    go_ret
    have hsz' : d'.size = ss.length := by rw [hpm.1, hsz]
    have hperm : (d'.toList.map (·.1)).Perm ss := by
      have h3 := hpm.2.2
      rw [show d'.extract 0 ss.length = d' from by rw [← hsz']; simp, show ps.toArray.extract 0 ss.length = ps.toArray from by rw [← hsz]; simp] at h3
      have := h3.map (·.1)
      simpa [hps'] using this
    have hlen' : (d'.toList.map (·.1)).length = ss.length := hperm.length_eq
    refine ⟨_, d'.toList.map (·.1), rfl, hperm.trans hS, ?_, ?_, ?_⟩
    · rw [List.pairwise_map, List.pairwise_iff_getElem]
      intro i j hi hj hij
      have h4 := hso i j (Nat.zero_le _) hij (by rw [← hsz']; simpa using hj)
      rw [ltE] at h4
      simp only [decide_eq_false_iff_not] at h4
      have hi' : i < d'.size := by simpa using hi
      have hj' : j < d'.size := by simpa using hj
      rw [getElem!_pos d' j hj', getElem!_pos d' i hi'] at h4
      simp only [Array.getElem_toList]
      omega
    · unfold sortWorldK putRowK
      rw [flatK_list hk2, ← flat_val, hlen']
      exact ownsRow_put (by rw [flatMap_len (k := 2) (fun _ => rfl), hlen']) hbase hgb r1 r2 r3
    · unfold sortWorldK putRowK
      exact hbel.grown (grownBy_putRow _) hbel.size (fun k e => by cases e; exact hbase)

/-- A map's keys, in the map's order. -/
def KeysAt (w : World) (mb : Option Nat) (ks : List (Int × Int)) : Prop := match mb with
  | none => ks = []
  | some b => ∃ ents clock, w.heap[b]? = some (.map (List.toArray ents) clock) ∧ (∀ x ∈ ents, x.born < clock) ∧ (ents.map (·.born)).Nodup ∧ ents.map (·.key) = ks.map encE

theorem keysAt_seq {w : World} {mb : Option Nat} {ks : List (Int × Int)} (h : KeysAt w mb ks) : SeqStopsA Fence.wide 7 Try.prog 40 #[.pointer (some ⟨w.heap.size, 0, none⟩)] (fun p => #[encE p]) (fun ss => ss.Perm ks) (fun _ => True) ks.length (w.alloc (.cells #[.map mb] 47)) := by
  have hcell : (w.alloc (.cells #[.map mb] 47)).cell? ⟨w.heap.size, 0, none⟩ = some (.map mb) := (cell_of_box_a (World.alloc_heap_new w (.cells #[.map mb] 47))).1
  cases mb with
  | none =>
    have e : ks = [] := h
    subst e
    exact keys_gives_nil Fence.wide 7 trivial rfl w.heap.size _ (by simp) hcell
  | some b =>
    obtain ⟨ents, clock, h1, h2, h3, h4⟩ := h
    have hl : ents.length = ks.length := by have := congrArg List.length h4; simpa using this
    rw [← hl]
    exact keys_gives Fence.wide 7 trivial rfl (by decide) w.heap.size b ents clock ks _ (by simp) hcell ((Below.heap_alloc _ _ _ (Array.getElem?_eq_some_iff.1 h1).1).trans h1) h2 h3 h4

theorem cell_one_at (w : World) (x : Value) (t : TypeId) (b : Nat) (hb : b = w.heap.size) : ∀ j u, [x][j]? = some u → (w.alloc (.cells #[x] t)).cell? ((⟨b, 0, none⟩ : Addr).add j) = some u := by
  subst hb; exact cell_one_new w x t
theorem row_slice {w : World} {base : Nat} {e : TypeId} {sz : Nat} {v : Value} {n : Nat} {xs : List Value} (h : w.ownsRow base e sz v n xs) : ∃ va vc, v = .slice va n vc := by
  rcases h.2 with ⟨rfl, rfl⟩ | ⟨g, cap, cur, rfl, _⟩
  · exact ⟨_, _, rfl⟩
  · exact ⟨_, _, rfl⟩

def outP (s : Int) (ss : List (Int × Int)) : List Int := (ss.filter fun p => p.1 == s).map (·.2)
theorem outP_take {s : Int} {ss : List (Int × Int)} {k : Nat} {p : Int × Int} (h : ss[k]? = some p) : outP s (ss.take (k + 1)) = outP s (ss.take k) ++ (if p.1 == s then [p.2] else []) := by
  unfold outP
  rw [List.take_add_one, h]
  simp only [Option.toList_some, List.filter_append, List.map_append]
  by_cases hc : p.1 == s <;> simp [hc]
theorem outP_len (s : Int) (ss : List (Int × Int)) (k : Nat) : (outP s (ss.take k)).length ≤ k := by
  unfold outP
  rw [List.length_map]
  exact Nat.le_trans (List.length_filter_le _ _) (by rw [List.length_take]; omega)

set_option maxHeartbeats 4000000 in
set_option maxRecDepth 100000 in
/-- Ports, beside what sides has said. -/
theorem ports_calls (sw s : Int) (la : Option Addr) (ln lc : Nat) (w : World) (ks : List (Int × Int)) (hp : ∀ k ∈ ks, 0 ≤ k.2 ∧ k.2 ≤ 100) (hkl : ks.length ≤ 1000)
    (hsd : Calls Try.prog 24 #[.agg #[.int .i64 sw, .slice la ln lc]] (w.alloc (.cells #[.int .i64 sw, .slice la ln lc] 24)) fun e w2 => ∃ mb may ks', e = .returned (.tuple #[.map mb, .bool may]) ∧ KeysAt w2 mb ks' ∧ ks'.Perm ks ∧ Below (w.heap.size + 1) (w.alloc (.cells #[.int .i64 sw, .slice la ln lc] 24)) w2) :
    Calls Try.prog 16 #[.agg #[.int .i64 sw, .slice la ln lc], .int .i64 s] w fun e w' =>
      ∃ (v : Value) (ss : List (Int × Int)), e = .returned v ∧ ss.Perm ks ∧ ss.Pairwise (fun a b => a.2 ≤ b.2) ∧ w'.ownsRow w.heap.size 3 1 v (outP s ss).length ((outP s ss).map (.int .i64)) ∧ (v = .slice none 0 0 ↔ outP s ss = []) ∧ Below w.heap.size w w' := by
  have mixed : Try.prog.follows .mixedOrders = true := by kernel_rfl
  have hkeys := fun mb W => callsIn_wide.1 (keys_in Fence.wide 1 trivial rfl mb W)
  obtain ⟨i0, hi, hz0, hz1, hz2⟩ : ∃ i, Try.prog.info? 3 = some i ∧ i.zero = some (.int .i64 0) ∧ i.size = 1 ∧ i.bytes = 8 := by
    have h : (Try.prog.info? 3).map (fun i => (i.zero, i.size, i.bytes)) = some (some (.int .i64 0), 1, 8) := by kernel_rfl
    cases hq : Try.prog.info? 3 with
    | none => rw [hq] at h; cases h
    | some x => rw [hq] at h; simp at h; exact ⟨x, rfl, h.1, h.2.1, h.2.2⟩
  go_enter Try.func16, Try.ntmps16
  go_wp2_with (first
    | (go_at_call 24; refine hsd.mono ?_; rintro e w2 ⟨mb, may, ks', rfl, hK, hKp, hb2⟩)
    | (go_at_call 30; refine (hkeys _ _).mono ?_; rintro e w3 ⟨rfl, rfl⟩)
    | (go_at_call 29; refine (sortedFunc_calls _ ks'.length ks' _ (fun k hk => hp k (hKp.mem_iff.1 hk)) (by rw [hKp.length_eq]; omega) (Nat.le_refl _) (keysAt_seq hK)).mono ?_; rintro e w4 ⟨v, ss, rfl, hS', hso, hrow, hb4⟩; have hS := hS'.trans hKp; clear hS'; obtain ⟨va, vc, hv⟩ := row_slice hrow; subst hv))
  have hsl : ss.length ≤ 1000 := by rw [hS.length_eq]; exact hkl
  have hbel4 : Below w.heap.size w w4 := by
    have q1 := ((Below.refl w.heap.size w).alloc (Nat.le_refl _) (.cells #[.int .i64 sw, .slice la ln lc] 24)).trans (hb2.mono (Nat.le_succ _))
    exact (q1.alloc q1.size _).trans (hb4.mono (by have := q1.size; simp; omega))
  rcases hrow.2 with ⟨hv, hz⟩ | ⟨gb, cap, cur, hv, hbase, hgb, r1, r2, r3, r4⟩
  · have hss : ss = [] := List.eq_nil_of_length_eq_zero hz
    subst hss
    refine wp_loop_rounds 1 ?_
    rw [rounds_succ]
    go_wp2
    go_ret
    exact ⟨_, [], rfl, hS, hso, World.ownsRow_nil _ _ _ _, by simp [outP], hbel4⟩
  · have hva : va = some ⟨gb, 0, none⟩ := by injection hv
    subst hva
    have hc1 : ∀ k p, ss[k]? = some p → w4.cell? ⟨gb, k * 2, none⟩ = some (.int .i64 p.1) ∧ w4.cell? ⟨gb, k * 2 + 1, none⟩ = some (.int .i64 p.2) := by
      intro k p hkp
      have hkl2 := (List.getElem?_eq_some_iff.1 hkp).1
      have e0 := flatMap_at (enc := cellsE) (k := 2) (fun _ => rfl) ss (k * 2) (by omega)
      have e1 := flatMap_at (enc := cellsE) (k := 2) (fun _ => rfl) ss (k * 2 + 1) (by omega)
      rw [show k * 2 / 2 = k by omega, show k * 2 % 2 = 0 by omega, hkp, ← r4, List.getElem?_take_of_lt (by omega), Array.getElem?_toList] at e0
      rw [show (k * 2 + 1) / 2 = k by omega, show (k * 2 + 1) % 2 = 1 by omega, hkp, ← r4, List.getElem?_take_of_lt (by omega), Array.getElem?_toList] at e1
      exact ⟨by simp [World.cell?, hgb, e0], by simp [World.cell?, hgb, e1]⟩
    have hgl : gb < w4.heap.size := (Array.getElem?_eq_some_iff.1 hgb).1
    clear hv
    go_loopw [4, 18] (fun v i wr => ∃ k : Nat, k ≤ ss.length ∧ i = .int .i64 k ∧ wr.ownsRow w4.heap.size 3 1 v (outP s (ss.take k)).length ((outP s (ss.take k)).map (.int .i64)) ∧ (v = .slice none 0 0 ↔ outP s (ss.take k) = []) ∧ Below w4.heap.size w4 wr) (fun _ i _ => ss.length - (intOf i).toNat)
    case atStart => exact ⟨0, Nat.zero_le _, rfl, by simp [outP]; exact World.ownsRow_nil _ _ _ _, by simp [outP], Below.refl _ _⟩
    case round =>
      obtain ⟨k, hk, rfl, hown, hnl0, hbr⟩ := hrel
      have hnl := Lib.hid hnl0
      clear hnl0
      obtain ⟨p, hpk⟩ : ∃ p : Int × Int, k < ss.length → ss[k]? = some p := ⟨ss.getD k (0, 0), fun h => by simp [h]⟩
      have hcx : k < ss.length → wr.cell? ⟨gb, k * 2, none⟩ = some (.int .i64 p.1) := fun h => (hbr.cell (p := ⟨gb, k * 2, none⟩) hgl).trans (hc1 k _ (hpk h)).1
      have hcy : k < ss.length → wr.cell? ⟨gb, k * 2 + 1, none⟩ = some (.int .i64 p.2) := fun h => (hbr.cell (p := ⟨gb, k * 2 + 1, none⟩) hgl).trans (hc1 k _ (hpk h)).2
      have hpk' := Lib.hid hpk
      clear hpk
      have hol := outP_len s ss k
      clear hc1
      go_wp2_with (first
        | (at_builtin; go_loud (refine wpList_append_own _ rfl _ _ 27 rfl w4.heap.size 3 i0 (.int .i64 0) 1 8 Try.underlying27 hi hz0 hz1 hz2 rfl (by decide) _ _ _ rfl ((hown.alloc _).alloc _) ⟨wr.heap.size + 1, 0, none⟩ 1 1 [.int .i64 p.2] rfl rfl (cell_one_at _ _ _ _ (by simp)) (ints_oneCell .i64 [p.2]) (by unfold maxLen; omega) (by omega) (by have := hbr.size; simp; omega) ?_; intro v5 w5 hown5 hg5 hnil5))
        | go_in)
      · have hlt : k < ss.length := by assumption
        have ht : (p.1 == s) = true := by assumption
        have hs5 := hg5.size
        have e1 := outP_take (s := s) (hpk'.out hlt)
        rw [if_pos ht] at e1
        refine ⟨⟨k + 1, by omega, by go_num, by rw [e1]; simpa using hown5, by rw [e1, hnil5]; simp, ?_⟩, by simp [intOf]; omega⟩
        have hb2 := (hbr.alloc hbr.size (.cells #[.int .i64 p.1, .int .i64 p.2] 33)).alloc (by have := hbr.size; simp; omega) (.cells #[.int .i64 p.2] 3)
        exact hb2.grown hg5 (by have := hbr.size; simp; omega) (fun j hj => (hown.lt j hj).1)
      · have hlt : k < ss.length := by assumption
        have ht : (p.1 == s) = false := by assumption
        have e1 := outP_take (s := s) (hpk'.out hlt)
        rw [if_neg (by rw [ht]; simp), List.append_nil] at e1
        exact ⟨⟨k + 1, by omega, by go_num, by rw [e1]; exact hown.alloc _, by rw [e1]; exact hnl.out, hbr.alloc hbr.size _⟩, by simp [intOf]; omega⟩
      · have hlt : ¬ k < ss.length := by assumption
        have e0 : ss.take k = ss := List.take_of_length_le (by omega)
        rw [e0] at hown
        have hnl1 := hnl.out
        rw [e0] at hnl1
        go_ret
        exact ⟨_, ss, rfl, hS, hso, ownsRow_base_a hown hbel4.size, hnl1, hbel4.trans (hbr.mono hbel4.size)⟩

end Go.Proofs.Ytmokkonnilmdfaa
