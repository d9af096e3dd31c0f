/-
  The ends of a graph's map, one by one: maps.Keys, slices.AppendSeq, slices.Collect, by hand.
  No statement of the seat is proved here. Conditions: none.
-/
import Derived.Test.YtmokkonnilmdfaaYR
import Derived.Test.YtmokkonnilmdfaaTab12
import Derived.Test.YtmokkonnilmdfaaProg
import Derived.Shelf.SlIter.Sorted
set_option linter.unusedVariables false
set_option linter.unusedSimpArgs false
namespace Go.Proofs.Ytmokkonnilmdfaa
open Go.Shelf Go.RowKit Go.Maps Go.Sort Go.Sy

/-- An end as a value. -/
abbrev encE (p : Int × Int) : Value := .agg #[.int .i64 p.1, .int .i64 p.2]
def decE : Value → Int × Int
  | .agg cs => match cs.toList with
    | [.int _ a, .int _ b] => (a, b)
    | _ => (0, 0)
  | _ => (0, 0)
theorem decE_enc (p : Int × Int) : decE (encE p) = p := rfl
theorem perm_dec {ss ks : List (Int × Int)} (h : (ss.map encE).Perm (ks.map encE)) : ss.Perm ks := by
  have := h.map decE
  simp only [List.map_map] at this
  rwa [show (decE ∘ encE) = id from funext decE_enc, List.map_id, List.map_id] at this

set_option maxRecDepth 100000 in
set_option maxHeartbeats 1000000 in
/-- The keys come, each once, in some order. -/
theorem keys1_in (F : Fence) (n : Nat) (h40 : F.fn 40) (hro : F.round = none) (hn : 1 ≤ n) (l Bm b : Nat) (ents : List MapEntry) (clock : Nat) (ks : List (Int × Int)) (J Jx : List (Int × Int) → World → Prop)
    (hY : ∀ pre x W, J pre W → pre.length < ents.length → YieldAt F (n - 1) Try.prog l #[encE x] W fun e W' => (e = .returned (.bool true) ∧ J (pre ++ [x]) W' ∧ KeepsWalks W W') ∨ (e = .returned (.bool false) ∧ Jx (pre ++ [x]) W'))
    (W : World) (hJ : AbidesFrom W.heap.size J) (hm : W.cell? ⟨Bm, 0, none⟩ = some (.map (some b))) (hb : W.heap[b]? = some (.map ents.toArray clock)) (old : ∀ x ∈ ents, x.born < clock) (nd : (ents.map (·.born)).Nodup) (hks : ents.map (·.key) = ks.map encE) (h0 : J [] W) :
    CallsIn F n Try.prog 40 #[.func (.yield l) #[] #[], .pointer (some ⟨Bm, 0, none⟩)] W fun e W' => (∃ v, e = .returned v) ∧ ((∃ ss : List (Int × Int), ss.Perm ks ∧ J ss W') ∨ ∃ pre, True ∧ Jx pre W') := by
  have mixed : Try.prog.follows .mixedOrders = true := by kernel_rfl
  refine callsIn_of_wp Try.func40 rfl h40 ?_ hro
  simp only [Try.ntmps40, List.size_toArray, List.length_cons, List.length_nil, Nat.reduceAdd, Nat.reduceSub, Array.replicate_succ, Array.replicate_zero, List.push_toArray, List.append_toArray, List.nil_append, List.cons_append]
  have hU0 := Under.start hb old nd
  gi_wp2_with (first
    | (gi_at_range; refine wpListIn_range_raw _ rfl _ 47 rfl 33 56 Try.underlying47 b ents clock rfl hb ?_)
    | gi_in)
  go_frame
  have hg0 : W.grownBy (W.alloc (.mapIter (some b) clock #[] clock)) none := World.grownBy_alloc W _ none
  have hJ0 : J [] (W.alloc (.mapIter (some b) clock #[] clock)) := hJ [] W _ none h0 hg0 (fun r e => by cases e)
  revert hU0 hJ0
  generalize W.alloc (.mapIter (some b) clock #[] clock) = w0
  intro hU0 hJ0
  gi_loopw [3] (fun _ wr => ∃ (done : List MapEntry) (ss : List (Int × Int)), Under wr W.heap.size b ents clock done ∧ ss.map encE = done.map (·.key) ∧ J ss wr)
    (fun _ wr => ents.length - match wr.heap[W.heap.size]? with | some (.mapIter _ _ seen _) => seen.size | _ => 0)
  case atStart => exact ⟨[], [], hU0, rfl, hJ0⟩
  case round =>
    obtain ⟨done, ss, hU, hss, hJs⟩ := hrel
    gi_wp2_with (first
      | (gi_at_next; refine wpListIn_next_raw _ rfl _ rfl W.heap.size b ents clock done rfl hU ?_ ?_)
      | gi_in)
    · intro hp
      gi_wp2
      go_end0
      exact ⟨⟨_, rfl⟩, .inl ⟨ss, perm_dec (by rw [hss, ← hks]; exact hp.map _), hJs⟩⟩
    · intro x w2 hx hlen hU2 hg2 hs2 hen
      obtain ⟨k, hk⟩ : ∃ k, x.key = encE k := by
        have : x.key ∈ ks.map encE := by rw [← hks]; exact List.mem_map_of_mem hx
        obtain ⟨k, _, e⟩ := List.mem_map.1 this; exact ⟨k, e.symm⟩
      have hsl : ss.length = done.length := by have := congrArg List.length hss; simpa using this
      have hJ2 : J ss w2 := hJ ss wr w2 (some W.heap.size) hJs hg2 (fun r e => by cases e; exact ⟨Nat.le_refl _, hU.iter_walk⟩)
      rw [hk] at hen ⊢
      obtain ⟨w3, hw3⟩ : ∃ w3, w2.alloc (.cells #[.int .i64 k.1, .int .i64 k.2] 33) = w3 := ⟨_, rfl⟩
      have hg3 : w2.grownBy w3 none := by rw [← hw3]; exact World.grownBy_alloc w2 _ none
      have hJ3 : J ss w3 := hJ ss w2 w3 none hJ2 hg3 (fun r e => by cases e)
      have hU3 := hU2.grown hg3 (by simp) (by simp)
      obtain ⟨fn, tmps, assign, body, hy, hR⟩ := hY ss k w3 hJ3 (by omega)
      have hs2' : wr.heap.size ≤ w2.heap.size := hg2.size
      clear hs2
      subst hw3
      gi_wp2
      refine hR.mono ?_
      rintro e W3 (⟨rfl, hJ4, hk4⟩ | ⟨rfl, hx4⟩)
      rotate_left
      · gi_wp2
        refine bodyPost_ret (results_none rfl _ _ _) rfl ?_
        exact ⟨⟨_, rfl⟩, .inr ⟨_, trivial, hx4⟩⟩
      have hU4 := hU3.kept hk4
      gi_wp2
      go_roundw
      case rel => exact ⟨_, ss ++ [k], hU4, by rw [List.map_append, List.map_append, hss]; simp [hk], hJ4⟩
      case measure =>
        obtain ⟨c1, _, e1⟩ := hU.it
        obtain ⟨c2, _, e2⟩ := hU4.it
        rw [e1, e2]
        simp
        omega


/-- What maps.Keys hands back gives the keys. -/
theorem keys_gives (F : Fence) (n : Nat) (h40 : F.fn 40) (hro : F.round = none) (hn : 1 ≤ n) (Bm b : Nat) (ents : List MapEntry) (clock : Nat) (ks : List (Int × Int)) (w : World) (hBm : Bm < w.heap.size)
    (hm : w.cell? ⟨Bm, 0, none⟩ = some (.map (some b))) (hb : w.heap[b]? = some (.map ents.toArray clock)) (old : ∀ x ∈ ents, x.born < clock) (nd : (ents.map (·.born)).Nodup) (hks : ents.map (·.key) = ks.map encE) :
    SeqStopsA F n Try.prog 40 #[.pointer (some ⟨Bm, 0, none⟩)] (fun p => #[encE p]) (fun ss => ss.Perm ks) (fun _ => True) ents.length w := fun l J Jx W hW hJ hJx hY h0 =>
  keys1_in F n h40 hro hn l Bm b ents clock ks J Jx hY W hJ ((hW.cell (p := ⟨Bm, 0, none⟩) hBm).trans hm) ((hW.block b (Array.getElem?_eq_some_iff.1 hb).1).trans hb) old nd hks h0

set_option maxRecDepth 100000 in
set_option maxHeartbeats 1000000 in
/-- Of no map: nothing comes. -/
theorem keys_gives_nil (F : Fence) (n : Nat) (h40 : F.fn 40) (hro : F.round = none) (Bm : Nat) (w : World) (hBm : Bm < w.heap.size) (hm0 : w.cell? ⟨Bm, 0, none⟩ = some (.map none)) :
    SeqStopsA F n Try.prog 40 #[.pointer (some ⟨Bm, 0, none⟩)] (fun p => #[encE p]) (fun ss => ss.Perm []) (fun _ => True) 0 w := fun l J Jx W hW hJ hJx hY h0 => by
  have hm : W.cell? ⟨Bm, 0, none⟩ = some (.map none) := (hW.cell (p := ⟨Bm, 0, none⟩) hBm).trans hm0
  have mixed : Try.prog.follows .mixedOrders = true := by kernel_rfl
  have hr0 : (Instr.range 47 (.map none)).run Try.prog W = .ok (.pointer (some ⟨W.heap.size, 0, none⟩)) (W.alloc (.mapIter none 0 #[] 0)) := run_range_nilMap W 47 33 56 Try.underlying47
  have hr1 : ∀ ty, (Instr.next (.pointer (some ⟨W.heap.size, 0, none⟩)) false ty).run Try.prog (W.alloc (.mapIter none 0 #[] 0)) = .ok (.tuple #[.bool false]) (W.alloc (.mapIter none 0 #[] 0)) := fun ty => run_next_nilMap W ty 0 0 #[]
  refine callsIn_of_wp Try.func40 rfl h40 ?_ hro
  simp only [Try.ntmps40, List.size_toArray, List.length_cons, List.length_nil, Nat.reduceAdd, Nat.reduceSub, Array.replicate_succ, Array.replicate_zero, List.push_toArray, List.append_toArray, List.nil_append, List.cons_append]
  gi_wp2
  refine wpIn_loop_rounds 1 ?_
  rw [roundsIn_succ]
  gi_wp2
  go_end0
  exact ⟨⟨_, rfl⟩, .inl ⟨[], List.Perm.refl _, hJ [] W _ none h0 (World.grownBy_alloc W _ none) (fun r e => by cases e)⟩⟩

/-- maps.Keys(m). -/
theorem keys_in (F : Fence) (n : Nat) (h30 : F.fn 30) (hro : F.round = none) (mb : Option Nat) (w : World) :
    CallsIn F n Try.prog 30 #[.map mb] w fun e w' => e = .returned (.func (.func 40) #[] #[.pointer (some ⟨w.heap.size, 0, none⟩)]) ∧ w' = w.alloc (.cells #[.map mb] 47) := by
  have mixed : Try.prog.follows .mixedOrders = true := by kernel_rfl
  refine callsIn_of_wp Try.func30 rfl h30 ?_ hro
  simp only [Try.ntmps30, List.size_toArray, List.length_cons, List.length_nil, Nat.reduceAdd, Nat.reduceSub, Array.replicate_succ, Array.replicate_zero, List.push_toArray, List.append_toArray, List.nil_append, List.cons_append]
  gi_wp2
  go_ret
  exact ⟨rfl, rfl⟩


theorem cells_stay {W W' : World} {row : Option Nat} {k : Nat} {cur : Array Value} {t : TypeId} {fz : Nat × Nat} (h : W.heap[k]? = some (.cells cur t fz)) (hg : W.grownBy W' row) (hr : ∀ r, row = some r → ∃ o : Obj, W.heap[r]? = some o ∧ o.isCells = false) :
    W'.heap[k]? = some (.cells cur t fz) :=
  (hg.block k (Array.getElem?_eq_some_iff.1 h).1 (fun e => by obtain ⟨o, ho, hc⟩ := hr k e.symm; rw [h] at ho; cases ho; cases hc)).trans h
theorem row_stays {W W' : World} {row : Option Nat} {base : Nat} {e : TypeId} {size : Nat} {v : Value} {k : Nat} {xs : List Value} (h : W.ownsRow base e size v k xs) (hg : W.grownBy W' row) (hr : ∀ r, row = some r → ∃ o : Obj, W.heap[r]? = some o ∧ o.isCells = false) :
    W'.ownsRow base e size v k xs := by
  refine ⟨h.1, ?_⟩
  rcases h.2 with h0 | ⟨g, cap, cur, rfl, hb, hgb, rest⟩
  · exact .inl h0
  · exact .inr ⟨g, cap, cur, rfl, hb, cells_stay hgb hg hr, rest⟩

abbrev cellsE (p : Int × Int) : List Value := [.int .i64 p.1, .int .i64 p.2]
/-- Between two rounds of AppendSeq. -/
def ApI (w : World) (pre : List (Int × Int)) (W : World) : Prop :=
  (∃ v, W.heap[w.heap.size]? = some (.cells #[v] 58 (0, 0)) ∧ W.ownsRow w.heap.size 33 2 v pre.length (pre.flatMap cellsE) ∧ (v = .slice none 0 0 ↔ pre = [])) ∧ Below w.heap.size w W
def ApA (w : World) (sv : Value) (pre : List (Int × Int)) (x : Int × Int) (a : Act) (W : World) : Prop :=
  ApI w pre W ∧ ∃ e, a = { tmps := #[.slice none 0 0, sv, .pointer (some ⟨w.heap.size, 0, none⟩), undef, .slice none 0 0, .pointer (some ⟨e, 0, none⟩), sv, encE x, undef, undef, undef, undef, undef], defers := [] } ∧
    W.heap[e]? = some (.cells #[.int .i64 x.1, .int .i64 x.2] 33 (0, 0)) ∧ w.heap.size < e
theorem ApI.stays {w : World} {B : Nat} (hB : w.heap.size ≤ B) (pre : List (Int × Int)) : Stays B (ApI w pre) := by
  rintro W W' row ⟨⟨v, h1, h2, h3⟩, h4⟩ hg hr
  have hr' := fun r e => (hr r e).2
  exact ⟨⟨v, cells_stay h1 hg hr', row_stays h2 hg hr', h3⟩, h4.grown hg h4.size (fun k e => Nat.le_trans hB (hr k e).1)⟩
theorem ApA.stays {w : World} {B : Nat} (hB : w.heap.size ≤ B) (sv : Value) (pre : List (Int × Int)) (x : Int × Int) (a : Act) : Stays B (ApA w sv pre x a) := by
  rintro W W' row ⟨h1, e, h2, h3, h4⟩ hg hr
  exact ⟨ApI.stays hB pre W W' row h1 hg hr, e, h2, cells_stay h3 hg (fun r e => (hr r e).2), h4⟩

set_option maxRecDepth 100000 in
set_option maxHeartbeats 2000000 in
/-- slices.AppendSeq(nil, seq). -/
theorem appendSeq_in (F : Fence) (n : Nat) (h52 : F.fn 52) (hro : F.round = none) (hn : 2 ≤ n) (g : Nat) (lb : Array Value) (hFg : F.fn g) (eg : ∀ args w, (callFunc g args).run Try.prog w = .ok (.enter g args) w)
    (S : List (Int × Int) → Prop) (N : Nat) (hN : N ≤ maxLen) (hNb : N * 16 ≤ 140737488355328) (w : World) (hseq : SeqStopsA F (n - 1) Try.prog g lb (fun p => #[encE p]) S (fun _ => True) N w) :
    CallsIn F n Try.prog 52 #[.slice none 0 0, .func (.func g) #[] lb] w fun e w' => ∃ (v : Value) (ss : List (Int × Int)), e = .returned v ∧ S ss ∧ w'.ownsRow w.heap.size 33 2 v ss.length (ss.flatMap cellsE) ∧ (v = .slice none 0 0 ↔ ss = []) ∧ Below w.heap.size w w' := by
  have h1 : 1 ≤ n := by omega
  have mixed : Try.prog.follows .mixedOrders = true := by kernel_rfl
  refine callsIn_of_wp_marks Try.func52 rfl h52 ?_ hro
  simp only [Try.ntmps52, List.size_toArray, List.length_cons, List.length_nil, Nat.reduceAdd, Nat.reduceSub, Array.replicate_succ, Array.replicate_zero, List.push_toArray, List.append_toArray, List.nil_append, List.cons_append]
  gi_wp2
  obtain ⟨W0, hW0⟩ : ∃ W0, w.alloc (.cells #[.slice none 0 0] 58) = W0 := ⟨_, rfl⟩
  have hs0 : W0.heap.size = w.heap.size + 1 := by rw [← hW0]; simp
  have hv0 : W0.heap[w.heap.size]? = some (.cells #[.slice none 0 0] 58 (0, 0)) := by rw [← hW0]; exact World.alloc_heap_new w _
  have hb0 : Below w.heap.size w W0 := by rw [← hW0]; exact (Below.refl _ w).alloc (Nat.le_refl _) _
  rw [hW0]
  refine wpIn_rangeFunc_all hro h1 (gf := g) (lb := lb) rfl hFg eg (S := S) (Sp := fun _ => True) (N := N) (K0 := fun _ => False) (fun _ h => h.elim) (fun l J Jx W hW hJ hJx hY h0 => seq_keeps hseq l J Jx W (hb0.trans (hW.mono (by omega))) hJ hJx hY h0) (fun _ => rfl)
    (ApI w) (ApA w (.func (.func g) #[] lb)) (fun pre => ApI.stays (by omega) pre) (fun pre x a => ApA.stays (by omega) _ pre x a) ⟨⟨_, hv0, ⟨rfl, .inl ⟨rfl, rfl⟩⟩, by simp⟩, hb0⟩ ?assign ?body ?done
  case assign =>
    intro l pre x W K hI hlen hsz hK
    gi_wp2_with gi_round_op_a
    refine hK _ _ ⟨by simp, fun k o hk _ => (Below.heap_alloc W _ k (Array.getElem?_eq_some_iff.1 hk).1).trans hk⟩ (fun _ h => h.elim) ⟨(ApI.stays (B := w.heap.size) (Nat.le_refl _) pre).new _ hI, W.heap.size, rfl, World.alloc_heap_new W _, by omega⟩
  case body =>
    rintro l pre x a1 W ⟨⟨⟨v, hv, hrow, hnil⟩, hb⟩, e, rfl, he, hle⟩ hlen hsz
    obtain ⟨i0, hi, hz0, hz1, hz2⟩ : ∃ i, Try.prog.info? 33 = some i ∧ i.zero = some (.agg #[.int .i64 0, .int .i64 0]) ∧ i.size = 2 ∧ i.bytes = 16 := by
      have h : (Try.prog.info? 33).map (fun i => (i.zero, i.size, i.bytes)) = some (some (.agg #[.int .i64 0, .int .i64 0]), 2, 16) := by kernel_rfl
      cases hq : Try.prog.info? 33 with
      | none => rw [hq] at h; cases h
      | some x => rw [hq] at h; simp at h; exact ⟨x, rfl, h.1, h.2.1, h.2.2⟩
    obtain ⟨hc2, hf2⟩ := cell_of_box_a hv
    have hc5 : W.cell? ⟨e, 0, none⟩ = some (.int .i64 x.1) := by simp [World.cell?, he]
    have hc6 : W.cell? ⟨e, 1, none⟩ = some (.int .i64 x.2) := by simp [World.cell?, he]
    have hBlt : w.heap.size < W.heap.size := (Array.getElem?_eq_some_iff.1 hv).1
    have ne_of : some w.heap.size ≠ v.ownBlock := fun hc => by
      rcases hrow.2 with ⟨rfl, _⟩ | ⟨gg, cap, cur, rfl, _, hgb, _⟩
      · cases hc
      · simp [Value.ownBlock] at hc
        subst hc; rw [hv] at hgb; simp at hgb
    have hcell : ∀ j u, (cellsE x)[j]? = some u → (W.alloc (.cells #[.int .i64 x.1, .int .i64 x.2] 33)).cell? (Addr.add ⟨W.heap.size, 0, none⟩ j) = some u := by
      intro j u hj
      have h2 := World.alloc_heap_new W (.cells #[.int .i64 x.1, .int .i64 x.2] 33)
      rcases j with _ | _ | j <;> simp [cellsE] at hj
      · subst hj; rw [Addr.add_lit]; simp only [World.cell?]; rw [h2]; rfl
      · subst hj; rw [Addr.add_lit]; simp only [World.cell?]; rw [h2]; rfl
    gi_wp2_with (first
      | (gi_at_builtin; refine wpListIn_append_own _ rfl _ _ 58 rfl w.heap.size 33 i0 _ 2 16 Try.underlying58 hi hz0 hz1 hz2 rfl (by decide) _ _ _ rfl (hrow.alloc _) ⟨W.heap.size, 0, none⟩ 1 1 (cellsE x) rfl rfl hcell (by simp [Value.oneCell', cellsE]) (by omega) (by omega) (by simp; omega) ?_
         intro v' w3 hown' hg3 hnil3
         have hv3 : w3.heap[w.heap.size]? = some (.cells #[v] 58 (0, 0)) := (hg3.block _ (by simp; omega) ne_of).trans ((Below.heap_alloc _ _ _ hBlt).trans hv)
         obtain ⟨hc3, hf3⟩ := cell_of_box_a hv3
         obtain ⟨g', cap', cur', rfl, hbase', hgb', hr1, hr2, hr3, hr4⟩ : ∃ g' cap' cur', v' = .slice (some ⟨g', 0, none⟩) (pre.length + 1) cap' ∧ w.heap.size ≤ g' ∧ w3.heap[g']? = some (.cells cur' 33 (0, 0)) ∧ pre.length + 1 ≤ cap' ∧ cap' ≤ maxLen ∧ cur'.size = cap' * 2 ∧ cur'.toList.take ((pre.length + 1) * 2) = pre.flatMap cellsE ++ cellsE x := by
           rcases hown'.2 with ⟨_, h0⟩ | h'
           · exact absurd h0 (by omega)
           · exact h'
         go_frame)
      | gi_round_op_a)
    have hg3' : (W.alloc (.cells #[.int .i64 x.1, .int .i64 x.2] 33)).grownBy w3 v.ownBlock := hg3
    obtain ⟨w4, hw4⟩ : ∃ w4, w3.setCell ⟨w.heap.size, 0, none⟩ (.slice (some ⟨g', 0, none⟩) (pre.length + 1) cap') = w4 := ⟨_, rfl⟩
    rw [hw4]
    have hg4 : w3.grownBy w4 (some w.heap.size) := by rw [← hw4]; exact grownBy_setCell0_a _ _ _
    have hv4 : w4.heap[w.heap.size]? = some (.cells #[.slice (some ⟨g', 0, none⟩) (pre.length + 1) cap'] 58 (0, 0)) := by rw [← hw4]; exact heap_setCell_box_a _ hv3
    have hb3 : Below w.heap.size w w3 := (hb.alloc hb.size _).grown hg3' (by have := hb.size; simp; omega) (fun k e => (hrow.lt k e).1)
    refine ⟨⟨?_, ?_⟩, (fun _ h => h.elim), ⟨⟨_, hv4, ?_, by simp⟩, hb3.grown hg4 hb3.size (fun k e => by cases e; exact Nat.le_refl _)⟩⟩
    · exact Nat.le_trans (by simp) (Nat.le_trans hg3'.size hg4.size)
    · intro k o hk ho
      have hk0 := (Array.getElem?_eq_some_iff.1 hk).1
      have hk1 : (W.alloc (.cells #[.int .i64 x.1, .int .i64 x.2] 33)).heap[k]? = some o := (Below.heap_alloc W _ k hk0).trans hk
      have n1 : some k ≠ v.ownBlock := fun hc => by
        rcases hrow.2 with ⟨rfl, _⟩ | ⟨gg, cap, cur, rfl, _, hgb, _⟩
        · cases hc
        · simp [Value.ownBlock] at hc
          subst hc; rw [hk] at hgb; cases hgb; cases ho
      have hk3 := (hg3'.block k (by simp; omega) n1).trans hk1
      have n2 : some k ≠ some w.heap.size := fun hc => by cases hc; rw [hv] at hk; cases hk; cases ho
      exact (hg4.block k (Array.getElem?_eq_some_iff.1 hk3).1 n2).trans hk3
    · have := hown'.kept hg4 (by
        refine .inr fun hc => ?_
        simp [Value.ownBlock] at hc
        subst hc; rw [hv3] at hgb'; simp at hgb')
      simpa [List.flatMap_append] using this
  case done =>
    rintro D xs W hD hS ⟨⟨v, hv, hrow, hnil⟩, hb⟩ hK
    obtain ⟨hc3, hf3⟩ := cell_of_box_a hv
    gi_wp2
    refine ⟨by simp, .inl ⟨_, _, rfl, run_takeDeferred hK, ?_⟩⟩
    have hne : v.ownBlock = none ∨ v.ownBlock ≠ some D := by
      rcases hrow.2 with ⟨rfl, _⟩ | ⟨gg, cap, cur, rfl, _, hgb, _⟩
      · exact .inl rfl
      · refine .inr fun hc => ?_
        simp [Value.ownBlock] at hc
        subst hc; rw [hK] at hgb; cases hgb
    exact ⟨_, results_tmp rfl _ _ _, v, xs, rfl, hS, hrow.kept (grownBy_putObj_a _ _ _) hne, hnil, hb.grown (grownBy_putObj_a _ _ _) hb.size (fun k e => by cases e; omega)⟩


set_option maxHeartbeats 1000000 in
/-- slices.Collect(seq). -/
theorem collect_in (F : Fence) (n : Nat) (h38 : F.fn 38) (h52 : F.fn 52) (hro : F.round = none) (hn : 3 ≤ n) (g : Nat) (lb : Array Value) (hFg : F.fn g) (eg : ∀ args w, (callFunc g args).run Try.prog w = .ok (.enter g args) w)
    (S : List (Int × Int) → Prop) (N : Nat) (hN : N ≤ maxLen) (hNb : N * 16 ≤ 140737488355328) (w : World) (hseq : SeqStopsA F (n - 1 - 1) Try.prog g lb (fun p => #[encE p]) S (fun _ => True) N w) :
    CallsIn F n Try.prog 38 #[.func (.func g) #[] lb] w fun e w' => ∃ (v : Value) (ss : List (Int × Int)), e = .returned v ∧ S ss ∧ w'.ownsRow w.heap.size 33 2 v ss.length (ss.flatMap cellsE) ∧ (v = .slice none 0 0 ↔ ss = []) ∧ Below w.heap.size w w' := by
  have h1 : 1 ≤ n := by omega
  have e52 : ∀ args w, (callFunc 52 args).run Try.prog w = .ok (.enter 52 args) w := enters_of Try.func52 (by kernel_rfl) rfl
  have mixed : Try.prog.follows .mixedOrders = true := by kernel_rfl
  refine callsIn_of_wp Try.func38 rfl h38 ?_ hro
  simp only [Try.ntmps38, List.size_toArray, List.length_cons, List.length_nil, Nat.reduceAdd, Nat.reduceSub, Array.replicate_succ, Array.replicate_zero, List.push_toArray, List.append_toArray, List.nil_append, List.cons_append]
  gi_wp2_with (gi_at_fn 52; refine (appendSeq_in F (n - 1) h52 hro (by omega) g lb hFg eg S N hN hNb _ hseq).mono ?_; rintro e w' ⟨v, ss, rfl, hS, hrow, hnil, hb⟩)
  go_ret
  exact ⟨v, ss, rfl, hS, hrow, hnil, hb⟩

end Go.Proofs.Ytmokkonnilmdfaa
