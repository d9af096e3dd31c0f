/-
  Iterators over maps, by hand: a range over a map whose entries come in some order; plain data as values ('flatV').
  No statement of the seat is proved here. Conditions: none.
-/
import Derived.Test.YtmokkonnilmdfaaY28
import Derived.Maps.RangeRun
import Derived.Sort.MapsRangeIn
import Derived.RangeFuncGives
import Derived.RangeFuncFrom
import Derived.RangeFuncMany
import Derived.RangeFuncLeaves
import Derived.LoopNIn
import Derived.LoopIn
set_option linter.unusedSimpArgs false
set_option linter.unusedVariables false
namespace Go.Sy
open Go.RowKit

mutual
/-- Plain data as a value. -/
def flatV : Sh → D → Value
  | .int k, d => .int k d.int
  | .bool, d => .bool d.bool
  | .str, d => .string ⟨d.str.toArray⟩
  | .agg cs, d => .agg (flatVs cs d 0).toArray
  | .list _, _ => undef
def flatVs : List Sh → D → Nat → List Value
  | [], _, _ => []
  | c :: r, d, j => flatV c (d.at j) :: flatVs r d (j + 1)
end
mutual
theorem flatV_den {Φ : Nat → Prop} {w : World} : ∀ {e : Sh} {d : D} {v : Value}, e.flat = true → (DenD Φ w e d v ↔ v = flatV e d)
  | .int k, d, v, _ => by simp only [DenD, flatV]
  | .bool, d, v, _ => by simp only [DenD, flatV]
  | .str, d, v, _ => by simp only [DenD, flatV]
  | .agg cs, d, v, h => by
    simp only [Sh.flat] at h
    simp only [DenD, flatV]
    constructor
    · rintro ⟨vs, rfl, h2⟩; rw [flatVs_den h] at h2; rw [h2]
    · rintro rfl; exact ⟨_, rfl, (flatVs_den h).2 rfl⟩
  | .list _, d, v, h => by simp [Sh.flat] at h
theorem flatVs_den {Φ : Nat → Prop} {w : World} : ∀ {cs : List Sh} {d : D} {j : Nat} {vs : List Value}, Sh.flatL cs = true → (DenDs Φ w cs d j vs ↔ vs = flatVs cs d j)
  | [], d, j, vs, _ => by simp only [DenDs, flatVs]
  | c :: r, d, j, vs, h => by
    simp only [Sh.flatL, Bool.and_eq_true] at h
    simp only [DenDs, flatVs]
    constructor
    · rintro ⟨v, rest, rfl, h2, h3⟩; rw [flatV_den h.1] at h2; rw [flatVs_den h.2] at h3; rw [h2, h3]
    · rintro rfl; exact ⟨_, _, rfl, (flatV_den h.1).2 rfl, (flatVs_den h.2).2 rfl⟩
end

/-- A range over a map, under way: the map's block, the iterator's; what has come, in that order. -/
structure Under (w : World) (r b : Nat) (ents : List MapEntry) (clock : Nat) (done : List MapEntry) : Prop where
  mp : w.heap[b]? = some (.map ents.toArray clock)
  it : ∃ c0, clock ≤ c0 ∧ w.heap[r]? = some (.mapIter (some b) clock (done.map (·.born)).toArray c0)
  old : ∀ x ∈ ents, x.born < clock
  nd : (ents.map (·.born)).Nodup
  dn : (done.map (·.born)).Nodup
  sub : ∀ x ∈ done, x ∈ ents

theorem Under.start {w : World} {b : Nat} {ents : List MapEntry} {clock : Nat} (hb : w.heap[b]? = some (.map ents.toArray clock)) (old : ∀ x ∈ ents, x.born < clock) (nd : (ents.map (·.born)).Nodup) :
    Under (w.alloc (.mapIter (some b) clock #[] clock)) w.heap.size b ents clock [] :=
  ⟨(Below.heap_alloc _ _ _ (Array.getElem?_eq_some_iff.1 hb).1).trans hb, ⟨clock, Nat.le_refl _, World.alloc_heap_new _ _⟩, old, nd, by simp, by simp⟩
theorem Under.kept {w w' : World} {r b : Nat} {ents : List MapEntry} {clock : Nat} {done : List MapEntry} (h : Under w r b ents clock done) (hk : KeepsWalks w w') : Under w' r b ents clock done :=
  ⟨hk.same b _ h.mp rfl, let ⟨c0, h1, h2⟩ := h.it; ⟨c0, h1, hk.same r _ h2 rfl⟩, h.old, h.nd, h.dn, h.sub⟩
theorem Under.grown {w w' : World} {r b : Nat} {ents : List MapEntry} {clock : Nat} {done : List MapEntry} {row : Option Nat} (h : Under w r b ents clock done) (hg : w.grownBy w' row) (h1 : row ≠ some r) (h2 : row ≠ some b) : Under w' r b ents clock done := by
  obtain ⟨c0, q1, q2⟩ := h.it
  exact ⟨(hg.block b (Array.getElem?_eq_some_iff.1 h.mp).1 (fun e => h2 e.symm)).trans h.mp, ⟨c0, q1, (hg.block r (Array.getElem?_eq_some_iff.1 q2).1 (fun e => h1 e.symm)).trans q2⟩, h.old, h.nd, h.dn, h.sub⟩
theorem Under.iter_walk {w : World} {r b : Nat} {ents : List MapEntry} {clock : Nat} {done : List MapEntry} (h : Under w r b ents clock done) : ∃ o : Obj, w.heap[r]? = some o ∧ o.isWalk = true := by
  obtain ⟨c0, _, h2⟩ := h.it; exact ⟨_, h2, rfl⟩

theorem perm_of_sub {α : Type} [DecidableEq α] : ∀ {l p : List α}, p.Nodup → (∀ x ∈ p, x ∈ l) → (∀ x ∈ l, x ∈ p) → l.Nodup → p.Perm l := fun h1 h2 h3 h4 => (List.perm_ext_iff_of_nodup h1 h4).2 fun x => ⟨h2 x, h3 x⟩

theorem inj_born {ents : List MapEntry} (h : (ents.map (·.born)).Nodup) {x y : MapEntry} (hx : x ∈ ents) (hy : y ∈ ents) (he : x.born = y.born) : x = y := by
  induction ents with
  | nil => cases hx
  | cons a r ih =>
    simp only [List.map_cons, List.nodup_cons, List.mem_map, not_exists, not_and] at h
    cases hx with
    | head => cases hy with
      | head => rfl
      | tail _ hy' => exact absurd he.symm (h.1 y hy')
    | tail _ hx' => cases hy with
      | head => exact absurd he (h.1 x hx')
      | tail _ hy' => exact ih h.2 hx' hy'

theorem len_le {α : Type} [DecidableEq α] : ∀ {l m : List α}, l.Nodup → (∀ x ∈ l, x ∈ m) → l.length ≤ m.length
  | [], m, _, _ => by simp
  | x :: r, m, h, hs => by
    rw [List.nodup_cons] at h
    have := len_le (m := m.erase x) h.2 (fun y hy => (List.mem_erase_of_ne (fun e => h.1 (by rw [← e]; exact hy))).2 (hs y (by simp [hy])))
    rw [List.length_erase_of_mem (hs x (by simp))] at this
    have hp : 0 < m.length := List.length_pos_of_mem (hs x (by simp))
    simp; omega

theorem Under.ends {w : World} {r b : Nat} {ents : List MapEntry} {clock : Nat} {done : List MapEntry} (h : Under w r b ents clock done) (h0 : (leftOf ents.toArray (done.map (·.born)).toArray).size = 0) : done.Perm ents := by
  have hall : ∀ x ∈ ents, x ∈ done := by
    intro x hx
    have he := Array.eq_empty_of_size_eq_zero h0
    unfold leftOf at he
    rw [Array.filter_eq_empty_iff] at he
    have := he x (by simpa using hx)
    simp only [Bool.not_eq_true', Bool.not_eq_false, Array.contains_eq_mem, List.mem_toArray, List.mem_map, decide_eq_true_eq] at this
    obtain ⟨y, hy, e⟩ := by simpa using this
    exact inj_born h.nd (h.sub y hy) hx e ▸ hy
  have hd : done.Nodup := List.Pairwise.of_map (·.born) (fun a b hab e => hab (by rw [e])) h.dn
  have hn : ents.Nodup := List.Pairwise.of_map (·.born) (fun a b hab e => hab (by rw [e])) h.nd
  classical
  exact perm_of_sub hd h.sub hall hn

section
variable {F : Fence} {n : Nat} {P : Program} (w : World) {ops : Array Oper} {rest : List Oper} {o : Oper} {a : Act} {Q : Exit → Act → World → Prop}

/-- 'range m'. -/
theorem wpListIn_range_raw (hg : o.guard = none) (m : Operand) (t : TypeId) (hop : o.op = Op.range t m) (k e : TypeId) (ht : P.underlying t = some (.map k e)) (b : Nat) (ents : List MapEntry) (clock : Nat)
    (hm : a.eval m = .map (some b)) (hb : w.heap[b]? = some (.map ents.toArray clock))
    (hK : wpListIn F n P ops Q rest (a.put o.dst (.pointer (some ⟨w.heap.size, 0, none⟩))) (w.alloc (.mapIter (some b) clock #[] clock))) :
    wpListIn F n P ops Q (o :: rest) a w := by
  refine wpListIn_plain hg fun K' hK' => ?_
  have hrun := run_range_map (P := P) w t k e b ents.toArray clock ht hb
  unfold Oper.wpIn
  refine ⟨?_, ?_⟩
  · simp [Oper.about, hop]
  · rw [Oper.semAt_plain F _ _ (by rw [hop]; intro c hc'; cases hc')]
    simp [execOp, hop, hm, hrun, Result.andThen]
    exact hK' _ _ hK

/-- The step. -/
theorem wpListIn_next_raw (hg : o.guard = none) (it : Operand) (hop : o.op = Op.next it false) (r b : Nat) (ents : List MapEntry) (clock : Nat) (done : List MapEntry)
    (hit : a.eval it = .pointer (some ⟨r, 0, none⟩)) (h : Under w r b ents clock done)
    (hDone : done.Perm ents → wpListIn F n P ops Q rest (a.put o.dst (.tuple #[.bool false])) w)
    (hMore : ∀ (x : MapEntry) (w' : World), x ∈ ents → done.length < ents.length → Under w' r b ents clock (done ++ [x]) → w.grownBy w' (some r) → w'.heap.size = w.heap.size →
      (Instr.entry (.pointer (some ⟨r, 0, none⟩))).run P w' = .ok (.tuple #[x.key, x.val]) w' → wpListIn F n P ops Q rest (a.put o.dst (.tuple #[.bool true, x.key, x.val])) w') :
    wpListIn F n P ops Q (o :: rest) a w := by
  refine wpListIn_plain hg fun K' hK' => ?_
  obtain ⟨c0, hc0, hr⟩ := h.it
  unfold Oper.wpIn
  refine ⟨by simp [Oper.about, hop], ?_⟩
  rw [Oper.semAt_plain F _ _ (by rw [hop]; intro c hc'; cases hc')]
  rcases run_next_at (P := P) w o.type r b clock c0 (done.map (·.born)).toArray ents.toArray clock hr h.mp (by simpa using h.old) hc0 with ⟨h0, hrun⟩ | ⟨x, hx, w1, hw1, hrun⟩
  · simp [execOp, hop, hit, hrun, Result.andThen]
    exact hK' _ _ (hDone (h.ends h0))
  · have hxm : x ∈ ents ∧ x.born ∉ done.map (·.born) := by
      unfold leftOf at hx
      simp only [Array.toList_filter, List.mem_filter, Bool.not_eq_true', Array.contains_eq_mem, List.mem_toArray, decide_eq_false_iff_not] at hx
      exact ⟨hx.1, hx.2⟩
    have hh : w1.heap = w.heap := by rcases hw1 with rfl | rfl <;> rfl
    have hrl : r < w.heap.size := (Array.getElem?_eq_some_iff.1 hr).1
    have hbr : b ≠ r := by intro e; subst e; have := h.mp; rw [hr] at this; cases this
    obtain ⟨w', hw'⟩ : ∃ w', ChangeMaps.setBlock w1 r (.mapIter (some b) clock ((done.map (·.born)).toArray.push x.born) clock) = w' := ⟨_, rfl⟩
    have hset : ∀ k, w'.heap[k]? = if k = r then some (.mapIter (some b) clock ((done.map (·.born)).toArray.push x.born) clock) else w.heap[k]? := by
      intro k
      rw [← hw']
      show (w1.heap.setIfInBounds r _)[k]? = _
      rw [hh]
      rw [Array.getElem?_setIfInBounds]
      by_cases e : r = k
      · subst e; simp [hrl]
      · rw [if_neg e, if_neg (fun h => e h.symm)]
    have hsz : w'.heap.size = w.heap.size := by rw [← hw']; show (w1.heap.setIfInBounds r _).size = _; rw [Array.size_setIfInBounds, hh]
    have hlen : done.length < ents.length := by
      have hd : done.Nodup := List.Pairwise.of_map (·.born) (fun a b hab e => hab (by rw [e])) h.dn
      classical
      have := len_le (l := x :: done) (m := ents) (List.nodup_cons.2 ⟨fun hc => hxm.2 (List.mem_map_of_mem hc), hd⟩) (fun y hy => (List.mem_cons.1 hy).elim (fun e => by rw [e]; exact hxm.1) (h.sub y))
      simp at this; omega
    have hU : Under w' r b ents clock (done ++ [x]) := by
      refine ⟨by rw [hset, if_neg hbr]; exact h.mp, ⟨clock, Nat.le_refl _, by rw [hset, if_pos rfl]; simp⟩, h.old, h.nd, ?_, ?_⟩
      · rw [List.map_append, List.nodup_append]
        refine ⟨h.dn, by simp, ?_⟩
        intro p hp q hq e
        simp at hq; subst hq
        exact hxm.2 (e ▸ hp)
      · intro y hy
        rcases List.mem_append.1 hy with hy | hy
        · exact h.sub y hy
        · simp at hy; subst hy; exact hxm.1
    have hgr : w.grownBy w' (some r) := by
      refine ⟨?_, ?_, ?_, by omega, fun k hk hkr => ?_⟩
      · rw [← hw']; rcases hw1 with rfl | rfl <;> rfl
      · rw [← hw']; rcases hw1 with rfl | rfl <;> rfl
      · rw [← hw']; rcases hw1 with rfl | rfl <;> rfl
      · rw [hset, if_neg (fun e => hkr (by rw [e]))]
    have hen := run_entry_at (P := P) w' r b clock (done.map (·.born)).toArray ents.toArray clock x (by rw [hset, if_pos rfl]) hU.mp (by simpa using hxm.1) (by simpa using h.nd)
    rw [hw'] at hrun
    simp [execOp, hop, hit, hrun, Result.andThen]
    exact hK' _ _ (hMore x w' hxm.1 hlen hU hgr hsz hen)
end

/-- A block that is no cells is put: what is known of the world stays known, if it lies at B or behind. -/
def Stays (B : Nat) (I : World → Prop) : Prop := ∀ W W' row, I W → W.grownBy W' row → (∀ r, row = some r → B ≤ r ∧ ∃ o : Obj, W.heap[r]? = some o ∧ o.isCells = false) → I W'
theorem Stays.put {B : Nat} {I : World → Prop} (h : Stays B I) {W : World} {l : Nat} {o : Obj} (o' : Obj) (hs : I W) (hB : B ≤ l) (hl : W.heap[l]? = some o) (ho : o.isCells = false) : I (W.putObj l o') :=
  h W _ (some l) hs (grownBy_putObj' W l o') (fun r e => by cases e; exact ⟨hB, o, hl, ho⟩)
theorem Stays.new {B : Nat} {I : World → Prop} (h : Stays B I) {W : World} (o : Obj) (hs : I W) : I (W.alloc o) := h W _ none hs (World.grownBy_alloc W o none) (fun r e => by cases e)

section
variable {F : Fence} {n : Nat} {P : Program}
/-- What a round keeps: what iterators lean on, and these blocks. -/
def KeepsK (K0 : Nat → Prop) (A B : World) : Prop := KeepsWalks A B ∧ ∀ k, K0 k → B.heap[k]? = A.heap[k]?
theorem KeepsK.trans {K0 : Nat → Prop} {A B C : World} (h : KeepsK K0 A B) (k : KeepsK K0 B C) : KeepsK K0 A C := ⟨h.1.trans k.1, fun i hi => (k.2 i hi).trans (h.2 i hi)⟩
theorem seq_keeps {α : Type} {g : Nat} {lb : Array Value} {encs : α → Array Value} {S Sp : List α → Prop} {N : Nat} {w : World} (h : SeqStopsA F n P g lb encs S Sp N w) : SeqStopsK F n P g lb encs (KeepsK fun _ => False) S Sp N w :=
  fun l J Jx W hb hJ hJx hY h0 => h l J Jx W hb hJ hJx (fun pre x W1 hj hl => by
    obtain ⟨fn, tmps, assign, body, h1, h2⟩ := hY pre x W1 hj hl
    exact ⟨fn, tmps, assign, body, h1, h2.mono fun e W' hq => hq.imp (fun h => ⟨h.1, h.2.1, h.2.2.1⟩) id⟩) h0

/-- A loop over a function whose rounds all end: the head of a round ('assign') may lay blocks. -/
theorem wpIn_rangeFunc_all {α : Type} {g : Operand} {ps : Array Tmp} {assign body : Code} {Q : Exit → Act → World → Prop} {a : Act} {w : World}
    (hro : F.round = none) (h1 : 1 ≤ n) {gf : Nat} {lb : Array Value} (hg : a.eval g = .func (.func gf) #[] lb) (hFg : F.fn gf) (eg : ∀ args w, (callFunc gf args).run P w = .ok (.enter gf args) w)
    {encs : α → Array Value} {S Sp : List α → Prop} {N : Nat} {K0 : Nat → Prop} (hK0 : ∀ k, K0 k → k < w.heap.size) (hseq : SeqStopsK F (n - 1) P gf lb encs (KeepsK K0) S Sp N w) (hps : ∀ x, (encs x).size = ps.size)
    (I : List α → World → Prop) (A : List α → α → Act → World → Prop) (hI : ∀ pre, Stays w.heap.size (I pre)) (hA : ∀ pre x a1, Stays w.heap.size (A pre x a1)) (h0 : I [] w)
    (hassign : ∀ (l : Nat) (pre : List α) (x : α) (W : World) (K : Act → World → Prop), I pre W → pre.length < N → w.heap.size ≤ W.heap.size → (∀ a1 W1, KeepsOthers W W1 → (∀ k, K0 k → W1.heap[k]? = W.heap[k]?) → A pre x a1 W1 → K a1 W1) →
      assign.wpIn (F.inRound l) (n - 1 - 1) P (Exit.then K (fun _ _ _ => False)) { tmps := (ps.zip (encs x)).foldl (fun t (p, v) => t.setIfInBounds p v) a.tmps, defers := [] } W)
    (hbody : ∀ (l : Nat) (pre : List α) (x : α) (a1 : Act) (W : World), A pre x a1 W → pre.length < N → w.heap.size ≤ W.heap.size → body.wpIn (F.inRound l) (n - 1 - 1) P (Exit.then (fun _ W' => KeepsOthers W W' ∧ (∀ k, K0 k → W'.heap[k]? = W.heap[k]?) ∧ I (pre ++ [x]) W') (fun _ _ _ => False)) a1 W)
    (hdone : ∀ (D : Nat) (xs : List α) (W : World), w.heap.size ≤ D → S xs → I xs W → W.heap[D]? = some (.deferred (some [])) → Q .normal { a with defers := { target := .collected D, args := #[] } :: a.defers } W) :
    (Code.rangeFunc g ps assign body).wpIn F n P Q a w := by
  refine wpIn_rangeFunc fun fn hfn => ?_
  rw [hro]
  let rec_ : LoopState → Loop := fun st => { state := st, pending := none, fn, tmps := a.tmps, params := ps, assign, body, defers := w.heap.size }
  let W1 := (w.alloc (.deferred (some []))).alloc (.loop (rec_ .ready))
  have sz1 : W1.heap.size = w.heap.size + 2 := by simp [W1]
  have rec1 : W1.heap[w.heap.size + 1]? = some (.loop (rec_ .ready)) := by
    have := World.alloc_heap_new (w.alloc (.deferred (some []))) (.loop (rec_ .ready)); rwa [World.size_alloc] at this
  have def1 : W1.heap[w.heap.size]? = some (.deferred (some [])) := (Below.heap_alloc _ _ _ (by simp)).trans (World.alloc_heap_new w _)
  have i1 : I [] W1 := (hI []).new _ ((hI []).new _ h0)
  have low1 : Below w.heap.size w W1 := ((Below.refl _ w).alloc (Nat.le_refl _) _).alloc (by simp) _
  refine ⟨w.heap.size + 1, [{ target := .collected w.heap.size, args := #[] }], W1, { target := .fn (.func gf) lb, args := #[.func (.yield (w.heap.size + 1)) #[] #[]] }, W1, gf, #[.func (.yield (w.heap.size + 1)) #[] #[]] ++ lb, W1, run_enterLoop_outer _ _ _ _ _, by simp only [resolve, hg]; simp [go_sem], fun f' hf' => by simp [Target.leads] at hf'; subst hf'; exact hFg, by simp [invoke, go_sem, eg], fun _ => h1, ?_⟩
  have keep : ∀ {X Y : World} {row : Option Nat} {k : Nat} {o : Obj}, X.grownBy Y row → (∀ r, row = some r → W1.heap.size ≤ r ∧ ∃ o : Obj, X.heap[r]? = some o ∧ o.isWalk = true) → X.heap[k]? = some o → o.isWalk = false → Y.heap[k]? = some o :=
    fun hg' hr hk ho => (grownBy_keeps hg' (fun r e => (hr r e).2) hk ho).trans hk
  refine (hseq (w.heap.size + 1) (fun pre W => I pre W ∧ W.heap[w.heap.size + 1]? = some (.loop (rec_ .ready)) ∧ W.heap[w.heap.size]? = some (.deferred (some []))) (fun _ _ => False) W1 low1
    (fun s X Y row hs hg' hr => ⟨hI s X Y row hs.1 hg' (fun r e => by obtain ⟨q1, o, q2, q3⟩ := hr r e; exact ⟨by omega, o, q2, Obj.not_cells_of_walk q3⟩), keep hg' hr hs.2.1 rfl, keep hg' hr hs.2.2 rfl⟩)
    (fun s X Y row hs _ _ => hs) ?_ ⟨i1, rec1, def1⟩).mono ?_
  · rintro pre x W ⟨hi, hl, hk⟩ hlen
    have hlt := (Array.getElem?_eq_some_iff.1 hl).1
    refine ⟨fn, _, assign, body, run_yield (P := P) (args := encs x) hl (hps x), roundIn_of_wpIn hfn (hassign _ pre x W _ hi hlen (by omega) ?_)⟩
    intro a1 Wa ka ka0 hA1
    have hla := ka.same _ _ hl rfl
    have hka := ka.same _ _ hk rfl
    have hlta := (Array.getElem?_eq_some_iff.1 hla).1
    refine ⟨_, run_beginRound hla rfl, ?_⟩
    have hlb : (Wa.putObj (w.heap.size + 1) (.loop (rec_ .busy))).heap[w.heap.size + 1]? = some (.loop (rec_ .busy)) := World.putObj_heap_same hlta
    have hkb : (Wa.putObj (w.heap.size + 1) (.loop (rec_ .busy))).heap[w.heap.size]? = some (.deferred (some [])) := (World.putObj_heap_other (by omega)).trans hka
    refine wpIn_mono (hbody _ pre x a1 (Wa.putObj (w.heap.size + 1) (.loop (rec_ .busy))) ((hA pre x a1).put _ hA1 (by omega) hla rfl) hlen (by simp; omega)) ?_
    rintro e a3 W3 hp
    cases e with
    | normal =>
      obtain ⟨k3, k30, i3⟩ := hp
      have hl3 := k3.same _ _ hlb rfl
      have hk3 := k3.same _ _ hkb rfl
      have hlt3 := (Array.getElem?_eq_some_iff.1 hl3).1
      refine ⟨_, _, run_endRound (P := P) none hl3, .inl ⟨rfl, ⟨(hI _).put _ i3 (by omega) hl3 rfl, World.putObj_heap_same hlt3, (World.putObj_heap_other (by omega)).trans hk3⟩, ?_⟩⟩
      have q0 : KeepsWalks W Wa := ⟨ka.size, fun k o ho hw => ka.same k o ho (Obj.not_cells_of_walk hw)⟩
      have q1 : KeepsWalks Wa (Wa.putObj (w.heap.size + 1) (.loop (rec_ .busy))) := KeepsWalks.putObj _ hla rfl
      have q2 : KeepsWalks (Wa.putObj (w.heap.size + 1) (.loop (rec_ .busy))) W3 := ⟨k3.size, fun k o ho hw => k3.same k o ho (Obj.not_cells_of_walk hw)⟩
      have p0 : ∀ {X : World} {o : Obj} (k : Nat), K0 k → (X.putObj (w.heap.size + 1) o).heap[k]? = X.heap[k]? := fun k hk => World.putObj_heap_other (by have := hK0 k hk; omega)
      exact ((KeepsK.trans ⟨q0, ka0⟩ ⟨q1, p0⟩).trans ⟨q2, k30⟩).trans ⟨KeepsWalks.putObj _ hl3 rfl, p0⟩
    | _ => exact hp.elim
  · rintro e W2 ⟨⟨v, rfl⟩, (⟨xs, hS, hi, hl, hk⟩ | ⟨_, _, h⟩)⟩
    · exact ⟨none, _, run_endLoop (P := P) hl (by simp [rec_]), hdone _ xs _ (Nat.le_refl _) hS ((hI _).put _ hi (by omega) hl rfl) ((World.putObj_heap_other (by omega)).trans hk)⟩
    · exact h.elim

/-- Out of a function, over the marks of its loops. -/
theorem leaves_marks {fn : Func} {tmps : Array Value} {R : Ending → World → Prop} {B : Nat} {I : World → Prop} (hI : Stays B I) (hend : ∀ w, I w → LeavesInM F n P fn tmps R [] .returning w) :
    ∀ (Ds : List Nat) (w : World), Ds.Nodup → (∀ D ∈ Ds, B ≤ D ∧ w.heap[D]? = some (.deferred (some []))) → I w → LeavesInM F n P fn tmps R (Ds.map fun D => { target := .collected D, args := #[] }) .returning w
  | [], w, _, _, h => hend w h
  | D :: r, w, hn, hd, h => by
    rw [List.nodup_cons] at hn
    have h1 := hd D (by simp)
    refine ⟨by simp, .inl ⟨D, _, rfl, run_takeDeferred h1.2, leaves_marks hI hend r _ hn.2 (fun D' hD' => ?_) (hI.put _ h h1.1 h1.2 rfl)⟩⟩
    have h2 := hd D' (by simp [hD'])
    exact ⟨h2.1, (World.putObj_heap_other (fun e => hn.1 (by rw [← e]; exact hD'))).trans h2.2⟩
end
end Go.Sy
