/-
  Who is beside a switch: the iterator of graph.beside, by hand.
  No statement of the seat is proved here. Conditions: none.
-/
import Derived.Test.YtmokkonnilmdfaaPB12
set_option linter.unusedVariables false
set_option linter.unusedSimpArgs false
namespace Go.Proofs.Ytmokkonnilmdfaa
open Go.Shelf Go.RowKit Go.Lib Go.Maps Go.Sort Go.Sy

abbrev KV := (Int × Int) × (Int × Int × Int)
abbrev encKV (p : KV) : Value × Value := (encE p.1, encS p.2)
def decS : Value → Int × Int × Int
  | .agg cs => match cs.toList with
    | [.int _ a, .int _ b, .int _ c] => (a, b, c)
    | _ => (0, 0, 0)
  | _ => (0, 0, 0)
theorem perm_kv {a b : List KV} (h : (a.map encKV).Perm (b.map encKV)) : a.Perm b := by
  have := h.map fun x => (decE x.1, decS x.2)
  simp only [List.map_map] at this
  rwa [show ((fun x : Value × Value => (decE x.1, decS x.2)) ∘ encKV) = id from funext fun _ => rfl, List.map_id, List.map_id] at this

/-- Is a link up? -/
def upB (us : List Bool) (i : Int) : Bool := decide ((us.length : Int) ≤ i) || us.getD i.toNat false
def nbrB (s : Int) (us : List Bool) (p : KV) : Bool := p.1.1 == s && upB us p.2.2.2
def nbrL (s : Int) (us : List Bool) (l : List KV) : List Int := (l.filter (nbrB s us)).map (·.2.1)
theorem nbrL_snoc (s : Int) (us : List Bool) (l : List KV) (p : KV) : nbrL s us (l ++ [p]) = nbrL s us l ++ (bif nbrB s us p then [p.2.1] else []) := by
  unfold nbrL
  rw [List.filter_append, List.map_append]
  cases h : nbrB s us p <;> simp [h]
theorem nbrL_len (s : Int) (us : List Bool) (l : List KV) : (nbrL s us l).length ≤ l.length := by
  unfold nbrL; rw [List.length_map]; exact List.length_filter_le _ _

/-- What a list of truth values looks like, in the world. -/
def UpAt (w : World) (ua : Option Addr) (us : List Bool) : Prop := ∀ j, j < us.length → ∃ a, ua = some a ∧ a.spot = none ∧ w.cell? ⟨a.block, a.off + j, none⟩ = some (.bool (us.getD j false))
/-- The blocks that a round must keep. -/
def K0 (Bs Bu : Nat) (ua : Option Addr) (us : List Bool) (k : Nat) : Prop := k = Bs ∨ k = Bu ∨ ∃ a, us ≠ [] ∧ ua = some a ∧ k = a.block

set_option maxRecDepth 100000 in
set_option maxHeartbeats 4000000 in
theorem beside1_stops (F : Fence) (n : Nat) (h34 : F.fn 34) (hro : F.round = none) (hn : 1 ≤ n) (Ba Bs Bu b : Nat) (s : Int) (ua : Option Addr) (uc : Nat) (us : List Bool) (ents : List MapEntry) (clock : Nat) (kv : List KV) (w : World)
    (hBa : Ba < w.heap.size) (hBs : Bs < w.heap.size) (hBu : Bu < w.heap.size) (hua : ∀ a, us ≠ [] → ua = some a → a.block < w.heap.size)
    (ca : w.cell? ⟨Ba, 0, none⟩ = some (.map (some b))) (cs : w.cell? ⟨Bs, 0, none⟩ = some (.int .i64 s)) (cu : w.cell? ⟨Bu, 0, none⟩ = some (.slice ua us.length uc)) (hup : UpAt w ua us)
    (hb : w.heap[b]? = some (.map ents.toArray clock)) (old : ∀ x ∈ ents, x.born < clock) (nd : (ents.map (·.born)).Nodup) (hkv : ents.map (fun x => (x.key, x.val)) = kv.map encKV) (hlk : ∀ p ∈ kv, 0 ≤ p.2.2.2) :
    SeqStopsK F n Try.prog 34 #[.pointer (some ⟨Ba, 0, none⟩), .pointer (some ⟨Bs, 0, none⟩), .pointer (some ⟨Bu, 0, none⟩)] (fun x => #[.int .i64 x]) (KeepsK (K0 Bs Bu ua us)) (fun ss => ss.Perm (nbrL s us kv)) (fun _ => True) ents.length w := fun l J Jx W hW hJ hJx hY h0 => by
  have mixed : Try.prog.follows .mixedOrders = true := by kernel_rfl
  have hm : W.cell? ⟨Ba, 0, none⟩ = some (.map (some b)) := (hW.cell (p := ⟨Ba, 0, none⟩) hBa).trans ca
  have hbW : W.heap[b]? = some (.map ents.toArray clock) := (hW.block b (Array.getElem?_eq_some_iff.1 hb).1).trans hb
  show CallsIn F n Try.prog 34 #[.func (.yield l) #[] #[], .pointer (some ⟨Ba, 0, none⟩), .pointer (some ⟨Bs, 0, none⟩), .pointer (some ⟨Bu, 0, none⟩)] W _
  refine callsIn_of_wp Try.func34 rfl h34 ?_ hro
  simp only [Try.ntmps34, List.size_toArray, List.length_cons, List.length_nil, Nat.reduceAdd, Nat.reduceSub, Array.replicate_succ, Array.replicate_zero, List.push_toArray, List.append_toArray, List.nil_append, List.cons_append]
  have hU0 := Under.start hbW old nd
  gi_wp2_with (first
    | (gi_at_range; refine wpListIn_range_raw _ rfl _ 47 rfl 33 56 Try.underlying47 b ents clock rfl hbW ?_)
    | gi_in)
  (try go_frame)
  have hk0 : ∀ k, K0 Bs Bu ua us k → k < w.heap.size := by
    rintro k (rfl | rfl | ⟨a, h0, h1, rfl⟩)
    · exact hBs
    · exact hBu
    · exact hua a h0 h1
  have hK0 : ∀ k, K0 Bs Bu ua us k → (W.alloc (.mapIter (some b) clock #[] clock)).heap[k]? = w.heap[k]? := fun k hk => (Below.heap_alloc _ _ _ (Nat.lt_of_lt_of_le (hk0 k hk) hW.size)).trans (hW.block k (hk0 k hk))
  have hg0 : W.grownBy (W.alloc (.mapIter (some b) clock #[] clock)) none := World.grownBy_alloc W _ none
  have hJ0 : J [] (W.alloc (.mapIter (some b) clock #[] clock)) := hJ [] W _ none h0 hg0 (fun r e => by cases e)
  revert hU0 hJ0 hK0
  generalize W.alloc (.mapIter (some b) clock #[] clock) = w0
  intro hU0 hK0 hJ0
  gi_loopw [] (fun wr => ∃ (done : List MapEntry) (kd : List KV), Under wr W.heap.size b ents clock done ∧ done.map (fun x => (x.key, x.val)) = kd.map encKV ∧ (∀ k, K0 Bs Bu ua us k → wr.heap[k]? = w.heap[k]?) ∧ J (nbrL s us kd) wr)
    (fun wr => ents.length - match wr.heap[W.heap.size]? with | some (.mapIter _ _ seen _) => seen.size | _ => 0)
  case atStart => exact ⟨[], [], hU0, rfl, hK0, hJ0⟩
  case round =>
    obtain ⟨done, kd, hU, hkd, hKr, hJs⟩ := hrel
    gi_wp2_with (first
      | (gi_at_next; refine wpListIn_next_raw _ rfl _ rfl W.heap.size b ents clock done rfl hU ?_ ?_)
      | gi_in)
    · intro hp
      gi_wp2
      go_end0
      refine ⟨⟨_, rfl⟩, .inl ⟨_, ?_, hJs⟩⟩
      have hpk : kd.Perm kv := perm_kv (by rw [← hkd, ← hkv]; exact hp.map _)
      exact (hpk.filter _).map _
    · intro x w2 hx hlen hU2 hg2 hs2 hen
      obtain ⟨⟨⟨k1, k2⟩, o1, o2, i⟩, hpkv, hk⟩ : ∃ p, p ∈ kv ∧ encKV p = (x.key, x.val) := by
        have : (x.key, x.val) ∈ kv.map encKV := by rw [← hkv]; exact List.mem_map_of_mem (f := fun x : MapEntry => (x.key, x.val)) hx
        exact List.mem_map.1 this
      simp only [Prod.mk.injEq] at hk
      obtain ⟨hk1, hk2⟩ := hk
      have hi0 : 0 ≤ i := hlk _ hpkv
      have hkl : kd.length = done.length := by have := congrArg List.length hkd; simpa using this.symm
      have hsl : (nbrL s us kd).length < ents.length := by have := nbrL_len s us kd; omega
      have hJ2 : J (nbrL s us kd) w2 := hJ _ wr w2 (some W.heap.size) hJs hg2 (fun r e => by cases e; exact ⟨Nat.le_refl _, hU.iter_walk⟩)
      rw [← hk1, ← hk2] at hen ⊢
      have hks : encKV ((k1, k2), o1, o2, i) = (x.key, x.val) := by rw [← hk1, ← hk2]
      have hks' := Lib.hid hks
      have hkd' := Lib.hid hkd
      clear hks hk1 hk2 hkd hs2
      have hszW := hW.size
      have hwr : W.heap.size ≤ w2.heap.size := by
        obtain ⟨c0, _, e⟩ := hU2.it
        exact Nat.le_of_lt (Array.getElem?_eq_some_iff.1 e).1
      have hK2 : ∀ k, K0 Bs Bu ua us k → w2.heap[k]? = w.heap[k]? := fun k hk => (hg2.block k (by
        have h1 := hk0 k hk
        have h2 := hKr k hk
        rw [Array.getElem?_eq_getElem h1] at h2
        exact (Array.getElem?_eq_some_iff.1 h2).1) (fun e => by have := hk0 k hk; cases e; omega)).trans (hKr k hk)
      have c1 : w2.cell? ⟨Bs, 0, none⟩ = some (.int .i64 s) := by rw [← cs]; simp only [World.cell?, hK2 Bs (.inl rfl)]
      have c2 : w2.cell? ⟨Bu, 0, none⟩ = some (.slice ua us.length uc) := by rw [← cu]; simp only [World.cell?, hK2 Bu (.inr (.inl rfl))]
      have l1 : Bs < w2.heap.size := by omega
      have l2 : Bu < w2.heap.size := by omega
      have hul : us.length ≤ 9223372036854775807 ∨ True := .inr trivial
      have c3 : i < (us.length : Int) → ∃ a, ua = some a ∧ a.spot = none ∧ a.block < w2.heap.size ∧ w2.cell? ⟨a.block, a.off + i.toNat, none⟩ = some (.bool (us.getD i.toNat false)) := fun h => by
        obtain ⟨a, e1, e2, e3⟩ := hup i.toNat (by omega)
        have hne : us ≠ [] := fun e => by rw [e] at h; simp at h; omega
        refine ⟨a, e1, e2, by have := hua a hne e1; omega, ?_⟩
        rw [← e3]; simp only [World.cell?, hK2 a.block (.inr (.inr ⟨a, hne, e1, rfl⟩))]
      have hK2' := Lib.hid hK2
      have hkr' := Lib.hid hKr
      have hk0' := Lib.hid hk0
      have hw3 : w2.grownBy ((w2.alloc (.cells #[.int .i64 k1, .int .i64 k2] 33)).alloc (.cells #[.int .i64 o1, .int .i64 o2, .int .i64 i] 56)) none := ⟨rfl, rfl, rfl, by simp; omega, fun k hk _ => (Below.heap_alloc _ _ _ (by simp; omega)).trans (Below.heap_alloc _ _ _ hk)⟩
      have hU3 := Lib.hid (hU2.grown hw3 (by simp) (by simp))
      have hK3 : RowKit.Hid (∀ k, K0 Bs Bu ua us k → ((w2.alloc (.cells #[.int .i64 k1, .int .i64 k2] 33)).alloc (.cells #[.int .i64 o1, .int .i64 o2, .int .i64 i] 56)).heap[k]? = w.heap[k]?) := Lib.hid fun k hk => (hw3.block k (by have := hk0 k hk; omega) (by simp)).trans (hK2 k hk)
      have hJ3 := Lib.hid (hJ _ w2 _ none hJ2 hw3 (fun r e => by cases e))
      have hY3 := hY (nbrL s us kd) o1 _ hJ3.out hsl
      have fin : RowKit.Hid (∀ W4, Under W4 W.heap.size b ents clock (done ++ [x]) → (∀ k, K0 Bs Bu ua us k → W4.heap[k]? = w.heap[k]?) → J (nbrL s us (kd ++ [((k1, k2), o1, o2, i)])) W4 →
          (∃ (done : List MapEntry) (kd : List KV), Under W4 W.heap.size b ents clock done ∧ done.map (fun x => (x.key, x.val)) = kd.map encKV ∧ (∀ k, K0 Bs Bu ua us k → W4.heap[k]? = w.heap[k]?) ∧ J (nbrL s us kd) W4) ∧
          (ents.length - match W4.heap[W.heap.size]? with | some (.mapIter _ _ seen _) => seen.size | _ => 0) < ents.length - match wr.heap[W.heap.size]? with | some (.mapIter _ _ seen _) => seen.size | _ => 0) := Lib.hid fun W4 h1 h2 h3 => by
        refine ⟨⟨done ++ [x], kd ++ [((k1, k2), o1, o2, i)], h1, by rw [List.map_append, List.map_append, hkd'.out, List.map_singleton, List.map_singleton, hks'.out], h2, h3⟩, ?_⟩
        obtain ⟨c1, _, e1⟩ := hU.it
        obtain ⟨c2, _, e2⟩ := h1.it
        rw [e1, e2]
        simp
        omega
      clear hw3
      clear hK2 hKr hK0 hk0 cs cu ca hup hlk
      by_cases q1 : k1 = s
      · subst q1
        by_cases q2 : (us.length : Int) ≤ i
        · clear c3
          have hcond : nbrB k1 us ((k1, k2), o1, o2, i) = true := by simp [nbrB, upB, q2]
          obtain ⟨fn, tmps, assign, body, hy, hR⟩ := hY3
          gi_wp2
          refine hR.mono ?_
          rintro e W3 (⟨rfl, hJ4, hk4⟩ | ⟨rfl, hx4⟩)
          · gi_wp2
            exact fin.out W3 (hU3.out.kept hk4.1) (fun k hk => (hk4.2 k hk).trans (hK3.out k hk)) (by rw [nbrL_snoc, hcond]; exact hJ4)
          · gi_wp2
            refine bodyPost_ret (results_none rfl _ _ _) rfl ?_
            exact ⟨⟨_, rfl⟩, .inr ⟨_, trivial, hx4⟩⟩
        · obtain ⟨⟨ab, ao, asp⟩, rfl, e2, e3, e4⟩ := c3 (by omega)
          simp only at e2
          subst e2
          cases hbv : us.getD i.toNat false with
          | true =>
            have hcond : nbrB k1 us ((k1, k2), o1, o2, i) = true := by simp only [nbrB, upB, hbv]; simp
            rw [hbv] at e4
            obtain ⟨fn, tmps, assign, body, hy, hR⟩ := hY3
            gi_wp2
            refine hR.mono ?_
            rintro e W3 (⟨rfl, hJ4, hk4⟩ | ⟨rfl, hx4⟩)
            · gi_wp2
              exact fin.out W3 (hU3.out.kept hk4.1) (fun k hk => (hk4.2 k hk).trans (hK3.out k hk)) (by rw [nbrL_snoc, hcond]; exact hJ4)
            · gi_wp2
              refine bodyPost_ret (results_none rfl _ _ _) rfl ?_
              exact ⟨⟨_, rfl⟩, .inr ⟨_, trivial, hx4⟩⟩
          | false =>
            have hcond : nbrB k1 us ((k1, k2), o1, o2, i) = false := by simp only [nbrB, upB, hbv]; simp; omega
            rw [hbv] at e4
            clear hY3
            gi_wp2
            refine ⟨by simp, ?_⟩
            gi_wp2
            exact fin.out _ hU3.out hK3.out (by rw [nbrL_snoc, hcond]; simpa using hJ3.out)
      · clear c3
        have q1' : (k1 == s) = false := by simpa using q1
        have hcond : nbrB s us ((k1, k2), o1, o2, i) = false := by simp [nbrB, q1']
        clear hY3
        gi_wp2
        refine ⟨by simp, ?_⟩
        gi_wp2
        exact fin.out _ hU3.out hK3.out (by rw [nbrL_snoc, hcond]; simpa using hJ3.out)


end Go.Proofs.Ytmokkonnilmdfaa
