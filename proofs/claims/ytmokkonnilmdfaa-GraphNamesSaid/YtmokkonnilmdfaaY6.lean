/-
  An operation that turns nothing in memory is run as 'pureOp' says.
  No statement of the seat is proved here. Conditions: none.
-/
import Derived.Test.YtmokkonnilmdfaaY5
set_option linter.unusedSimpArgs false
set_option linter.unusedVariables false
namespace Go.Sy
open Go.RowKit

theorem cell_of_heap {w : World} {g : Nat} {vs : List Value} {ty : TypeId} (h : w.heap[g]? = some (.cells vs.toArray ty (0, 0))) : ∀ j u, vs[j]? = some u → w.cell? ⟨g, 0 + j, none⟩ = some u := by
  intro j u hu
  simp only [World.cell?, h]; simp [hu]

theorem own_rows_cell {w : World} {g o : Nat} {cur : Array Value} {ty : TypeId} (h : w.heap[g]? = some (.cells cur ty (0, 0))) {n : Nat} : ∀ j u, ((cur.toList.drop o).take n)[j]? = some u → w.cell? ⟨g, o + j, none⟩ = some u := by
  intro j u hu
  rw [List.getElem?_take] at hu
  split at hu
  · rw [List.getElem?_drop] at hu
    simp only [World.cell?, h]; simpa using hu
  · cases hu

section
variable {P : Program} {T : Tab} [GoodTab P T] {ρ : Names} {H : Hp} {Φ : Nat → Prop} {w : World} {eval : Operand → Value} {ev : Bool → Operand → Tree SV}

/-- What is known of an operand. -/
def Knows (ev : Bool → Operand → Tree SV) (eval : Operand → Value) (ρ : Names) (Φ : Nat → Prop) (w : World) (x : Operand) : Prop :=
  ∀ pc v, (ev pc x).run = some v → pc = true → Den ρ Φ w v (eval x)

theorem evs_run (f : Operand → Tree SV) (g : Operand → Value) : ∀ (l : List Operand) (vs : List SV), (∀ x ∈ l, ∀ v, (f x).run = some v → Den ρ Φ w v (g x)) → (evs f l).run = some vs → DenL ρ Φ w vs (l.map g)
  | [], vs, _, h => by simp [evs, Tree.run] at h; subst h; exact .nil
  | x :: r, vs, hk, h => by
    simp only [evs] at h
    obtain ⟨v, h1, h2⟩ := Tree.run_bind h
    obtain ⟨us, h3, h4⟩ := Tree.run_bind h2
    simp [Tree.run] at h4; subst h4
    exact .cons (hk x (by simp) v h1) (evs_run f g r us (fun y hy => hk y (by simp [hy])) h3)

/-- Parts with their places. -/
def DenP (ρ : Names) (Φ : Nat → Prop) (w : World) : List (Nat × SV) → List (Nat × Value) → Prop
  | [], ys => ys = []
  | (i, v) :: r, ys => ∃ x rest, ys = (i, x) :: rest ∧ Den ρ Φ w v x ∧ DenP ρ Φ w r rest

theorem evsP_run (f : Operand → Tree SV) (g : Operand → Value) : ∀ (l : List (Nat × Operand)) (vs : List (Nat × SV)), (∀ x ∈ l, ∀ v, (f x.2).run = some v → Den ρ Φ w v (g x.2)) → (evsP f l).run = some vs →
    DenP ρ Φ w vs (l.map (fun x => (x.1, g x.2)))
  | [], vs, _, h => by simp [evsP, Tree.run] at h; subst h; simp [DenP]
  | (i, x) :: r, vs, hk, h => by
    simp only [evsP] at h
    obtain ⟨v, h1, h2⟩ := Tree.run_bind h
    obtain ⟨us, h3, h4⟩ := Tree.run_bind h2
    simp [Tree.run] at h4; subst h4
    simp only [List.map_cons, DenP]
    exact ⟨_, _, rfl, hk (i, x) (by simp) v h1, evsP_run f g r us (fun y hy => hk y (by simp [hy])) h3⟩

theorem merge_run {c : Bool} {x y z : SV} {u v : Value} (h : (merge c x y).run = some z) (hx : c = true → Den ρ Φ w x u) (hy : c = false → Den ρ Φ w y v) : Den ρ Φ w z (if c then u else v) := by
  unfold merge at h
  split at h
  · rename_i a b ha hb
    simp [Tree.run] at h; subst h
    cases c
    · rw [bool?_den hb (hy rfl)]; simp [Den]
    · rw [bool?_den ha (hx rfl)]; simp [Den]
  · split at h
    · rename_i k a k' b ha hb
      split at h
      · rename_i hk; have := kbeq_eq hk; subst this
        simp [Tree.run] at h; subst h
        cases c
        · rw [int?_den hb (hy rfl)]; simp [Den]
        · rw [int?_den ha (hx rfl)]; simp [Den]
      · simp [Tree.run] at h
    · simp [Tree.run] at h

theorem fieldT_run {s : TypeId} {f : Nat} {fd : Field} (h : fieldT T s f = some fd) : ∃ fs, T.underlying s = some (.struct fs) ∧ fs[f]? = some fd := by
  unfold fieldT at h
  split at h
  · rename_i fs hu; exact ⟨fs, hu, h⟩
  · simp at h

theorem elemT_run {t e : TypeId} {len n : Nat} (h : elemT T t = some (len, e, n)) : T.underlying t = some (.array len e) ∧ sizeT T e = some n := by
  unfold elemT at h
  split at h
  · rename_i len' e' hu
    split at h
    · rename_i n' hs
      simp at h
      obtain ⟨rfl, rfl, rfl⟩ := h
      exact ⟨hu, hs⟩
    · simp at h
  · simp at h

theorem rowT_run {t u : TypeId} {e : Sh} (h : rowT T t e = some u) : T.underlying t = some (.slice u) ∧ sizeT T u = some e.size ∧ aggT T u = some e.isAgg := by
  unfold rowT at h
  split at h
  · rename_i u' hu
    split at h
    · rename_i n g hn hg
      split at h
      · rename_i hc
        simp only [Bool.and_eq_true, Nat.beq_eq, beq_iff_eq] at hc
        simp only [Option.some.injEq] at h; subst h
        exact ⟨hu, by rw [hn, hc.1], by rw [hg, hc.2]⟩
      · cases h
    · cases h
  · cases h

theorem indexTree_go_run {α : Type} {f : Nat → Tree α} {len : Nat} {n : Int} {a : α} (h0 : 0 ≤ n) (h1 : n < (len : Int)) :
    ∀ m : Nat, ((len : Int) - m ≤ n) → m ≤ len → (indexTree.go f len n m).run = some a → (f n.toNat).run = some a
  | 0, hm, _, h => by simp [indexTree.go, Tree.run] at h
  | 1, hm, hl, h => by
    simp only [indexTree.go] at h
    have : n.toNat = len - 1 := by omega
    rw [this]; exact h
  | m + 2, hm, hl, h => by
    simp only [indexTree.go] at h
    rcases Tree.run_ite h with ⟨hb, h⟩ | ⟨hb, h⟩
    · have hb' : n = ((len - (m + 2) : Nat) : Int) := by simpa using hb
      have : n.toNat = len - (m + 2) := by omega
      rw [this]; exact h
    · have hb' : ¬ n = ((len - (m + 2) : Nat) : Int) := by simpa using hb
      exact indexTree_go_run h0 h1 (m + 1) (by omega) (by omega) h

theorem indexTree_run {α : Type} {f : Nat → Tree α} {len : Nat} {v : SV} {a : α} (h : (indexTree f len v).run = some a) :
    ∃ k n, v.int? = some (k, n) ∧ 0 ≤ n ∧ n < (len : Int) ∧ (f n.toNat).run = some a := by
  unfold indexTree at h
  split at h
  · rename_i k n
    split at h
    · rename_i hc
      simp at hc
      exact ⟨k, n, rfl, hc.1, hc.2, h⟩
    · simp [Tree.run] at h
  · rename_i k n
    obtain ⟨hc, h⟩ := Tree.run_need h
    simp at hc
    exact ⟨k, n, rfl, hc.1, hc.2, indexTree_go_run hc.1 hc.2 len (by omega) (Nat.le_refl _) h⟩
  · simp [Tree.run] at h

theorem indexL_run {α : Type} {f : Nat → Tree α} {xs : List D} {v : SV} {a : α} (h : (indexL f xs v).run = some a) :
    ∃ k n, v.int? = some (k, n) ∧ 0 ≤ n ∧ n < (xs.length : Int) ∧ (f n.toNat).run = some a := by
  unfold indexL at h
  split at h
  · rename_i k n hv
    obtain ⟨hc, h⟩ := Tree.run_need h
    simp at hc
    exact ⟨k, n, hv, hc.1, hc.2, h⟩
  · simp [Tree.run] at h

/-! ### Parts put into an aggregate -/

theorem foldl_splice (vs : List Value) : ∀ (i off : Nat) (cs : List Value), off + i + vs.length ≤ cs.length →
    (vs.zipIdx i).foldl (fun (cs : Array Value) (x : Value × Nat) => cs.setIfInBounds (off + x.2) x.1) cs.toArray = (spliceV cs (off + i) vs).toArray := by
  induction vs with
  | nil => intro i off cs _; simp [spliceV]
  | cons v r ih =>
    intro i off cs hle
    have hlt : off + i < cs.length := by simp at hle; omega
    rw [List.zipIdx_cons, List.foldl_cons]
    simp only [List.setIfInBounds_toArray]
    rw [ih (i + 1) off (cs.set (off + i) v) (by simp at hle ⊢; omega)]
    congr 1
    have e1 : (off + (i + 1)) = off + i + 1 := by omega
    unfold spliceV
    rw [e1]
    have t1 : (cs.set (off + i) v).take (off + i + 1) = cs.take (off + i) ++ [v] := by
      rw [List.take_add_one]
      simp [hlt, List.take_set_of_le]
    have t2 : (cs.set (off + i) v).drop (off + i + 1 + r.length) = cs.drop (off + i + (v :: r).length) := by
      rw [List.drop_set_of_lt (by omega)]
      congr 1; simp; omega
    rw [t1, t2]; simp

theorem fillL_run {place : Nat → Option (Nat × Nat)} : ∀ {parts : List (Nat × SV)} {ps : List (Nat × Value)} {cells out : List SV} {vs : List Value}, fillL place cells parts = some out → DenP ρ Φ w parts ps → DenL ρ Φ w cells vs →
    ∃ us, Instr.fill place vs.toArray ps = some us.toArray ∧ DenL ρ Φ w out us
  | [], ps, cells, out, vs, h, hp, hc => by
    simp [fillL] at h; subst h
    simp only [DenP] at hp; subst hp
    exact ⟨vs, by simp [Instr.fill], hc⟩
  | (i, v) :: rest, ps, cells, out, vs, h, hp, hc => by
    simp only [fillL] at h
    simp only [DenP] at hp
    obtain ⟨x, ps', rfl, hv, hr⟩ := hp
    cases hpl : place i with
    | none => simp [hpl] at h
    | some os =>
      obtain ⟨off, size⟩ := os
      cases hf : v.flat with
      | none => simp [hpl, hf] at h
      | some fs =>
        simp only [hpl, hf] at h
        split at h
        · rename_i hcc
          simp only [Bool.and_eq_true, beq_iff_eq, Nat.ble_eq] at hcc
          obtain ⟨⟨hlen, hle⟩, hat⟩ := hcc
          obtain ⟨xs, hx1, hx2⟩ := flat_cells hf hv
          obtain ⟨us, hu1, hu2⟩ := fillL_run h hr (hc.splice off hx2)
          refine ⟨us, ?_, hu2⟩
          simp only [Instr.fill, hpl, hx1]
          have l1 := hx2.length
          have l2 := hc.length
          rw [if_neg (by simp [l1, hlen]; omega)]
          have hfold := foldl_splice xs 0 off vs (by omega)
          have hz : (xs.toArray.zipIdx).foldl (fun (cs : Array Value) (x : Value × Nat) => cs.setIfInBounds (off + x.2) x.1) vs.toArray = (spliceV vs off xs).toArray := by
            rw [← Array.foldl_toList]
            simpa using hfold
          rw [← hu1]
          congr 1
        · simp at h

theorem places_of : ∀ {fs : List Field} {l : List (Nat × Nat)}, fs.mapM (fun f => (sizeT T f.type).map fun n => (f.offset, n)) = some l → fs.mapM (fun f => (P.info? f.type).map fun i => (f.offset, i.size)) = some l
  | [], l, h => by simpa using h
  | f :: fs, l, h => by
    simp only [List.mapM_cons] at h ⊢
    cases hs : sizeT T f.type with
    | none => simp [hs] at h
    | some n =>
      obtain ⟨i, hi, hn⟩ := info_of (P := P) hs
      cases hr : fs.mapM (fun f => (sizeT T f.type).map fun n => (f.offset, n)) with
      | none => rw [hs, hr] at h; simp at h
      | some l' =>
        rw [hs, hr] at h
        rw [hi, places_of hr]
        simpa [hn] using h

theorem build_run {t : TypeId} {z out : List SV} {pl : Nat → Option (Nat × Nat)} {parts : List (Nat × SV)} {ps : List (Nat × Value)} (hz : zeroL T t = some z) (hp : placesT T t = some pl) (hf : fillL pl z parts = some out) (hd : DenP ρ Φ w parts ps) :
    ∃ us, (Instr.build t ps.toArray).run P w = .ok (.agg us.toArray) w ∧ DenL ρ Φ w out us := by
  unfold zeroL at hz
  cases hr : T.row t with
  | none => simp [hr] at hz
  | some rr =>
    simp only [hr] at hz
    obtain ⟨_, ⟨it, hi, _, _, hzz⟩, _⟩ := GoodTab.row (P := P) t rr hr
    obtain ⟨zv, hzv, hzc⟩ := hzz z hz
    obtain ⟨us, hu1, hu2⟩ := fillL_run (vs := zv.cells.toList) hf hd (by rw [← hzc]; exact ofCells_den _)
    refine ⟨us, run_build w t _ _ ?_, hu2⟩
    simp only [Array.toArray_toList] at hu1
    unfold Program.built
    unfold placesT at hp
    split at hp
    · rename_i fs hu
      have hu := und_of (P := P) hu
      split at hp
      · rename_i l hl
        simp only [Option.some.injEq] at hp
        subst hp
        have hl' : fs.toList.mapM (fun f => (P.info? f.type).map fun i => (f.offset, i.size)) = some l := places_of hl
        simp only [hi, hu, hzv, hl']
        simpa using hu1
      · simp at hp
    · rename_i len e hu
      have hu := und_of (P := P) hu
      split at hp
      · rename_i n hn
        simp only [Option.some.injEq] at hp
        subst hp
        obtain ⟨ie, hie, hn⟩ := info_of (P := P) hn
        simp only [hi, hu, hzv, hie, hn]
        simpa using hu1
      · simp at hp
    · simp at hp

theorem read_row {e : Sh} {xs : List D} {i : Nat} {fl : List Value} (h : RowsP (fun d v => DenD Φ w e d v) e.isAgg e.size xs fl) (hi : i < xs.length) :
    ∃ row, row.length = e.size ∧ (∀ j u, row[j]? = some u → fl[i * e.size + j]? = some u) ∧ DenD Φ w e (xs.getD i default) (packV e.isAgg row) := by
  have hx : xs[i]? = some (xs.getD i default) := by simp [List.getD_eq_getElem?_getD, List.getElem?_eq_getElem hi]
  exact h.get hx

theorem loadV_run (hrel : Own ρ H Φ w) {t : TypeId} {x v : SV} {u : Value} (hx : Den ρ Φ w x u) (h : (loadV T H t x).run = some v) : ∃ r, (Instr.loadAt t u).run P w = .ok r w ∧ Den ρ Φ w v r := by
  unfold loadV at h
  split at h
  · rename_i b off
    split at h
    · rename_i cs ty ro hb
      have hp := orBad_run h
      obtain ⟨m, hm, hok⟩ := hrel _ _ hb
      simp only [BlkOK] at hok
      obtain ⟨g, vs, rfl, hg, hd⟩ := hok
      simp only [Den] at hx
      obtain ⟨g', hg', rfl⟩ := hx
      rw [hm] at hg'; simp only [Option.some.injEq, Nm.blk.injEq] at hg'; subst hg'
      obtain ⟨r, hr, hdr⟩ := loadVar_run (P := P) (base := 0) (off := off) (cell_of_heap hg) hd hp
      simp only [Nat.zero_add] at hr
      exact ⟨r, by simp [Instr.loadAt, Instr.sureAddr, hr], hdr⟩
    · simp [Tree.run] at h
  · rename_i b sz i off
    split at h
    · rename_i e nl xs ty ro hb
      split at h
      · rename_i hsz
        have hsz' : sz = e.size := by simpa using hsz
        subst hsz'
        have hp := orBad_run h
        obtain ⟨m, hm, hok⟩ := hrel _ _ hb
        simp only [Den] at hx
        obtain ⟨g', o', n, c, hg', hin, rfl⟩ := hx
        simp only [BlkOK] at hok
        rcases hok with ⟨a, rfl, _⟩ | ⟨g, o, c', cur, rfl, _, _, _, hg, _, hrows⟩
        · rw [hm] at hg'; cases hg'
        · rw [hm] at hg'; simp only [Option.some.injEq, Nm.row.injEq] at hg'
          obtain ⟨rfl, rfl, rfl, rfl⟩ := hg'
          obtain ⟨row, r1, r2, r3⟩ := read_row hrows hin
          obtain ⟨r, hr, hdr⟩ := rowPart_run (P := P) (ρ := ρ) (base := o + i * e.size) (off := off) r3 r1 (fun j u hu => by rw [Nat.add_assoc]; exact own_rows_cell hg _ u (r2 j u hu)) hp
          rw [Nat.add_assoc] at hr
          exact ⟨r, by simp [Instr.loadAt, Instr.sureAddr, hr], hdr⟩
      · simp [Tree.run] at h
    · simp [Tree.run] at h
  · rename_i e xs i off
    have hp := orBad_run h
    simp only [Den] at hx
    obtain ⟨p, ⟨_, _, fl, hrows, hcell⟩, hin, rfl⟩ := hx
    obtain ⟨row, r1, r2, r3⟩ := read_row hrows hin
    obtain ⟨r, hr, hdr⟩ := rowPart_run (P := P) (ρ := ρ) (g := p.block) (base := p.off + i * e.size) (off := off) r3 r1 (fun j u hu => by
      have := hcell _ u (r2 j u hu)
      rwa [← Nat.add_assoc] at this) hp
    rw [Nat.add_assoc] at hr
    exact ⟨r, by simp [Instr.loadAt, Instr.sureAddr, hr], hdr⟩
  · simp [Tree.run] at h

theorem lenSV_run (hrel : Own ρ H Φ w) {t : TypeId} {x v : SV} {u : Value} (hx : Den ρ Φ w x u) (h : (lenSV T H t x).run = some v) (args : Array Value) (argTypes : Array TypeId) (ty : TypeId) (ha : args[0]? = some u) (ht : argTypes[0]? = some t) :
    ∃ r, (Builtin.len_ argTypes ty args).run P w = .ok r w ∧ Den ρ Φ w v r := by
  unfold lenSV at h
  split at h
  · rename_i e b off n cap hu
    simp only [Tree.run, Option.some.injEq] at h; subst h
    simp only [Den] at hx; obtain ⟨g, _, rfl⟩ := hx
    exact ⟨_, by simp [Builtin.len_, ha, ht, run_underlying' hu, goInt] <;> rfl, litI_den ..⟩
  · rename_i e n cap hu
    simp only [Tree.run, Option.some.injEq] at h; subst h
    simp only [Den] at hx; subst hx
    exact ⟨_, by simp [Builtin.len_, ha, ht, run_underlying' hu, goInt] <;> rfl, litI_den ..⟩
  · rename_i e e' nl xs hu
    simp only [Tree.run, Option.some.injEq] at h; subst h
    simp only [Den, DenD] at hx; obtain ⟨a, cap, rfl, _⟩ := hx
    exact ⟨_, by simp [Builtin.len_, ha, ht, run_underlying' hu, goInt] <;> rfl, by simp [Den, D.xs]⟩
  · rename_i e b hu
    split at h
    · rename_i e' nl xs ty' ro hb
      simp only [Tree.run, Option.some.injEq] at h; subst h
      obtain ⟨m, hm, hok⟩ := hrel _ _ hb
      simp only [Den] at hx
      simp only [BlkOK] at hok
      rcases hok with ⟨a, rfl, _, rfl⟩ | ⟨g, o, c', cur, rfl, _⟩
      · rcases hx with ⟨_, _, _, _, h1, _⟩ | ⟨_, h1, rfl⟩
        · rw [hm] at h1; cases h1
        · exact ⟨_, by simp [Builtin.len_, ha, ht, run_underlying' hu, goInt] <;> rfl, by simp [Den]⟩
      · rcases hx with ⟨_, _, _, _, h1, rfl⟩ | ⟨_, h1, _⟩
        · rw [hm] at h1; simp only [Option.some.injEq, Nm.row.injEq] at h1
          obtain ⟨rfl, rfl, rfl, rfl⟩ := h1
          exact ⟨_, by simp [Builtin.len_, ha, ht, run_underlying' hu, goInt] <;> rfl, by simp [Den]⟩
        · rw [hm] at h1; cases h1
    · simp [Tree.run] at h
  · rename_i e b sz lo hi hu
    simp only [Tree.run, Option.some.injEq] at h; subst h
    simp only [Den] at hx
    rcases hx with ⟨_, _, _, _, _, _, _, _, _, rfl⟩ | ⟨a, _, rfl, rfl, rfl⟩
    · exact ⟨_, by simp [Builtin.len_, ha, ht, run_underlying' hu, goInt] <;> rfl, by simp [Den]⟩
    · exact ⟨_, by simp [Builtin.len_, ha, ht, run_underlying' hu, goInt] <;> rfl, by simp [Den]⟩
  · rename_i e nl hu
    simp only [Tree.run, Option.some.injEq] at h; subst h
    simp only [Den] at hx
    obtain ⟨a, _, rfl⟩ := hx
    exact ⟨_, by simp [Builtin.len_, ha, ht, run_underlying' hu, goInt] <;> rfl, by simp [Den]⟩
  · rename_i s hu
    simp only [Tree.run, Option.some.injEq] at h; subst h
    simp only [Den] at hx; subst hx
    exact ⟨_, by simp [Builtin.len_, ha, ht, run_underlying' hu, goInt] <;> rfl, by simp [Den, ba_size]⟩
  · rename_i n e hu
    simp only [Tree.run, Option.some.injEq] at h; subst h
    exact ⟨_, by simp [Builtin.len_, ha, ht, run_underlying' hu, goInt] <;> rfl, litI_den ..⟩
  · rename_i k e b hu
    split at h
    · rename_i k' v' es ty' ro hb
      simp only [Tree.run, Option.some.injEq] at h; subst h
      obtain ⟨m, hm, hok⟩ := hrel _ _ hb
      simp only [Den] at hx
      simp only [BlkOK] at hok
      obtain ⟨g, ents, clock, rfl, hg, hmok⟩ := hok
      obtain ⟨g', h1, rfl⟩ := hx
      rw [hm] at h1; simp only [Option.some.injEq, Nm.blk.injEq] at h1; subst h1
      exact ⟨_, by simp [Builtin.len_, ha, ht, run_underlying' hu, goInt, getObj, Sem.run, hg] <;> rfl, by simp [Den, hmok.length]⟩
    · simp [Tree.run] at h
  · rename_i k e hu
    simp only [Tree.run, Option.some.injEq] at h; subst h
    simp only [Den] at hx; subst hx
    exact ⟨_, by simp [Builtin.len_, ha, ht, run_underlying' hu, goInt] <;> rfl, by simp [Den]⟩
  · simp [Tree.run] at h

theorem foldI_run (mx : Bool) : ∀ (r : List SV) (us : List Value) (x v : SV) (u : Value), (foldI mx x r).run = some v → Den ρ Φ w x u → DenL ρ Φ w r us → ∃ y, (us.foldlM (if mx then Builtin.max2 else Builtin.min2) u).run P w = .ok y w ∧ Den ρ Φ w v y
  | [], us, x, v, u, h, hx, hr => by
    simp only [foldI, Tree.run, Option.some.injEq] at h; subst h
    simp only [DenL] at hr; subst hr
    exact ⟨u, by simp, hx⟩
  | y :: r, us, x, v, u, h, hx, hr => by
    simp only [foldI] at h
    simp only [DenL] at hr
    obtain ⟨yv, us', rfl, hy, hr⟩ := hr
    obtain ⟨z, h1, h2⟩ := Tree.run_bind h
    unfold pickI at h1
    split at h1
    · rename_i k a k' b ha hb
      simp only [Tree.run, Option.some.injEq] at h1
      have e1 := int?_den ha hx
      have e2 := int?_den hb hy
      subst e1; subst e2
      obtain ⟨q, g1, g2⟩ := foldI_run mx r us' z v (.int k (pickN mx a b)) h2 (by rw [← h1]; exact mkI_den ..) hr
      refine ⟨q, ?_, g2⟩
      cases mx
      · simp only [pickN] at g1
        simp only [List.foldlM_cons, Bool.false_eq_true, if_false, Builtin.min2, Sem.run_bind, Sem.run_pure, Result.andThen_ok] at g1 ⊢
        exact g1
      · simp only [pickN] at g1
        simp only [List.foldlM_cons, if_true, Builtin.max2, Sem.run_bind, Sem.run_pure, Result.andThen_ok] at g1 ⊢
        exact g1
    · simp [Tree.run] at h1
end
end Go.Sy
