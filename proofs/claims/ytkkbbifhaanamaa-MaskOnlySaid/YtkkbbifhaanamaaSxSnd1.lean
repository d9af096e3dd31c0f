/-
  Values, blocks and the world: what a name's block holds ('Rel'), what is as it was ('Ext'); loads and stores at blocks of the run's own.
  No statement of the seat is proved here. Conditions: none.
-/
import Derived.Test.YtkkbbifhaanamaaSxDefs
namespace Go.Sx
open Go.RowKit

/-! ### 1. Values -/
theorem SV.denL_map (ρ : Nat → Nat) : ∀ l : List SV, SV.denL ρ l = l.map (SV.den ρ)
  | [] => by simp [SV.denL]
  | c :: r => by simp [SV.denL, SV.denL_map ρ r]
theorem SV.denL_length (ρ : Nat → Nat) (l : List SV) : (SV.denL ρ l).length = l.length := by rw [SV.denL_map]; simp
theorem SV.denL_append (ρ : Nat → Nat) (l l' : List SV) : SV.denL ρ (l ++ l') = SV.denL ρ l ++ SV.denL ρ l' := by simp [SV.denL_map]

mutual
theorem SV.den_low {ρ ρ' : Nat → Nat} {n : Nat} (h : ∀ k, k < n → ρ' k = ρ k) : ∀ v : SV, v.low n = true → v.den ρ' = v.den ρ
  | .li _ _, _ => by simp [SV.den]
  | .si _ _, _ => by simp [SV.den]
  | .lb _, _ => by simp [SV.den]
  | .sb _, _ => by simp [SV.den]
  | .val _, _ => by simp [SV.den]
  | .ref b off, hl => by
    have hb : b < n := by simpa [SV.low] using hl
    simp [SV.den, h b hb]
  | .sl b off len cap, hl => by
    have hb : b < n := by simpa [SV.low] using hl
    simp [SV.den, h b hb]
  | .agg cs, hl => by
    simp only [SV.low] at hl
    simp only [SV.den, SV.denL_low h cs hl]
  | .tup vs, hl => by
    simp only [SV.low] at hl
    simp only [SV.den, SV.denL_low h vs hl]
  | .clo fn first caps, hl => by
    simp only [SV.low, Bool.and_eq_true] at hl
    simp only [SV.den, SV.denL_low h first hl.1, SV.denL_low h caps hl.2]
theorem SV.denL_low {ρ ρ' : Nat → Nat} {n : Nat} (h : ∀ k, k < n → ρ' k = ρ k) : ∀ l : List SV, SV.lowL n l = true → SV.denL ρ' l = SV.denL ρ l
  | [], _ => by simp [SV.denL]
  | c :: r, hl => by
    simp only [SV.lowL, Bool.and_eq_true] at hl
    simp only [SV.denL, SV.den_low h c hl.1, SV.denL_low h r hl.2]
end

theorem Slot.ok_low {ρ ρ' : Nat → Nat} {n : Nat} (h : ∀ k, k < n → ρ' k = ρ k) {s : Slot} {x : Value} (hl : s.low n = true) (hs : s.ok ρ x) : s.ok ρ' x := by
  cases s with
  | unk => trivial
  | is v => rw [Slot.ok, hs]; exact (SV.den_low h v hl).symm
  | when c v => rw [Slot.ok, hs, SV.den_low h v hl]

theorem lowS_get : ∀ {l : List Slot} {n t : Nat} {s : Slot}, lowS n l = true → l[t]? = some s → s.low n = true
  | [], _, _, _, _, h => by simp at h
  | a :: r, n, 0, s, hl, h => by
    simp only [lowS, Bool.and_eq_true] at hl
    simp at h; subst h; exact hl.1
  | a :: r, n, t + 1, s, hl, h => by
    simp only [lowS, Bool.and_eq_true] at hl
    exact lowS_get hl.2 (by simpa using h)
theorem lowH_get : ∀ {l : Hp} {n k : Nat} {b : Blk}, lowH n l = true → l[k]? = some (some b) → SV.lowL n b.cells = true
  | [], _, _, _, _, h => by simp at h
  | none :: r, n, 0, b, hl, h => by simp at h
  | some a :: r, n, 0, b, hl, h => by
    simp only [lowH, Bool.and_eq_true] at hl
    simp at h; subst h; exact hl.1
  | none :: r, n, k + 1, b, hl, h => by
    simp only [lowH] at hl
    exact lowH_get hl (by simpa using h)
  | some a :: r, n, k + 1, b, hl, h => by
    simp only [lowH, Bool.and_eq_true] at hl
    exact lowH_get hl.2 (by simpa using h)

theorem ofCell_den (ρ : Nat → Nat) (v : Value) : (ofCell v).den ρ = v := by cases v <;> simp [ofCell, SV.den]
theorem ofCells_den (ρ : Nat → Nat) (l : List Value) : SV.denL ρ (l.map ofCell) = l := by
  rw [SV.denL_map]; induction l with
  | nil => rfl
  | cons a r ih => simp [ofCell_den, ih]
theorem ofConst_den (ρ : Nat → Nat) (v : Value) : (ofConst v).den ρ = v := by
  cases v <;> simp [ofConst, SV.den, ofCells_den]

theorem SV.oneV_of_atom (ρ : Nat → Nat) {v : SV} (h : v.atom = true) : oneV (v.den ρ) = true := by
  cases v <;> simp_all [SV.atom, SV.den, oneV]
theorem cells_of_oneV {v : Value} (h : oneV v = true) : v.cells = #[v] := by cases v <;> simp_all [Value.cells, oneV]
theorem SV.flat_cells (ρ : Nat → Nat) {v : SV} {cs : List SV} (h : v.flat = some cs) : (v.den ρ).cells = (SV.denL ρ cs).toArray := by
  unfold SV.flat at h
  split at h
  · simp at h; subst h; simp [SV.den, Value.cells]
  · rename_i v' _
    split at h
    · rename_i hat
      simp at h; subst h
      rw [cells_of_oneV (SV.oneV_of_atom ρ hat)]; simp [SV.denL]
    · simp at h

theorem SV.int?_den (ρ : Nat → Nat) {v : SV} {k : IntKind} {n : Int} (h : v.int? = some (k, n)) : v.den ρ = .int k n := by
  cases v <;> simp_all [SV.int?, SV.den]
theorem SV.bool?_den (ρ : Nat → Nat) {v : SV} {b : Bool} (h : v.bool? = some b) : v.den ρ = .bool b := by
  cases v <;> simp_all [SV.bool?, SV.den]
theorem litI_den (ρ : Nat → Nat) (k : IntKind) (n : Int) : (litI k n).den ρ = .int k n := by
  unfold litI; split <;> simp [SV.den]
theorem litB_den (ρ : Nat → Nat) (b : Bool) : (litB b).den ρ = .bool b := by cases b <;> simp [litB, SV.den]
theorem mkI_den (ρ : Nat → Nat) (l : Bool) (k : IntKind) (n : Int) : (mkI l k n).den ρ = .int k n := by cases l <;> simp [mkI, SV.den, litI_den]
theorem mkB_den (ρ : Nat → Nat) (l : Bool) (b : Bool) : (mkB l b).den ρ = .bool b := by cases l <;> simp [mkB, SV.den, litB_den]

/-! ### 2. The world -/

/-- The names' blocks hold what is said of them; none of them is one of 'Φ'. -/
structure Rel (ρ : Nat → Nat) (H : Hp) (Φ : Nat → Prop) (w : World) : Prop where
  own : ∀ k b, H[k]? = some (some b) → w.heap[ρ k]? = some (.cells (SV.denL ρ b.cells).toArray b.ty (0, 0))
  apart : ∀ k b, H[k]? = some (some b) → ¬ Φ (ρ k)
  inj : ∀ k k' b b', H[k]? = some (some b) → H[k']? = some (some b') → ρ k = ρ k' → k = k'
  phi : ∀ k, Φ k → k < w.heap.size

/-- The blocks of 'Φ' are as they were; the streams too. -/
structure Ext (Φ : Nat → Prop) (w w' : World) : Prop where
  os : w'.os = w.os
  tape : w'.tape = w.tape
  output : w'.output = w.output
  size : w.heap.size ≤ w'.heap.size
  block : ∀ k, Φ k → w'.heap[k]? = w.heap[k]?

theorem Ext.refl (Φ : Nat → Prop) (w : World) : Ext Φ w w := ⟨rfl, rfl, rfl, Nat.le_refl _, fun _ _ => rfl⟩
theorem Ext.trans {Φ : Nat → Prop} {a b c : World} (h : Ext Φ a b) (k : Ext Φ b c) : Ext Φ a c :=
  ⟨k.os.trans h.os, k.tape.trans h.tape, k.output.trans h.output, Nat.le_trans h.size k.size, fun i hi => (k.block i hi).trans (h.block i hi)⟩
theorem Ext.drew {Φ : Nat → Prop} {a w : World} (h : Ext Φ a w) : Ext Φ a { w with drawn := w.drawn + 1 } := ⟨h.os, h.tape, h.output, h.size, h.block⟩
theorem Rel.drew {ρ : Nat → Nat} {H : Hp} {Φ : Nat → Prop} {w : World} (h : Rel ρ H Φ w) : Rel ρ H Φ { w with drawn := w.drawn + 1 } := ⟨h.own, h.apart, h.inj, h.phi⟩

theorem Rel.lt {ρ : Nat → Nat} {H : Hp} {Φ : Nat → Prop} {w : World} (h : Rel ρ H Φ w) {k : Nat} {b : Blk} (hk : H[k]? = some (some b)) : ρ k < w.heap.size :=
  (Array.getElem?_eq_some_iff.1 (h.own k b hk)).1

/-- A world in which all old blocks are as they were. -/
theorem Rel.below {ρ : Nat → Nat} {H : Hp} {Φ : Nat → Prop} {w w' : World} (h : Rel ρ H Φ w) (hb : Below w.heap.size w w') : Rel ρ H Φ w' :=
  ⟨fun k b hk => (hb.block _ (h.lt hk)).trans (h.own k b hk), h.apart, h.inj, fun k hk => Nat.lt_of_lt_of_le (h.phi k hk) hb.size⟩
theorem Ext.of_below {Φ : Nat → Prop} {w w' : World} (hphi : ∀ k, Φ k → k < w.heap.size) (hb : Below w.heap.size w w') : Ext Φ w w' :=
  ⟨hb.os, hb.tape, hb.output, hb.size, fun k hk => hb.block k (hphi k hk)⟩

theorem Rel.cell {ρ : Nat → Nat} {H : Hp} {Φ : Nat → Prop} {w : World} (h : Rel ρ H Φ w) {k : Nat} {b : Blk} (hk : H[k]? = some (some b)) (i : Nat) :
    w.cell? ⟨ρ k, i, none⟩ = (b.cells[i]?).map (SV.den ρ) := by
  simp only [World.cell?, h.own k b hk]
  simp [SV.denL_map]
theorem Rel.unfrozen {ρ : Nat → Nat} {H : Hp} {Φ : Nat → Prop} {w : World} (h : Rel ρ H Φ w) {k : Nat} {b : Blk} (hk : H[k]? = some (some b)) (i : Nat) :
    w.frozen? ⟨ρ k, i, none⟩ = false := by
  simp only [World.frozen?, h.own k b hk]
  simp

theorem addr_add (g off i : Nat) : (⟨g, off, none⟩ : Addr).add i = ⟨g, off + i, none⟩ := by
  unfold Addr.add; split <;> simp_all

/-! ### 3. Reading -/

theorem run_underlying' {P : Program} {t : TypeId} {d : TypeDesc} (h : P.underlying t = some d) (w : World) : (underlying t).run P w = .ok d w := by
  simp [underlying, program, Sem.run, h, pure]

theorem aggT_isAgg {P : Program} {t : TypeId} {r : Bool} (h : aggT P t = some r) (w : World) : (isAgg t).run P w = .ok r w := by
  unfold aggT at h
  unfold isAgg
  cases hu : P.underlying t with
  | none => simp [hu] at h
  | some d =>
    rw [hu] at h
    rw [Sem.run_bind, run_underlying' hu]
    cases d <;> simp_all

theorem sizeT_run {P : Program} {t : TypeId} {n : Nat} (h : sizeT P t = some n) (w : World) : (sizeOf t).run P w = .ok n w := by
  unfold sizeT at h
  cases hi : P.info? t with
  | none => simp [hi] at h
  | some i =>
    simp [hi] at h
    simp [sizeOf, typeInfo, program, Sem.run, hi, h, pure]

theorem loadCellsFrom_run {P : Program} {ρ : Nat → Nat} {H : Hp} {Φ : Nat → Prop} {w : World} (h : Rel ρ H Φ w) {k : Nat} {b : Blk} (hk : H[k]? = some (some b)) (off : Nat) :
    ∀ (n i : Nat) (acc : Array Value), off + i + n ≤ b.cells.length →
      (loadCellsFrom ⟨ρ k, off, none⟩ i n acc).run P w = .ok (acc ++ (SV.denL ρ ((b.cells.drop (off + i)).take n)).toArray) w
  | 0, i, acc, _ => by simp [loadCellsFrom, SV.denL]
  | n + 1, i, acc, hle => by
    have hlt : off + i < b.cells.length := by omega
    have hc := h.cell hk (off + i)
    rw [List.getElem?_eq_getElem hlt] at hc
    simp only [loadCellsFrom, Sem.run_bind, load, addr_add, Sem.run, hc, Option.map_some]
    simp only [Result.andThen_ok]
    rw [loadCellsFrom_run h hk off n (i + 1) _ (by omega), List.drop_eq_getElem_cons hlt, List.take_succ_cons]
    simp [SV.denL, Nat.add_assoc]

theorem loadVar_run {P : Program} {ρ : Nat → Nat} {H : Hp} {Φ : Nat → Prop} {w : World} (h : Rel ρ H Φ w) {k off : Nat} {b : Blk} (hk : H[k]? = some (some b)) {t : TypeId} {v : SV}
    (hp : partL P t b.cells off = some v) : (loadVar t ⟨ρ k, off, none⟩).run P w = .ok (v.den ρ) w := by
  unfold partL at hp
  cases ha : aggT P t with
  | none => simp [ha] at hp
  | some r =>
    rw [ha] at hp
    unfold loadVar
    rw [Sem.run_bind, aggT_isAgg ha, Result.andThen_ok]
    cases r with
    | true =>
      simp only at hp
      cases hs : sizeT P t with
      | none => simp [hs] at hp
      | some n =>
        rw [hs] at hp
        simp only at hp
        split at hp
        · rename_i hle
          have hle' : off + n ≤ b.cells.length := by simpa using hle
          simp at hp; subst hp
          simp only [if_true, Sem.run_bind, sizeT_run hs, Result.andThen_ok, loadCells]
          rw [loadCellsFrom_run h hk off n 0 #[] (by omega)]
          simp [SV.den]
        · simp at hp
    | false =>
      simp only at hp
      have hc := h.cell hk off
      rw [hp] at hc
      simp [load, Sem.run, hc]

theorem denL_take (ρ : Nat → Nat) (l : List SV) (n : Nat) : SV.denL ρ (l.take n) = (SV.denL ρ l).take n := by simp [SV.denL_map, List.map_take]
theorem denL_drop (ρ : Nat → Nat) (l : List SV) (n : Nat) : SV.denL ρ (l.drop n) = (SV.denL ρ l).drop n := by simp [SV.denL_map, List.map_drop]

/-- A part of an aggregate. -/
theorem part_run {P : Program} (ρ : Nat → Nat) (w : World) {t : TypeId} {cs : List SV} {off : Nat} {v : SV} (hp : partL P t cs off = some v) :
    (part t (SV.denL ρ cs).toArray off).run P w = .ok (v.den ρ) w := by
  unfold partL at hp
  cases ha : aggT P t with
  | none => simp [ha] at hp
  | some r =>
    rw [ha] at hp
    unfold part
    rw [Sem.run_bind, aggT_isAgg ha, Result.andThen_ok]
    cases r with
    | true =>
      simp only at hp
      cases hs : sizeT P t with
      | none => simp [hs] at hp
      | some n =>
        rw [hs] at hp
        simp only at hp
        split at hp
        · rename_i hle
          have hle' : off + n ≤ cs.length := by simpa using hle
          simp at hp; subst hp
          simp only [if_true, Sem.run_bind, sizeT_run hs, Result.andThen_ok]
          simp [SV.den, denL_take, denL_drop, List.take_drop, Nat.add_sub_cancel_left]
        · simp at hp
    | false =>
      simp only at hp
      simp [SV.denL_map, hp]

end Go.Sx
