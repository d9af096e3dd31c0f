/-
  Reading: cells, parts, rows of lists; what is written out of the types.
  No statement of the seat is proved here. Conditions: none.
-/
import Derived.Test.YtmokkonnilmdfaaY2
import Derived.Test.YtmokkonnilmdfaaY4
set_option linter.unusedSimpArgs false
set_option linter.unusedVariables false
namespace Go.Sy
open Go.RowKit

theorem addr_add (g off i : Nat) : (⟨g, off, none⟩ : Addr).add i = ⟨g, off + i, none⟩ := by
  unfold Addr.add; split <;> simp_all

/-- The table says what the program has. -/
class GoodTab (P : Program) (T : Tab) : Prop where
  row : ∀ t r, T.row t = some r → P.underlying t = some r.und ∧ (∃ i, P.info? t = some i ∧ i.size = r.size ∧ i.bytes = r.bytes ∧ ∀ zl, r.zero = some zl → ∃ z, i.zero = some z ∧ z.cells.toList.map ofCell = zl) ∧
    (r.stood = false → P.stoodInHeld t = false) ∧ (r.eqg = false → P.eqGuardType P.depth t = false)
  func : ∀ f fn, T.func f = some fn → P.funcs[f]? = some fn
  mp : ∀ t r, T.mp t = some r → T.underlying t = some (.map r.kt r.et) ∧ r.k.keyish = true ∧ (∀ a b, eqSV T 60 r.kt (enc r.k a) (enc r.k b) = some (keyB r.k a b)) ∧ (∀ a, chkKey T 20 r.kt (enc r.k a) = true) ∧
    ∃ i zv, P.info? r.et = some i ∧ i.zero = some zv ∧ zden r.v r.z zv = true

theorem und_of {P : Program} {T : Tab} [hT : GoodTab P T] {t : TypeId} {d : TypeDesc} (h : T.underlying t = some d) : P.underlying t = some d := by
  unfold Tab.underlying at h
  cases hr : T.row t with
  | none => simp [hr] at h
  | some r => simp [hr] at h; subst h; exact (hT.row t r hr).1
theorem info_of {P : Program} {T : Tab} [hT : GoodTab P T] {t : TypeId} {n : Nat} (h : sizeT T t = some n) : ∃ i, P.info? t = some i ∧ i.size = n := by
  unfold sizeT at h
  cases hr : T.row t with
  | none => simp [hr] at h
  | some r => simp [hr] at h; subst h; obtain ⟨_, ⟨i, h1, h2, _⟩, _⟩ := hT.row t r hr; exact ⟨i, h1, h2⟩

theorem stood_of {P : Program} {T : Tab} [hT : GoodTab P T] {t : TypeId} (h : T.stoodInHeld t = false) : P.stoodInHeld t = false := by
  unfold Tab.stoodInHeld at h
  cases hr : T.row t with
  | none => simp [hr] at h
  | some r => simp [hr] at h; exact (hT.row t r hr).2.2.1 h
theorem eqG_of {P : Program} {T : Tab} [hT : GoodTab P T] {t : TypeId} (h : T.eqG t = false) : P.eqGuardType P.depth t = false := by
  unfold Tab.eqG at h
  cases hr : T.row t with
  | none => simp [hr] at h
  | some r => simp [hr] at h; exact (hT.row t r hr).2.2.2 h
theorem run_und {P : Program} {t : TypeId} {d : TypeDesc} (h : P.underlying t = some d) (w : World) : (underlying t).run P w = .ok d w := by
  simp [underlying, program, Sem.run, h, pure]
theorem run_underlying' {P : Program} {T : Tab} [GoodTab P T] {t : TypeId} {d : TypeDesc} (h : T.underlying t = some d) (w : World) : (underlying t).run P w = .ok d w := by
  have h := und_of (P := P) h
  simp [underlying, program, Sem.run, h, pure]

theorem aggT_isAgg {P : Program} {T : Tab} [GoodTab P T] {t : TypeId} {r : Bool} (h : aggT T t = some r) (w : World) : (isAgg t).run P w = .ok r w := by
  unfold aggT at h
  unfold isAgg
  cases hu : T.underlying t with
  | none => simp [hu] at h
  | some d =>
    rw [hu] at h
    rw [Sem.run_bind, run_underlying' (P := P) hu]
    cases d <;> simp_all

theorem sizeT_run {P : Program} {T : Tab} [GoodTab P T] {t : TypeId} {n : Nat} (h : sizeT T t = some n) (w : World) : (sizeOf t).run P w = .ok n w := by
  obtain ⟨i, hi, hs⟩ := info_of (P := P) h
  simp [sizeOf, typeInfo, program, Sem.run, hi, hs, pure]

section
variable {P : Program} {T : Tab} [GoodTab P T] {ρ : Names} {Φ : Nat → Prop} {w : World}

theorem loadCellsFrom_run {g base : Nat} {vs : List Value} (hc : ∀ j u, vs[j]? = some u → w.cell? ⟨g, base + j, none⟩ = some u) (off : Nat) :
    ∀ (n i : Nat) (acc : Array Value), off + i + n ≤ vs.length →
      (loadCellsFrom ⟨g, base + off, none⟩ i n acc).run P w = .ok (acc ++ ((vs.drop (off + i)).take n).toArray) w
  | 0, i, acc, _ => by simp [loadCellsFrom]
  | n + 1, i, acc, hle => by
    have hlt : off + i < vs.length := by omega
    have h1 := hc (off + i) vs[off + i] (List.getElem?_eq_getElem hlt)
    have e : base + off + i = base + (off + i) := by omega
    simp only [loadCellsFrom, Sem.run_bind, load, addr_add, Sem.run, e, h1]
    simp only [Result.andThen_ok]
    rw [loadCellsFrom_run hc off n (i + 1) _ (by omega), List.drop_eq_getElem_cons hlt, List.take_succ_cons]
    simp [Nat.add_assoc]

theorem loadVar_run {g base off : Nat} {vs : List Value} (hc : ∀ j u, vs[j]? = some u → w.cell? ⟨g, base + j, none⟩ = some u) {cs : List SV} (hd : DenL ρ Φ w cs vs) {t : TypeId} {v : SV}
    (hp : partL T t cs off = some v) : ∃ x, (loadVar t ⟨g, base + off, none⟩).run P w = .ok x w ∧ Den ρ Φ w v x := by
  unfold partL at hp
  cases ha : aggT T t with
  | none => simp [ha] at hp
  | some r =>
    rw [ha] at hp
    unfold loadVar
    rw [Sem.run_bind, aggT_isAgg ha, Result.andThen_ok]
    cases r with
    | true =>
      simp only at hp
      cases hs : sizeT T t with
      | none => simp [hs] at hp
      | some n =>
        rw [hs] at hp
        simp only at hp
        split at hp
        · rename_i hle
          have hle' : off + n ≤ cs.length := by simpa using hle
          simp at hp; subst hp
          refine ⟨.agg ((vs.drop off).take n).toArray, ?_, ?_⟩
          · simp only [if_true, Sem.run_bind, sizeT_run hs, Result.andThen_ok, loadCells]
            rw [loadCellsFrom_run hc off n 0 #[] (by rw [hd.length]; omega)]
            simp
          · simp only [Den]
            exact ⟨_, rfl, (hd.drop off).take n⟩
        · simp at hp
    | false =>
      simp only at hp
      obtain ⟨x, hx, hdx⟩ := hd.get hp
      have h1 := hc off x hx
      exact ⟨x, by simp [load, Sem.run, h1], hdx⟩

/-- A part of an aggregate. -/
theorem part_run {t : TypeId} {cs : List SV} {vs : List Value} (hd : DenL ρ Φ w cs vs) {off : Nat} {v : SV} (hp : partL T t cs off = some v) :
    ∃ x, (∀ w', (part t vs.toArray off).run P w' = .ok x w') ∧ Den ρ Φ w v x := by
  unfold partL at hp
  cases ha : aggT T t with
  | none => simp [ha] at hp
  | some r =>
    rw [ha] at hp
    cases r with
    | true =>
      simp only at hp
      cases hs : sizeT T t with
      | none => simp [hs] at hp
      | some n =>
        rw [hs] at hp
        simp only at hp
        split at hp
        · rename_i hle
          have hle' : off + n ≤ cs.length := by simpa using hle
          simp at hp; subst hp
          refine ⟨.agg ((vs.drop off).take n).toArray, fun w' => ?_, ?_⟩
          · unfold part
            rw [Sem.run_bind, aggT_isAgg ha, Result.andThen_ok]
            simp only [if_true, Sem.run_bind, sizeT_run hs, Result.andThen_ok]
            simp [List.take_drop, Nat.add_sub_cancel_left]
          · simp only [Den]
            exact ⟨_, rfl, (hd.drop off).take n⟩
        · simp at hp
    | false =>
      simp only at hp
      obtain ⟨x, hx, hdx⟩ := hd.get hp
      refine ⟨x, fun w' => ?_, hdx⟩
      unfold part
      rw [Sem.run_bind, aggT_isAgg ha, Result.andThen_ok]
      simp [hx]

/-! ### Rows -/

theorem RowsP.length {R : D → Value → Prop} {ag : Bool} {sz : Nat} : ∀ {xs : List D} {fl : List Value}, RowsP R ag sz xs fl → fl.length = xs.length * sz
  | [], fl, h => by simp only [RowsP] at h; subst h; simp
  | d :: r, fl, ⟨row, rest, h1, h2, h3, h4⟩ => by
    subst h1; simp [h2, RowsP.length h4, Nat.add_mul]; omega

theorem RowsP.get {R : D → Value → Prop} {ag : Bool} {sz : Nat} : ∀ {xs : List D} {fl : List Value} {i : Nat} {d : D}, RowsP R ag sz xs fl → xs[i]? = some d →
    ∃ row, row.length = sz ∧ (∀ j u, row[j]? = some u → fl[i * sz + j]? = some u) ∧ R d (packV ag row)
  | [], fl, i, d, h, hi => by simp at hi
  | d :: r, fl, 0, d', ⟨row, rest, h1, h2, h3, h4⟩, hi => by
    simp at hi; subst hi; subst h1
    refine ⟨row, h2, fun j u hu => ?_, h3⟩
    have hj : j < row.length := (List.getElem?_eq_some_iff.1 hu).1
    rw [Nat.zero_mul, Nat.zero_add, List.getElem?_append_left hj]; exact hu
  | d :: r, fl, i + 1, d', ⟨row, rest, h1, h2, h3, h4⟩, hi => by
    subst h1
    obtain ⟨row', g1, g2, g3⟩ := RowsP.get h4 (by simpa using hi)
    refine ⟨row', g1, fun j u hu => ?_, g3⟩
    have e : (i + 1) * sz + j = row.length + (i * sz + j) := by rw [Nat.add_mul, h2]; omega
    rw [e, List.getElem?_append_right (by omega)]
    simpa using g2 j u hu

theorem RowsP.append {R : D → Value → Prop} {ag : Bool} {sz : Nat} : ∀ {xs ys : List D} {fl gl : List Value}, RowsP R ag sz xs fl → RowsP R ag sz ys gl → RowsP R ag sz (xs ++ ys) (fl ++ gl)
  | [], ys, fl, gl, h, h' => by simp only [RowsP] at h; subst h; simpa using h'
  | d :: r, ys, fl, gl, ⟨row, rest, h1, h2, h3, h4⟩, h' => by
    subst h1
    exact ⟨row, rest ++ gl, by simp, h2, h3, h4.append h'⟩

theorem RowsP.take {R : D → Value → Prop} {ag : Bool} {sz : Nat} : ∀ {xs : List D} {fl : List Value} (n : Nat), RowsP R ag sz xs fl → RowsP R ag sz (xs.take n) (fl.take (n * sz))
  | [], fl, n, h => by simp only [RowsP] at h; subst h; simp [RowsP]
  | d :: r, fl, 0, h => by simp [RowsP]
  | d :: r, fl, n + 1, ⟨row, rest, h1, h2, h3, h4⟩ => by
    subst h1
    refine ⟨row, rest.take (n * sz), ?_, h2, h3, h4.take n⟩
    rw [Nat.add_mul, Nat.one_mul, List.take_append, List.take_of_length_le (by omega)]
    congr 2; omega

theorem RowsP.drop {R : D → Value → Prop} {ag : Bool} {sz : Nat} : ∀ {xs : List D} {fl : List Value} (n : Nat), RowsP R ag sz xs fl → RowsP R ag sz (xs.drop n) (fl.drop (n * sz))
  | [], fl, n, h => by simp only [RowsP] at h; subst h; simp [RowsP]
  | d :: r, fl, 0, h => by simpa using h
  | d :: r, fl, n + 1, ⟨row, rest, h1, h2, h3, h4⟩ => by
    subst h1
    have e : (n + 1) * sz = row.length + n * sz := by rw [Nat.add_mul, h2]; omega
    rw [e, List.drop_length_add_append]
    exact h4.drop n

/-- A row's cells. -/
theorem row_cells {e : Sh} {d : D} {row : List Value} (h : DenD Φ w e d (packV e.isAgg row)) (hl : row.length = e.size) :
    ∃ cs, DenL ρ Φ w cs row ∧ (∀ cs', enc e d = .agg cs' → cs = cs') ∧ ((∀ cs', enc e d ≠ .agg cs') → e.isAgg = false ∧ cs = [enc e d]) := by
  cases e with
  | agg shs =>
    simp only [Sh.isAgg, packV, DenD] at h
    obtain ⟨vs, h1, h2⟩ := h
    have : row = vs := by simpa using h1
    subst this
    exact ⟨encL shs d 0, encL_den.2 h2, fun cs' hc => by simpa [enc] using hc, fun hn => (hn (encL shs d 0) rfl).elim⟩
  | _ =>
    all_goals
      simp only [Sh.size] at hl
      obtain ⟨v, rfl⟩ : ∃ v, row = [v] := List.length_eq_one_iff.1 hl
      simp only [Sh.isAgg, packV, List.headD_cons] at h
      exact ⟨[enc _ d], .one (enc_den.2 h), fun cs' hc => by simp [enc] at hc, fun _ => ⟨rfl, rfl⟩⟩

theorem rowPart_run {e : Sh} {d : D} {row : List Value} (h : DenD Φ w e d (packV e.isAgg row)) (hl : row.length = e.size) {g base off : Nat} (hc : ∀ j u, row[j]? = some u → w.cell? ⟨g, base + j, none⟩ = some u)
    {t : TypeId} {v : SV} (hp : rowPart T t e d off = some v) : ∃ x, (loadVar t ⟨g, base + off, none⟩).run P w = .ok x w ∧ Den ρ Φ w v x := by
  obtain ⟨cs, h1, h2, h3⟩ := row_cells (ρ := ρ) h hl
  unfold rowPart at hp
  split at hp
  · rename_i cs' he
    have := h2 cs' he
    subst this
    exact loadVar_run hc h1 hp
  · rename_i hne
    obtain ⟨_, rfl⟩ := h3 (fun cs' he => hne cs' he)
    refine loadVar_run (T := T) (t := t) hc h1 ?_
    split at hp
    · rename_i ha
      split at hp
      · rename_i ho
        have : off = 0 := by simpa using ho
        subst this
        simp only [Option.some.injEq] at hp; subst hp
        simp [partL, ha]
      · cases hp
    · cases hp
end

theorem newRow_run {P : Program} (t : TypeId) (cs : Array Value) (w : World) : (newRow t cs).run P w = .ok ⟨w.heap.size, 0, none⟩ (w.alloc (.cells cs t)) := by
  simp only [newRow, newObj, Sem.run_bind, Sem.run, Result.andThen_ok, Sem.run_pure]; rfl

theorem zeroL_run {P : Program} {T : Tab} [hT : GoodTab P T] {t : TypeId} {z : List SV} (h : zeroL T t = some z) : ∃ v vs, (∀ w, (zeroValue t).run P w = .ok v w) ∧ v.cells = vs.toArray ∧ ∀ ρ Φ w, DenL ρ Φ w z vs := by
  unfold zeroL at h
  cases hr : T.row t with
  | none => simp [hr] at h
  | some r =>
    simp only [hr] at h
    obtain ⟨_, ⟨i, hi, _, _, hz⟩, _⟩ := hT.row t r hr
    obtain ⟨v, hv, hc⟩ := hz z h
    refine ⟨v, v.cells.toList, fun w => ?_, by simp, fun ρ Φ w => ?_⟩
    · simp [zeroValue, typeInfo, program, Sem.run, hi, hv, pure]
    · rw [← hc]; exact ofCells_den _
end Go.Sy
