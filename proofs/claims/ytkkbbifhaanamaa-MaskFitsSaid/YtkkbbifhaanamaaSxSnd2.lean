/-
  Writing: a block put in the place of another one, a new block; parts put into an aggregate.
  No statement of the seat is proved here. Conditions: none.
-/
import Derived.Test.YtkkbbifhaanamaaSxSnd1
set_option linter.unusedSimpArgs false
set_option linter.unusedVariables false
namespace Go.Sx
open Go.RowKit

/-! ### 1. A store -/

/-- The world with another block in a place. -/
def putBlk (w : World) (g : Nat) (o : Obj) : World := { w with heap := w.heap.setIfInBounds g o }

def spliceV (cs : List Value) (off : Nat) (vs : List Value) : List Value := cs.take off ++ vs ++ cs.drop (off + vs.length)

theorem denL_splice (ρ : Nat → Nat) (cs : List SV) (off : Nat) (vs : List SV) : SV.denL ρ (splice cs off vs) = spliceV (SV.denL ρ cs) off (SV.denL ρ vs) := by
  simp [splice, spliceV, SV.denL_append, denL_take, denL_drop, SV.denL_length]

theorem setCell_put {w : World} {g : Nat} {cs : List Value} {ty : TypeId} (h : w.heap[g]? = some (.cells cs.toArray ty (0, 0))) (i : Nat) (v : Value) :
    w.setCell ⟨g, i, none⟩ v = putBlk w g (.cells (cs.set i v).toArray ty (0, 0)) := by
  unfold World.setCell putBlk
  congr 1
  apply Array.ext_getElem?
  intro j
  rw [Array.getElem?_modify, Array.getElem?_setIfInBounds]
  have hg : g < w.heap.size := (Array.getElem?_eq_some_iff.1 h).1
  by_cases hj : g = j
  · subst hj
    rw [if_pos rfl, if_pos rfl, if_pos hg, h]
    simp
  · simp [hj]

theorem putBlk_put (w : World) (g : Nat) (o o' : Obj) : putBlk (putBlk w g o) g o' = putBlk w g o' := by
  unfold putBlk; congr 1
  simp [Array.setIfInBounds_setIfInBounds]

theorem putBlk_get {w : World} {g : Nat} (hg : g < w.heap.size) (o : Obj) : (putBlk w g o).heap[g]? = some o := by
  simp [putBlk, Array.getElem?_setIfInBounds, hg]
theorem putBlk_other {w : World} {g j : Nat} (h : g ≠ j) (o : Obj) : (putBlk w g o).heap[j]? = w.heap[j]? := by
  simp [putBlk, Array.getElem?_setIfInBounds, h]
theorem putBlk_self {w : World} {g : Nat} {o : Obj} (h : w.heap[g]? = some o) : putBlk w g o = w := by
  unfold putBlk
  have : w.heap.setIfInBounds g o = w.heap := by
    apply Array.ext_getElem?
    intro j
    rw [Array.getElem?_setIfInBounds]
    by_cases hj : g = j
    · subst hj
      have hg : g < w.heap.size := (Array.getElem?_eq_some_iff.1 h).1
      rw [h]; simp [hg]
    · simp [hj]
  rw [this]

theorem storeCells_run {P : Program} {g off : Nat} {ty : TypeId} :
    ∀ (vs : List Value) (i : Nat) (w : World) (cs : List Value), w.heap[g]? = some (.cells cs.toArray ty (0, 0)) → off + i + vs.length ≤ cs.length → (∀ v ∈ vs, oneV v = true) →
      (storeCells ⟨g, off, none⟩ vs i).run P w = .ok () (putBlk w g (.cells (spliceV cs (off + i) vs).toArray ty (0, 0)))
  | [], i, w, cs, h, _, _ => by
    have : spliceV cs (off + i) [] = cs := by simp [spliceV]
    rw [this, putBlk_self h]
    simp [storeCells]
  | v :: r, i, w, cs, h, hle, hv => by
    have hlt : off + i < cs.length := by simp at hle; omega
    have hcell : w.cell? ⟨g, off + i, none⟩ = some (cs[off + i]) := by
      simp only [World.cell?, h]; simp [hlt]
    have hfr : w.frozen? ⟨g, off + i, none⟩ = false := by simp only [World.frozen?, h]; simp
    have h1 := hv v (by simp)
    have hst : (store ⟨g, off + i, none⟩ v).run P w = .ok () (w.setCell ⟨g, off + i, none⟩ v) := by
      cases v <;> simp_all [store, Sem.run, oneV]
    rw [storeCells, Sem.run_bind, addr_add, hst, Result.andThen_ok, setCell_put h]
    have hg : g < w.heap.size := (Array.getElem?_eq_some_iff.1 h).1
    rw [storeCells_run r (i + 1) _ (cs.set (off + i) v) (putBlk_get hg _) (by simp at hle ⊢; omega) (fun x hx => hv x (by simp [hx]))]
    rw [putBlk_put]
    congr 3
    have e1 : (off + (i + 1)) = off + i + 1 := by omega
    have e2 : spliceV (cs.set (off + i) v) (off + (i + 1)) r = spliceV cs (off + i) (v :: r) := by
      unfold spliceV
      rw [e1]
      have t1 : (cs.set (off + i) v).take (off + i + 1) = cs.take (off + i) ++ [v] := by
        rw [List.take_add_one]
        simp [hlt, List.take_set_of_le]
      have t2 : (cs.set (off + i) v).drop (off + i + 1 + r.length) = cs.drop (off + i + (v :: r).length) := by
        rw [List.drop_set_of_lt (by omega)]
        congr 1; simp; omega
      rw [t1, t2]; simp
    rw [e2]

theorem storeVar_run {P : Program} {ρ : Nat → Nat} {H : Hp} {Φ : Nat → Prop} {w : World} (h : Rel ρ H Φ w) {k off : Nat} {b : Blk} (hk : H[k]? = some (some b)) {t : TypeId} {n : Nat} (hn : sizeT P t = some n)
    {v : SV} {vs : List SV} (hf : v.flat = some vs) (hl : vs.length = n) (hle : off + vs.length ≤ b.cells.length) (ha : vs.all SV.atom = true) :
    (storeVar t ⟨ρ k, off, none⟩ (v.den ρ)).run P w = .ok () (putBlk w (ρ k) (.cells (SV.denL ρ (splice b.cells off vs)).toArray b.ty (0, 0))) := by
  unfold storeVar
  rw [SV.flat_cells ρ hf]
  simp only [Sem.run_bind, sizeT_run hn, Result.andThen_ok]
  have hsz : (SV.denL ρ vs).toArray.size = n := by simp [SV.denL_length, hl]
  rw [if_neg (by simp [hsz])]
  have hh := storeCells_run (P := P) (g := ρ k) (off := off) (ty := b.ty) (SV.denL ρ vs) 0 w (SV.denL ρ b.cells) (h.own k b hk) (by simp [SV.denL_length]; omega) (by
    intro x hx
    rw [SV.denL_map] at hx
    obtain ⟨c, hc, rfl⟩ := List.mem_map.1 hx
    exact SV.oneV_of_atom ρ (List.all_eq_true.1 ha c hc))
  simp only [Nat.add_zero] at hh
  rw [denL_splice]
  exact hh

theorem Rel.put {ρ : Nat → Nat} {H : Hp} {Φ : Nat → Prop} {w : World} (h : Rel ρ H Φ w) {k : Nat} {b : Blk} (hk : H[k]? = some (some b)) (b' : Blk) :
    Rel ρ (H.set k (some b')) Φ (putBlk w (ρ k) (.cells (SV.denL ρ b'.cells).toArray b'.ty (0, 0))) := by
  have hlt := h.lt hk
  have hkl : k < H.length := (List.getElem?_eq_some_iff.1 hk).1
  have back : ∀ (j : Nat) (c : Blk), (H.set k (some b'))[j]? = some (some c) → ∃ c' : Blk, H[j]? = some (some c') := by
    intro j c hj
    rw [List.getElem?_set] at hj
    split at hj
    · rename_i he; exact ⟨b, he ▸ hk⟩
    · exact ⟨c, hj⟩
  refine ⟨?_, ?_, ?_, ?_⟩
  · intro j c hj
    rw [List.getElem?_set] at hj
    split at hj
    · rename_i he
      subst he
      simp [hkl] at hj
      subst hj
      exact putBlk_get hlt _
    · rename_i he
      have hne : ρ k ≠ ρ j := fun e => he (h.inj k j b c hk hj e)
      rw [putBlk_other hne]
      exact h.own j c hj
  · intro j c hj
    obtain ⟨c', hc'⟩ := back j c hj
    exact h.apart j c' hc'
  · intro j j' c c' hj hj' e
    obtain ⟨d, hd⟩ := back j c hj
    obtain ⟨d', hd'⟩ := back j' c' hj'
    exact h.inj j j' d d' hd hd' e
  · intro j hj
    simpa [putBlk] using h.phi j hj

theorem Ext.put {ρ : Nat → Nat} {H : Hp} {Φ : Nat → Prop} {w : World} (h : Rel ρ H Φ w) {k : Nat} {b : Blk} (hk : H[k]? = some (some b)) (o : Obj) : Ext Φ w (putBlk w (ρ k) o) :=
  ⟨rfl, rfl, rfl, by simp [putBlk], fun j hj => putBlk_other (fun e => h.apart k b hk (by rw [e]; exact hj)) o⟩

/-! ### 2. A new block -/

/-- One name more: the block that comes next. -/
def named (ρ : Nat → Nat) (n g : Nat) : Nat → Nat := fun k => if k = n then g else ρ k
theorem named_at (ρ : Nat → Nat) (n g : Nat) : named ρ n g n = g := by simp [named]
theorem named_low (ρ : Nat → Nat) {n g : Nat} : ∀ k, k < n → named ρ n g k = ρ k := fun k hk => by
  unfold named; rw [if_neg (by omega)]

theorem Rel.new {ρ : Nat → Nat} {H : Hp} {Φ : Nat → Prop} {w : World} (h : Rel ρ H Φ w) (hH : lowH H.length H = true) {b : Blk} (hb : SV.lowL H.length b.cells = true) :
    Rel (named ρ H.length w.heap.size) (H ++ [some b]) Φ (w.alloc (.cells (SV.denL ρ b.cells).toArray b.ty (0, 0))) := by
  have old : ∀ k c, (H ++ [some b])[k]? = some (some c) → (k < H.length ∧ H[k]? = some (some c)) ∨ (k = H.length ∧ c = b) := by
    intro k c hk
    rcases Nat.lt_trichotomy k H.length with hlt | he | hgt
    · rw [List.getElem?_append_left hlt] at hk; exact .inl ⟨hlt, hk⟩
    · subst he; simp at hk; exact .inr ⟨rfl, hk.symm⟩
    · rw [List.getElem?_append_right (by omega)] at hk
      rw [List.getElem?_eq_none (by simp; omega)] at hk
      cases hk
  have heap_old : ∀ j, j < w.heap.size → (w.alloc (.cells (SV.denL ρ b.cells).toArray b.ty (0, 0))).heap[j]? = w.heap[j]? := fun j hj => Below.heap_alloc _ _ _ hj
  refine ⟨?_, ?_, ?_, ?_⟩
  · intro k c hk
    rcases old k c hk with ⟨hlt, hk'⟩ | ⟨rfl, rfl⟩
    · rw [named_low ρ k hlt, heap_old _ (h.lt hk'), SV.denL_low (named_low ρ) c.cells (lowH_get hH hk')]
      exact h.own k c hk'
    · rw [named_at, SV.denL_low (named_low ρ) c.cells hb]
      show (w.heap.push _)[w.heap.size]? = _
      simp
  · intro k c hk
    rcases old k c hk with ⟨hlt, hk'⟩ | ⟨rfl, rfl⟩
    · rw [named_low ρ k hlt]; exact h.apart k c hk'
    · rw [named_at]; intro hp; have := h.phi _ hp; omega
  · intro k k' c c' hk hk' e
    rcases old k c hk with ⟨hlt, h1⟩ | ⟨rfl, rfl⟩ <;> rcases old k' c' hk' with ⟨hlt', h2⟩ | ⟨rfl, rfl⟩
    · rw [named_low ρ k hlt, named_low ρ k' hlt'] at e; exact h.inj k k' c c' h1 h2 e
    · rw [named_low ρ k hlt, named_at] at e; have := h.lt h1; omega
    · rw [named_at, named_low ρ k' hlt'] at e; have := h.lt h2; omega
    · rfl
  · intro k hk
    have := h.phi k hk
    show k < (w.heap.push _).size
    simp; omega

theorem Ext.new {Φ : Nat → Prop} {w : World} (hphi : ∀ k, Φ k → k < w.heap.size) (o : Obj) : Ext Φ w (w.alloc o) :=
  ⟨rfl, rfl, rfl, by simp, fun k hk => Below.heap_alloc _ _ _ (hphi k hk)⟩

theorem newRow_run {P : Program} (t : TypeId) (cs : Array Value) (w : World) : (newRow t cs).run P w = .ok ⟨w.heap.size, 0, none⟩ (w.alloc (.cells cs t)) := by
  simp only [newRow, newObj, Sem.run_bind, Sem.run, Result.andThen_ok, Sem.run_pure]; rfl

theorem zeroL_run {P : Program} {t : TypeId} {z : List SV} (h : zeroL P t = some z) (ρ : Nat → Nat) (w : World) :
    ∃ v, (zeroValue t).run P w = .ok v w ∧ v.cells = (SV.denL ρ z).toArray := by
  unfold zeroL at h
  cases hi : P.info? t with
  | none => simp [hi] at h
  | some i =>
    simp only [hi] at h
    cases hz : i.zero with
    | none => simp [hz] at h
    | some v =>
      simp only [hz, Option.some.injEq] at h
      refine ⟨v, ?_, ?_⟩
      · simp [zeroValue, typeInfo, program, Sem.run, hi, hz, pure]
      · rw [← h, ofCells_den]

/-! ### 3. Parts put into an aggregate -/

theorem foldl_splice (vs : List Value) : ∀ (i off : Nat) (cs : List Value), off + i + vs.length ≤ cs.length →
    (vs.zipIdx i).foldl (fun (cs : Array Value) (x : Value × Nat) => cs.setIfInBounds (off + x.2) x.1) cs.toArray = (spliceV cs (off + i) vs).toArray := by
  induction vs with
  | nil => intro i off cs _; simp [spliceV]
  | cons v r ih =>
    intro i off cs hle
    have hlt : off + i < cs.length := by simp at hle; omega
    rw [List.zipIdx_cons, List.foldl_cons]
    simp only [List.setIfInBounds_toArray]
    rw [ih (i + 1) off (cs.set (off + i) v) (by simp at hle ⊢; omega)]
    congr 1
    have e1 : (off + (i + 1)) = off + i + 1 := by omega
    unfold spliceV
    rw [e1]
    have t1 : (cs.set (off + i) v).take (off + i + 1) = cs.take (off + i) ++ [v] := by
      rw [List.take_add_one]
      simp [hlt, List.take_set_of_le]
    have t2 : (cs.set (off + i) v).drop (off + i + 1 + r.length) = cs.drop (off + i + (v :: r).length) := by
      rw [List.drop_set_of_lt (by omega)]
      congr 1; simp; omega
    rw [t1, t2]; simp

theorem fillL_run (ρ : Nat → Nat) {place : Nat → Option (Nat × Nat)} {parts : List (Nat × SV)} : ∀ {cells out : List SV}, fillL place cells parts = some out →
    Instr.fill place (SV.denL ρ cells).toArray (parts.map fun x => (x.1, x.2.den ρ)) = some (SV.denL ρ out).toArray := by
  induction parts with
  | nil => intro cells out h; simp [fillL] at h; subst h; simp [Instr.fill]
  | cons x rest ih =>
    intro cells out h
    obtain ⟨i, v⟩ := x
    simp only [fillL] at h
    cases hp : place i with
    | none => simp [hp] at h
    | some os =>
      obtain ⟨off, size⟩ := os
      cases hf : v.flat with
      | none => simp [hp, hf] at h
      | some vs =>
        simp only [hp, hf] at h
        split at h
        · rename_i hc
          simp only [Bool.and_eq_true, beq_iff_eq, Nat.ble_eq] at hc
          obtain ⟨⟨hlen, hle⟩, hat⟩ := hc
          have hcs := SV.flat_cells ρ hf
          simp only [List.map_cons, Instr.fill, hp, hcs]
          rw [if_neg (by simp [SV.denL_length, hlen]; omega)]
          have hfold := foldl_splice (SV.denL ρ vs) 0 off (SV.denL ρ cells) (by simp [SV.denL_length]; omega)
          have hz : ((SV.denL ρ vs).toArray.zipIdx).foldl (fun (cs : Array Value) (x : Value × Nat) => cs.setIfInBounds (off + x.2) x.1) (SV.denL ρ cells).toArray = (SV.denL ρ (splice cells off vs)).toArray := by
            rw [denL_splice, ← Array.foldl_toList]
            simpa using hfold
          have := ih h
          rw [← this]
          congr 1
        · simp at h

end Go.Sx
