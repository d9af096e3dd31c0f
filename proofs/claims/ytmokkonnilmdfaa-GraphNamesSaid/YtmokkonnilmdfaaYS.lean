/-
  Rows of more cells than one: what a sort by the library leaves behind.
  No statement of the seat is proved here. Conditions: none.
-/
import Derived.Test.YtmokkonnilmdfaaYR
import Derived.Shelf.SlSortCmp.WholeK
set_option linter.unusedSimpArgs false
set_option linter.unusedVariables false
namespace Go.Sy
open Go.RowKit Go.Sort Go.Shelf Go.Proofs

theorem flatMap_len {α : Type} {enc : α → List Value} {k : Nat} (hk : ∀ x, (enc x).length = k) : ∀ l : List α, (l.flatMap enc).length = l.length * k
  | [] => by simp
  | x :: r => by rw [List.flatMap_cons, List.length_append, hk, flatMap_len hk r, List.length_cons, Nat.add_mul, Nat.one_mul, Nat.add_comm]
theorem flatMap_at {α : Type} [Inhabited α] {enc : α → List Value} {k : Nat} (hk : ∀ x, (enc x).length = k) : ∀ (l : List α) (t : Nat), t < l.length * k → (l.flatMap enc)[t]? = (enc (l[t / k]?.getD default))[t % k]?
  | [], t, h => by simp at h
  | x :: r, t, h => by
    have k0 : 0 < k := by rcases Nat.eq_zero_or_pos k with e | e; · subst e; simp at h
                          · exact e
    rw [List.flatMap_cons]
    rcases Nat.lt_or_ge t k with hlt | hge
    · rw [List.getElem?_append_left (by rw [hk]; exact hlt), Nat.div_eq_of_lt hlt, Nat.mod_eq_of_lt hlt]
      rfl
    · rw [List.getElem?_append_right (by rw [hk]; exact hge), hk]
      obtain ⟨u, rfl⟩ : ∃ u, t = u + k := ⟨t - k, by omega⟩
      rw [Nat.add_sub_cancel, Nat.add_div_right _ k0, Nat.add_mod_right]
      rw [flatMap_at hk r u (by rw [List.length_cons, Nat.add_mul, Nat.one_mul] at h; omega)]
      rfl
theorem flatK_list {α : Type} [Inhabited α] {enc : α → List Value} {k : Nat} (hk : ∀ x, (enc x).length = k) (d : Array α) : flatK enc k d = (d.toList.flatMap enc).toArray := by
  have hl : (d.toList.flatMap enc).length = d.size * k := (flatMap_len hk d.toList).trans (by rw [show d.toList.length = d.size from rfl])
  apply Array.ext (by simp [hl])
  intro t ht ht2
  have h : t < d.size * k := by simpa using ht
  have k0 : 0 < k := by rcases Nat.eq_zero_or_pos k with e | e; · subst e; simp at h
                        · exact e
  have hq : t / k < d.size := Nat.div_lt_of_lt_mul (by rwa [Nat.mul_comm] at h)
  have hm : t % k < (enc d[t / k]!).length := by rw [hk]; exact Nat.mod_lt _ k0
  have h1 := get_flatK enc k d t h
  rw [getElem!_pos _ t ht, getElem!_pos _ (t % k) hm] at h1
  rw [h1]
  have h2 := flatMap_at hk d.toList t (by rw [show d.toList.length = d.size from rfl]; exact h)
  have e0 : d.toList[t / k]? = some d[t / k] := by rw [Array.getElem?_toList]; exact Array.getElem?_eq_getElem hq
  rw [List.getElem?_eq_getElem (by rw [hl]; exact h), e0, Option.getD_some, List.getElem?_eq_getElem (by rw [hk]; exact Nat.mod_lt _ k0)] at h2
  have h3 := Option.some.inj h2
  have e1 : d[t / k]! = d[t / k] := getElem!_pos d _ hq
  simp only [e1]
  rw [← h3]
  simp

theorem holds_row {w : World} {g n : Nat} {cur : Array Value} {e : TypeId} {fl : List Value} (hb : w.heap[g]? = some (.cells cur e (0, 0))) (hn : fl.length = n) (ht : cur.toList.take n = fl) : Holds id w g 0 fl.toArray := by
  intro j hj
  have hj' : j < fl.length := by simpa using hj
  refine ⟨?_, by simp [World.frozen?, hb]⟩
  have h1 : (cur.toList.take n)[j]? = fl[j]? := by rw [ht]
  rw [List.getElem?_take_of_lt (by omega)] at h1
  simp only [World.cell?, hb, Nat.zero_add]
  simp only [Option.isSome_none, Bool.false_eq_true, if_false]
  rw [← Array.getElem?_toList, h1]
  simp [hj']
theorem heap_putRow {w : World} {g n : Nat} {os : Array Obj} {cur : Array Value} {e : TypeId} {fr : Nat × Nat} (F : Array Value) (hb : w.heap[g]? = some (.cells cur e fr)) :
    (grow (putRow id (Sort.ahead w n) g 0 F) os).heap[g]? = some (.cells (putCells id 0 F cur) e fr) := by
  have hg : g < w.heap.size := (Array.getElem?_eq_some_iff.1 hb).1
  rw [heap_grow_old _ _ (by simpa using hg)]
  simp [putRow, mapBlock, Sort.ahead, Array.getElem?_modify, hb, onCells]
theorem grownBy_putRow {w : World} {g n : Nat} {os : Array Obj} (F : Array Value) : w.grownBy (grow (putRow id (Sort.ahead w n) g 0 F) os) (some g) := by
  refine ⟨rfl, rfl, rfl, by simp, fun k hk hne => ?_⟩
  rw [heap_grow_old _ _ (by simpa using hk)]
  have : g ≠ k := fun e => hne (by rw [e])
  simp [putRow, mapBlock, Sort.ahead, Array.getElem?_modify, this]
theorem take_putRow (cur : Array Value) (fl : List Value) (h : fl.length ≤ cur.size) : (putCells id 0 fl.toArray cur).toList.take fl.length = fl := by
  apply List.ext_getElem?
  intro j
  by_cases hj : j < fl.length
  · rw [List.getElem?_take_of_lt hj, Array.getElem?_toList]
    simp [putCells, hj, show j < cur.size by omega]
  · rw [List.getElem?_take_eq_none (by omega), List.getElem?_eq_none (by omega)]

theorem putRow_map {α : Type} [Inhabited α] (enc : α → Value) (w : World) (blk off : Nat) (d : Array α) : putRow enc w blk off d = putRow id w blk off (d.map enc) := by
  unfold putRow
  congr 1
  funext cur
  unfold putCells
  apply Array.ext (by simp)
  intro k h1 h2
  simp only [Array.getElem_mapIdx, Array.size_map, id]
  split
  · rename_i hc
    rw [getElem!_pos d (k - off) (by omega), getElem!_pos (d.map enc) (k - off) (by simp; omega)]
    simp
  · rfl

/-- Behind a sort, the same slice owns what has been sorted. -/
theorem ownsRow_put {w : World} {base g cap n m k : Nat} {e : TypeId} {os : Array Obj} {cur : Array Value} {fl : List Value} (hl : fl.length = m * k) (hbase : base ≤ g) (hb : w.heap[g]? = some (.cells cur e (0, 0)))
    (h1 : m ≤ cap) (h2 : cap ≤ maxLen) (h3 : cur.size = cap * k) :
    (grow (putRow id (Sort.ahead w n) g 0 fl.toArray) os).ownsRow base e k (.slice (some ⟨g, 0, none⟩) m cap) m fl :=
  ⟨hl, .inr ⟨g, cap, _, rfl, hbase, heap_putRow _ hb, h1, h2, by simp [putCells, h3], by rw [← hl]; exact take_putRow cur fl (by rw [hl, h3]; exact Nat.mul_le_mul_right k h1)⟩⟩

/-- One name alone. -/
def oneN (m : Nm) : Names := fun k => match k with
  | 0 => some m
  | _ + 1 => none
theorem oneN_some {m m' : Nm} {k : Nat} (h : oneN m k = some m') : k = 0 ∧ m = m' := by
  cases k with
  | zero => simp only [oneN, Option.some.injEq] at h; exact ⟨rfl, h⟩
  | succ k => simp [oneN] at h
theorem rel_one {Φ : Nat → Prop} {w : World} {m : Nm} {b : Blk} (hb : BlkOK (oneN m) Φ w m b) (hro : b.ro = false) (hphi : ∀ k, Φ k → k < w.heap.size) (hap : ∀ g, m.block = some g → ¬ Φ g) : Rel (oneN m) [some b] Φ w := by
  have hone : ∀ k c, hget [some b] k = some c → k = 0 ∧ b = c := by
    intro k c h
    rw [hget_iff] at h
    cases k with
    | zero => simp at h; exact ⟨rfl, h⟩
    | succ k => simp at h
  refine ⟨?_, ?_, ?_, ?_, hphi, ?_⟩
  · intro k c h; obtain ⟨rfl, rfl⟩ := hone k c h; exact ⟨m, rfl, hb⟩
  · intro k c m' g h hm hg _
    obtain ⟨rfl, rfl⟩ := hone k c h
    obtain ⟨_, rfl⟩ := oneN_some hm
    exact hap g hg
  · intro k c m' g h hm hg hr
    obtain ⟨rfl, rfl⟩ := hone k c h
    rw [hro] at hr; cases hr
  · intro k k' c c' m1 m2 g h h' _ _ _ _ _ _
    obtain ⟨rfl, _⟩ := hone k c h
    obtain ⟨rfl, _⟩ := hone k' c' h'
    rfl
  · intro k m' h; obtain ⟨rfl, _⟩ := oneN_some h; simp
theorem grow_one {Φ : Nat → Prop} {w w' : World} {m : Nm} (hphi : ∀ k, Φ k → k < w.heap.size) (hb : Below w.heap.size w w') (hm : ∀ g, m.block = some g → w.heap.size ≤ g) : Grow (fun _ => none) Φ w (oneN m) Φ w' := by
  refine ⟨⟨fun k m h => (by cases h), fun k h => h, Ext.of_below hphi hb⟩, fun k h => .inl h, ?_, fun k hk _ => hb.block k hk⟩
  rintro k ⟨n, m', h1, h2⟩
  obtain ⟨_, rfl⟩ := oneN_some h1
  exact .inl (hm k h2)

/-- A new row, as a name's. -/
theorem own_new {Φ : Nat → Prop} {w w' : World} {sh : Sh} {e : TypeId} {v : Value} {n : Nat} {fl : List Value} {xs : List D} (hphi : ∀ k, Φ k → k < w.heap.size) (hrow : w'.ownsRow w.heap.size e sh.size v n fl)
    (hr : RowsP (fun d v => DenD Φ w' sh d v) sh.isAgg sh.size xs fl) (hn : xs.length = n) (hnil : v = .slice none 0 0 ↔ xs = []) (hb : Below w.heap.size w w') :
    ∃ ρ', Den ρ' Φ w' (.own 0) v ∧ Rel ρ' [some ⟨.rows sh xs.isEmpty xs, e, false⟩] Φ w' ∧ Grow (fun _ => none) Φ w ρ' Φ w' := by
  have hphi' : ∀ k, Φ k → k < w'.heap.size := fun k h => Nat.lt_of_lt_of_le (hphi k h) hb.size
  rcases hrow.2 with ⟨rfl, hz⟩ | ⟨g, cap, cur, rfl, hbase, hg, h1, h2, h3, h4⟩
  · have hx : xs = [] := hnil.1 rfl
    subst hx
    refine ⟨oneN (.emp none), ?_, rel_one ?_ rfl hphi' (fun g hg => by cases hg), grow_one hphi hb (fun g hg => by cases hg)⟩
    · simp only [Den]; exact .inr ⟨none, rfl, rfl⟩
    · exact Or.inl ⟨none, rfl, rfl, rfl⟩
  · have hx : xs.isEmpty = false := by
      cases xs with
      | nil => have := hnil.2 rfl; simp at this
      | cons a r => rfl
    refine ⟨oneN (.row g 0 n cap), ?_, rel_one ?_ rfl hphi' (fun g' hg' => by simp only [Nm.block, Option.some.injEq] at hg'; subst hg'; exact fun hc => by have := hphi _ hc; omega), grow_one hphi hb (fun g' hg' => by simp only [Nm.block, Option.some.injEq] at hg'; omega)⟩
    · simp only [Den]; exact .inl ⟨g, 0, n, cap, rfl, rfl⟩
    · simp only [BlkOK]
      refine .inr ⟨g, 0, cap, cur, by rw [hn], hx, by omega, h2, hg, by omega, ?_⟩
      rw [hn, List.drop_zero, h4]
      exact hr
end Go.Sy
