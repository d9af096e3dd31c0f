/-
  What values, blocks and states of a run say of the model's ('Den', 'Rel'); reading.
  No statement of the seat is proved here. Conditions: none.
-/
import Derived.Test.YtmokkonnilmdfaaY1
set_option linter.unusedSimpArgs false
set_option linter.unusedVariables false
namespace Go.Sy
open Go.RowKit

/-! ### 1. Words -/

/-- What a name stands for: a block; an own list's block, its first cell, length and capacity; a list without room (the nil one, too). -/
inductive Nm where
  | blk (g : Nat)
  | row (g o n c : Nat)
  | emp (a : Option Addr)
def Nm.block : Nm → Option Nat
  | .blk g => some g
  | .row g _ _ _ => some g
  | .emp _ => none

abbrev Names := Nat → Option Nm

def packV (ag : Bool) (row : List Value) : Value := match ag with
  | true => .agg row.toArray
  | false => row.headD undef

/-- Rows that lie one behind the other. -/
def RowsP (R : D → Value → Prop) (ag : Bool) (sz : Nat) : List D → List Value → Prop
  | [], fl => fl = []
  | d :: r, fl => ∃ row rest, fl = row ++ rest ∧ row.length = sz ∧ R d (packV ag row) ∧ RowsP R ag sz r rest

/-- Rows are read from an address on, in a block that nobody turns. -/
def ReadP (Φ : Nat → Prop) (w : World) (R : D → Value → Prop) (ag : Bool) (sz : Nat) (xs : List D) (p : Addr) : Prop :=
  p.spot = none ∧ Φ p.block ∧ ∃ fl, RowsP R ag sz xs fl ∧ ∀ j u, fl[j]? = some u → w.cell? ⟨p.block, p.off + j, none⟩ = some u

/-- A slice value reads as a list. -/
def ListV (Φ : Nat → Prop) (w : World) (R : D → Value → Prop) (ag : Bool) (sz : Nat) (nl : Bool) (xs : List D) (v : Value) : Prop :=
  ∃ a cap, v = .slice a xs.length cap ∧ xs.length ≤ cap ∧ cap ≤ maxLen ∧ (nl = true ↔ a = none) ∧ (a = none → xs = [] ∧ cap = 0) ∧ ∀ p, a = some p → xs ≠ [] → ReadP Φ w R ag sz xs p

mutual
def DenD (Φ : Nat → Prop) (w : World) : Sh → D → Value → Prop
  | .int k, d, v => v = .int k d.int
  | .bool, d, v => v = .bool d.bool
  | .str, d, v => v = .string ⟨d.str.toArray⟩
  | .agg cs, d, v => ∃ vs, v = .agg vs.toArray ∧ DenDs Φ w cs d 0 vs
  | .list e, d, v => ListV Φ w (fun d v => DenD Φ w e d v) e.isAgg e.size d.nl d.xs v
def DenDs (Φ : Nat → Prop) (w : World) : List Sh → D → Nat → List Value → Prop
  | [], _, _, vs => vs = []
  | c :: r, d, j, vs => ∃ v rest, vs = v :: rest ∧ DenD Φ w c (d.at j) v ∧ DenDs Φ w r d (j + 1) rest
end

mutual
def Den (ρ : Names) (Φ : Nat → Prop) (w : World) : SV → Value → Prop
  | .li k n, x => x = .int k n
  | .si k n, x => x = .int k n
  | .lb b, x => x = .bool b
  | .sb b, x => x = .bool b
  | .str s, x => x = .string ⟨s.toArray⟩
  | .val v, x => x = v
  | .ref b off, x => ∃ g, ρ b = some (.blk g) ∧ x = .pointer (some ⟨g, off, none⟩)
  | .rref b sz i off, x => ∃ g o n c, ρ b = some (.row g o n c) ∧ i < n ∧ x = .pointer (some ⟨g, o + (i * sz + off), none⟩)
  | .lref e xs i off, x => ∃ p, ReadP Φ w (fun d v => DenD Φ w e d v) e.isAgg e.size xs p ∧ i < xs.length ∧ x = .pointer (some ⟨p.block, p.off + (i * e.size + off), none⟩)
  | .sl b off len cap, x => ∃ g, ρ b = some (.blk g) ∧ x = .slice (some ⟨g, off, none⟩) len cap
  | .own b, x => (∃ g o n c, ρ b = some (.row g o n c) ∧ x = .slice (some ⟨g, o, none⟩) n c) ∨ (∃ a, ρ b = some (.emp a) ∧ x = .slice a 0 0)
  | .osl b sz lo hi, x => (∃ g o n c off, ρ b = some (.row g o n c) ∧ lo ≤ hi ∧ hi ≤ n ∧ (lo < c → off = o + lo * sz) ∧ x = .slice (some ⟨g, off, none⟩) (hi - lo) (c - lo)) ∨ (∃ a, ρ b = some (.emp a) ∧ lo = 0 ∧ hi = 0 ∧ x = .slice a 0 0)
  | .cut b sz lo hi, x => (∃ g o n c off, ρ b = some (.row g o n c) ∧ lo ≤ hi ∧ hi ≤ n ∧ (lo < hi → off = o + lo * sz) ∧ x = .slice (some ⟨g, off, none⟩) (hi - lo) (hi - lo)) ∨ (∃ a, ρ b = some (.emp a) ∧ lo = 0 ∧ hi = 0 ∧ x = .slice a 0 0)
  | .emp nl, x => ∃ a, nl = a.isNone ∧ x = .slice a 0 0
  | .lst e nl xs, x => DenD Φ w (.list e) (.l nl xs) x
  | .agg cs, x => ∃ vs, x = .agg vs.toArray ∧ DenL ρ Φ w cs vs
  | .tup cs, x => ∃ vs, x = .tuple vs.toArray ∧ DenL ρ Φ w cs vs
  | .clo fn first caps, x => ∃ fs cs, x = .func fn fs.toArray cs.toArray ∧ DenL ρ Φ w first fs ∧ DenL ρ Φ w caps cs
  | .mp b, x => ∃ g, ρ b = some (.blk g) ∧ x = .map (some g)
  | .any, _ => True
def DenL (ρ : Names) (Φ : Nat → Prop) (w : World) : List SV → List Value → Prop
  | [], vs => vs = []
  | c :: r, vs => ∃ v rest, vs = v :: rest ∧ Den ρ Φ w c v ∧ DenL ρ Φ w r rest
end

def Slot.ok (ρ : Names) (Φ : Nat → Prop) (w : World) : Slot → Value → Prop
  | .unk, _ => True
  | .is v, x => Den ρ Φ w v x
  | .when c v, x => if c then Den ρ Φ w v x else x = undef

/-- The blocks of 'Φ' are as they were; the streams too. -/
structure Ext (Φ : Nat → Prop) (w w' : World) : Prop where
  os : w'.os = w.os
  tape : w'.tape = w.tape
  output : w'.output = w.output
  size : w.heap.size ≤ w'.heap.size
  block : ∀ k, Φ k → w'.heap[k]? = w.heap[k]?

theorem Ext.refl (Φ : Nat → Prop) (w : World) : Ext Φ w w := ⟨rfl, rfl, rfl, Nat.le_refl _, fun _ _ => rfl⟩
theorem Ext.trans {Φ : Nat → Prop} {a b c : World} (h : Ext Φ a b) (k : Ext Φ b c) : Ext Φ a c :=
  ⟨k.os.trans h.os, k.tape.trans h.tape, k.output.trans h.output, Nat.le_trans h.size k.size, fun i hi => (k.block i hi).trans (h.block i hi)⟩
theorem Ext.less {Φ Φ' : Nat → Prop} {a b : World} (h : Ext Φ' a b) (hp : ∀ k, Φ k → Φ' k) : Ext Φ a b := ⟨h.os, h.tape, h.output, h.size, fun k hk => h.block k (hp k hk)⟩
theorem Ext.drew {Φ : Nat → Prop} {a w : World} (h : Ext Φ a w) : Ext Φ a { w with drawn := w.drawn + 1 } := ⟨h.os, h.tape, h.output, h.size, h.block⟩
theorem Ext.of_below {Φ : Nat → Prop} {w w' : World} (hphi : ∀ k, Φ k → k < w.heap.size) (hb : Below w.heap.size w w') : Ext Φ w w' :=
  ⟨hb.os, hb.tape, hb.output, hb.size, fun k hk => hb.block k (hphi k hk)⟩

/-- A block that has a name. -/
def Named (ρ : Names) (k : Nat) : Prop := ∃ n m, ρ n = some m ∧ m.block = some k

/-- More names, more that nobody turns, a later world. -/
structure Gro (ρ : Names) (Φ : Nat → Prop) (w : World) (ρ' : Names) (Φ' : Nat → Prop) (w' : World) : Prop where
  names : ∀ k m, ρ k = some m → ρ' k = some m
  phi : ∀ k, Φ k → Φ' k
  ext : Ext Φ w w'
/-- The same; what has come comes from what was named, or is new; blocks without a name are as they were. -/
structure Grow (ρ : Names) (Φ : Nat → Prop) (w : World) (ρ' : Names) (Φ' : Nat → Prop) (w' : World) : Prop extends Gro ρ Φ w ρ' Φ' w' where
  back : ∀ k, Φ' k → Φ k ∨ w.heap.size ≤ k ∨ Named ρ k
  fresh : ∀ k, Named ρ' k → w.heap.size ≤ k ∨ Named ρ k
  frame : ∀ k, k < w.heap.size → ¬ Named ρ k → w'.heap[k]? = w.heap[k]?
instance {ρ : Names} {Φ : Nat → Prop} {w : World} {ρ' : Names} {Φ' : Nat → Prop} {w' : World} : Coe (Grow ρ Φ w ρ' Φ' w') (Gro ρ Φ w ρ' Φ' w') := ⟨Grow.toGro⟩
theorem Gro.world {ρ : Names} {Φ : Nat → Prop} {w w' : World} (h : Ext Φ w w') : Gro ρ Φ w ρ Φ w' := ⟨fun _ _ h => h, fun _ h => h, h⟩
theorem Gro.more {ρ : Names} {Φ Φ' : Nat → Prop} {w : World} (h : ∀ k, Φ k → Φ' k) : Gro ρ Φ w ρ Φ' w := ⟨fun _ _ h => h, h, Ext.refl _ _⟩

theorem Grow.refl (ρ : Names) (Φ : Nat → Prop) (w : World) : Grow ρ Φ w ρ Φ w := ⟨⟨fun _ _ h => h, fun _ h => h, Ext.refl _ _⟩, fun _ h => .inl h, fun _ h => .inr h, fun _ _ _ => rfl⟩
theorem Grow.trans {ρ ρ' ρ'' : Names} {Φ Φ' Φ'' : Nat → Prop} {w w' w'' : World} (h : Grow ρ Φ w ρ' Φ' w') (k : Grow ρ' Φ' w' ρ'' Φ'' w'') : Grow ρ Φ w ρ'' Φ'' w'' := by
  refine ⟨⟨fun a m ha => k.names a m (h.names a m ha), fun a ha => k.phi a (h.phi a ha), h.ext.trans (k.ext.less h.phi)⟩, ?_, ?_, ?_⟩
  · intro q hq
    rcases k.back q hq with h1 | h1 | h1
    · exact h.back q h1
    · exact .inr (.inl (Nat.le_trans h.ext.size h1))
    · exact .inr (h.fresh q h1)
  · intro q hq
    rcases k.fresh q hq with h1 | h1
    · exact .inl (Nat.le_trans h.ext.size h1)
    · exact h.fresh q h1
  · intro q hq hn
    have hn' : ¬ Named ρ' q := fun hc => (h.fresh q hc).elim (fun h1 => by omega) hn
    rw [k.frame q (Nat.lt_of_lt_of_le hq h.ext.size) hn', h.frame q hq hn]
theorem Grow.world {ρ : Names} {Φ : Nat → Prop} {w w' : World} (h : Ext Φ w w') (hf : ∀ k, k < w.heap.size → ¬ Named ρ k → w'.heap[k]? = w.heap[k]?) : Grow ρ Φ w ρ Φ w' := ⟨Gro.world h, fun _ h => .inl h, fun _ h => .inr h, hf⟩
theorem Grow.below {ρ : Names} {Φ : Nat → Prop} {w w' : World} (hphi : ∀ k, Φ k → k < w.heap.size) (hb : Below w.heap.size w w') : Grow ρ Φ w ρ Φ w' := Grow.world (Ext.of_below hphi hb) (fun k hk _ => hb.block k hk)
/-- More that nobody turns, all of it named. -/
theorem Grow.more {ρ : Names} {Φ Φ' : Nat → Prop} {w : World} (h : ∀ k, Φ k → Φ' k) (hb : ∀ k, Φ' k → Φ k ∨ Named ρ k) : Grow ρ Φ w ρ Φ' w := ⟨Gro.more h, fun k hk => (hb k hk).imp id .inr, fun _ h => .inr h, fun _ _ _ => rfl⟩

/-- An entry of a map. -/
def EntP (Φ : Nat → Prop) (w : World) (k v : Sh) (d : D) (x : MapEntry) : Prop := DenD Φ w k (d.at 0) x.key ∧ DenD Φ w v (d.at 1) x.val
/-- Entries, one behind the other. -/
def EntsP (Φ : Nat → Prop) (w : World) (k v : Sh) : List D → List MapEntry → Prop
  | [], l => l = []
  | d :: r, l => ∃ x t, l = x :: t ∧ EntP Φ w k v d x ∧ EntsP Φ w k v r t
/-- No key is there twice. -/
def Apart (k : Sh) (es : List D) : Prop := es.Pairwise fun a b => keyB k (a.at 0) (b.at 0) = false
/-- A map's object. -/
def MapOK (Φ : Nat → Prop) (w : World) (k v : Sh) (es : List D) (ents : List MapEntry) (clock : Nat) : Prop :=
  (ents.map (·.born)).Nodup ∧ (∀ x ∈ ents, x.born < clock) ∧ Apart k es ∧ ∃ es', es'.Perm es ∧ EntsP Φ w k v es' ents
/-- What a block holds, in the world. -/
def BlkOK (ρ : Names) (Φ : Nat → Prop) (w : World) (m : Nm) (b : Blk) : Prop := match b.con with
  | .cells cs => ∃ g vs, m = .blk g ∧ w.heap[g]? = some (.cells vs.toArray b.ty (0, 0)) ∧ DenL ρ Φ w cs vs
  | .rows e nl xs => (∃ a, m = .emp a ∧ nl = a.isNone ∧ xs = []) ∨ ∃ g o c cur, m = .row g o xs.length c ∧ nl = false ∧ xs.length ≤ c ∧ c ≤ maxLen ∧ w.heap[g]? = some (.cells cur b.ty (0, 0)) ∧ o + c * e.size ≤ cur.size ∧
      RowsP (fun d v => DenD Φ w e d v) e.isAgg e.size xs ((cur.toList.drop o).take (xs.length * e.size))
  | .mapc k v es => ∃ g ents clock, m = .blk g ∧ w.heap[g]? = some (.map ents.toArray clock) ∧ MapOK Φ w k v es ents clock

structure Rel (ρ : Names) (H : Hp) (Φ : Nat → Prop) (w : World) : Prop where
  own : ∀ k b, hget H k = some b → ∃ m, ρ k = some m ∧ BlkOK ρ Φ w m b
  apart : ∀ k b m g, hget H k = some b → ρ k = some m → m.block = some g → b.ro = false → ¬ Φ g
  kept : ∀ k b m g, hget H k = some b → ρ k = some m → m.block = some g → b.ro = true → Φ g
  inj : ∀ k k' b b' m m' g, hget H k = some b → hget H k' = some b' → b.ro = false → b'.ro = false → ρ k = some m → ρ k' = some m' → m.block = some g → m'.block = some g → k = k'
  phi : ∀ k, Φ k → k < w.heap.size
  dom : ∀ k m, ρ k = some m → k < H.length

/-- What the blocks hold, alone. -/
def Own (ρ : Names) (H : Hp) (Φ : Nat → Prop) (w : World) : Prop := ∀ k b, hget H k = some b → ∃ m, ρ k = some m ∧ BlkOK ρ Φ w m b

theorem hget_lt {H : Hp} {k : Nat} {b : Blk} (h : hget H k = some b) : k < H.length := by
  unfold hget at h
  split at h
  · rename_i hk; exact (List.getElem?_eq_some_iff.1 hk).1
  · cases h
theorem hget_iff {H : Hp} {k : Nat} {b : Blk} : hget H k = some b ↔ H[k]? = some (some b) := by
  unfold hget
  constructor
  · intro h; split at h
    · rename_i hk; simp only [Option.some.injEq] at h; subst h; exact hk
    · cases h
  · intro h; rw [h]
theorem hget_set {H : Hp} {k j : Nat} {o : Option Blk} (hk : k < H.length) : hget (H.set k o) j = if k = j then o else hget H j := by
  unfold hget
  rw [List.getElem?_set]
  by_cases h : k = j
  · subst h; simp [hk]; cases o <;> rfl
  · simp [h]
theorem hget_snoc {H : Hp} {b : Blk} {j : Nat} : hget (H ++ [some b]) j = if j = H.length then some b else hget H j := by
  unfold hget
  rcases Nat.lt_trichotomy j H.length with hlt | he | hgt
  · rw [List.getElem?_append_left hlt, if_neg (by omega)]
  · subst he; simp
  · rw [List.getElem?_append_right (by omega), if_neg (by omega), List.getElem?_eq_none (by simp; omega), List.getElem?_eq_none (by omega)]

/-! ### 2. What is known stays known -/

theorem RowsP.mono {R R' : D → Value → Prop} (h : ∀ d v, R d v → R' d v) {ag : Bool} {sz : Nat} : ∀ {xs : List D} {fl : List Value}, RowsP R ag sz xs fl → RowsP R' ag sz xs fl
  | [], _, hr => hr
  | d :: r, fl, ⟨row, rest, h1, h2, h3, h4⟩ => ⟨row, rest, h1, h2, h _ _ h3, RowsP.mono h h4⟩

theorem cell_ext {Φ : Nat → Prop} {w w' : World} (h : Ext Φ w w') {p : Addr} (hp : Φ p.block) : w'.cell? p = w.cell? p := by
  simp [World.cell?, h.block _ hp]

theorem ReadP.mono {Φ Φ' : Nat → Prop} {w w' : World} (he : Ext Φ w w') (hp : ∀ k, Φ k → Φ' k) {R R' : D → Value → Prop} (h : ∀ d v, R d v → R' d v) {ag : Bool} {sz : Nat} {xs : List D} {p : Addr} (hr : ReadP Φ w R ag sz xs p) : ReadP Φ' w' R' ag sz xs p := by
  obtain ⟨h1, h2, fl, h3, h4⟩ := hr
  refine ⟨h1, hp _ h2, fl, h3.mono h, fun j u hu => ?_⟩
  rw [cell_ext he (p := ⟨p.block, p.off + j, none⟩) h2]; exact h4 j u hu

theorem ListV.mono {Φ Φ' : Nat → Prop} {w w' : World} (he : Ext Φ w w') (hp : ∀ k, Φ k → Φ' k) {R R' : D → Value → Prop} (h : ∀ d v, R d v → R' d v) {ag : Bool} {sz : Nat} {nl : Bool} {xs : List D} {v : Value} (hr : ListV Φ w R ag sz nl xs v) : ListV Φ' w' R' ag sz nl xs v := by
  obtain ⟨a, cap, h1, h2, h3, h4, h5, h6⟩ := hr
  exact ⟨a, cap, h1, h2, h3, h4, h5, fun p hpp hne => (h6 p hpp hne).mono he hp h⟩

mutual
theorem DenD.mono {Φ Φ' : Nat → Prop} {w w' : World} (he : Ext Φ w w') (hp : ∀ k, Φ k → Φ' k) : ∀ {sh : Sh} {d : D} {v : Value}, DenD Φ w sh d v → DenD Φ' w' sh d v
  | .int k, d, v, h => by simpa [DenD] using h
  | .bool, d, v, h => by simpa [DenD] using h
  | .str, d, v, h => by simpa [DenD] using h
  | .agg cs, d, v, h => by
    simp only [DenD] at h ⊢
    obtain ⟨vs, h1, h2⟩ := h
    exact ⟨vs, h1, DenDs.mono he hp h2⟩
  | .list e, d, v, h => by
    simp only [DenD] at h ⊢
    exact h.mono he hp (fun d v hd => DenD.mono he hp hd)
theorem DenDs.mono {Φ Φ' : Nat → Prop} {w w' : World} (he : Ext Φ w w') (hp : ∀ k, Φ k → Φ' k) : ∀ {cs : List Sh} {d : D} {j : Nat} {vs : List Value}, DenDs Φ w cs d j vs → DenDs Φ' w' cs d j vs
  | [], d, j, vs, h => by simpa [DenDs] using h
  | c :: r, d, j, vs, h => by
    simp only [DenDs] at h ⊢
    obtain ⟨v, rest, h1, h2, h3⟩ := h
    exact ⟨v, rest, h1, DenD.mono he hp h2, DenDs.mono he hp h3⟩
end

theorem EntsP.mono {Φ Φ' : Nat → Prop} {w w' : World} (h : ∀ (s : Sh) (d : D) (v : Value), DenD Φ w s d v → DenD Φ' w' s d v) {k v : Sh} : ∀ {es : List D} {l : List MapEntry}, EntsP Φ w k v es l → EntsP Φ' w' k v es l
  | [], l, h0 => h0
  | d :: r, l, ⟨x, t, h1, h2, h3⟩ => ⟨x, t, h1, ⟨h _ _ _ h2.1, h _ _ _ h2.2⟩, EntsP.mono h h3⟩
theorem MapOK.mono {Φ Φ' : Nat → Prop} {w w' : World} (h : ∀ (s : Sh) (d : D) (v : Value), DenD Φ w s d v → DenD Φ' w' s d v) {k v : Sh} {es : List D} {l : List MapEntry} {c : Nat} (hm : MapOK Φ w k v es l c) : MapOK Φ' w' k v es l c := by
  obtain ⟨h1, h2, h3, es', h4, h5⟩ := hm
  exact ⟨h1, h2, h3, es', h4, h5.mono h⟩

theorem EntsP.length {Φ : Nat → Prop} {w : World} {k v : Sh} : ∀ {es : List D} {l : List MapEntry}, EntsP Φ w k v es l → l.length = es.length
  | [], l, h => by simp only [EntsP] at h; subst h; rfl
  | d :: r, l, ⟨x, t, h1, h2, h3⟩ => by subst h1; simp [EntsP.length h3]
theorem MapOK.length {Φ : Nat → Prop} {w : World} {k v : Sh} {es : List D} {l : List MapEntry} {c : Nat} (h : MapOK Φ w k v es l c) : l.length = es.length := by
  obtain ⟨_, _, _, es', h4, h5⟩ := h
  rw [h5.length, h4.length_eq]

section
variable {ρ ρ' : Names} {Φ Φ' : Nat → Prop} {w w' : World}
mutual
theorem Den.mono (g : Gro ρ Φ w ρ' Φ' w') : ∀ {v : SV} {x : Value}, Den ρ Φ w v x → Den ρ' Φ' w' v x
  | .li .., x, h | .si .., x, h | .lb _, x, h | .sb _, x, h | .str _, x, h | .val _, x, h | .emp _, x, h => by simpa [Den] using h
  | .any, x, h => by simp [Den]
  | .ref b off, x, h => by
    simp only [Den] at h ⊢; obtain ⟨q, h1, h2⟩ := h; exact ⟨q, g.names _ _ h1, h2⟩
  | .rref b sz i off, x, h => by
    simp only [Den] at h ⊢; obtain ⟨q, o, n, c, h1, h2⟩ := h; exact ⟨q, o, n, c, g.names _ _ h1, h2⟩
  | .lref e xs i off, x, h => by
    simp only [Den] at h ⊢; obtain ⟨p, h1, h2⟩ := h; exact ⟨p, h1.mono g.ext g.phi (fun d v hd => DenD.mono g.ext g.phi hd), h2⟩
  | .sl b off len cap, x, h => by
    simp only [Den] at h ⊢; obtain ⟨q, h1, h2⟩ := h; exact ⟨q, g.names _ _ h1, h2⟩
  | .own b, x, h => by
    simp only [Den] at h ⊢
    rcases h with ⟨q, o, n, c, h1, h2⟩ | ⟨a, h1, h2⟩
    · exact .inl ⟨q, o, n, c, g.names _ _ h1, h2⟩
    · exact .inr ⟨a, g.names _ _ h1, h2⟩
  | .osl b sz lo hi, x, h => by
    simp only [Den] at h ⊢
    rcases h with ⟨q, o, n, c, off, h1, h2⟩ | ⟨a, h1, h2⟩
    · exact .inl ⟨q, o, n, c, off, g.names _ _ h1, h2⟩
    · exact .inr ⟨a, g.names _ _ h1, h2⟩
  | .cut b sz lo hi, x, h => by
    simp only [Den] at h ⊢
    rcases h with ⟨q, o, n, c, off, h1, h2⟩ | ⟨a, h1, h2⟩
    · exact .inl ⟨q, o, n, c, off, g.names _ _ h1, h2⟩
    · exact .inr ⟨a, g.names _ _ h1, h2⟩
  | .lst e nl xs, x, h => by
    simp only [Den] at h ⊢; exact DenD.mono g.ext g.phi h
  | .agg cs, x, h => by
    simp only [Den] at h ⊢; obtain ⟨vs, h1, h2⟩ := h; exact ⟨vs, h1, DenL.mono g h2⟩
  | .tup cs, x, h => by
    simp only [Den] at h ⊢; obtain ⟨vs, h1, h2⟩ := h; exact ⟨vs, h1, DenL.mono g h2⟩
  | .clo fn first caps, x, h => by
    simp only [Den] at h ⊢; obtain ⟨fs, cs, h1, h2, h3⟩ := h; exact ⟨fs, cs, h1, DenL.mono g h2, DenL.mono g h3⟩
  | .mp b, x, h => by
    simp only [Den] at h ⊢; obtain ⟨q, h1, h2⟩ := h; exact ⟨q, g.names _ _ h1, h2⟩
theorem DenL.mono (g : Gro ρ Φ w ρ' Φ' w') : ∀ {l : List SV} {vs : List Value}, DenL ρ Φ w l vs → DenL ρ' Φ' w' l vs
  | [], vs, h => by simpa [DenL] using h
  | c :: r, vs, h => by
    simp only [DenL] at h ⊢; obtain ⟨v, rest, h1, h2, h3⟩ := h; exact ⟨v, rest, h1, Den.mono g h2, DenL.mono g h3⟩
end

theorem Slot.ok_mono (g : Gro ρ Φ w ρ' Φ' w') {s : Slot} {x : Value} (h : s.ok ρ Φ w x) : s.ok ρ' Φ' w' x := by
  cases s with
  | unk => trivial
  | is v => exact Den.mono g h
  | when c v =>
    simp only [Slot.ok] at h ⊢
    split at h
    · rename_i hc; rw [if_pos hc]; exact Den.mono g h
    · rename_i hc; rw [if_neg hc]; exact h

/-! ### 3. Data and values -/
mutual
theorem enc_den : ∀ {sh : Sh} {d : D} {x : Value}, Den ρ Φ w (enc sh d) x ↔ DenD Φ w sh d x
  | .int k, d, x => by simp [enc, Den, DenD]
  | .bool, d, x => by simp [enc, Den, DenD]
  | .str, d, x => by simp [enc, Den, DenD]
  | .agg cs, d, x => by
    simp only [enc, Den, DenD]
    constructor
    · rintro ⟨vs, h1, h2⟩; exact ⟨vs, h1, encL_den.1 h2⟩
    · rintro ⟨vs, h1, h2⟩; exact ⟨vs, h1, encL_den.2 h2⟩
  | .list e, d, x => by simp [enc, Den, DenD, D.nl, D.xs]
theorem encL_den : ∀ {cs : List Sh} {d : D} {j : Nat} {vs : List Value}, DenL ρ Φ w (encL cs d j) vs ↔ DenDs Φ w cs d j vs
  | [], d, j, vs => by simp [encL, DenL, DenDs]
  | c :: r, d, j, vs => by
    simp only [encL, DenL, DenDs]
    constructor
    · rintro ⟨v, rest, h1, h2, h3⟩; exact ⟨v, rest, h1, enc_den.1 h2, encL_den.1 h3⟩
    · rintro ⟨v, rest, h1, h2, h3⟩; exact ⟨v, rest, h1, enc_den.2 h2, encL_den.2 h3⟩
end
theorem encL_length : ∀ (cs : List Sh) (d : D) (j : Nat), (encL cs d j).length = cs.length
  | [], _, _ => rfl
  | c :: r, d, j => by simp [encL, encL_length r]

theorem DenL.length : ∀ {l : List SV} {vs : List Value}, DenL ρ Φ w l vs → vs.length = l.length
  | [], vs, h => by simp only [DenL] at h; subst h; rfl
  | c :: r, vs, h => by
    simp only [DenL] at h; obtain ⟨v, rest, rfl, h2, h3⟩ := h; simp [DenL.length h3]
theorem DenL.get : ∀ {l : List SV} {vs : List Value} {i : Nat} {v : SV}, DenL ρ Φ w l vs → l[i]? = some v → ∃ x, vs[i]? = some x ∧ Den ρ Φ w v x
  | [], vs, i, v, h, hi => by simp at hi
  | c :: r, vs, 0, v, h, hi => by
    simp only [DenL] at h; obtain ⟨x, rest, rfl, h2, h3⟩ := h
    simp at hi; subst hi; exact ⟨x, rfl, h2⟩
  | c :: r, vs, i + 1, v, h, hi => by
    simp only [DenL] at h; obtain ⟨x, rest, rfl, h2, h3⟩ := h
    obtain ⟨y, hy, hd⟩ := DenL.get h3 (by simpa using hi)
    exact ⟨y, by simpa using hy, hd⟩
theorem DenL.take : ∀ {l : List SV} {vs : List Value} (n : Nat), DenL ρ Φ w l vs → DenL ρ Φ w (l.take n) (vs.take n)
  | [], vs, n, h => by simp only [DenL] at h; subst h; simp [DenL]
  | c :: r, vs, 0, h => by simp [DenL]
  | c :: r, vs, n + 1, h => by
    simp only [DenL] at h; obtain ⟨x, rest, rfl, h2, h3⟩ := h
    simp only [List.take_succ_cons, DenL]
    exact ⟨x, _, rfl, h2, h3.take n⟩
theorem DenL.drop : ∀ {l : List SV} {vs : List Value} (n : Nat), DenL ρ Φ w l vs → DenL ρ Φ w (l.drop n) (vs.drop n)
  | [], vs, n, h => by simp only [DenL] at h; subst h; simp [DenL]
  | c :: r, vs, 0, h => by simpa using h
  | c :: r, vs, n + 1, h => by
    simp only [DenL] at h; obtain ⟨x, rest, rfl, h2, h3⟩ := h
    simpa using h3.drop n
theorem DenL.append : ∀ {l l' : List SV} {vs vs' : List Value}, DenL ρ Φ w l vs → DenL ρ Φ w l' vs' → DenL ρ Φ w (l ++ l') (vs ++ vs')
  | [], l', vs, vs', h, h' => by simp only [DenL] at h; subst h; simpa using h'
  | c :: r, l', vs, vs', h, h' => by
    simp only [DenL] at h; obtain ⟨x, rest, rfl, h2, h3⟩ := h
    simp only [List.cons_append, DenL]
    exact ⟨x, _, rfl, h2, h3.append h'⟩
theorem DenL.cons {c : SV} {r : List SV} {v : Value} {rest : List Value} (h : Den ρ Φ w c v) (h' : DenL ρ Φ w r rest) : DenL ρ Φ w (c :: r) (v :: rest) := by
  simp only [DenL]; exact ⟨v, rest, rfl, h, h'⟩
theorem DenL.nil : DenL ρ Φ w [] [] := by simp [DenL]
theorem DenL.one {c : SV} {v : Value} (h : Den ρ Φ w c v) : DenL ρ Φ w [c] [v] := .cons h .nil
theorem DenL.mem : ∀ {l : List SV} {vs : List Value} {x : Value}, DenL ρ Φ w l vs → x ∈ vs → ∃ v ∈ l, Den ρ Φ w v x
  | [], vs, x, h, hx => by simp only [DenL] at h; subst h; simp at hx
  | c :: r, vs, x, h, hx => by
    simp only [DenL] at h; obtain ⟨y, rest, rfl, h2, h3⟩ := h
    rcases List.mem_cons.1 hx with rfl | hx
    · exact ⟨c, by simp, h2⟩
    · obtain ⟨v, hv, hd⟩ := DenL.mem h3 hx; exact ⟨v, by simp [hv], hd⟩

def spliceV (cs : List Value) (off : Nat) (vs : List Value) : List Value := cs.take off ++ vs ++ cs.drop (off + vs.length)
theorem DenL.splice {l l' : List SV} {vs vs' : List Value} (off : Nat) (h : DenL ρ Φ w l vs) (h' : DenL ρ Φ w l' vs') : DenL ρ Φ w (Sy.splice l off l') (spliceV vs off vs') := by
  unfold Sy.splice spliceV
  rw [h'.length]
  exact ((h.take off).append h').append (h.drop _)

theorem oneV_of_atom {v : SV} {x : Value} (h : v.atom = true) (hd : Den ρ Φ w v x) : oneV x = true := by
  cases v <;> simp only [SV.atom] at h <;> simp only [Den, DenD] at hd
  case ref => obtain ⟨_, _, rfl⟩ := hd; rfl
  case rref => obtain ⟨_, _, _, _, _, _, rfl⟩ := hd; rfl
  case lref => obtain ⟨_, _, _, rfl⟩ := hd; rfl
  case sl => obtain ⟨_, _, rfl⟩ := hd; rfl
  case own => rcases hd with ⟨_, _, _, _, _, rfl⟩ | ⟨_, _, rfl⟩ <;> rfl
  case osl => rcases hd with ⟨_, _, _, _, _, _, _, _, _, rfl⟩ | ⟨_, _, _, _, rfl⟩ <;> rfl
  case cut => rcases hd with ⟨_, _, _, _, _, _, _, _, _, rfl⟩ | ⟨_, _, _, _, rfl⟩ <;> rfl
  case emp => obtain ⟨_, _, rfl⟩ := hd; rfl
  case lst => obtain ⟨_, _, rfl, _⟩ := hd; rfl
  case clo => obtain ⟨_, _, rfl, _⟩ := hd; rfl
  case mp => obtain ⟨_, _, rfl⟩ := hd; rfl
  case agg => cases h
  case tup => cases h
  case any => cases h
  all_goals (subst hd; first | rfl | exact h)
theorem cells_of_oneV {v : Value} (h : oneV v = true) : v.cells = #[v] := by cases v <;> simp_all [Value.cells, oneV]
theorem flat_cells {v : SV} {cs : List SV} {x : Value} (h : v.flat = some cs) (hd : Den ρ Φ w v x) : ∃ vs, x.cells = vs.toArray ∧ DenL ρ Φ w cs vs := by
  unfold SV.flat at h
  split at h
  · simp at h; subst h
    simp only [Den] at hd; obtain ⟨vs, rfl, h2⟩ := hd
    exact ⟨vs, rfl, h2⟩
  · split at h
    · rename_i hat
      simp at h; subst h
      exact ⟨[x], cells_of_oneV (oneV_of_atom hat hd), .one hd⟩
    · simp at h

theorem int?_den {v : SV} {x : Value} {k : IntKind} {n : Int} (h : v.int? = some (k, n)) (hd : Den ρ Φ w v x) : x = .int k n := by
  cases v <;> simp_all [SV.int?, Den]
theorem bool?_den {v : SV} {x : Value} {b : Bool} (h : v.bool? = some b) (hd : Den ρ Φ w v x) : x = .bool b := by
  cases v <;> simp_all [SV.bool?, Den]
theorem litI_den (k : IntKind) (n : Int) : Den ρ Φ w (litI k n) (.int k n) := by
  unfold litI; split <;> simp [Den]
theorem litB_den (b : Bool) : Den ρ Φ w (litB b) (.bool b) := by cases b <;> simp [litB, Den]
theorem mkI_den (l : Bool) (k : IntKind) (n : Int) : Den ρ Φ w (mkI l k n) (.int k n) := by cases l <;> simp [mkI, Den, litI_den]
theorem mkB_den (l : Bool) (b : Bool) : Den ρ Φ w (mkB l b) (.bool b) := by cases l <;> simp [mkB, Den, litB_den]
theorem ofCell_den (v : Value) : Den ρ Φ w (ofCell v) v := by cases v <;> simp [ofCell, Den]
theorem ofCells_den : ∀ l : List Value, DenL ρ Φ w (l.map ofCell) l
  | [] => .nil
  | c :: r => .cons (ofCell_den c) (ofCells_den r)
theorem ofConst_den (v : Value) : Den ρ Φ w (ofConst v) v := by
  cases v <;> simp [ofConst, Den]
  rename_i cs
  exact ⟨cs.toList, by simp, ofCells_den _⟩
end
end Go.Sy
