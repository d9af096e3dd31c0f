/-
  Values, blocks, states and trees that a program of this session runs a Go function's text over ('Sy'): the definitions.
  No statement of the seat is proved here. Conditions: none.
-/
import Derived.WalkKit
import Derived.KernelRfl
set_option linter.unusedSimpArgs false
set_option linter.unusedVariables false
namespace Go.Sy

/-! ### 1. Data: what lists hold -/

/-- A datum: a number, a truth value, a text, parts, a list ('nl': it is nil). -/
inductive D where
  | i (n : Int)
  | b (c : Bool)
  | s (l : List UInt8)
  | a (l : List D)
  | l (nl : Bool) (xs : List D)
  deriving Inhabited

def D.int : D → Int
  | .i n => n
  | _ => 0
def D.bool : D → Bool
  | .b c => c
  | _ => false
def D.str : D → List UInt8
  | .s x => x
  | _ => []
def D.at : D → Nat → D
  | .a x, j => x.getD j default
  | _, _ => default
def D.xs : D → List D
  | .l _ xs => xs
  | _ => []
def D.nl : D → Bool
  | .l nl _ => nl
  | _ => true

/-- The shape of a datum. -/
inductive Sh where
  | int (k : IntKind)
  | bool
  | str
  | agg (cs : List Sh)
  | list (e : Sh)
  deriving Inhabited

def kbeq : IntKind → IntKind → Bool
  | .i8, .i8 => true | .i16, .i16 => true | .i32, .i32 => true | .i64, .i64 => true
  | .u8, .u8 => true | .u16, .u16 => true | .u32, .u32 => true | .u64, .u64 => true
  | _, _ => false
theorem kbeq_eq {a b : IntKind} (h : kbeq a b = true) : a = b := by cases a <;> cases b <;> first | rfl | simp [kbeq] at h

mutual
def Sh.beq : Sh → Sh → Bool
  | .int k, .int k' => kbeq k k'
  | .bool, .bool => true
  | .str, .str => true
  | .agg cs, .agg ds => Sh.beqL cs ds
  | .list e, .list f => Sh.beq e f
  | _, _ => false
def Sh.beqL : List Sh → List Sh → Bool
  | [], [] => true
  | c :: cs, d :: ds => Sh.beq c d && Sh.beqL cs ds
  | _, _ => false
end
mutual
theorem Sh.beq_eq : ∀ {a b : Sh}, Sh.beq a b = true → a = b
  | .int k, .int k', h => by
    have := kbeq_eq (a := k) (b := k') (by simpa [Sh.beq] using h)
    rw [this]
  | .bool, .bool, _ => rfl
  | .str, .str, _ => rfl
  | .agg cs, .agg ds, h => by
    have := Sh.beqL_eq (cs := cs) (ds := ds) (by simpa [Sh.beq] using h)
    rw [this]
  | .list e, .list f, h => by
    have := Sh.beq_eq (a := e) (b := f) (by simpa [Sh.beq] using h)
    rw [this]
  | .int _, .bool, h | .int _, .str, h | .int _, .agg _, h | .int _, .list _, h => by simp [Sh.beq] at h
  | .bool, .int _, h | .bool, .str, h | .bool, .agg _, h | .bool, .list _, h => by simp [Sh.beq] at h
  | .str, .int _, h | .str, .bool, h | .str, .agg _, h | .str, .list _, h => by simp [Sh.beq] at h
  | .agg _, .int _, h | .agg _, .bool, h | .agg _, .str, h | .agg _, .list _, h => by simp [Sh.beq] at h
  | .list _, .int _, h | .list _, .bool, h | .list _, .str, h | .list _, .agg _, h => by simp [Sh.beq] at h
theorem Sh.beqL_eq : ∀ {cs ds : List Sh}, Sh.beqL cs ds = true → cs = ds
  | [], [], _ => rfl
  | c :: cs, d :: ds, h => by
    simp only [Sh.beqL, Bool.and_eq_true] at h
    rw [Sh.beq_eq h.1, Sh.beqL_eq h.2]
  | [], _ :: _, h => by simp [Sh.beqL] at h
  | _ :: _, [], h => by simp [Sh.beqL] at h
end

def Sh.size : Sh → Nat
  | .agg cs => cs.length
  | _ => 1
def Sh.isAgg : Sh → Bool
  | .agg _ => true
  | _ => false
mutual
/-- No list is in it. -/
def Sh.flat : Sh → Bool
  | .list _ => false
  | .agg cs => Sh.flatL cs
  | _ => true
def Sh.flatL : List Sh → Bool
  | [] => true
  | c :: r => Sh.flat c && Sh.flatL r
end

/-! ### 2. Values -/

/-- What a slot or a cell holds. 'li', 'lb': written out; 'si', 'sb': a number, a truth value, whatever it is; 'str': a text; 'ref', 'sl': into a block of the run's own, by its name; 'rref': into a row of an own list; 'own': an own list, whole; 'osl': a part of it, with all the room behind; 'cut': a part of it, without room; 'emp': a list without room ('nl': it is nil); 'any': whatever it is; 'lref', 'lst': a list that nobody turns. -/
inductive SV where
  | li (k : IntKind) (n : Int)
  | si (k : IntKind) (n : Int)
  | lb (b : Bool)
  | sb (b : Bool)
  | str (s : List UInt8)
  | val (v : Value)
  | ref (b off : Nat)
  | rref (b sz i off : Nat)
  | lref (e : Sh) (xs : List D) (i off : Nat)
  | sl (b off len cap : Nat)
  | own (b : Nat)
  | osl (b sz lo hi : Nat)
  | cut (b sz lo hi : Nat)
  | emp (nl : Bool)
  | lst (e : Sh) (nl : Bool) (xs : List D)
  | agg (cs : List SV)
  | tup (vs : List SV)
  | clo (fn : Fn) (first caps : List SV)
  | mp (b : Nat)
  | any
  deriving Inhabited

mutual
/-- All names are below n. -/
def SV.low (n : Nat) : SV → Bool
  | .ref b _ => Nat.blt b n
  | .rref b _ _ _ => Nat.blt b n
  | .sl b _ _ _ => Nat.blt b n
  | .own b => Nat.blt b n
  | .osl b _ _ _ => Nat.blt b n
  | .cut b _ _ _ => Nat.blt b n
  | .mp b => Nat.blt b n
  | .agg cs => SV.lowL n cs
  | .tup vs => SV.lowL n vs
  | .clo _ first caps => SV.lowL n first && SV.lowL n caps
  | _ => true
def SV.lowL (n : Nat) : List SV → Bool
  | [] => true
  | c :: r => SV.low n c && SV.lowL n r
end

mutual
/-- A datum of a shape, as a value. -/
def enc : Sh → D → SV
  | .int k, d => .si k d.int
  | .bool, d => .sb d.bool
  | .str, d => .str d.str
  | .agg cs, d => .agg (encL cs d 0)
  | .list e, d => .lst e d.nl d.xs
def encL : List Sh → D → Nat → List SV
  | [], _, _ => []
  | c :: r, d, j => enc c (d.at j) :: encL r d (j + 1)
end

inductive Slot where
  | unk
  | is (v : SV)
  | when (c : Bool) (v : SV)
  deriving Inhabited

mutual
/-- Two keys are the same. -/
def keyB : Sh → D → D → Bool
  | .int _, a, b => a.int == b.int
  | .bool, a, b => a.bool == b.bool
  | .str, a, b => a.str == b.str
  | .agg cs, a, b => keyBL cs a b 0
  | .list _, _, _ => false
def keyBL : List Sh → D → D → Nat → Bool
  | [], _, _, _ => true
  | c :: r, a, b, j => keyB c (a.at j) (b.at j) && keyBL r a b (j + 1)
end
def Sh.atomB : Sh → Bool
  | .int _ | .bool | .str => true
  | _ => false
/-- Keys that are taken. -/
def Sh.keyish : Sh → Bool
  | .agg cs => cs.all Sh.atomB
  | s => s.atomB
mutual
/-- A zero value. -/
def zden : Sh → D → Value → Bool
  | .int k, d, v => match v with
    | .int k' n => kbeq k k' && d.int == n
    | _ => false
  | .bool, d, v => match v with
    | .bool b => d.bool == b
    | _ => false
  | .str, d, v => match v with
    | .string s => match s.data.toList, d.str with
      | [], [] => true
      | _, _ => false
    | _ => false
  | .agg cs, d, v => match v with
    | .agg vs => zdenL cs d 0 vs.toList
    | _ => false
  | .list _, d, v => match v with
    | .slice none 0 0 => d.nl && d.xs.isEmpty
    | _ => false
def zdenL : List Sh → D → Nat → List Value → Bool
  | [], _, _, vs => vs.isEmpty
  | c :: r, d, j, vs => match vs with
    | v :: t => zden c (d.at j) v && zdenL r d (j + 1) t
    | [] => false
end
/-- A map's entries: keys and values, in pairs. -/
def hasK (k : Sh) (es : List D) (x : D) : Bool := es.any fun e => keyB k x (e.at 0)
def getK (k : Sh) (es : List D) (x : D) : D := (es.getD (es.findIdx fun e => keyB k x (e.at 0)) default).at 1
def setK (k : Sh) (es : List D) (x v : D) : List D := bif hasK k es x then es.set (es.findIdx fun e => keyB k x (e.at 0)) (.a [x, v]) else es ++ [.a [x, v]]
def delK (k : Sh) (es : List D) (x : D) : List D := es.filter fun e => !keyB k x (e.at 0)

/-- What a block holds. 'mapc': a map, its keys' and values' shapes, its entries (in whatever order). -/
inductive Con where
  | cells (cs : List SV)
  | rows (e : Sh) (nl : Bool) (xs : List D)
  | mapc (k v : Sh) (es : List D)
  deriving Inhabited

/-- A block; 'ro': nobody turns it any more. -/
structure Blk where
  con : Con
  ty : TypeId
  ro : Bool := false
  deriving Inhabited

abbrev Hp := List (Option Blk)

/-- A tree of slots: the root is 0; the left one holds the odd ones. -/
inductive Trie where
  | nil
  | node (v : Slot) (l r : Trie)
  deriving Inhabited
def Trie.get : Trie → Nat → Slot
  | .nil, _ => .unk
  | .node v l r, i => match Nat.beq i 0 with
    | true => v
    | false => match Nat.beq (i % 2) 1 with
      | true => l.get (i / 2)
      | false => r.get (i / 2 - 1)
def Trie.set : Nat → Trie → Nat → Slot → Trie
  | 0, t, _, _ => t
  | n + 1, .nil, i, s => match Nat.beq i 0 with
    | true => .node s .nil .nil
    | false => match Nat.beq (i % 2) 1 with
      | true => .node .unk (Trie.set n .nil (i / 2) s) .nil
      | false => .node .unk .nil (Trie.set n .nil (i / 2 - 1) s)
  | n + 1, .node v l r, i, s => match Nat.beq i 0 with
    | true => .node s l r
    | false => match Nat.beq (i % 2) 1 with
      | true => .node v (Trie.set n l (i / 2) s) r
      | false => .node v l (Trie.set n r (i / 2 - 1) s)
theorem nlt {a b : Nat} : Nat.blt a b = true ↔ a < b := by simp [Nat.blt, Nat.lt_iff_add_one_le]
theorem nltf {a b : Nat} : Nat.blt a b = false ↔ ¬ a < b := by rw [← Bool.not_eq_true, nlt]
theorem nbf {a b : Nat} : Nat.beq a b = false ↔ a ≠ b := by rw [← Bool.not_eq_true, Nat.beq_eq]
theorem Trie.get_nil (i : Nat) : Trie.nil.get i = .unk := rfl
theorem Trie.get_set : ∀ (n : Nat) (t : Trie) (i j : Nat) (s : Slot), i < n → (Trie.set n t i s).get j = if i = j then s else t.get j
  | 0, t, i, j, s, h => by omega
  | n + 1, t, i, j, s, h => by
    have ih1 := fun (t : Trie) (j : Nat) (hi : i ≠ 0) => Trie.get_set n t (i / 2) j s (by omega)
    have ih2 := fun (t : Trie) (j : Nat) (hi : i ≠ 0) => Trie.get_set n t (i / 2 - 1) j s (by omega)
    have key : ∀ (v : Slot) (l r : Trie), (match Nat.beq i 0 with
        | true => Trie.node s l r
        | false => match Nat.beq (i % 2) 1 with
          | true => Trie.node v (Trie.set n l (i / 2) s) r
          | false => Trie.node v l (Trie.set n r (i / 2 - 1) s)).get j = if i = j then s else (Trie.node v l r).get j := by
      intro v l r
      cases h0 : Nat.beq i 0 with
      | true =>
        have hi : i = 0 := by simpa using h0
        subst hi
        by_cases hj : j = 0
        · subst hj; simp [Trie.get]
        · have hb : Nat.beq j 0 = false := nbf.2 hj
          rw [if_neg (fun e => hj e.symm)]
          simp [Trie.get, hb]
      | false =>
        have hi : i ≠ 0 := nbf.1 h0
        cases h1 : Nat.beq (i % 2) 1 with
        | true =>
          have hi1 : i % 2 = 1 := by simpa using h1
          simp only [Trie.get]
          cases hj0 : Nat.beq j 0 with
          | true =>
            have hj : j = 0 := by simpa using hj0
            rw [if_neg (by omega)]
          | false =>
            have hj : j ≠ 0 := nbf.1 hj0
            cases hj1 : Nat.beq (j % 2) 1 with
            | true =>
              have hjj : j % 2 = 1 := by simpa using hj1
              simp only
              rw [ih1 l (j / 2) hi]
              by_cases he : i = j
              · rw [if_pos he, if_pos (by omega)]
              · rw [if_neg he, if_neg (by omega)]
            | false =>
              have hjj : j % 2 ≠ 1 := nbf.1 hj1
              rw [if_neg (by intro e; subst e; exact hjj hi1)]
        | false =>
          have hi1 : i % 2 ≠ 1 := nbf.1 h1
          simp only [Trie.get]
          cases hj0 : Nat.beq j 0 with
          | true =>
            have hj : j = 0 := by simpa using hj0
            rw [if_neg (by omega)]
          | false =>
            have hj : j ≠ 0 := nbf.1 hj0
            cases hj1 : Nat.beq (j % 2) 1 with
            | true =>
              have hjj : j % 2 = 1 := by simpa using hj1
              rw [if_neg (by intro e; subst e; exact hi1 hjj)]
            | false =>
              have hjj : j % 2 ≠ 1 := nbf.1 hj1
              simp only
              rw [ih2 r (j / 2 - 1) hi]
              by_cases he : i = j
              · rw [if_pos he, if_pos (by omega)]
              · rw [if_neg he, if_neg (by omega)]
    cases t with
    | node v l r => exact key v l r
    | nil =>
      have hn : (Trie.node .unk .nil .nil).get j = Trie.nil.get j := by
        simp only [Trie.get]
        split
        · rfl
        · split <;> rfl
      rw [← hn, ← key .unk .nil .nil]
      rfl

/-- The slots of a frame. -/
structure Tm where
  length : Nat
  t : Trie
  deriving Inhabited
def Tm.look : Tm → Nat → Option Slot
  | ⟨n, t⟩, i => match Nat.blt i n with
    | true => some (t.get i)
    | false => none
def Tm.set : Tm → Nat → Slot → Tm
  | ⟨n, t⟩, i, s => match Nat.blt i n with
    | true => ⟨n, Trie.set n t i s⟩
    | false => ⟨n, t⟩
theorem Tm.look_eq (tm : Tm) (i : Nat) : tm.look i = (match Nat.blt i tm.length with
  | true => some (tm.t.get i)
  | false => none) := by cases tm; rfl
theorem Tm.set_eq (tm : Tm) (i : Nat) (s : Slot) : tm.set i s = (match Nat.blt i tm.length with
  | true => ⟨tm.length, Trie.set tm.length tm.t i s⟩
  | false => tm) := by cases tm; rfl
instance : GetElem? Tm Nat Slot (fun tm i => i < tm.length) where
  getElem tm i _ := tm.t.get i
  getElem? tm i := tm.look i
theorem Tm.getElem?_set {tm : Tm} {i j : Nat} {s : Slot} : (tm.set i s)[j]? = if i = j then if i < tm.length then some s else none else tm[j]? := by
  show Tm.look _ _ = if i = j then _ else Tm.look _ _
  rw [Tm.set_eq]
  cases h : Nat.blt i tm.length with
  | false =>
    have hi : ¬ i < tm.length := nltf.1 h
    simp only
    by_cases he : i = j
    · subst he; rw [if_pos rfl, if_neg hi, Tm.look_eq]; simp [h]
    · rw [if_neg he]
  | true =>
    have hi : i < tm.length := nlt.1 h
    simp only [Tm.look_eq]
    rw [Trie.get_set _ _ _ _ _ hi]
    by_cases he : i = j
    · subst he; rw [if_pos rfl, if_pos hi, h]; simp
    · rw [if_neg he, if_neg he]
theorem Tm.length_set {tm : Tm} {i : Nat} {s : Slot} : (tm.set i s).length = tm.length := by
  rw [Tm.set_eq]; split <;> rfl
theorem Tm.lt_of_get {tm : Tm} {i : Nat} {s : Slot} (h : tm[i]? = some s) : i < tm.length := by
  have h' : Tm.look tm i = some s := h
  rw [Tm.look_eq] at h'
  split at h'
  · rename_i hb; exact nlt.1 hb
  · cases h'
theorem Tm.get_of_lt {tm : Tm} {i : Nat} (h : i < tm.length) : tm[i]? = some tm[i] := by
  show Tm.look tm i = _
  rw [Tm.look_eq]
  have hb : Nat.blt i tm.length = true := nlt.2 h
  rw [hb]; rfl

theorem Tm.get_none {tm : Tm} {i : Nat} (h : ¬ i < tm.length) : tm[i]? = none := by
  show Tm.look tm i = none
  rw [Tm.look_eq]
  rw [nltf.2 h]

def Trie.fill (n : Nat) : Trie → Nat → List Slot → Trie
  | t, _, [] => t
  | t, i, s :: r => match s with
    | .unk => Trie.fill n t (i + 1) r
    | .is v => Trie.fill n (Trie.set n t i (.is v)) (i + 1) r
    | .when c v => Trie.fill n (Trie.set n t i (.when c v)) (i + 1) r
def Tm.of (l : List Slot) (n : Nat) : Tm := ⟨n, Trie.fill n .nil 0 l⟩
theorem Trie.get_fill (n : Nat) : ∀ (l : List Slot) (t : Trie) (i j : Nat), i + l.length ≤ n → (∀ k, i ≤ k → t.get k = .unk) → (Trie.fill n t i l).get j = if h : i ≤ j ∧ j - i < l.length then l[j - i]'h.2 else t.get j
  | [], t, i, j, _, _ => by simp [Trie.fill]
  | s :: r, t, i, j, h, hu => by
    simp only [List.length_cons] at h
    have key : ∀ s' : Slot, (Trie.fill n (Trie.set n t i s') (i + 1) r).get j = if h : i ≤ j ∧ j - i < (s' :: r).length then (s' :: r)[j - i]'h.2 else t.get j := by
      intro s'
      rw [Trie.get_fill n r _ (i + 1) j (by omega) (fun k hk => by rw [Trie.get_set _ _ _ _ _ (by omega), if_neg (by omega)]; exact hu k (by omega)), Trie.get_set _ _ _ _ _ (by omega)]
      by_cases h1 : i + 1 ≤ j ∧ j - (i + 1) < r.length
      · rw [dif_pos h1, dif_pos (by simp; omega)]
        have e : j - i = (j - (i + 1)) + 1 := by omega
        simp only [e, List.getElem_cons_succ]
      · rw [dif_neg h1]
        by_cases h2 : i = j
        · subst h2; rw [if_pos rfl, dif_pos (by simp)]; simp
        · rw [if_neg h2, dif_neg (by simp; omega)]
    cases s with
    | is v => exact key _
    | when c v => exact key _
    | unk =>
      simp only [Trie.fill]
      rw [Trie.get_fill n r t (i + 1) j (by omega) (fun k hk => hu k (by omega))]
      by_cases h1 : i + 1 ≤ j ∧ j - (i + 1) < r.length
      · rw [dif_pos h1, dif_pos (by simp; omega)]
        have e : j - i = (j - (i + 1)) + 1 := by omega
        simp only [e, List.getElem_cons_succ]
      · rw [dif_neg h1]
        by_cases h2 : i = j
        · subst h2; rw [dif_pos (by simp)]; simp [hu i (Nat.le_refl _)]
        · rw [dif_neg (by simp; omega)]
theorem Tm.of_get {l : List Slot} {n i : Nat} {s : Slot} (hl : l.length ≤ n) (h : (Tm.of l n)[i]? = some s) : i < n ∧ (if h : i < l.length then s = l[i] else s = .unk) := by
  have hlt : i < n := Tm.lt_of_get h
  refine ⟨hlt, ?_⟩
  have h' : Tm.look (Tm.of l n) i = some s := h
  rw [Tm.look_eq] at h'
  have hb : Nat.blt i (Tm.of l n).length = true := nlt.2 hlt
  rw [hb] at h'
  simp only [Option.some.injEq] at h'
  rw [← h', Tm.of, Trie.get_fill n l .nil 0 i (by omega) (fun _ _ => rfl)]
  by_cases h1 : i < l.length
  · rw [dif_pos h1, dif_pos (by omega)]; simp
  · rw [dif_neg h1, dif_neg (by omega)]; rfl

structure St where
  tmps : Tm
  heap : Hp
  deriving Inhabited

/-! ### 3. Trees -/
inductive Tree (α : Type) where
  | ret (a : α)
  | need (p : Bool) (t : Tree α)
  | ite (b : Bool) (t e : Tree α)
  | bad (why : String)

namespace Tree
def bind {α β : Type} : Tree α → (α → Tree β) → Tree β
  | .ret a, f => f a
  | .need p t, f => .need p (t.bind f)
  | .ite b t e, f => .ite b (t.bind f) (e.bind f)
  | .bad w, _ => .bad w
def ok {α : Type} (Q : α → Prop) : Tree α → Prop
  | .ret a => Q a
  | .need p t => p = true ∧ t.ok Q
  | .ite b t e => (b = true → t.ok Q) ∧ (b = false → e.ok Q)
  | .bad _ => False
theorem ok_bind {α β : Type} {Q : β → Prop} {f : α → Tree β} : ∀ {t : Tree α}, (t.bind f).ok Q → t.ok (fun a => (f a).ok Q)
  | .ret _, h => h
  | .need _ _, h => ⟨h.1, ok_bind h.2⟩
  | .ite _ _ _, h => ⟨fun hb => ok_bind (h.1 hb), fun hb => ok_bind (h.2 hb)⟩
  | .bad _, h => h
theorem bind_ok {α β : Type} {Q : β → Prop} {f : α → Tree β} : ∀ {t : Tree α}, t.ok (fun a => (f a).ok Q) → (t.bind f).ok Q
  | .ret _, h => h
  | .need _ _, h => ⟨h.1, bind_ok h.2⟩
  | .ite _ _ _, h => ⟨fun hb => bind_ok (h.1 hb), fun hb => bind_ok (h.2 hb)⟩
  | .bad _, h => h
theorem ok_mono {α : Type} {Q Q' : α → Prop} (hq : ∀ a, Q a → Q' a) : ∀ {t : Tree α}, t.ok Q → t.ok Q'
  | .ret a, h => hq a h
  | .need _ _, h => ⟨h.1, ok_mono hq h.2⟩
  | .ite _ _ _, h => ⟨fun hb => ok_mono hq (h.1 hb), fun hb => ok_mono hq (h.2 hb)⟩
  | .bad _, h => h
theorem ok_some {α : Type} {Q : α → Prop} : ∀ {t : Tree α}, t.ok Q → ∃ a, Q a
  | .ret a, h => ⟨a, h⟩
  | .need _ _, h => ok_some h.2
  | .ite true _ _, h => ok_some (h.1 rfl)
  | .ite false _ _, h => ok_some (h.2 rfl)
  | .bad _, h => h.elim
end Tree

def orBad {α : Type} (why : String) : Option α → Tree α
  | some a => .ret a
  | none => .bad why

def Tree.run {α : Type} : Tree α → Option α
  | .ret a => some a
  | .need p t => if p then t.run else none
  | .ite b t e => if b then t.run else e.run
  | .bad _ => none

theorem Tree.run_bind {α β : Type} {f : α → Tree β} : ∀ {t : Tree α} {b : β}, (t.bind f).run = some b → ∃ a, t.run = some a ∧ (f a).run = some b
  | .ret a, b, h => ⟨a, rfl, h⟩
  | .need true t, b, h => by
    obtain ⟨a, h1, h2⟩ := Tree.run_bind (t := t) (by simpa [Tree.bind, Tree.run] using h); exact ⟨a, by simpa [Tree.run] using h1, h2⟩
  | .need false t, b, h => by simp [Tree.bind, Tree.run] at h
  | .ite true t e, b, h => by
    obtain ⟨a, h1, h2⟩ := Tree.run_bind (t := t) (by simpa [Tree.bind, Tree.run] using h); exact ⟨a, by simpa [Tree.run] using h1, h2⟩
  | .ite false t e, b, h => by
    obtain ⟨a, h1, h2⟩ := Tree.run_bind (t := e) (by simpa [Tree.bind, Tree.run] using h); exact ⟨a, by simpa [Tree.run] using h1, h2⟩
  | .bad _, b, h => by simp [Tree.bind, Tree.run] at h
theorem Tree.bind_run {α β : Type} {f : α → Tree β} : ∀ {t : Tree α} {a : α}, t.run = some a → (t.bind f).run = (f a).run
  | .ret _, a, h => by simp [Tree.run] at h; subst h; rfl
  | .need true t, a, h => by simpa [Tree.bind, Tree.run] using Tree.bind_run (t := t) (by simpa [Tree.run] using h)
  | .need false t, a, h => by simp [Tree.run] at h
  | .ite true t e, a, h => by simpa [Tree.bind, Tree.run] using Tree.bind_run (t := t) (by simpa [Tree.run] using h)
  | .ite false t e, a, h => by simpa [Tree.bind, Tree.run] using Tree.bind_run (t := e) (by simpa [Tree.run] using h)
  | .bad _, a, h => by simp [Tree.run] at h
theorem orBad_run {α : Type} {why : String} {o : Option α} {a : α} (h : (orBad why o).run = some a) : o = some a := by
  cases o <;> simp_all [orBad, Tree.run]
theorem Tree.run_need {α : Type} {p : Bool} {t : Tree α} {a : α} (h : (Tree.need p t).run = some a) : p = true ∧ t.run = some a := by
  cases p <;> simp_all [Tree.run]
theorem Tree.run_ite {α : Type} {b : Bool} {t e : Tree α} {a : α} (h : (Tree.ite b t e).run = some a) : (b = true ∧ t.run = some a) ∨ (b = false ∧ e.run = some a) := by
  cases b <;> simp_all [Tree.run]

/-! ### 4. What the types say -/

/-- A type, as far as a run asks. -/
structure TRow where
  und : TypeDesc
  size : Nat
  bytes : Nat
  zero : Option (List SV)
  stood : Bool
  eqg : Bool

inductive TT (α : Type) where
  | nil
  | node (v : Option α) (l r : TT α)
def TT.get {α : Type} : TT α → Nat → Option α
  | .nil, _ => none
  | .node v l r, i => match Nat.beq i 0 with
    | true => v
    | false => match Nat.beq (i % 2) 1 with
      | true => l.get (i / 2)
      | false => r.get (i / 2 - 1)
/-- A map type: its key's and its element's types and shapes; the element's zero. -/
structure MRow where
  kt : TypeId
  et : TypeId
  k : Sh
  v : Sh
  z : D
/-- The types and the functions of a program, quickly found. -/
structure Tab where
  n : Nat
  ty : TT TRow
  m : Nat
  fn : TT Func
  /-- Map types. -/
  mp : TypeId → Option MRow := fun _ => none
def Tab.row (T : Tab) (t : TypeId) : Option TRow := match Nat.blt t T.n with
  | true => T.ty.get t
  | false => none
def Tab.func (T : Tab) (f : FuncId) : Option Func := match Nat.blt f T.m with
  | true => T.fn.get f
  | false => none
def Tab.underlying (T : Tab) (t : TypeId) : Option TypeDesc := match T.row t with
  | some r => some r.und
  | none => none
def Tab.stoodInHeld (T : Tab) (t : TypeId) : Bool := match T.row t with
  | some r => r.stood
  | none => true
def Tab.eqG (T : Tab) (t : TypeId) : Bool := match T.row t with
  | some r => r.eqg
  | none => true


/-- A value of one cell, out of the text. -/
def ofCell : Value → SV
  | .int k n => .li k n
  | .bool b => .lb b
  | .string s => .str s.data.toList
  | v => .val v
def ofConst : Value → SV
  | .int k n => .li k n
  | .bool b => .lb b
  | .string s => .str s.data.toList
  | .agg cs => .agg (cs.toList.map ofCell)
  | v => .val v

def oneV : Value → Bool
  | .agg _ | .tuple _ => false
  | _ => true

/-- One cell holds it. -/
def SV.atom : SV → Bool
  | .agg _ | .tup _ | .any => false
  | .val v => oneV v
  | _ => true

/-- Its cells. -/
def SV.flat : SV → Option (List SV)
  | .agg cs => some cs
  | v => if v.atom then some [v] else none

def aggT (T : Tab) (t : TypeId) : Option Bool :=
  match T.underlying t with
  | some (.struct _) => some true
  | some (.array _ _) => some true
  | some _ => some false
  | none => none
def sizeT (T : Tab) (t : TypeId) : Option Nat := match T.row t with
  | some r => some r.size
  | none => none

/-- The part of a row of cells. -/
def partL (T : Tab) (t : TypeId) (cs : List SV) (off : Nat) : Option SV :=
  match aggT T t with
  | some true => match sizeT T t with
    | some n => if Nat.ble (off + n) cs.length then some (.agg ((cs.drop off).take n)) else none
    | none => none
  | some false => cs[off]?
  | none => none

/-- The part of a row of a list. -/
def rowPart (T : Tab) (t : TypeId) (e : Sh) (d : D) (off : Nat) : Option SV :=
  match enc e d with
  | .agg cs => partL T t cs off
  | v => match aggT T t with
    | some false => if Nat.beq off 0 then some v else none
    | _ => none

/-- Cells put over others. -/
def splice (cs : List SV) (off : Nat) (vs : List SV) : List SV := cs.take off ++ vs ++ cs.drop (off + vs.length)

def zeroL (T : Tab) (t : TypeId) : Option (List SV) :=
  match T.row t with
  | some r => r.zero
  | none => none

def fieldT (T : Tab) (s : TypeId) (f : Nat) : Option Field :=
  match T.underlying s with
  | some (.struct fs) => fs[f]?
  | _ => none

def elemT (T : Tab) (t : TypeId) : Option (Nat × TypeId × Nat) :=
  match T.underlying t with
  | some (.array len e) => match sizeT T e with
    | some n => some (len, e, n)
    | none => none
  | _ => none

/-- A slice type's elements are of this shape. -/
def rowT (T : Tab) (t : TypeId) (e : Sh) : Option TypeId :=
  match T.underlying t with
  | some (.slice u) => match sizeT T u, aggT T u with
    | some n, some g => if Nat.beq n e.size && (g == e.isAgg) then some u else none
    | _, _ => none
  | _ => none

/-- The shape of a type. -/
def shT (T : Tab) : Nat → TypeId → Option Sh
  | 0, _ => none
  | d + 1, t => match T.underlying t with
    | some (.int k) => some (.int k)
    | some .bool => some .bool
    | some .string => some .str
    | some (.slice e) => (shT T d e).map .list
    | some (.struct fs) => (fieldsT T (shT T d) fs.toList).map .agg
    | some (.array n e) => (shT T d e).map fun s => .agg ((List.replicate n (cellsSh s)).flatten)
    | _ => none
where
  cellsSh : Sh → List Sh
    | .agg cs => cs
    | s => [s]
  fieldsT (T : Tab) (rec : TypeId → Option Sh) : List Field → Option (List Sh)
    | [] => some []
    | f :: r => match rec f.type, fieldsT T rec r with
      | some s, some l => some (cellsSh s ++ l)
      | _, _ => none

/-- Is it a number? -/
def SV.int? : SV → Option (IntKind × Int)
  | .li k n => some (k, n)
  | .si k n => some (k, n)
  | _ => none
def SV.bool? : SV → Option Bool
  | .lb b => some b
  | .sb b => some b
  | _ => none

def bothLit : SV → SV → Bool
  | .li .., .li .. => true
  | _, _ => false
/-- A number that is written out is reckoned at once. -/
def litI (k : IntKind) : Int → SV
  | .ofNat 0 => .li k 0
  | .ofNat (m + 1) => .li k (.ofNat (m + 1))
  | .negSucc 0 => .li k (.negSucc 0)
  | .negSucc (m + 1) => .li k (.negSucc (m + 1))
def litB : Bool → SV
  | true => .lb true
  | false => .lb false
def mkI (lit : Bool) (k : IntKind) (n : Int) : SV := match lit with | true => litI k n | false => .si k n
def mkB (lit : Bool) (b : Bool) : SV := match lit with | true => litB b | false => .sb b

/-! ### 5. Values become data; what is handed on is turned no more -/

def hget (H : Hp) (b : Nat) : Option Blk := match H[b]? with
  | some (some blk) => some blk
  | _ => none

/-- A row of cells as one value. -/
def packS (ag : Bool) (sz : Nat) (cs : List SV) : SV := match ag with
  | true => .agg (cs.take sz)
  | false => cs.headD default
def rowsWith (f : SV → Hp → Option (D × Hp)) (ag : Bool) (sz : Nat) : Nat → List SV → Hp → Option (List D × Hp)
  | 0, _, H => some ([], H)
  | n + 1, cs, H => match f (packS ag sz cs) H with
    | some (d, H1) => match rowsWith f ag sz n (cs.drop sz) H1 with
      | some (ds, H2) => some (d :: ds, H2)
      | none => none
    | none => none

mutual
/-- A value of a shape as a datum; the lists in it are turned no more. -/
def freeze : Sh → SV → Hp → Option (D × Hp)
  | .int k, v, H => match v.int? with
    | some (k', n) => match kbeq k k' with
      | true => some (.i n, H)
      | false => none
    | none => none
  | .bool, v, H => match v.bool? with
    | some b => some (.b b, H)
    | none => none
  | .str, v, H => match v with
    | .str s => some (.s s, H)
    | _ => none
  | .agg cs, v, H => match v with
    | .agg vs => match freezeL cs vs H with
      | some (ds, H') => some (.a ds, H')
      | none => none
    | _ => none
  | .list e, v, H => match v with
    | .lst e' nl xs => match Sh.beq e e' with
      | true => some (.l nl xs, H)
      | false => none
    | .own b => match hget H b with
      | some ⟨.rows e' nl xs, ty, _⟩ => match Sh.beq e e' with
        | true => some (.l nl xs, H.set b (some ⟨.rows e' nl xs, ty, true⟩))
        | false => none
      | _ => none
    | .sl b off len cap => match hget H b with
      | some ⟨.cells cs, ty, _⟩ => match Nat.ble (off + len * e.size) cs.length && !(Nat.beq e.size 0) && (Nat.ble len cap && Nat.ble cap 16777216) with
        | true => match rowsWith (fun v H => freeze e v H) e.isAgg e.size len (cs.drop off) (H.set b (some ⟨.cells cs, ty, true⟩)) with
          | some (ds, H') => some (.l false ds, H')
          | none => none
        | false => none
      | _ => none
    | .osl b sz lo hi => match hget H b with
      | some ⟨.rows e' nl xs, ty, _⟩ => match Sh.beq e e' && Nat.beq sz e.size with
        | true => some (.l nl ((xs.take hi).drop lo), H.set b (some ⟨.rows e' nl xs, ty, true⟩))
        | false => none
      | _ => none
    | .emp nl => some (.l nl [], H)
    | .val (.slice none 0 0) => some (.l true [], H)
    | _ => none
def freezeL : List Sh → List SV → Hp → Option (List D × Hp)
  | [], vs, H => match vs with
    | [] => some ([], H)
    | _ => none
  | c :: cs, vs, H => match vs with
    | v :: vs => match freeze c v H with
      | some (d, H1) => match freezeL cs vs H1 with
        | some (ds, H2) => some (d :: ds, H2)
        | none => none
      | none => none
    | [] => none
end
end Go.Sy
