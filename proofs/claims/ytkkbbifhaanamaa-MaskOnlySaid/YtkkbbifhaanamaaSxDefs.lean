/-
  Values, blocks and trees that a program of this session runs a Go function's text over, step by step ('Sx'): the definitions.
  No statement of the seat is proved here. Conditions: none.
-/
import Derived.WalkKit
import Derived.KernelRfl
namespace Go.Sx

/-- What a slot or a cell holds. 'li', 'lb': written out; 'si', 'sb': a number, a truth value, whatever it is; 'ref', 'sl': into a block of the run's own, by its name. -/
inductive SV where
  | li (k : IntKind) (n : Int)
  | si (k : IntKind) (n : Int)
  | lb (b : Bool)
  | sb (b : Bool)
  | val (v : Value)
  | ref (b off : Nat)
  | sl (b off len cap : Nat)
  | agg (cs : List SV)
  | tup (vs : List SV)
  | clo (fn : Fn) (first caps : List SV)
  deriving Inhabited

mutual
def SV.den (ρ : Nat → Nat) : SV → Value
  | .li k n => .int k n
  | .si k n => .int k n
  | .lb b => .bool b
  | .sb b => .bool b
  | .val v => v
  | .ref b off => .pointer (some ⟨ρ b, off, none⟩)
  | .sl b off len cap => .slice (some ⟨ρ b, off, none⟩) len cap
  | .agg cs => .agg (SV.denL ρ cs).toArray
  | .tup vs => .tuple (SV.denL ρ vs).toArray
  | .clo fn first caps => .func fn (SV.denL ρ first).toArray (SV.denL ρ caps).toArray
def SV.denL (ρ : Nat → Nat) : List SV → List Value
  | [] => []
  | c :: r => SV.den ρ c :: SV.denL ρ r
end

mutual
/-- All names are below n. -/
def SV.low (n : Nat) : SV → Bool
  | .ref b _ => Nat.blt b n
  | .sl b _ _ _ => Nat.blt b n
  | .agg cs => SV.lowL n cs
  | .tup vs => SV.lowL n vs
  | .clo _ first caps => SV.lowL n first && SV.lowL n caps
  | _ => true
def SV.lowL (n : Nat) : List SV → Bool
  | [] => true
  | c :: r => SV.low n c && SV.lowL n r
end

inductive Slot where
  | unk
  | is (v : SV)
  | when (c : Bool) (v : SV)
  deriving Inhabited

def Slot.low (n : Nat) : Slot → Bool
  | .unk => true
  | .is v => v.low n
  | .when _ v => v.low n

def Slot.ok (ρ : Nat → Nat) : Slot → Value → Prop
  | .unk, _ => True
  | .is v, x => x = v.den ρ
  | .when c v, x => x = if c then v.den ρ else undef

structure Blk where
  cells : List SV
  ty : TypeId
  deriving Inhabited

abbrev Hp := List (Option Blk)

structure St where
  tmps : List Slot
  heap : Hp
  deriving Inhabited

def lowS (n : Nat) : List Slot → Bool
  | [] => true
  | s :: r => s.low n && lowS n r
def lowH (n : Nat) : Hp → Bool
  | [] => true
  | none :: r => lowH n r
  | some b :: r => SV.lowL n b.cells && lowH n r

inductive Tree (α : Type) where
  | ret (a : α)
  | need (p : Bool) (t : Tree α)
  | ite (b : Bool) (t e : Tree α)
  | bad (why : String)

namespace Tree
def bind {α β : Type} : Tree α → (α → Tree β) → Tree β
  | .ret a, f => f a
  | .need p t, f => .need p (t.bind f)
  | .ite b t e, f => .ite b (t.bind f) (e.bind f)
  | .bad w, _ => .bad w
def ok {α : Type} (Q : α → Prop) : Tree α → Prop
  | .ret a => Q a
  | .need p t => p = true ∧ t.ok Q
  | .ite b t e => (b = true → t.ok Q) ∧ (b = false → e.ok Q)
  | .bad _ => False
theorem ok_bind {α β : Type} {Q : β → Prop} {f : α → Tree β} : ∀ {t : Tree α}, (t.bind f).ok Q → t.ok (fun a => (f a).ok Q)
  | .ret _, h => h
  | .need _ _, h => ⟨h.1, ok_bind h.2⟩
  | .ite _ _ _, h => ⟨fun hb => ok_bind (h.1 hb), fun hb => ok_bind (h.2 hb)⟩
  | .bad _, h => h
theorem bind_ok {α β : Type} {Q : β → Prop} {f : α → Tree β} : ∀ {t : Tree α}, t.ok (fun a => (f a).ok Q) → (t.bind f).ok Q
  | .ret _, h => h
  | .need _ _, h => ⟨h.1, bind_ok h.2⟩
  | .ite _ _ _, h => ⟨fun hb => bind_ok (h.1 hb), fun hb => bind_ok (h.2 hb)⟩
  | .bad _, h => h
theorem ok_mono {α : Type} {Q Q' : α → Prop} (hq : ∀ a, Q a → Q' a) : ∀ {t : Tree α}, t.ok Q → t.ok Q'
  | .ret a, h => hq a h
  | .need _ _, h => ⟨h.1, ok_mono hq h.2⟩
  | .ite _ _ _, h => ⟨fun hb => ok_mono hq (h.1 hb), fun hb => ok_mono hq (h.2 hb)⟩
  | .bad _, h => h
theorem ok_some {α : Type} {Q : α → Prop} : ∀ {t : Tree α}, t.ok Q → ∃ a, Q a
  | .ret a, h => ⟨a, h⟩
  | .need _ _, h => ok_some h.2
  | .ite true _ _, h => ok_some (h.1 rfl)
  | .ite false _ _, h => ok_some (h.2 rfl)
  | .bad _, h => h.elim
end Tree

def orBad {α : Type} (why : String) : Option α → Tree α
  | some a => .ret a
  | none => .bad why
theorem orBad_ok {α : Type} {why : String} {Q : α → Prop} : ∀ {o : Option α}, (orBad why o).ok Q → ∃ a, o = some a ∧ Q a
  | some a, h => ⟨a, rfl, h⟩
  | none, h => h.elim

/-- A value of one cell, out of the text. -/
def ofCell : Value → SV
  | .int k n => .li k n
  | .bool b => .lb b
  | v => .val v
def ofConst : Value → SV
  | .int k n => .li k n
  | .bool b => .lb b
  | .agg cs => .agg (cs.toList.map ofCell)
  | v => .val v

def oneV : Value → Bool
  | .agg _ | .tuple _ => false
  | _ => true

/-- One cell holds it. -/
def SV.atom : SV → Bool
  | .li .. | .si .. | .lb _ | .sb _ | .ref .. | .sl .. | .clo .. => true
  | .val v => oneV v
  | _ => false

/-- Its cells. -/
def SV.flat : SV → Option (List SV)
  | .agg cs => some cs
  | v => if v.atom then some [v] else none

def aggT (P : Program) (t : TypeId) : Option Bool :=
  match P.underlying t with
  | some (.struct _) => some true
  | some (.array _ _) => some true
  | some _ => some false
  | none => none
def sizeT (P : Program) (t : TypeId) : Option Nat := (P.info? t).map (·.size)

/-- The part of a row of cells. -/
def partL (P : Program) (t : TypeId) (cs : List SV) (off : Nat) : Option SV :=
  match aggT P t with
  | some true => match sizeT P t with
    | some n => if Nat.ble (off + n) cs.length then some (.agg ((cs.drop off).take n)) else none
    | none => none
  | some false => cs[off]?
  | none => none

/-- Cells put over others. -/
def splice (cs : List SV) (off : Nat) (vs : List SV) : List SV := cs.take off ++ vs ++ cs.drop (off + vs.length)

def zeroL (P : Program) (t : TypeId) : Option (List SV) :=
  match P.info? t with
  | some i => match i.zero with
    | some z => some (z.cells.toList.map ofCell)
    | none => none
  | none => none

def fieldT (P : Program) (s : TypeId) (f : Nat) : Option Field :=
  match P.underlying s with
  | some (.struct fs) => fs[f]?
  | _ => none

def elemT (P : Program) (t : TypeId) : Option (Nat × TypeId × Nat) :=
  match P.underlying t with
  | some (.array len e) => match sizeT P e with
    | some n => some (len, e, n)
    | none => none
  | _ => none

/-- Is it a number? -/
def SV.int? : SV → Option (IntKind × Int)
  | .li k n => some (k, n)
  | .si k n => some (k, n)
  | _ => none
def SV.bool? : SV → Option Bool
  | .lb b => some b
  | .sb b => some b
  | _ => none

def bothLit : SV → SV → Bool
  | .li .., .li .. => true
  | _, _ => false
/-- A number that is written out is reckoned at once. -/
def litI (k : IntKind) : Int → SV
  | .ofNat 0 => .li k 0
  | .ofNat (m + 1) => .li k (.ofNat (m + 1))
  | .negSucc 0 => .li k (.negSucc 0)
  | .negSucc (m + 1) => .li k (.negSucc (m + 1))
def litB : Bool → SV
  | true => .lb true
  | false => .lb false
def mkI (lit : Bool) (k : IntKind) (n : Int) : SV := if lit then litI k n else .si k n
def mkB (lit : Bool) (b : Bool) : SV := if lit then litB b else .sb b

/-- The comparisons. -/
def cmpOf (op : BinOp) (a b : Int) : Option Bool :=
  match op with
  | .eql => some (a == b)
  | .neq => some (a != b)
  | .lss => some (decide (a < b))
  | .leq => some (decide (a ≤ b))
  | .gtr => some (decide (a > b))
  | .geq => some (decide (a ≥ b))
  | _ => none

/-- Arithmetic of one kind that cannot panic. -/
def arithOf (op : BinOp) (k : IntKind) (a b : Int) : Option Int :=
  match op with
  | .add => some (k.wrap (a + b))
  | .sub => some (k.wrap (a - b))
  | .mul => some (k.wrap (a * b))
  | .and => some (bits .and k a b)
  | .or => some (bits .or k a b)
  | .xor => some (bits .xor k a b)
  | .andNot => some (bits .andNot k a b)
  | _ => none

def intOp (op : BinOp) (lit : Bool) (k : IntKind) (a : Int) (y : SV) (b : Int) : Tree SV :=
  match arithOf op k a b with
  | some n => .ret (mkI lit k n)
  | none =>
    match op with
    | .quo => match y with
      | .li _ n => if n == 0 then .bad "division by nought" else .ret (mkI lit k (k.wrap (a.tdiv n)))
      | _ => .bad "division"
    | .rem => match y with
      | .li _ n => if n == 0 then .bad "division by nought" else .ret (mkI lit k (a.tmod n))
      | _ => .need (!(b == 0)) (.ret (mkI lit k (a.tmod b)))
    | _ => match cmpOf op a b with
      | some r => .ret (mkB lit r)
      | none => .bad "an operation on integers"

/-- Are two cells the same, by their type? -/
def eqCell (P : Program) (t : TypeId) (x y : SV) : Option Bool :=
  match P.underlying t with
  | some (.int _) => match x.int?, y.int? with
    | some (k, a), some (k', b) => if k = k' then some (a == b) else none
    | _, _ => none
  | some .bool => match x.bool?, y.bool? with
    | some a, some b => some (a == b)
    | _, _ => none
  | some .string => match x, y with
    | .val (.string a), .val (.string b) => some (a == b)
    | _, _ => none
  | some (.pointer _) => match x, y with
    | .val (.pointer none), .val (.pointer b) => some b.isNone
    | .val (.pointer (some _)), .val (.pointer none) => some false
    | .ref _ _, .val (.pointer none) => some false
    | .val (.pointer none), .ref _ _ => some false
    | _, _ => none
  | some (.slice _) => match x, y with
    | .val (.slice none _ _), .val (.slice b _ _) => some b.isNone
    | .val (.slice (some _) _ _), .val (.slice none _ _) => some false
    | .sl .., .val (.slice none _ _) => some false
    | .val (.slice none _ _), .sl .. => some false
    | _, _ => none
  | some (.map _ _) => match x, y with
    | .val (.map none), .val (.map b) => some b.isNone
    | .val (.map (some _)), .val (.map none) => some false
    | _, _ => none
  | some (.chan _ _) => match x, y with
    | .val (.chan a), .val (.chan b) => some (a == b)
    | _, _ => none
  | some (.func _ _ _) => match x, y with
    | .val .nilFunc, .val .nilFunc => some true
    | .val .nilFunc, .clo .. => some false
    | .clo .., .val .nilFunc => some false
    | _, _ => none
  | _ => none

/-- The same of structs and arrays. 'none': not known. -/
def eqSV (P : Program) : Nat → TypeId → SV → SV → Option Bool
  | 0, _, _, _ => none
  | d + 1, t, x, y =>
    match P.underlying t, x, y with
    | some (.struct fs), .agg xs, .agg ys => if P.stoodInHeld t then none else eqFields P (eqSV P d) xs ys fs.toList
    | some (.array len e), .agg xs, .agg ys => match sizeT P e with
      | some n => eqElems P (eqSV P d) e n xs ys len 0
      | none => none
    | _, _, _ => eqCell P t x y
where
  eqFields (P : Program) (rec : TypeId → SV → SV → Option Bool) (xs ys : List SV) : List Field → Option Bool
    | [] => some true
    | f :: fs =>
      if f.name == "_" then eqFields P rec xs ys fs else
      match partL P f.type xs f.offset, partL P f.type ys f.offset with
      | some a, some b => match rec f.type a b, eqFields P rec xs ys fs with
        | some r, some s => some (r && s)
        | _, _ => none
      | _, _ => none
  eqElems (P : Program) (rec : TypeId → SV → SV → Option Bool) (e : TypeId) (n : Nat) (xs ys : List SV) : Nat → Nat → Option Bool
    | 0, _ => some true
    | len + 1, i =>
      match partL P e xs (i * n), partL P e ys (i * n) with
      | some a, some b => match rec e a b, eqElems P rec e n xs ys len (i + 1) with
        | some r, some s => some (r && s)
        | _, _ => none
      | _, _ => none

def litAtom : SV → Bool
  | .li .. | .lb _ | .ref .. | .sl .. | .clo .. => true
  | .val _ => true
  | _ => false
def litAll : SV → Bool
  | .agg cs => cs.all litAtom
  | v => litAtom v

/-- Two operands. -/
def binSV (P : Program) (op : BinOp) (t : TypeId) (x y : SV) : Tree SV :=
  match x.int?, y.int? with
  | some (k, a), some (k', b) =>
    if k = k' then
      match op with
      | .shl | .shr => .bad "a shift"
      | _ => intOp op (bothLit x y) k a y b
    else .bad "kinds"
  | _, _ =>
    match x, y with
    | .val (.string a), .val (.string b) =>
      match op with
      | .eql => .ret (.sb (a.toList == b.toList))
      | .neq => .ret (.sb (!(a.toList == b.toList)))
      | _ => .bad "an operation on texts"
    | _, _ =>
      if P.eqGuardType P.depth t then .bad "interfaces held against each other" else
      match op with
      | .eql => match eqSV P 60 t x y with
        | some r => .ret (mkB (litAll x && litAll y) r)
        | none => .bad "=="
      | .neq => match eqSV P 60 t x y with
        | some r => .ret (mkB (litAll x && litAll y) (!r))
        | none => .bad "!="
      | _ => .bad "an operation"

def unSV (op : UnOp) (x : SV) : Tree SV :=
  match op, x with
  | .not, .lb b => .ret (litB (!b))
  | .not, .sb b => .ret (.sb (!b))
  | .neg, .li k n => .ret (litI k (k.wrap (0 - n)))
  | .neg, .si k n => .ret (.si k (k.wrap (0 - n)))
  | .xor, .li k n => .ret (litI k (bits .xor k (if k.signed then -1 else k.max) n))
  | .xor, .si k n => .ret (.si k (bits .xor k (if k.signed then -1 else k.max) n))
  | _, _ => .bad "an operation on one"

/-- What one of two is. -/
def merge (c : Bool) (x y : SV) : Tree SV :=
  match x.bool?, y.bool? with
  | some a, some b => .ret (.sb (bif c then a else b))
  | _, _ => match x.int?, y.int? with
    | some (k, a), some (k', b) => if k = k' then .ret (.si k (bif c then a else b)) else .bad "merge"
    | _, _ => .bad "merge"

/-- Parts put into a struct or an array. -/
def fillL (place : Nat → Option (Nat × Nat)) (cells : List SV) : List (Nat × SV) → Option (List SV)
  | [] => some cells
  | (i, v) :: rest =>
    match place i, v.flat with
    | some (off, size), some vs =>
      if vs.length == size && Nat.ble (off + vs.length) cells.length && vs.all SV.atom then fillL place (splice cells off vs) rest else none
    | _, _ => none

def placesT (P : Program) (t : TypeId) : Option (Nat → Option (Nat × Nat)) :=
  match P.underlying t with
  | some (.struct fs) => match fs.toList.mapM (fun f => (P.info? f.type).map fun i => (f.offset, i.size)) with
    | some l => some fun i => l[i]?
    | none => none
  | some (.array _ e) => match sizeT P e with
    | some n => some fun i => some (i * n, n)
    | none => none
  | _ => none

def evs {α : Type} (ev : α → Tree SV) : List α → Tree (List SV)
  | [] => .ret []
  | x :: r => (ev x).bind fun v => (evs ev r).bind fun vs => .ret (v :: vs)
def evsP (ev : Operand → Tree SV) : List (Nat × Operand) → Tree (List (Nat × SV))
  | [] => .ret []
  | (i, x) :: r => (ev x).bind fun v => (evsP ev r).bind fun vs => .ret ((i, v) :: vs)

def loadH (P : Program) (H : Hp) (t : TypeId) (b off : Nat) : Tree SV :=
  match H[b]? with
  | some (some blk) => orBad "load" (partL P t blk.cells off)
  | _ => .bad "load: no such block"

/-- An index: written out, or one of few. 'f': what is done at each. -/
def indexTree {α : Type} (f : Nat → Tree α) (len : Nat) : SV → Tree α
  | .li _ n => if decide (0 ≤ n) && decide (n < (len : Int)) then f n.toNat else .bad "an index out of range"
  | .si _ n => .need (decide (0 ≤ n) && decide (n < (len : Int))) (go f len n len)
  | _ => .bad "an index"
where
  go (f : Nat → Tree α) (len : Nat) (n : Int) : Nat → Tree α
    | 0 => .bad "an index"
    | 1 => f (len - 1)
    | m + 2 => .ite (decide (n = ((len - (m + 2) : Nat) : Int))) (f (len - (m + 2))) (go f len n (m + 1))

/-- len. -/
def lenSV (P : Program) (t : TypeId) (x : SV) : Tree SV :=
  match P.underlying t, x with
  | some (.slice _), .sl _ _ n _ => .ret (litI .i64 (n : Int))
  | some (.slice _), .val (.slice _ n _) => .ret (.si .i64 (n : Int))
  | some .string, .val (.string s) => .ret (.si .i64 (s.size : Int))
  | some (.array n _), _ => .ret (litI .i64 (n : Int))
  | _, _ => .bad "len"

def pickN (mx : Bool) (a b : Int) : Int := match mx with | true => if b > a then b else a | false => if b < a then b else a
/-- min, max of integers. -/
def pickI (mx : Bool) (lit : Bool) (x y : SV) : Tree SV :=
  match x.int?, y.int? with
  | some (k, a), some (_, b) => .ret (mkI lit k (pickN mx a b))
  | _, _ => .bad "min, max"
def foldI (mx : Bool) (x : SV) : List SV → Tree SV
  | [] => .ret x
  | y :: r => (pickI mx (bothLit x y) x y).bind fun z => foldI mx z r

/-- An operation that turns nothing in memory. -/
def pureOp (P : Program) (ev : Bool → Operand → Tree SV) (pc : Bool) (H : Hp) (o : Op) : Tree SV :=
  match o with
  | .move x => ev pc x
  | .assign x => ev pc x
  | .pick c a b => (ev pc c).bind fun
    | .lb true => ev pc a
    | .lb false => ev pc b
    | .sb q => (ev (pc && q) a).bind fun va => (ev (pc && !q) b).bind fun vb => merge q va vb
    | _ => .bad "pick"
  | .build t parts => (evsP (ev pc) parts.toList).bind fun vs =>
    match zeroL P t, placesT P t with
    | some z, some pl => orBad "build" ((fillL pl z vs).map .agg)
    | _, _ => .bad "build: the type"
  | .load t x => (ev pc x).bind fun
    | .ref b off => loadH P H t b off
    | _ => .bad "load: an address"
  | .nilCheck x => (ev pc x).bind fun
    | .ref b off => .ret (.ref b off)
    | .clo (.func f) first caps => .ret (.clo (.func f) first caps)
    | _ => .bad "nilCheck"
  | .binOp op t x y _ => (ev pc x).bind fun vx => (ev pc y).bind fun vy => binSV P op t vx vy
  | .unOp op _ x => (ev pc x).bind fun vx => unSV op vx
  | .convert src dst x => (ev pc x).bind fun vx =>
    match P.underlying src, P.underlying dst, vx with
    | some (.int _), some (.int k), .li _ n => .ret (litI k (k.wrap n))
    | some (.int _), some (.int k), .si _ n => .ret (.si k (k.wrap n))
    | _, _, _ => .bad "convert"
  | .makeFunc fn first caps => (evs (ev pc) first.toList).bind fun fs => (evs (ev pc) caps.toList).bind fun cs => .ret (.clo fn fs cs)
  | .fieldAddr s x f => (ev pc x).bind fun
    | .ref b off => match fieldT P s f with
      | some fd => match sizeT P fd.type with
        | some n => if n == 0 then .bad "fieldAddr: no cells" else .ret (.ref b (off + fd.offset))
        | none => .bad "fieldAddr"
      | none => .bad "fieldAddr"
    | _ => .bad "fieldAddr: an address"
  | .field t x f => (ev pc x).bind fun
    | .agg cs => match fieldT P t f with
      | some fd => orBad "field" (partL P fd.type cs fd.offset)
      | none => .bad "field"
    | _ => .bad "field: a struct"
  | .indexAddr t x i => (ev pc x).bind fun
    | .ref b off => match elemT P t with
      | some (len, _, n) => (ev pc i).bind fun vi => indexTree (fun j => .ret (.ref b (off + j * n))) len vi
      | none => .bad "indexAddr: an array"
    | .sl b off len _ => match P.underlying t with
      | some (.slice e) => match sizeT P e with
        | some n => (ev pc i).bind fun vi => indexTree (fun j => .ret (.ref b (off + j * n))) len vi
        | none => .bad "indexAddr: a slice"
      | _ => .bad "indexAddr: a slice"
    | _ => .bad "indexAddr: an address"
  | .index t x i => (ev pc x).bind fun
    | .agg cs => match elemT P t with
      | some (len, e, n) => (ev pc i).bind fun vi => indexTree (fun j => orBad "index" (partL P e cs (j * n))) len vi
      | none => .bad "index: an array"
    | _ => .bad "index: an array"
  | .extract x i => (ev pc x).bind fun
    | .tup vs => orBad "extract" vs[i]?
    | _ => .bad "extract"
  | .call { callee := .builtin .len, args, argTypes } => match args.toList, argTypes[0]? with
    | x :: _, some t => (ev pc x).bind (lenSV P t)
    | _, _ => .bad "len"
  | .call { callee := .builtin .min, args, argTypes := _ } => (evs (ev pc) args.toList).bind fun
    | x :: r => foldI false x r
    | [] => .bad "min"
  | .call { callee := .builtin .max, args, argTypes := _ } => (evs (ev pc) args.toList).bind fun
    | x :: r => foldI true x r
    | [] => .bad "max"
  | _ => .bad "an operation that is not taken"

end Go.Sx
namespace Go.Sx

inductive Eff where
  | none
  | new (b : Blk)
  | upd (k : Nat) (b : Blk)
  | all (H : Hp)
  deriving Inhabited

inductive Guard where
  | yes
  | no
  | on (pc : Bool)

def pol (want b : Bool) : Bool := match want with | true => b | false => !b

def guardOf (ops : Array Oper) (st : List Slot) (o : Oper) : Option Guard :=
  match o.guard with
  | none => some .yes
  | some (j, want) =>
    match (ops[j]?).bind (·.dst) with
    | some d => match st[d]? with
      | some (.is (.lb b)) => some (if b == want then .yes else .no)
      | some (.is (.sb b)) => some (.on (pol want b))
      | some (.when c (.lb b)) => some (.on (c && pol want b))
      | some (.when c (.sb b)) => some (.on (c && pol want b))
      | _ => none
    | none => none

/-- An operand. -/
def evS (st : List Slot) (pc : Bool) : Operand → Tree SV
  | .const v => .ret (ofConst v)
  | .func f => .ret (.clo (.func f) [] [])
  | .global _ => .bad "a package's variable"
  | .tmp t => match st[t]? with
    | some (.is v) => .ret v
    | some (.when c v) => .need (!pc || c) (.ret v)
    | _ => .bad "a slot that holds nothing"

abbrev Spec := List SV → Option (Bool × SV)
abbrev Specs := FuncId → Option Spec
abbrev CallE := FuncId → List SV → Hp → Tree (SV × Hp)

/-- What the contracts say of a call; 'none': nothing, the call is entered. -/
def trySpec (specs : Specs) (f : FuncId) (args : List SV) : Option (Bool × SV) :=
  match specs f with
  | some s => s args
  | none => none

/-- An operation whose guard says yes; 'nm': the name of a block that it makes. -/
def opE (P : Program) (call : CallE) (ev : Bool → Operand → Tree SV) (H : Hp) (nm : Nat) (o : Op) : Tree (SV × Eff) :=
  match o with
  | .alloc t => match zeroL P t with
    | some z => .ret (.ref nm 0, .new ⟨z, t⟩)
    | none => .bad "alloc"
  | .box t x => (ev true x).bind fun v => match v.flat with
    | some cs => .ret (.ref nm 0, .new ⟨cs, t⟩)
    | none => .bad "box"
  | .store t x y => (ev true x).bind fun
    | .ref b off => (ev true y).bind fun v => match v.flat, sizeT P t, H[b]? with
      | some vs, some n, some (some blk) =>
        if vs.length == n && Nat.ble (off + vs.length) blk.cells.length && vs.all SV.atom then .ret (.tup [], .upd b ⟨splice blk.cells off vs, blk.ty⟩) else .bad "store"
      | _, _, _ => .bad "store: the block"
    | _ => .bad "store: an address"
  | .buildSlice t len parts => (evsP (ev true) parts.toList).bind fun vs =>
    match P.underlying t with
    | some (.slice e) => match sizeT P e, zeroL P e with
      | some n, some z =>
        if Nat.ble (len * n) 16777216 && !(len * n == 0) && z.length == n then
          match fillL (fun i => some (i * n, n)) ((List.replicate len z).flatten) vs with
          | some cs => .ret (.sl nm 0 len len, .new ⟨cs, e⟩)
          | none => .bad "buildSlice"
        else .bad "buildSlice: its size"
      | _, _ => .bad "buildSlice"
    | _ => .bad "buildSlice"
  | .call { callee := .value f, args, argTypes := _ } => (ev true f).bind fun
    | .clo (.func k) first caps => (evs (ev true) args.toList).bind fun as => (call k (first ++ as ++ caps) H).bind fun r => .ret (r.1, .all r.2)
    | _ => .bad "call"
  | o => (pureOp P ev true H o).bind fun v => .ret (v, .none)

def isPure : Op → Bool
  | .alloc _ | .box .. | .store .. | .call .. | .buildSlice .. => false
  | _ => true

def putS (st : List Slot) (dst : Option Tmp) (s : Slot) : List Slot :=
  match dst with
  | some d => st.set d s
  | none => st

def isStore : Op → Bool
  | .store .. => true
  | _ => false

def applyE (o : Oper) (st : St) : SV × Eff → Tree St
  | (v, .none) => .ret { st with tmps := putS st.tmps o.dst (.is v) }
  | (v, .new b) =>
    if lowS st.heap.length st.tmps && lowH st.heap.length st.heap && SV.lowL st.heap.length b.cells then .ret { tmps := putS st.tmps o.dst (.is v), heap := st.heap ++ [some b] } else .bad "names"
  | (_, .upd k b) => .ret { tmps := putS st.tmps o.dst .unk, heap := st.heap.set k (some b) }
  | (v, .all H) => if lowS st.heap.length st.tmps then .ret { tmps := putS st.tmps o.dst (.is v), heap := H } else .bad "names"

/-- One operation, in the order of the text. -/
def stepE (P : Program) (call : CallE) (specs : Specs) (ops : Array Oper) (o : Oper) (st : St) : Tree St :=
  match guardOf ops st.tmps o with
  | none => .bad "guard"
  | some .no => .ret { st with tmps := putS st.tmps o.dst .unk }
  | some .yes => (opE P call (evS st.tmps) st.heap st.heap.length o.op).bind (applyE o st)
  | some (.on pc) =>
    if isPure o.op then (pureOp P (evS st.tmps) pc st.heap o.op).bind fun v => .ret { st with tmps := putS st.tmps o.dst (.when pc v) }
    else match o.op with
      | .call { callee := .value (.func k), args, argTypes := _ } => (evs (evS st.tmps pc) args.toList).bind fun as => match trySpec specs k as with
        | some (pre, r) => .need (!pc || pre) (.ret { st with tmps := putS st.tmps o.dst (.when pc r) })
        | none => .ite pc ((opE P call (evS st.tmps) st.heap st.heap.length o.op).bind (applyE o st)) (.ret { st with tmps := putS st.tmps o.dst .unk })
      | _ => .ite pc ((opE P call (evS st.tmps) st.heap st.heap.length o.op).bind (applyE o st)) (.ret { st with tmps := putS st.tmps o.dst .unk })

def stepsE (P : Program) (call : CallE) (specs : Specs) (ops : Array Oper) : List Oper → St → Tree St
  | [], st => .ret st
  | o :: r, st => (stepE P call specs ops o st).bind (stepsE P call specs ops r)

inductive Ex where
  | normal
  | exit (id : Nat)
  | ret

def loopE (body : St → Tree (Ex × St)) : Nat → St → Tree (Ex × St)
  | 0, _ => .bad "a loop: more rounds"
  | n + 1, st => (body st).bind fun
    | (.normal, st') => loopE body n st'
    | r => .ret r

def execE (P : Program) (call : CallE) (specs : Specs) (drawn : Array Oper → St → Tree St) (rounds : Nat) : Code → St → Tree (Ex × St)
  | .skip => fun st => .ret (.normal, st)
  | .region _ ops false => fun st => (stepsE P call specs ops ops.toList st).bind fun st' => .ret (.normal, st')
  | .region _ ops true => fun st => (drawn ops st).bind fun st' => .ret (.normal, st')
  | .seq a b => fun st => (execE P call specs drawn rounds a st).bind fun
    | (.normal, st') => execE P call specs drawn rounds b st'
    | r => .ret r
  | .cond c t e => fun st => (evS st.tmps true c).bind fun
    | .lb true => execE P call specs drawn rounds t st
    | .lb false => execE P call specs drawn rounds e st
    | .sb b => .ite b (execE P call specs drawn rounds t st) (execE P call specs drawn rounds e st)
    | _ => .bad "cond"
  | .block id c => fun st => (execE P call specs drawn rounds c st).bind fun
    | (.exit id', st') => if id' == id then .ret (.normal, st') else .ret (.exit id', st')
    | r => .ret r
  | .loop body => fun st => loopE (execE P call specs drawn rounds body) rounds st
  | .exit id => fun st => .ret (.exit id, st)
  | .ret => fun st => .ret (.ret, st)
  | _ => fun _ => .bad "code that is not taken"

/-- The results, read as the function ends. -/
def resultsE (P : Program) (st : St) : List ResultVar → Tree (List SV)
  | [] => .ret []
  | .tmp t :: r => (evS st.tmps true (.tmp t)).bind fun v => (resultsE P st r).bind fun vs => .ret (v :: vs)
  | .cell a t :: r => (evS st.tmps true (.tmp a)).bind fun
    | .ref b off => (loadH P st.heap t b off).bind fun v => (resultsE P st r).bind fun vs => .ret (v :: vs)
    | _ => .bad "results"

def oneOf : List SV → SV
  | [v] => v
  | vs => .tup vs

def callE (P : Program) (specs : Specs) (drawn : CallE → Array Oper → St → Tree St) (rounds : Nat) : Nat → CallE
  | 0, _, _, _ => .bad "calls: deeper"
  | d + 1, f, args, H =>
    match trySpec specs f args with
    | some (pre, r) => .need pre (.ret (r, H))
    | none =>
      match P.funcs[f]? with
      | some fn => match fn.body with
        | some c =>
          if fn.name == "runtime.NumGoroutine" then .bad "call" else
          (execE P (callE P specs drawn rounds d) specs (drawn (callE P specs drawn rounds d)) rounds c
            { tmps := args.map .is ++ List.replicate (fn.ntmps - args.length) .unk, heap := H }).bind fun x =>
            match x.1 with
            | .exit _ => .bad "call: its end"
            | _ => (resultsE P x.2 fn.results.toList).bind fun vs =>
              .ret (oneOf vs, if (oneOf vs).low H.length && lowH H.length (x.2.heap.take H.length) && Nat.ble H.length x.2.heap.length then x.2.heap.take H.length else x.2.heap)
        | none => .bad "call: no body"
      | none => .bad "call: no such function"

end Go.Sx
