/-
  The run's steps over values and blocks: operations, regions, code, calls ('pureOp', 'opE', 'execE', 'callE'): the definitions.
  No statement of the seat is proved here. Conditions: none.
-/
import Derived.Test.YtmokkonnilmdfaaY1
set_option linter.unusedSimpArgs false
set_option linter.unusedVariables false
namespace Go.Sy

/-! ### 1. Numbers, texts, what is held against each other -/

def cmpOf (op : BinOp) (a b : Int) : Option Bool :=
  match op with
  | .eql => some (a == b)
  | .neq => some (a != b)
  | .lss => some (decide (a < b))
  | .leq => some (decide (a ≤ b))
  | .gtr => some (decide (a > b))
  | .geq => some (decide (a ≥ b))
  | _ => none

/-- Arithmetic of one kind that cannot panic. -/
def arithOf (op : BinOp) (k : IntKind) (a b : Int) : Option Int :=
  match op with
  | .add => some (k.wrap (a + b))
  | .sub => some (k.wrap (a - b))
  | .mul => some (k.wrap (a * b))
  | .and => some (bits .and k a b)
  | .or => some (bits .or k a b)
  | .xor => some (bits .xor k a b)
  | .andNot => some (bits .andNot k a b)
  | _ => none

def intOp (op : BinOp) (lit : Bool) (k : IntKind) (a : Int) (y : SV) (b : Int) : Tree SV :=
  match arithOf op k a b with
  | some n => .ret (mkI lit k n)
  | none =>
    match op with
    | .quo => match y with
      | .li _ n => match n == 0 with
        | true => .bad "division by nought"
        | false => .ret (mkI lit k (k.wrap (a.tdiv n)))
      | _ => .need (!(b == 0)) (.ret (mkI lit k (k.wrap (a.tdiv b))))
    | .rem => match y with
      | .li _ n => match n == 0 with
        | true => .bad "division by nought"
        | false => .ret (mkI lit k (a.tmod n))
      | _ => .need (!(b == 0)) (.ret (mkI lit k (a.tmod b)))
    | _ => match cmpOf op a b with
      | some r => .ret (mkB lit r)
      | none => .bad "an operation on integers"

/-- Are two cells the same, by their type? -/
def eqCell (T : Tab) (t : TypeId) (x y : SV) : Option Bool :=
  match T.underlying t with
  | some (.int _) => match x.int?, y.int? with
    | some (k, a), some (k', b) => match kbeq k k' with
      | true => some (a == b)
      | false => none
    | _, _ => none
  | some .bool => match x.bool?, y.bool? with
    | some a, some b => some (a == b)
    | _, _ => none
  | some .string => match x, y with
    | .str a, .str b => some (a == b)
    | _, _ => none
  | some (.pointer _) => match x, y with
    | .val (.pointer none), .val (.pointer b) => some b.isNone
    | .val (.pointer (some _)), .val (.pointer none) => some false
    | .ref _ _, .val (.pointer none) => some false
    | .val (.pointer none), .ref _ _ => some false
    | _, _ => none
  | some (.slice _) => match x, y with
    | .val (.slice none _ _), .val (.slice b _ _) => some b.isNone
    | .val (.slice (some _) _ _), .val (.slice none _ _) => some false
    | .sl .., .val (.slice none _ _) => some false
    | .val (.slice none _ _), .sl .. => some false
    | .emp nl, .val (.slice none _ _) => some nl
    | .val (.slice none _ _), .emp nl => some nl
    | .lst _ nl _, .val (.slice none _ _) => some nl
    | .val (.slice none _ _), .lst _ nl _ => some nl
    | _, _ => none
  | some (.map _ _) => match x, y with
    | .val (.map none), .val (.map b) => some b.isNone
    | .val (.map (some _)), .val (.map none) => some false
    | .mp _, .val (.map none) => some false
    | _, _ => none
  | some (.chan _ _) => match x, y with
    | .val (.chan a), .val (.chan b) => some (a == b)
    | _, _ => none
  | some (.func _ _ _) => match x, y with
    | .val .nilFunc, .val .nilFunc => some true
    | .val .nilFunc, .clo .. => some false
    | .clo .., .val .nilFunc => some false
    | _, _ => none
  | _ => none

/-- The same of structs and arrays. 'none': not known. -/
def eqSV (T : Tab) : Nat → TypeId → SV → SV → Option Bool
  | 0, _, _, _ => none
  | d + 1, t, x, y =>
    match T.underlying t, x, y with
    | some (.struct fs), .agg xs, .agg ys => match T.stoodInHeld t with
      | true => none
      | false => eqFields T (eqSV T d) xs ys fs.toList
    | some (.array len e), .agg xs, .agg ys => match sizeT T e with
      | some n => eqElems T (eqSV T d) e n xs ys len 0
      | none => none
    | _, _, _ => eqCell T t x y
where
  eqFields (T : Tab) (rec : TypeId → SV → SV → Option Bool) (xs ys : List SV) : List Field → Option Bool
    | [] => some true
    | f :: fs =>
      match f.name == "_" with
      | true => eqFields T rec xs ys fs
      | false =>
      match partL T f.type xs f.offset, partL T f.type ys f.offset with
      | some a, some b => match rec f.type a b, eqFields T rec xs ys fs with
        | some r, some s => some (r && s)
        | _, _ => none
      | _, _ => none
  eqElems (T : Tab) (rec : TypeId → SV → SV → Option Bool) (e : TypeId) (n : Nat) (xs ys : List SV) : Nat → Nat → Option Bool
    | 0, _ => some true
    | len + 1, i =>
      match partL T e xs (i * n), partL T e ys (i * n) with
      | some a, some b => match rec e a b, eqElems T rec e n xs ys len (i + 1) with
        | some r, some s => some (r && s)
        | _, _ => none
      | _, _ => none

/-- A key may be held against others: no interface is in it. -/
def chkKey (T : Tab) : Nat → TypeId → SV → Bool
  | 0, _, _ => false
  | d + 1, t, x =>
    match T.underlying t with
    | some (.interface _) => false
    | some (.struct fs) => match x with
      | .agg cs => fields (chkKey T d) cs fs.toList
      | _ => false
    | some (.array len e) => match x, sizeT T e with
      | .agg cs, some n => elems (chkKey T d) e n cs len 0
      | _, _ => false
    | some _ => x.atom
    | none => false
where
  fields (rec : TypeId → SV → Bool) (cs : List SV) : List Field → Bool
    | [] => true
    | f :: fs => match f.name == "_" with
      | true => fields rec cs fs
      | false => match partL T f.type cs f.offset with
        | some a => rec f.type a && fields rec cs fs
        | none => false
  elems (rec : TypeId → SV → Bool) (e : TypeId) (n : Nat) (cs : List SV) : Nat → Nat → Bool
    | 0, _ => true
    | len + 1, i => match partL T e cs (i * n) with
      | some a => rec e a && elems rec e n cs len (i + 1)
      | none => false

def litAtom : SV → Bool
  | .li .. | .lb _ | .ref .. | .sl .. | .clo .. => true
  | .val _ => true
  | _ => false
def litAll : SV → Bool
  | .agg cs => cs.all litAtom
  | v => litAtom v

/-- Two texts. -/
def strOp (op : BinOp) (a b : List UInt8) : Tree SV :=
  match op with
  | .eql => .ret (.sb (a == b))
  | .neq => .ret (.sb (!(a == b)))
  | .add => .need (decide (((a ++ b).length : Int) ≤ IntKind.i64.max)) (.ret (.str (a ++ b)))
  | _ => .bad "an operation on texts"

/-- Two operands. -/
def binSV (T : Tab) (op : BinOp) (t : TypeId) (x y : SV) : Tree SV :=
  match x.int?, y.int? with
  | some (k, a), some (k', b) =>
    match op, y with
    | .shl, .li _ n => match decide (0 ≤ n) with
      | true => .ret (mkI (bothLit x y) k (k.wrap (a * 2 ^ (min n.toNat k.bits))))
      | false => .bad "a shift"
    | .shr, .li _ n => match decide (0 ≤ n) with
      | true => .ret (mkI (bothLit x y) k (a.fdiv (2 ^ (min n.toNat k.bits))))
      | false => .bad "a shift"
    | .shl, _ => .bad "a shift"
    | .shr, _ => .bad "a shift"
    | _, _ => match kbeq k k' with
      | true => intOp op (bothLit x y) k a y b
      | false => .bad "kinds"
  | _, _ =>
    match x, y with
    | .str a, .str b => strOp op a b
    | _, _ =>
      match T.eqG t with
      | true => .bad "interfaces held against each other"
      | false =>
      match op with
      | .eql => match eqSV T 60 t x y with
        | some r => .ret (mkB (litAll x && litAll y) r)
        | none => .bad "=="
      | .neq => match eqSV T 60 t x y with
        | some r => .ret (mkB (litAll x && litAll y) (!r))
        | none => .bad "!="
      | _ => .bad "an operation"

def unSV (op : UnOp) (x : SV) : Tree SV :=
  match op, x with
  | .not, .lb b => .ret (litB (!b))
  | .not, .sb b => .ret (.sb (!b))
  | .neg, .li k n => .ret (litI k (k.wrap (0 - n)))
  | .neg, .si k n => .ret (.si k (k.wrap (0 - n)))
  | .xor, .li k n => .ret (litI k (bits .xor k (if k.signed then -1 else k.max) n))
  | .xor, .si k n => .ret (.si k (bits .xor k (if k.signed then -1 else k.max) n))
  | _, _ => .bad "an operation on one"

/-- What one of two is. -/
def merge (c : Bool) (x y : SV) : Tree SV :=
  match x.bool?, y.bool? with
  | some a, some b => .ret (.sb (bif c then a else b))
  | _, _ => match x.int?, y.int? with
    | some (k, a), some (k', b) => match kbeq k k' with
      | true => .ret (.si k (bif c then a else b))
      | false => .bad "merge"
    | _, _ => .bad "merge"

/-- Parts put into a struct or an array. -/
def fillL (place : Nat → Option (Nat × Nat)) (cells : List SV) : List (Nat × SV) → Option (List SV)
  | [] => some cells
  | (i, v) :: rest =>
    match place i, v.flat with
    | some (off, size), some vs =>
      match vs.length == size && Nat.ble (off + vs.length) cells.length && vs.all SV.atom with
      | true => fillL place (splice cells off vs) rest
      | false => none
    | _, _ => none

def placesT (T : Tab) (t : TypeId) : Option (Nat → Option (Nat × Nat)) :=
  match T.underlying t with
  | some (.struct fs) => match fs.toList.mapM (fun f => (sizeT T f.type).map fun n => (f.offset, n)) with
    | some l => some fun i => l[i]?
    | none => none
  | some (.array _ e) => match sizeT T e with
    | some n => some fun i => some (i * n, n)
    | none => none
  | _ => none

def evs {α : Type} (ev : α → Tree SV) : List α → Tree (List SV)
  | [] => .ret []
  | x :: r => (ev x).bind fun v => (evs ev r).bind fun vs => .ret (v :: vs)
def evsP (ev : Operand → Tree SV) : List (Nat × Operand) → Tree (List (Nat × SV))
  | [] => .ret []
  | (i, x) :: r => (ev x).bind fun v => (evsP ev r).bind fun vs => .ret ((i, v) :: vs)

/-! ### 2. Memory -/

def loadV (T : Tab) (H : Hp) (t : TypeId) : SV → Tree SV
  | .ref b off => match hget H b with
    | some ⟨.cells cs, _, _⟩ => orBad "load" (partL T t cs off)
    | _ => .bad "load: no such block"
  | .rref b sz i off => match hget H b with
    | some ⟨.rows e _ xs, _, _⟩ => match Nat.beq sz e.size with
      | true => orBad "load" (rowPart T t e (xs.getD i default) off)
      | false => .bad "load"
    | _ => .bad "load: no such block"
  | .lref e xs i off => orBad "load" (rowPart T t e (xs.getD i default) off)
  | _ => .bad "load: an address"

/-- An index: written out, or one of few. 'f': what is done at each. -/
def indexTree {α : Type} (f : Nat → Tree α) (len : Nat) : SV → Tree α
  | .li _ n => match decide (0 ≤ n) && decide (n < (len : Int)) with
    | true => f n.toNat
    | false => .bad "an index out of range"
  | .si _ n => .need (decide (0 ≤ n) && decide (n < (len : Int))) (go f len n len)
  | _ => .bad "an index"
where
  go (f : Nat → Tree α) (len : Nat) (n : Int) : Nat → Tree α
    | 0 => .bad "an index"
    | 1 => f (len - 1)
    | m + 2 => .ite (decide (n = ((len - (m + 2) : Nat) : Int))) (f (len - (m + 2))) (go f len n (m + 1))

/-- An index into a list. -/
def indexL {α : Type} (f : Nat → Tree α) (xs : List D) (i : SV) : Tree α :=
  match i.int? with
  | some (_, n) => .need (decide (0 ≤ n) && decide (n < (xs.length : Int))) (f n.toNat)
  | none => .bad "an index"

/-- len. -/
def lenSV (T : Tab) (H : Hp) (t : TypeId) (x : SV) : Tree SV :=
  match T.underlying t, x with
  | some (.slice _), .sl _ _ n _ => .ret (litI .i64 (n : Int))
  | some (.slice _), .val (.slice none n _) => .ret (litI .i64 (n : Int))
  | some (.slice _), .lst _ _ xs => .ret (.si .i64 (xs.length : Int))
  | some (.slice _), .own b => match hget H b with
    | some ⟨.rows _ _ xs, _, _⟩ => .ret (.si .i64 (xs.length : Int))
    | _ => .bad "len"
  | some (.slice _), .osl _ _ lo hi => .ret (.si .i64 ((hi - lo : Nat) : Int))
  | some (.slice _), .emp _ => .ret (.li .i64 0)
  | some .string, .str s => .ret (.si .i64 (s.length : Int))
  | some (.array n _), _ => .ret (litI .i64 (n : Int))
  | some (.map _ _), .mp b => match hget H b with
    | some ⟨.mapc _ _ es, _, _⟩ => .ret (.si .i64 (es.length : Int))
    | _ => .bad "len: a map"
  | some (.map _ _), .val (.map none) => .ret (.li .i64 0)
  | _, _ => .bad "len"

/-- What is found; whether it is, if that is asked. -/
def lookR (ok : Bool) (v b : SV) : SV := match ok with
  | true => .tup [v, b]
  | false => v
/-- What a map holds at a key. -/
def lookupE (T : Tab) (H : Hp) (t : TypeId) (x i : SV) (ok : Bool) : Tree SV :=
  match T.mp t with
  | some r => match freeze r.k i [] with
    | some (kd, []) => match x with
      | .val (.map none) => .ret (lookR ok (enc r.v r.z) (.lb false))
      | .mp b => match hget H b with
        | some ⟨.mapc k v es, _, _⟩ => match Sh.beq k r.k && Sh.beq v r.v with
          | true => .ret (lookR ok (enc r.v (bif hasK r.k es kd then getK r.k es kd else r.z)) (.sb (hasK r.k es kd)))
          | false => .bad "lookup: its type"
        | _ => .bad "lookup: a map"
      | _ => .bad "lookup: a map"
    | _ => .bad "lookup: a key"
  | none => .bad "lookup: its type"

def pickN (mx : Bool) (a b : Int) : Int := match mx with | true => if b > a then b else a | false => if b < a then b else a
/-- min, max of integers. -/
def pickI (mx : Bool) (lit : Bool) (x y : SV) : Tree SV :=
  match x.int?, y.int? with
  | some (k, a), some (_, b) => .ret (mkI lit k (pickN mx a b))
  | _, _ => .bad "min, max"
def foldI (mx : Bool) (x : SV) : List SV → Tree SV
  | [] => .ret x
  | y :: r => (pickI mx (bothLit x y) x y).bind fun z => foldI mx z r

def intAt (v : SV) : Tree Int := match v.int? with
  | some (_, n) => .ret n
  | none => .bad "a bound"
/-- A bound of a slice expression; 'none': not said. -/
def boundE (ev : Operand → Tree SV) (z : Int) : Option Operand → Tree Int
  | none => .ret z
  | some o => (ev o).bind intAt

def noHi (hi mx : Option Operand) : Bool := hi.isNone && mx.isSome
/-- No length, no room. -/
def noRoom (nl : Bool) : SV → SV
  | .li _ (.ofNat 0) => .emp nl
  | _ => .any
/-- A part of a list: 'len': its length; 'full': how many rows are there for sure; 'k': what it is, if its room is not cut; 'kc': if it has none. -/
def partE (ev : Operand → Tree SV) (nl : Bool) (len full : Nat) (k kc : Nat → Nat → SV) (lo hi mx : Option Operand) : Tree SV :=
  match mx, hi with
  | none, _ => (boundE ev (len : Int) hi).bind fun h => (boundE ev 0 lo).bind fun l =>
    .need (decide (0 ≤ l) && (decide (l ≤ h) && decide (h ≤ (full : Int)))) (.ret (k l.toNat h.toNat))
  | some o, some _ => (ev o).bind fun vm => (boundE ev (len : Int) hi).bind fun h => (boundE ev 0 lo).bind fun l => match vm.int? with
    | some (_, m) => match noRoom nl vm with
      | .any => .need (decide (0 ≤ l) && (decide (l ≤ h) && (decide (h = m) && decide (m ≤ (full : Int))))) (.ret (kc l.toNat h.toNat))
      | v => .need (decide (0 ≤ l) && (decide (l ≤ h) && (decide (h ≤ m) && decide (m ≤ (full : Int))))) (.ret v)
    | none => .bad "slice: its bounds"
  | _, _ => .bad "slice: its bounds"
/-- A part of a list, or of a text. -/
def sliceE (T : Tab) (H : Hp) (ev : Operand → Tree SV) (t : TypeId) (x : SV) (lo hi mx : Option Operand) : Tree SV :=
  match T.underlying t, x with
  | some .string, .str s => match mx.isSome with
    | true => .bad "slice"
    | false => (boundE ev (s.length : Int) hi).bind fun h => (boundE ev 0 lo).bind fun l =>
    .need (decide (0 ≤ l) && (decide (l ≤ h) && decide (h ≤ (s.length : Int)))) (.ret (.str ((s.take h.toNat).drop l.toNat)))
  | some (.slice _), .lst e nl xs => match mx.isSome, rowT T t e with
    | false, some _ => (boundE ev (xs.length : Int) hi).bind fun h => (boundE ev 0 lo).bind fun l =>
      .need (decide (0 ≤ l) && (decide (l ≤ h) && decide (h ≤ (xs.length : Int)))) (.ret (.lst e nl ((xs.take h.toNat).drop l.toNat)))
    | true, some _ => partE ev nl xs.length xs.length (fun _ _ => .any) (fun _ _ => .any) lo hi mx
    | _, _ => .bad "slice"
  | some (.slice _), .own b => match hget H b with
    | some ⟨.rows e nl xs, _, _⟩ => match rowT T t e with
      | some _ => partE ev nl xs.length xs.length (fun l h => .osl b e.size l h) (fun l h => .cut b e.size l h) lo hi mx
      | none => .bad "slice: an own list"
    | _ => .bad "slice: an own list"
  | some (.slice _), .osl b sz k j => match hget H b with
    | some ⟨.rows e nl xs, _, _⟩ => match rowT T t e, Nat.beq sz e.size with
      | some _, true => partE ev nl (j - k) (xs.length - k) (fun l h => .osl b e.size (k + l) (k + h)) (fun l h => .cut b e.size (k + l) (k + h)) lo hi mx
      | _, _ => .bad "slice: an own list"
    | _ => .bad "slice: an own list"
  | some (.slice u), .emp nl => match sizeT T u with
    | some _ => partE ev nl 0 0 (fun _ _ => .emp nl) (fun _ _ => .emp nl) lo hi mx
    | none => .bad "slice"
  | some (.slice u), .sl b off len cap => match noHi hi mx, sizeT T u with
    | false, some n => (boundE ev (cap : Int) mx).bind fun m => (boundE ev (len : Int) hi).bind fun h => (boundE ev 0 lo).bind fun l =>
      match decide (0 ≤ l) && (decide (l ≤ h) && (decide (h ≤ m) && (decide (m ≤ (cap : Int))))) with
      | true => match decide (m = l) with
        | true => .ret (.emp false)
        | false => .ret (.sl b (off + l.toNat * n) (h.toNat - l.toNat) (m.toNat - l.toNat))
      | false => .bad "slice: its bounds"
    | _, _ => .bad "slice"
  | some (.array len u), .ref b off => match noHi hi mx, sizeT T u with
    | false, some n => (boundE ev (len : Int) mx).bind fun m => (boundE ev (len : Int) hi).bind fun h => (boundE ev 0 lo).bind fun l =>
      match decide (0 ≤ l) && (decide (l ≤ h) && (decide (h ≤ m) && (decide (m ≤ (len : Int))))) with
      | true => match decide (m = l) with
        | true => .ret (.emp false)
        | false => .ret (.sl b (off + l.toNat * n) (h.toNat - l.toNat) (m.toNat - l.toNat))
      | false => .bad "slice: its bounds"
    | _, _ => .bad "slice"
  | _, _ => .bad "slice"

def fieldA (T : Tab) (s : TypeId) (f : Nat) (k : Nat → SV) : Tree SV :=
  match fieldT T s f with
  | some fd => match sizeT T fd.type with
    | some n => match n == 0 with
      | true => .bad "fieldAddr: no cells"
      | false => .ret (k fd.offset)
    | none => .bad "fieldAddr"
  | none => .bad "fieldAddr"

def indexA (T : Tab) (H : Hp) (t : TypeId) (x i : SV) : Tree SV :=
  match x with
  | .ref b off => match elemT T t with
    | some (len, _, n) => indexTree (fun j => .ret (.ref b (off + j * n))) len i
    | none => .bad "indexAddr: an array"
  | .rref b sz k off => match elemT T t with
    | some (len, _, n) => match Nat.beq k 0 && (Nat.beq off 0 && Nat.beq n sz), i, hget H b with
      | true, .si _ m, some ⟨.rows _ _ xs, _, _⟩ => .need ((decide (0 ≤ m) && decide (m < (xs.length : Int))) && decide (m < (len : Int))) (.ret (.rref b sz m.toNat 0))
      | _, _, _ => indexTree (fun j => .ret (.rref b sz k (off + j * n))) len i
    | none => .bad "indexAddr: an array"
  | .lref e xs k off => match elemT T t with
    | some (len, _, n) => indexTree (fun j => .ret (.lref e xs k (off + j * n))) len i
    | none => .bad "indexAddr: an array"
  | .sl b off len _ => match T.underlying t with
    | some (.slice e) => match sizeT T e with
      | some n => indexTree (fun j => .ret (.ref b (off + j * n))) len i
      | none => .bad "indexAddr: a slice"
    | _ => .bad "indexAddr: a slice"
  | .lst e _ xs => match rowT T t e with
    | some _ => indexL (fun j => .ret (.lref e xs j 0)) xs i
    | none => .bad "indexAddr: a list"
  | .own b => match hget H b with
    | some ⟨.rows e _ xs, _, _⟩ => match rowT T t e with
      | some _ => indexL (fun j => .ret (.rref b e.size j 0)) xs i
      | none => .bad "indexAddr: an own list"
    | _ => .bad "indexAddr: an own list"
  | .osl b sz lo hi => match hget H b with
    | some ⟨.rows e _ _, _, _⟩ => match rowT T t e, Nat.beq sz e.size, i.int? with
      | some _, true, some (_, n) => .need (decide (0 ≤ n) && decide (n < ((hi - lo : Nat) : Int))) (.ret (.rref b e.size (lo + n.toNat) 0))
      | _, _, _ => .bad "indexAddr: a part of an own list"
    | _ => .bad "indexAddr: an own list"
  | _ => .bad "indexAddr: an address"

/-- The bytes of a list. -/
def bytesD (xs : List D) : List UInt8 := xs.map fun d => UInt8.ofNat d.int.toNat
/-- Bytes, as a text. -/
def bytesStr (H : Hp) : SV → Tree SV
  | .val (.slice none _ _) => .ret (.str [])
  | .lst (.int .u8) _ xs => .ret (.str (bytesD xs))
  | .own b => match hget H b with
    | some ⟨.rows (.int .u8) _ xs, _, _⟩ => .ret (.str (bytesD xs))
    | _ => .bad "convert: bytes"
  | _ => .bad "convert: bytes"
/-- An operation that turns nothing in memory. -/
def pureOp (T : Tab) (ev : Bool → Operand → Tree SV) (pc : Bool) (H : Hp) (o : Op) : Tree SV :=
  match o with
  | .move x => ev pc x
  | .assign x => ev pc x
  | .pick c a b => (ev pc c).bind fun
    | .lb true => ev pc a
    | .lb false => ev pc b
    | .sb q => (ev (pc && q) a).bind fun va => (ev (pc && !q) b).bind fun vb => merge q va vb
    | _ => .bad "pick"
  | .build t parts => (evsP (ev pc) parts.toList).bind fun vs =>
    match zeroL T t, placesT T t with
    | some z, some pl => orBad "build" ((fillL pl z vs).map .agg)
    | _, _ => .bad "build: the type"
  | .load t x => (ev pc x).bind (loadV T H t)
  | .nilCheck x => (ev pc x).bind fun
    | .ref b off => .ret (.ref b off)
    | .clo (.func f) first caps => .ret (.clo (.func f) first caps)
    | _ => .bad "nilCheck"
  | .binOp op t x y _ => (ev pc x).bind fun vx => (ev pc y).bind fun vy => binSV T op t vx vy
  | .unOp op _ x => (ev pc x).bind fun vx => unSV op vx
  | .convert src dst x => (ev pc x).bind fun vx =>
    match T.underlying src, T.underlying dst, vx with
    | some (.int _), some (.int k), .li _ n => .ret (litI k (k.wrap n))
    | some (.int _), some (.int k), .si _ n => .ret (.si k (k.wrap n))
    | some .string, some .string, .str s => .ret (.str s)
    | some (.slice e), some .string, v => match T.underlying e with
      | some (.int .u8) => bytesStr H v
      | _ => .bad "convert"
    | _, _, _ => .bad "convert"
  | .makeFunc fn first caps => (evs (ev pc) first.toList).bind fun fs => (evs (ev pc) caps.toList).bind fun cs => .ret (.clo fn fs cs)
  | .fieldAddr s x f => (ev pc x).bind fun
    | .ref b off => fieldA T s f fun o => .ref b (off + o)
    | .rref b sz i off => fieldA T s f fun o => .rref b sz i (off + o)
    | .lref e xs i off => fieldA T s f fun o => .lref e xs i (off + o)
    | _ => .bad "fieldAddr: an address"
  | .field t x f => (ev pc x).bind fun
    | .agg cs => match fieldT T t f with
      | some fd => orBad "field" (partL T fd.type cs fd.offset)
      | none => .bad "field"
    | _ => .bad "field: a struct"
  | .indexAddr t x i => (ev pc x).bind fun vx => (ev pc i).bind fun vi => indexA T H t vx vi
  | .index t x i => (ev pc x).bind fun
    | .agg cs => match elemT T t with
      | some (len, e, n) => (ev pc i).bind fun vi => indexTree (fun j => orBad "index" (partL T e cs (j * n))) len vi
      | none => .bad "index: an array"
    | .str s => match T.underlying t with
      | some .string => (ev pc i).bind fun vi => match vi.int? with
        | some (_, n) => .need (decide (0 ≤ n) && decide (n < (s.length : Int))) (.ret (.si .u8 ((s.getD n.toNat 0).toNat : Int)))
        | none => .bad "index"
      | _ => .bad "index"
    | _ => .bad "index: an array"
  | .slice t x lo hi mx => (ev pc x).bind fun vx => sliceE T H (ev pc) t vx lo hi mx
  | .extract x i => (ev pc x).bind fun
    | .tup vs => orBad "extract" vs[i]?
    | _ => .bad "extract"
  | .lookup t x i ok => (ev pc x).bind fun vx => (ev pc i).bind fun vi => lookupE T H t vx vi ok
  | .call { callee := .builtin .len, args, argTypes } => match args.toList, argTypes[0]? with
    | x :: _, some t => (ev pc x).bind (lenSV T H t)
    | _, _ => .bad "len"
  | .call { callee := .builtin .min, args, argTypes := _ } => (evs (ev pc) args.toList).bind fun
    | x :: r => foldI false x r
    | [] => .bad "min"
  | .call { callee := .builtin .max, args, argTypes := _ } => (evs (ev pc) args.toList).bind fun
    | x :: r => foldI true x r
    | [] => .bad "max"
  | _ => .bad "an operation that is not taken"

/-! ### 3. Writing -/

inductive Eff where
  | none
  | new (b : Blk)
  | all (H : Hp)
  deriving Inhabited
def Eff.on (H : Hp) : Eff → Hp
  | .none => H
  | .new b => H ++ [some b]
  | .all H' => H'

inductive Guard where
  | yes
  | no
  | on (pc : Bool)

def pol (want b : Bool) : Bool := match want with | true => b | false => !b

def guardOf (ops : Array Oper) (st : Tm) (o : Oper) : Option Guard :=
  match o.guard with
  | none => some .yes
  | some (j, want) =>
    match (ops[j]?).bind (·.dst) with
    | some d => match st[d]? with
      | some (.is (.lb b)) => some (if b == want then .yes else .no)
      | some (.is (.sb b)) => some (.on (pol want b))
      | some (.when c (.lb b)) => match c with
        | false => some .no
        | true => some (if b == want then .yes else .no)
      | some (.when c (.sb b)) => some (.on (c && pol want b))
      | _ => none
    | none => none

/-- An operand. -/
def evS (st : Tm) (pc : Bool) : Operand → Tree SV
  | .const v => .ret (ofConst v)
  | .func f => .ret (.clo (.func f) [] [])
  | .global _ => .bad "a package's variable"
  | .tmp t => match st[t]? with
    | some (.is v) => .ret v
    | some (.when c v) => .need (!pc || c) (.ret v)
    | _ => .bad "a slot that holds nothing"

/-- A datum's parts, some put in the place of others. -/
def updD (d : D) (off : Nat) (ds : List D) : Nat → Nat → List D
  | 0, _ => []
  | n + 1, j => (match Nat.ble off j && Nat.blt j (off + ds.length) with
    | true => ds.getD (j - off) default
    | false => d.at j) :: updD d off ds n (j + 1)

/-- A store into a row of an own list. -/
def storeRow (H : Hp) (b : Nat) (e : Sh) (i off : Nat) (vs : List SV) : Option Hp :=
  match e with
  | .agg shs => match Nat.ble (off + vs.length) shs.length with
    | true => match freezeL ((shs.drop off).take vs.length) vs H with
      | some (ds, H') => match hget H' b with
        | some ⟨.rows e' nl xs, ty, false⟩ => match Sh.beq e e' with
          | true => some (H'.set b (some ⟨.rows e' nl (xs.set i (.a (updD (xs.getD i default) off ds shs.length 0))), ty, false⟩))
          | false => none
        | _ => none
      | none => none
    | false => none
  | e => match vs, off with
    | [v], 0 => match freeze e v H with
      | some (d, H') => match hget H' b with
        | some ⟨.rows e' nl xs, ty, false⟩ => match Sh.beq e e' with
          | true => some (H'.set b (some ⟨.rows e' nl (xs.set i d), ty, false⟩))
          | false => none
        | _ => none
      | none => none
    | _, _ => none

def storeE (T : Tab) (H : Hp) (t : TypeId) (x v : SV) : Tree Hp :=
  match x with
  | .ref b off => match v.flat, sizeT T t, hget H b with
    | some vs, some n, some ⟨.cells cs, ty, false⟩ =>
      match vs.length == n && Nat.ble (off + vs.length) cs.length && vs.all SV.atom with
      | true => .ret (H.set b (some ⟨.cells (splice cs off vs), ty, false⟩))
      | false => .bad "store"
    | _, _, _ => .bad "store: the block"
  | .rref b sz i off => match v.flat, sizeT T t, hget H b with
    | some vs, some n, some ⟨.rows e _ _, _, _⟩ =>
      match vs.length == n && Nat.beq sz e.size && vs.all SV.atom with
      | true => orBad "store: a row" (storeRow H b e i off vs)
      | false => .bad "store"
    | _, _, _ => .bad "store: the row"
  | _ => .bad "store: an address"

/-- A store; a part of an own list becomes a list of its own, under another name. -/
def storeN (T : Tab) (H : Hp) (t : TypeId) (x v : SV) : Tree Hp :=
  match v with
  | .osl b sz lo hi => match hget H b with
    | some ⟨.rows e nl xs, ty, false⟩ => match Nat.beq sz e.size with
      | true => storeE T (H.set b none ++ [some ⟨.rows e nl ((xs.take hi).drop lo), ty, false⟩]) t x (.own H.length)
      | false => .bad "store: a part of a list"
    | _ => .bad "store: a part of a list"
  | v => storeE T H t x v

/-- The rows of what is appended. -/
def srcRows (H : Hp) (e : Sh) (x : SV) : Option (List D × Hp) :=
  match freeze (.list e) x H with
  | some (.l _ ys, H') => some (ys, match x with
    | .own b => H
    | .osl _ _ _ _ => H
    | _ => H')
  | _ => none

def Sh.fine : Sh → Bool
  | .agg cs => cs.all fun c => !c.isAgg
  | _ => true
def bytesT (T : Tab) (t : TypeId) : Option Nat := match T.row t with
  | some r => some r.bytes
  | none => none
def roomFor (n bytes : Nat) : Bool := decide (n * bytes ≤ 140737488355328) && decide (n ≤ 4611686018427387904)

def appendE (T : Tab) (H : Hp) (t : TypeId) (s x : SV) : Tree (SV × Hp) :=
  match T.underlying t with
  | some (.slice u) => match shT T 20 u, bytesT T u, zeroL T u with
    | some e, some by_, some z => match rowT T t e with
      | some _ => match Nat.beq z.length e.size && !(Nat.beq e.size 0) && e.fine with
        | false => .bad "append: no cells"
        | true => match s with
        | .val (.slice none 0 0) => match srcRows H e x with
          | some (ys, H') => .need (roomFor ys.length by_) (.ret (.own H'.length, H' ++ [some ⟨.rows e ys.isEmpty ys, u, false⟩]))
          | none => .bad "append: what is appended"
        | .lst e' true [] => match srcRows H e x with
          | some (ys, H') => .need (roomFor ys.length by_) (.ret (.own H'.length, H' ++ [some ⟨.rows e ys.isEmpty ys, u, false⟩]))
          | none => .bad "append: what is appended"
        | .own b => match srcRows H e x with
          | some (ys, H') => match hget H' b with
            | some ⟨.rows e' nl xs, u', false⟩ => match Sh.beq e e' && Nat.beq u u' with
              | true => .need (roomFor (xs.length + ys.length) by_) (.ret (.own H'.length, H'.set b none ++ [some ⟨.rows e (nl && ys.isEmpty) (xs ++ ys), u, false⟩]))
              | false => .bad "append: its type"
            | _ => .bad "append: an own list"
          | none => .bad "append: what is appended"
        | .emp nl => match srcRows H e x with
          | some (ys, H') => .need (roomFor ys.length by_) (.ret (.own H'.length, H' ++ [some ⟨.rows e (nl && ys.isEmpty) ys, u, false⟩]))
          | none => .bad "append: what is appended"
        | .osl b sz lo hi => match srcRows H e x with
          | some (ys, H') => match hget H' b with
            | some ⟨.rows e' nl xs, u', false⟩ => match Sh.beq e e' && Nat.beq u u' && Nat.beq sz e.size with
              | true => .ite (decide (hi + ys.length ≤ xs.length))
                  (.ret (.osl b e.size lo (hi + ys.length), H'.set b (some ⟨.rows e nl (xs.take hi ++ ys ++ xs.drop (hi + ys.length)), u, false⟩)))
                  (.need (roomFor (hi - lo + ys.length) by_) (.ret (.own H'.length, H'.set b none ++ [some ⟨.rows e false ((xs.take hi).drop lo ++ ys), u, false⟩])))
              | false => .bad "append: its type"
            | _ => .bad "append: an own list"
          | none => .bad "append: what is appended"
        | .cut b sz lo hi => match srcRows H e x with
          | some (ys, H') => match hget H' b with
            | some ⟨.rows e' nl xs, u', false⟩ => match Sh.beq e e' && Nat.beq u u' && Nat.beq sz e.size with
              | true => .need (roomFor (hi - lo + ys.length) by_) (.ret (.own H'.length, H'.set b none ++ [some ⟨.rows e (nl && ys.isEmpty) ((xs.take hi).drop lo ++ ys), u, false⟩]))
              | false => .bad "append: its type"
            | _ => .bad "append: an own list"
          | none => .bad "append: what is appended"
        | .sl b off len cap => match Nat.beq len cap, srcRows H e (.sl b off len cap) with
          | true, some (xs, H1) => match srcRows H1 e x with
            | some (ys, H2) => match xs.isEmpty, ys.isEmpty with
              | false, false => .need (roomFor (xs.length + ys.length) by_) (.ret (.own H2.length, H2 ++ [some ⟨.rows e false (xs ++ ys), u, false⟩]))
              | _, _ => .bad "append: to a list that has no row"
            | none => .bad "append: what is appended"
          | _, _ => .bad "append: to what"
        | _ => .bad "append: to what"
      | none => .bad "append: its type"
    | _, _, _ => .bad "append: its type"
  | _ => .bad "append: its type"

/-- clear: of a list. -/
def clearE (T : Tab) (H : Hp) (t : TypeId) (x : SV) : Tree Hp :=
  match T.underlying t with
  | some (.slice u) => match x with
    | .val (.slice none _ _) => .ret H
    | .emp _ => .ret H
    | .osl b sz lo hi => match shT T 20 u, bytesT T u, zeroL T u with
      | some e, some _, some z => match rowT T t e, freeze e (match e.isAgg with | true => .agg z | false => z.headD default) [], hget H b with
        | some _, some (d, []), some ⟨.rows e' nl xs, u', false⟩ => match Sh.beq e e' && Nat.beq u u' && (Nat.beq sz e.size && Nat.beq z.length e.size) && (!(Nat.beq e.size 0) && e.fine) with
          | true => .ret (H.set b (some ⟨.rows e nl (xs.take lo ++ List.replicate (hi - lo) d ++ xs.drop hi), u, false⟩))
          | false => .bad "clear: its type"
        | _, _, _ => .bad "clear: its block"
      | _, _, _ => .bad "clear: its shape"
    | _ => .bad "clear: what is cleared"
  | _ => .bad "clear: its type"

/-- make. -/
def makeE (T : Tab) (nm : Nat) (t : TypeId) (n c : SV) : Tree (SV × Blk) :=
  match T.underlying t with
  | some (.slice u) => match shT T 20 u, bytesT T u, zeroL T u with
    | some e, some by_, some z => match rowT T t e, freeze e (match e.isAgg with | true => .agg z | false => z.headD default) [], n.int?, c.int? with
      | some _, some (d, []), some (k, n), some (k', m) => match Nat.beq z.length e.size && !(Nat.beq e.size 0) with
        | false => .bad "make: no cells"
        | true => .need (decide (0 ≤ n) && (decide (n ≤ m) && roomFor m.toNat by_)) (.ret (.own nm, ⟨.rows e false (List.replicate n.toNat d), u, false⟩))
      | _, _, _, _ => .bad "make: its shape"
    | _, _, _ => .bad "make: its type"
  | _ => .bad "make: its type"

/-- A function that only answers: of what shapes its arguments are; what is asked, and the answer. -/
structure PSpec where
  shapes : List Sh
  fn : List D → Option (Bool × SV)
abbrev CallE := FuncId → List SV → Hp → Tree (SV × Hp)
abbrev CSpec := List SV → Hp → Option (Tree (SV × Hp))

inductive Ex where
  | normal
  | exit (id : Nat)
  | ret

/-- What is known ahead: 'pure': contracts of functions that only answer; 'calls': other ones; 'loops': of a function's loops, by their order. -/
structure Env where
  pure : FuncId → Option PSpec
  calls : FuncId → Option CSpec
  loops : FuncId → Nat → Option (St → Tree (Ex × St))
  turns : FuncId → Bool := fun _ => false

mutual
/-- A number, a truth value, a text, or parts and results that are such. -/
def SV.plain : SV → Bool
  | .li .. | .si .. | .lb _ | .sb _ | .str _ => true
  | .agg cs => SV.plainL cs
  | .tup cs => SV.plainL cs
  | _ => false
def SV.plainL : List SV → Bool
  | [] => true
  | c :: r => SV.plain c && SV.plainL r
end
def tryPure (E : Env) (f : FuncId) (args : List SV) (H : Hp) : Option (Bool × SV) :=
  match E.pure f with
  | some s => match freezeL s.shapes args H with
    | some (ds, _) => match s.fn ds with
      | some (pre, r) => match r.plain with
        | true => some (pre, r)
        | false => none
      | none => none
    | none => none
  | none => none
def tryCall (E : Env) (f : FuncId) (args : List SV) (H : Hp) : Option (Tree (SV × Hp)) :=
  match E.calls f with
  | some s => s args H
  | none => none

/-- A map's entry. -/
def mapSetE (T : Tab) (H : Hp) (t : TypeId) (x i y : SV) : Tree Hp :=
  match T.mp t with
  | some r => match freeze r.k i [], freeze r.v y H with
    | some (kd, []), some (vd, H1) => match x with
      | .mp b => match hget H1 b with
        | some ⟨.mapc k v es, ty, false⟩ => match Sh.beq k r.k && Sh.beq v r.v with
          | true => .ret (H1.set b (some ⟨.mapc r.k r.v (setK r.k es kd vd), ty, false⟩))
          | false => .bad "a map's entry: its type"
        | _ => .bad "a map's entry: the map"
      | _ => .bad "a map's entry: the map"
    | _, _ => .bad "a map's entry: what it is"
  | none => .bad "a map's entry: its type"
/-- delete. -/
def mapDelE (T : Tab) (H : Hp) (t : TypeId) (x i : SV) : Tree Hp :=
  match T.mp t with
  | some r => match freeze r.k i [] with
    | some (kd, []) => match x with
      | .mp b => match hget H b with
        | some ⟨.mapc k v es, ty, false⟩ => match Sh.beq k r.k && Sh.beq v r.v with
          | true => .ret (H.set b (some ⟨.mapc r.k r.v (delK r.k es kd), ty, false⟩))
          | false => .bad "delete: its type"
        | _ => .bad "delete: the map"
      | _ => .bad "delete: the map"
    | _ => .bad "delete: a key"
  | none => .bad "delete: its type"
/-- Operations that turn memory, and what they say. -/
def sysE (T : Tab) (ev : Operand → Tree SV) (H : Hp) : Op → Option (Tree (SV × Hp))
  | .call { callee := .builtin .clear, args, argTypes } => some (match args.toList, argTypes.toList with
    | [x], [t] => (ev x).bind fun vx => (clearE T H t vx).bind fun H' => .ret (.any, H')
    | _, _ => .bad "clear")
  | .call { callee := .builtin .delete, args, argTypes } => some (match args.toList, argTypes.toList with
    | [x, i], [t, _] => (ev x).bind fun vx => (ev i).bind fun vi => (mapDelE T H t vx vi).bind fun H' => .ret (.any, H')
    | _, _ => .bad "delete")
  | .mapUpdate t x i y => some ((ev x).bind fun vx => (ev i).bind fun vi => (ev y).bind fun vy => (mapSetE T H t vx vi vy).bind fun H' => .ret (.any, H'))
  | .insert t x i y => some ((ev x).bind fun vx => (ev i).bind fun vi => (ev y).bind fun vy => (mapSetE T H t vx vi vy).bind fun H' => .ret (.any, H'))
  | .makeMap t none => some (match T.mp t with
    | some r => .ret (.mp H.length, H ++ [some ⟨.mapc r.k r.v [], t, false⟩])
    | none => .bad "a map: its type")
  | _ => none

/-- An operation whose guard says yes; 'nm': the name of a block that it makes. -/
def opE (T : Tab) (call : CallE) (ev : Bool → Operand → Tree SV) (H : Hp) (nm : Nat) (o : Op) : Tree (Slot × Eff) :=
  match o with
  | .alloc t => match zeroL T t with
    | some z => .ret (.is (.ref nm 0), .new ⟨.cells z, t, false⟩)
    | none => .bad "alloc"
  | .box t x => (ev true x).bind fun v => match v.flat with
    | some cs => .ret (.is (.ref nm 0), .new ⟨.cells cs, t, false⟩)
    | none => .bad "box"
  | .store t x y => (ev true x).bind fun vx => (ev true y).bind fun vy => (storeN T H t vx vy).bind fun H' => .ret (.unk, .all H')
  | .buildSlice t len parts => (evsP (ev true) parts.toList).bind fun vs =>
    match T.underlying t with
    | some (.slice e) => match sizeT T e, zeroL T e with
      | some n, some z =>
        match Nat.ble (len * n) 16777216 && !(len * n == 0) && z.length == n with
        | true =>
          match fillL (fun i => some (i * n, n)) ((List.replicate len z).flatten) vs with
          | some cs => .ret (.is (.sl nm 0 len len), .new ⟨.cells cs, e, false⟩)
          | none => .bad "buildSlice"
        | false => match len, vs with
          | 0, [] => .ret (.is (.emp false), .new ⟨.cells [], e, false⟩)
          | _, _ => .bad "buildSlice: its size"
      | _, _ => .bad "buildSlice"
    | _ => .bad "buildSlice"
  | .makeSlice t n c => (ev true n).bind fun vn => (ev true c).bind fun vc => (makeE T nm t vn vc).bind fun r => .ret (.is r.1, .new r.2)
  | .call { callee := .builtin .append, args, argTypes } => match args.toList, argTypes.toList with
    | [s, x], [t, t'] => match Nat.beq t t' with
      | true => (ev true s).bind fun vs => (ev true x).bind fun vx => (appendE T H t vs vx).bind fun r => .ret (.is r.1, .all r.2)
      | false => .bad "append"
    | _, _ => .bad "append"
  | .call { callee := .value f, args, argTypes := _ } => (ev true f).bind fun
    | .clo (.func k) first caps => (evs (ev true) args.toList).bind fun as => (call k (first ++ as ++ caps) H).bind fun r => .ret (.is r.1, .all r.2)
    | _ => .bad "call"
  | o => match sysE T (ev true) H o with
    | some t => t.bind fun r => .ret (.is r.1, .all r.2)
    | none => (pureOp T ev true H o).bind fun v => .ret (.is v, .none)

def isPure : Op → Bool
  | .alloc _ | .box .. | .store .. | .buildSlice .. | .makeSlice .. | .makeMap .. | .mapUpdate .. | .insert .. | .mapEntry .. | .entryStore .. | .range .. | .next .. => false
  | .call { callee := .builtin .len, .. } | .call { callee := .builtin .min, .. } | .call { callee := .builtin .max, .. } => true
  | .call .. => false
  | _ => true

def putS (st : Tm) (dst : Option Tmp) (s : Slot) : Tm :=
  match dst with
  | some d => st.set d s
  | none => st

/-- A call of a function that only answers. -/
def pureCall (E : Env) : Op → Option (FuncId × List Operand)
  | .call { callee := .value (.func k), args, argTypes := _ } => match E.pure k with
    | some _ => some (k, args.toList)
    | none => none
  | _ => none

/-- One operation, in the order of the text. -/
def stepE (T : Tab) (E : Env) (call : CallE) (ops : Array Oper) (o : Oper) (st : St) : Tree St :=
  match guardOf ops st.tmps o with
  | none => .bad "guard"
  | some .no => .ret { st with tmps := putS st.tmps o.dst (.when false (.lb false)) }
  | some .yes => match pureCall E o.op with
    | some (k, args) => (evs (evS st.tmps true) args).bind fun as => match tryPure E k as st.heap with
      | some (pre, r) => .need pre (.ret { st with tmps := putS st.tmps o.dst (.is r) })
      | none => (opE T call (evS st.tmps) st.heap st.heap.length o.op).bind fun r => .ret ⟨putS st.tmps o.dst r.1, r.2.on st.heap⟩
    | none => (opE T call (evS st.tmps) st.heap st.heap.length o.op).bind fun r => .ret ⟨putS st.tmps o.dst r.1, r.2.on st.heap⟩
  | some (.on pc) =>
    match isPure o.op with
    | true => (pureOp T (evS st.tmps) pc st.heap o.op).bind fun v => .ret { st with tmps := putS st.tmps o.dst (.when pc v) }
    | false => match o.op with
      | .call { callee := .value (.func k), args, argTypes := _ } => (evs (evS st.tmps pc) args.toList).bind fun as => match tryPure E k as st.heap with
        | some (pre, r) => .need (!pc || pre) (.ret { st with tmps := putS st.tmps o.dst (.when pc r) })
        | none => .ite pc ((opE T call (evS st.tmps) st.heap st.heap.length o.op).bind fun r => .ret ⟨putS st.tmps o.dst r.1, r.2.on st.heap⟩) (.ret { st with tmps := putS st.tmps o.dst .unk })
      | _ => .ite pc ((opE T call (evS st.tmps) st.heap st.heap.length o.op).bind fun r => .ret ⟨putS st.tmps o.dst r.1, r.2.on st.heap⟩) (.ret { st with tmps := putS st.tmps o.dst .unk })

/-- Does another operation ask what this one said? -/
def guardy (ops : Array Oper) (o : Oper) : Bool := ops.toList.any fun o' => match o'.guard with
  | some (j, _) => match ops[j]? with
    | some oj => match oj.dst, o.dst with
      | some d, some d' => Nat.beq d d'
      | _, _ => false
    | none => false
  | none => false
/-- Two ways: what it said is written out. -/
def forkSt (g : Bool) (d : Option Tmp) (k : St → Tree St) (st : St) : Tree St :=
  match d with
  | some d => match st.tmps[d]? with
    | some (.is (.sb b)) => match g with
      | true => .ite b (k ⟨st.tmps.set d (.is (.lb true)), st.heap⟩) (k ⟨st.tmps.set d (.is (.lb false)), st.heap⟩)
      | false => k st
    | _ => k st
  | none => k st
def stepsE (T : Tab) (E : Env) (call : CallE) (ops : Array Oper) : List Oper → St → Tree St
  | [], st => .ret st
  | o :: r, st => (stepE T E call ops o st).bind (forkSt (guardy ops o) o.dst (stepsE T E call ops r))

/-! ### Ways that meet again -/
/-- An operation that turns nothing, its slots alone. -/
def stepP (T : Tab) (E : Env) (ops : Array Oper) (H : Hp) (o : Oper) (tm : Tm) : Tree Tm :=
  match guardOf ops tm o with
  | some .no => .ret (putS tm o.dst (.when false (.lb false)))
  | some .yes => match isPure o.op with
    | true => (pureOp T (evS tm) true H o.op).bind fun v => .ret (putS tm o.dst (.is v))
    | false => match pureCall E o.op with
      | some (k, args) => (evs (evS tm true) args).bind fun as => match tryPure E k as H with
        | some (pre, r) => .need pre (.ret (putS tm o.dst (.is r)))
        | none => .bad "no such answer"
      | none => .bad "it turns something"
  | _ => .bad "guard"
def forkTm {α : Type} (g : Bool) (d : Option Tmp) (k : Tm → Tree α) (tm : Tm) : Tree α :=
  match d with
  | some d => match tm[d]? with
    | some (.is (.sb b)) => match g with
      | true => .ite b (k (tm.set d (.is (.lb true)))) (k (tm.set d (.is (.lb false))))
      | false => k tm
    | _ => k tm
  | none => k tm
def stepsP (T : Tab) (E : Env) (ops : Array Oper) (H : Hp) : List Oper → Tm → Tree Tm
  | [], tm => .ret tm
  | o :: r, tm => (stepP T E ops H o tm).bind (forkTm (guardy ops o) o.dst (stepsP T E ops H r))

mutual
/-- What holds on two ways. -/
def mergeV (b : Bool) : SV → SV → Option SV
  | .lb p, y => match y with
    | .lb q => match p, q with
      | true, true => some (.lb true)
      | false, false => some (.lb false)
      | true, false => some (.sb b)
      | false, true => some (.sb (!b))
    | .sb q => match p with
      | true => some (.sb (b || q))
      | false => some (.sb (!b && q))
    | _ => none
  | .sb p, y => match y with
    | .lb q => match q with
      | true => some (.sb (!b || p))
      | false => some (.sb (b && p))
    | .sb q => some (.sb (bif b then p else q))
    | _ => none
  | .li k n, y => match y.int? with
    | some (k', m) => match kbeq k k' with
      | true => some (.si k (bif b then n else m))
      | false => none
    | none => none
  | .si k n, y => match y.int? with
    | some (k', m) => match kbeq k k' with
      | true => some (.si k (bif b then n else m))
      | false => none
    | none => none
  | .str s, y => match y with
    | .str t => some (.str (bif b then s else t))
    | _ => none
  | .agg cs, y => match y with
    | .agg ds => match mergeVs b cs ds with
      | some l => some (.agg l)
      | none => none
    | _ => none
  | .ref p o, y => match y with
    | .ref q o' => match Nat.beq p q && Nat.beq o o' with
      | true => some (.ref p o)
      | false => none
    | _ => none
  | _, _ => none
def mergeVs (b : Bool) : List SV → List SV → Option (List SV)
  | [], ds => match ds with
    | [] => some []
    | _ => none
  | c :: cs, ds => match ds with
    | d :: ds => match mergeV b c d, mergeVs b cs ds with
      | some v, some l => some (v :: l)
      | _, _ => none
    | [] => none
end
def mergeS (b : Bool) (x y : Slot) : Slot := match x, y with
  | .is v, .is u => match mergeV b v u with
    | some r => .is r
    | none => .unk
  | _, _ => .unk
def mergeSs (b : Bool) : List Slot → List Slot → List Slot
  | x :: r, y :: s => mergeS b x y :: mergeSs b r s
  | _, _ => []
def getO : Option Bool → Bool
  | some p => p
  | none => true
def mergeN (b : Bool) : Option Bool → Option Bool → Option Bool
  | none, none => none
  | x, y => some (bif b then getO x else getO y)
/-- What is asked, and the slots 'ds', on all ways. -/
def mergeT (ds : List Tmp) : Tree Tm → Option (Option Bool × List Slot)
  | .ret tm => some (none, ds.map fun d => tm.t.get d)
  | .need p t => match mergeT ds t with
    | some (n, l) => some (some (p && getO n), l)
    | none => none
  | .ite b t e => match mergeT ds t with
    | some (n, l) => match mergeT ds e with
      | some (n', l') => some (mergeN b n n', mergeSs b l l')
      | none => none
    | none => none
  | .bad _ => none
def putAll (tm : Tm) : List Tmp → List Slot → Tm
  | d :: ds, s :: ss => putAll (tm.set d s) ds ss
  | _, _ => tm
def needO {α : Type} (n : Option Bool) (t : Tree α) : Tree α := match n with
  | some p => .need p t
  | none => t
def dstsOf (ops : List Oper) : List Tmp := ops.filterMap (·.dst)
/-- Does a guard stand in it, and does none of it turn anything? -/
def meets (E : Env) (ops : Array Oper) : Bool := ops.toList.any (fun o => o.guard.isSome) && ops.toList.all fun o => isPure o.op || (pureCall E o.op).isSome
/-- A region in the order of its text; its ways meet again, where they can. -/
def regionE (T : Tab) (E : Env) (call : CallE) (ops : Array Oper) (st : St) : Tree St :=
  match meets E ops with
  | true => match mergeT (dstsOf ops.toList) (stepsP T E ops st.heap ops.toList st.tmps) with
    | some (n, ls) => needO n (.ret ⟨putAll st.tmps (dstsOf ops.toList) ls, st.heap⟩)
    | none => stepsE T E call ops ops.toList st
  | false => stepsE T E call ops ops.toList st

def loopE (body : St → Tree (Ex × St)) : Nat → St → Tree (Ex × St)
  | 0, _ => .bad "a loop: more rounds"
  | n + 1, st => (body st).bind fun
    | (.normal, st') => loopE body n st'
    | r => .ret r

/-- Which slots a piece of code writes. -/
def writes : Code → Nat → Bool
  | .region _ ops _, t => ops.any fun o => o.dst == some t
  | .seq a b, t => writes a t || writes b t
  | .cond _ a b, t => writes a t || writes b t
  | .block _ a, t => writes a t
  | .loop a, t => writes a t
  | _, _ => false

/-- How many loops there are. -/
def loopsIn : Code → Nat
  | .seq a b => loopsIn a + loopsIn b
  | .cond _ a b => loopsIn a + loopsIn b
  | .block _ a => loopsIn a
  | .loop a => loopsIn a + 1
  | _ => 0

/-- The loop of a number: its body. -/
def loopAt : Code → Nat → Option Code
  | .seq a b, i => match Nat.blt i (loopsIn a) with
    | true => loopAt a i
    | false => loopAt b (i - loopsIn a)
  | .cond _ a b, i => match Nat.blt i (loopsIn a) with
    | true => loopAt a i
    | false => loopAt b (i - loopsIn a)
  | .block _ a, i => loopAt a i
  | .loop a, 0 => some a
  | .loop a, i + 1 => loopAt a i
  | _, _ => none

/-- Another way, where there is none. -/
def orElseT {α : Type} (t : Tree α) (u : Unit → Tree α) : Tree α := match t with
  | .bad _ => u ()
  | .ret x => .ret x
  | .need c t => .need c t
  | .ite c a b => .ite c a b
/-- Code that turns nothing in memory, and goes on. -/
def pureC (E : Env) : Code → Bool
  | .skip => true
  | .region _ ops false => ops.toList.all fun o => isPure o.op || (pureCall E o.op).isSome
  | .seq a b => pureC E a && pureC E b
  | .cond _ a b => pureC E a && pureC E b
  | _ => false
def execP (T : Tab) (E : Env) : Code → Hp → Tm → Tree Tm
  | .skip, _, tm => .ret tm
  | .region _ ops false, H, tm => stepsP T E ops H ops.toList tm
  | .seq a b, H, tm => (execP T E a H tm).bind (execP T E b H)
  | .cond c a b, H, tm => (evS tm true c).bind fun
    | .lb true => execP T E a H tm
    | .lb false => execP T E b H tm
    | .sb q => .ite q (execP T E a H tm) (execP T E b H tm)
    | _ => .bad "cond"
  | _, _, _ => .bad "code that turns something"
def dstsC : Code → List Tmp
  | .region _ ops false => dstsOf ops.toList
  | .seq a b => dstsC a ++ dstsC b
  | .cond _ a b => dstsC a ++ dstsC b
  | _ => []
/-- Truth values alone. -/
def boolS : List Slot → Bool
  | [] => true
  | s :: r => (match s with
    | .is (.sb _) => true
    | .is (.lb _) => true
    | .unk => true
    | .when _ (.sb _) => true
    | .when _ (.lb _) => true
    | _ => false) && boolS r
/-- A truth value that is known by now. -/
def sayT (c : Operand) (b : Bool) (st : St) : St := match c with
  | .tmp t => ⟨st.tmps.set t (.is (.lb b)), st.heap⟩
  | _ => st
/-- 'L': what is known of the loops (where that does not fit, three rounds at most); 'i': the number of the next one. -/
def execE (T : Tab) (E : Env) (call : CallE) (drawn : Array Oper → St → Tree St) (L : Nat → Option (St → Tree (Ex × St))) (rounds : Nat) : Code → Nat → St → Tree (Ex × St)
  | .skip, _ => fun st => .ret (.normal, st)
  | .region _ ops false, _ => fun st => (regionE T E call ops st).bind fun st' => .ret (.normal, st')
  | .region _ ops true, _ => fun st => (drawn ops st).bind fun st' => .ret (.normal, st')
  | .seq a b, i => fun st => (execE T E call drawn L rounds a i st).bind fun
    | (.normal, st') => execE T E call drawn L rounds b (i + loopsIn a) st'
    | r => .ret r
  | .cond c t e, i => fun st => (evS st.tmps true c).bind fun
    | .lb true => execE T E call drawn L rounds t i st
    | .lb false => execE T E call drawn L rounds e (i + loopsIn t) st
    | .sb b => match pureC E t && pureC E e with
      | true => match mergeT (dstsC t ++ dstsC e) (.ite b (execP T E t st.heap st.tmps) (execP T E e st.heap st.tmps)) with
        | some (n, ls) => match boolS ls with
          | true => needO n (.ret (.normal, ⟨putAll st.tmps (dstsC t ++ dstsC e) ls, st.heap⟩))
          | false => .ite b (execE T E call drawn L rounds t i (sayT c true st)) (execE T E call drawn L rounds e (i + loopsIn t) (sayT c false st))
        | none => .ite b (execE T E call drawn L rounds t i (sayT c true st)) (execE T E call drawn L rounds e (i + loopsIn t) (sayT c false st))
      | false => .ite b (execE T E call drawn L rounds t i (sayT c true st)) (execE T E call drawn L rounds e (i + loopsIn t) (sayT c false st))
    | _ => .bad "cond"
  | .block id c, i => fun st => (execE T E call drawn L rounds c i st).bind fun
    | (.exit id', st') => match id' == id with
      | true => .ret (.normal, st')
      | false => .ret (.exit id', st')
    | r => .ret r
  | .loop body, i => fun st => match L i with
    | some run => orElseT (run st) fun _ => loopE (execE T E call drawn L rounds body (i + 1)) 3 st
    | none => loopE (execE T E call drawn L rounds body (i + 1)) rounds st
  | .exit id, _ => fun st => .ret (.exit id, st)
  | .ret, _ => fun st => .ret (.ret, st)
  | _, _ => fun _ => .bad "code that is not taken"

/-- The results, read as the function ends. -/
def resultsE (T : Tab) (st : St) : List ResultVar → Tree (List SV)
  | [] => .ret []
  | .tmp t :: r => (evS st.tmps true (.tmp t)).bind fun v => (resultsE T st r).bind fun vs => .ret (v :: vs)
  | .cell a t :: r => (evS st.tmps true (.tmp a)).bind fun
    | .ref b off => (loadV T st.heap t (.ref b off)).bind fun v => (resultsE T st r).bind fun vs => .ret (v :: vs)
    | _ => .bad "results"

def oneOf : List SV → SV
  | [v] => v
  | vs => .tup vs

def lowB (n : Nat) : Option Blk → Bool
  | some ⟨.cells cs, _, _⟩ => SV.lowL n cs
  | _ => true
def lowH (n : Nat) : Hp → Bool
  | [] => true
  | b :: r => lowB n b && lowH n r

/-- Names that are needed no more go. -/
def trim (n : Nat) (r : SV) (H : Hp) : SV × Hp :=
  match Nat.blt n H.length && r.low n && lowH n (H.take n) with
  | true => (r, H.take n)
  | false => (r, H)

def callE (T : Tab) (E : Env) (drawn : CallE → Array Oper → St → Tree St) (rounds : Nat) : Nat → CallE
  | 0, _, _, _ => .bad "calls: deeper"
  | d + 1, f, args, H =>
    match tryPure E f args H with
    | some (pre, r) => .need pre (.ret (r, H))
    | none =>
    match tryCall E f args H with
    | some t => t
    | none =>
      match T.func f with
      | some fn => match fn.body with
        | some c =>
          match fn.name == "runtime.NumGoroutine" with
          | true => .bad "call"
          | false =>
          (execE T E (callE T E drawn rounds d) (drawn (callE T E drawn rounds d)) (E.loops f) rounds c 0
            { tmps := Tm.of (args.map .is) (args.length + (fn.ntmps - args.length)), heap := H }).bind fun x =>
            match x.1 with
            | .exit _ => .bad "call: its end"
            | _ => (resultsE T x.2 fn.results.toList).bind fun vs => .ret (trim H.length (oneOf vs) x.2.heap)
        | none => .bad "call: no body"
      | none => .bad "call: no such function"

end Go.Sy
