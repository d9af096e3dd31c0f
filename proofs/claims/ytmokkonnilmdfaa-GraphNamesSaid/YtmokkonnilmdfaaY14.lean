/-
  A region that draws its order: what comes ahead of what, as bits; the definitions of its run.
  No statement of the seat is proved here. Conditions: none.
-/
import Derived.Test.YtmokkonnilmdfaaY13
import Derived.Orders
set_option linter.unusedSimpArgs false
set_option linter.unusedVariables false
namespace Go.Sy
open Go.RowKit

/-! ### 1. What comes ahead of what -/

/-- Which operations come ahead, as bits. -/
def bitsOf (o : Oper) (acc : List Nat) : Nat := o.after.toList.foldl (fun s e => if Region.binds .any e then s ||| 2 ^ e.on ||| acc.getD e.on 0 else s) 0
def bef : List Oper → List Nat → List Nat
  | [], acc => acc
  | o :: r, acc => bef r (acc ++ [bitsOf o acc])

def findW : List (Tmp × Nat) → Tmp → Option Nat
  | [], _ => none
  | (t, j) :: r, u => if Nat.beq t u then some j else findW r u

/-- The operations, one by one: what each looks at was written by one that comes ahead of it by its edges; what it writes, nobody has written, and whoever has looked at it comes ahead by its edges. 'W': who has written what; 'R': who has looked at what. -/
def scanOk (ops : Array Oper) (b : List Nat) : Nat → List Oper → List (Tmp × Nat) → List (Tmp × Nat) → Bool
  | _, [], _, _ => true
  | i, o :: r, W, R =>
    (Oper.looksAt ops o).all (fun t => match findW W t with | some j => (b.getD i 0).testBit j | none => true) &&
    (match o.dst with
     | none => scanOk ops b (i + 1) r W ((Oper.looksAt ops o).map (fun t => (t, i)) ++ R)
     | some d => (findW W d).isNone && R.all (fun x => !(Nat.beq x.1 d) || (b.getD i 0).testBit x.2) && scanOk ops b (i + 1) r ((d, i) :: W) ((Oper.looksAt ops o).map (fun t => (t, i)) ++ R))

def edgesOk : Nat → List Oper → Bool
  | _, [] => true
  | i, o :: r => o.after.toList.all (fun e => !Region.binds .any e || Nat.blt e.on i) && edgesOk (i + 1) r

/-! A region in pieces: where one ends, whatever comes behind it comes behind all that stands ahead. -/
/-- What all from there on come behind. -/
def allBef : List Nat → List Nat
  | [] => []
  | x :: r => match allBef r with
    | [] => [x]
    | y :: s => (x &&& y) :: y :: s
/-- How long the pieces are. 'c': where we stand; 'n': how long the one is that we are in. -/
def cutsOf : Nat → Nat → List Nat → List Nat
  | _, n, [] => [n]
  | c, n, x :: r => match Nat.beq (x % 2 ^ c) (2 ^ c - 1) with
    | true => n :: cutsOf (c + 1) 1 r
    | false => cutsOf (c + 1) (n + 1) r

/-! ### 2. The run -/

/-- What an operation comes to: its slot, and the block that a name of the region's own holds behind it. -/
abbrev Res := Slot × Option (Nat × Blk)

/-- What the name k holds when the operations of 'L' have been carried out. -/
def evAt (L : Nat → Bool) (k : Nat) : Nat → List Res → Option Blk → Option Blk
  | _, [], acc => acc
  | i, x :: r, acc => evAt L k (i + 1) r (match x.2 with
    | some (k', b) => match Nat.beq k' k && L i with
      | true => some b
      | false => acc
    | none => acc)

/-- All that turn the name k, so far, come ahead. -/
def evAll (b : Nat) (k : Nat) : Nat → List Res → Bool
  | _, [] => true
  | i, x :: r => (match x.2 with
    | some (k', _) => !(Nat.beq k' k) || b.testBit i
    | none => true) && evAll b k (i + 1) r

def noEv : List Res → Bool
  | [] => true
  | x :: r => (match x.2 with | some _ => false | none => true) && noEv r

/-- The blocks of the region's own that an operation knows. -/
def newsFor (m : Nat) (b : Nat) (rs : List Res) : List (Option Blk) :=
  match noEv rs with
  | true => List.replicate m none
  | false => (List.range m).map fun k => match b.testBit k && evAll b k 0 rs with
    | true => evAt b.testBit k 0 rs none
    | false => none

def roB : Option Blk → Option Blk
  | some b => some { b with ro := true }
  | none => none

mutual
/-- An answer, with the lists in it that were made by the call. -/
def settle (H : Hp) : SV → Option SV
  | .own b => match hget H b with
    | some ⟨.rows e nl xs, _, false⟩ => match e.flat with
      | true => some (.lst e nl xs)
      | false => none
    | _ => none
  | .agg cs => match settleL H cs with
    | some l => some (.agg l)
    | none => none
  | .tup cs => match settleL H cs with
    | some l => some (.tup l)
    | none => none
  | .val v => some (.val v)
  | v => match v.plain with
    | true => some v
    | false => none
def settleL (H : Hp) : List SV → Option (List SV)
  | [] => some []
  | c :: r => match settle H c, settleL H r with
    | some v, some l => some (v :: l)
    | _, _ => none
end

/-! Early stores into blocks that were there ahead of the region: by whom, into which. Of such a block q the key is m + q. -/
abbrev Outs := List (Nat × Nat)
def memU : Outs → Nat → Nat → Bool
  | [], _, _ => false
  | (j, q) :: r, i, k => match Nat.beq i j && Nat.beq k q with
    | true => true
    | false => memU r i k
/-- Those of one block come one ahead of the other. -/
def outsOk (b : List Nat) (U : Outs) : Bool := U.all fun x => U.all fun y => !(Nat.beq x.2 y.2) || (!(Nat.blt x.1 y.1) || (b.getD y.1 0).testBit x.1)
/-- Do all that turn q come ahead, or behind? -/
def outKnown (b : List Nat) (i q : Nat) : Outs → Bool
  | [] => true
  | (j, q') :: r => (!(Nat.beq q q') || (Nat.beq i j || ((b.getD i 0).testBit j || (b.getD j 0).testBit i))) && outKnown b i q r
/-- The blocks that were there, when the operations of 'L' have been carried out. -/
def outL (m : Nat) (rs : List Res) (L : Nat → Bool) (H0 : Hp) : Outs → Hp → Hp
  | [], H => H
  | (_, q) :: r, H => outL m rs L H0 r (H.set q (evAt L (m + q) 0 rs (hget H0 q)))
/-- What an operation knows of them. -/
def outFor (m : Nat) (b : List Nat) (i : Nat) (rs : List Res) (U : Outs) (H0 : Hp) : Outs → Hp → Hp
  | [], H => H
  | (_, q) :: r, H => outFor m b i rs U H0 r (H.set q (match outKnown b i q U with
    | true => evAt (b.getD i 0).testBit (m + q) 0 rs (hget H0 q)
    | false => none))
/-- Where an address leads, as far as that can be seen ahead. -/
def ptrOf (T : Tab) (ops : List Oper) (tm : Tm) (H : Hp) : Nat → Operand → Option SV
  | 0, _ => none
  | n + 1, .tmp t => match ops.find? fun o => match o.dst with
      | some d => Nat.beq d t
      | none => false with
    | none => match tm[t]? with
      | some (.is v) => some v
      | _ => none
    | some o => match o.op with
      | .move x => ptrOf T ops tm H n x
      | .assign x => ptrOf T ops tm H n x
      | .nilCheck x => ptrOf T ops tm H n x
      | .fieldAddr s x f => match ptrOf T ops tm H n x, fieldT T s f with
        | some (.ref b off), some fd => some (.ref b (off + fd.offset))
        | _, _ => none
      | .indexAddr _ x _ => ptrOf T ops tm H n x
      | .load _ x => match ptrOf T ops tm H n x with
        | some (.ref b off) => match hget H b with
          | some ⟨.cells cs, _, _⟩ => cs[off]?
          | _ => none
        | _ => none
      | _ => none
  | _, _ => none
/-- No name and no list is in it. -/
def SV.still : SV → Bool
  | .li .. | .si .. | .lb _ | .sb _ | .str _ | .val _ => true
  | .agg cs => stillL cs
  | .tup cs => stillL cs
  | _ => false
where stillL : List SV → Bool
  | [] => true
  | c :: r => SV.still c && stillL r
def outsOf (T : Tab) (E : Env) (ops : List Oper) (H : Hp) (tm : Tm) : Nat → List Oper → Outs
  | _, [] => []
  | i, o :: r => match o.op with
    | .store _ x _ => match ptrOf T ops tm H 20 x with
      | some (.ref q _) => match Nat.blt q H.length with
        | true => (i, q) :: outsOf T E ops H tm (i + 1) r
        | false => outsOf T E ops H tm (i + 1) r
      | _ => outsOf T E ops H tm (i + 1) r
    | .call { callee := .value (.func k), args, argTypes := _ } => match E.turns k with
      | true => match args.toList with
        | x :: _ => match ptrOf T ops tm H 20 x with
          | some (.ref q _) => match Nat.blt q H.length with
            | true => (i, q) :: outsOf T E ops H tm (i + 1) r
            | false => outsOf T E ops H tm (i + 1) r
          | _ => outsOf T E ops H tm (i + 1) r
        | [] => outsOf T E ops H tm (i + 1) r
      | false => outsOf T E ops H tm (i + 1) r
    | _ => outsOf T E ops H tm (i + 1) r
/-- The block that an operation turns. -/
def outAt : Outs → Nat → Option Nat
  | [], _ => none
  | (j, q) :: r, i => match Nat.beq i j with
    | true => some q
    | false => outAt r i
/-- Cells that hold no name but those that were there. -/
def stillC : List SV → List SV → Bool
  | [], [] => true
  | o :: r, n :: s => (n.still || (match o, n with
    | .ref b off, .ref b' off' => Nat.beq b b' && Nat.beq off off'
    | _, _ => false)) && stillC r s
  | _, _ => false
def stillB : Blk → Blk → Bool
  | ⟨.cells os, _, _⟩, ⟨.cells cs, _, false⟩ => stillC os cs
  | _, _ => false

/-- An early store: into a block of the region's own, or into one of those told ahead. -/
def storeEarly (T : Tab) (n0 m : Nat) (U : Outs) (i : Nat) (H : Hp) (t : TypeId) (x v : SV) : Tree (Nat × Blk) :=
  match x with
  | .ref b off => match v.flat, sizeT T t, hget H b with
    | some vs, some n, some ⟨.cells cs, ty, false⟩ =>
      match vs.length == n && Nat.ble (off + vs.length) cs.length && vs.all SV.atom with
      | true => match Nat.ble n0 b with
        | true => .ret (b - n0, ⟨.cells (splice cs off vs), ty, false⟩)
        | false => match memU U i b with
          | true => .ret (m + b, ⟨.cells (splice cs off vs), ty, false⟩)
          | false => .bad "store: too early"
      | false => .bad "store"
    | _, _, _ => .bad "store: the block"
  | _ => .bad "a store, in a region that draws its order"

def opEarly (T : Tab) (call : CallE) (n0 m : Nat) (U : Outs) (H : Hp) (i : Nat) (tm : Tm) (op : Op) : Tree Res :=
  match op with
  | .call { callee := .value f, args, argTypes := _ } => (evS tm true f).bind fun
    | .clo (.func k) first caps => (evs (evS tm true) args.toList).bind fun as =>
      match outAt U i with
      | none => (call k (first ++ as ++ caps) (H.map roB)).bind fun r => match settle r.2 r.1 with
        | some v => .ret (.is v, none)
        | none => .bad "a call, in a region that draws its order: its answer"
      | some q => match hget H q with
        | some b0 => match b0.ro with
          | false => (call k (first ++ as ++ caps) ((H.map roB).set q (some b0))).bind fun r => match hget r.2 q with
            | some blk => match stillB b0 blk && r.1.still && Nat.blt q n0 with
              | true => .ret (.is r.1, some (m + q, blk))
              | false => .bad "a call, in a region that draws its order: what it turns"
            | none => .bad "a call, in a region that draws its order: what it turns"
          | true => .bad "a call, in a region that draws its order: what it turns"
        | none => .bad "a call, in a region that draws its order: what it turns"
    | _ => .bad "call"
  | .store t x y => (evS tm true x).bind fun vx => (evS tm true y).bind fun vy => (storeEarly T n0 m U i H t vx vy).bind fun r => .ret (.unk, some r)
  | op => (opE T call (evS tm) H (n0 + i) op).bind fun
    | (s, .none) => .ret (s, none)
    | (s, .new b) => .ret (s, some (i, b))
    | _ => .bad "a region that draws its order"

def earlyStep (T : Tab) (E : Env) (call : CallE) (ops : Array Oper) (n0 m : Nat) (U : Outs) (H : Hp) (i : Nat) (o : Oper) (tm : Tm) : Tree Res :=
  match guardOf ops tm o with
  | none => .bad "guard"
  | some .no => .ret (.when false (.lb false), none)
  | some .yes => opEarly T call n0 m U H i tm o.op
  | some (.on pc) =>
    match isPure o.op with
    | true => (pureOp T (evS tm) pc H o.op).bind fun v => .ret (.when pc v, none)
    | false => match o.op with
      | .call { callee := .value (.func k), args, argTypes := _ } => (evs (evS tm pc) args.toList).bind fun as => match tryPure E k as (H.map roB) with
        | some (pre, r) => .need (!pc || pre) (.ret (.when pc r, none))
        | none => .ite pc (opEarly T call n0 m U H i tm o.op) (.ret (.unk, none))
      | _ => .ite pc (opEarly T call n0 m U H i tm o.op) (.ret (.unk, none))

/-- Two ways: what it said is written out. -/
def forkR {α : Type} (g : Bool) (k : Res → Tree α) (x : Res) : Tree α :=
  match x.1, g with
  | .is (.sb b), true => .ite b (k (.is (.lb true), x.2)) (k (.is (.lb false), x.2))
  | _, _ => k x
theorem forkR_run {α : Type} {g : Bool} {k : Res → Tree α} {x : Res} {r : α} (h : (forkR g k x).run = some r) : ∃ x1, (k x1).run = some r ∧ x1.2 = x.2 ∧ ∀ (ρ : Names) (Φ : Nat → Prop) (w : World) (v : Value), x.1.ok ρ Φ w v → x1.1.ok ρ Φ w v := by
  unfold forkR at h
  split at h
  · rename_i b hb
    rcases Tree.run_ite h with ⟨rfl, h⟩ | ⟨rfl, h⟩
    · exact ⟨_, h, rfl, fun ρ Φ w v hv => by rw [hb] at hv; simpa [Slot.ok, Den] using hv⟩
    · exact ⟨_, h, rfl, fun ρ Φ w v hv => by rw [hb] at hv; simpa [Slot.ok, Den] using hv⟩
  · exact ⟨x, h, rfl, fun _ _ _ _ h => h⟩
/-- 'rs': what came of those ahead, in the order of the text. -/
def earlyE (T : Tab) (E : Env) (call : CallE) (ops : Array Oper) (H0 : Hp) (m : Nat) (U : Outs) (b : List Nat) : List Oper → List Res → Tm → Tree (List Res)
  | [], rs, _ => .ret rs
  | o :: r, rs, tm => (earlyStep T E call ops H0.length m U (outFor m b rs.length rs U H0 U H0 ++ newsFor m (b.getD rs.length 0) rs) rs.length o tm).bind (forkR (guardy ops o) fun x => earlyE T E call ops H0 m U b r (rs ++ [x]) (putS tm o.dst x.1))

def tmAt (ops : List Oper) (rs : List Res) (tm : Tm) : Tm :=
  match ops, rs with
  | o :: ops, x :: rs => tmAt ops rs (putS tm o.dst x.1)
  | _, _ => tm

/-- Whoever turns a block of the region's own comes behind all ahead of it that know that block. -/
def evsOk (m : Nat) (U : Outs) (b : List Nat) : Nat → List Res → Bool
  | _, [] => true
  | j, x :: r => (match x.2 with
    | some (k, _) => match Nat.ble m k with
      | true => memU U j (k - m)
      | false => Nat.beq k j || ((b.getD j 0).testBit k && (List.range j).all fun i => !((b.getD i 0).testBit k) || (b.getD j 0).testBit i)
    | none => true) && evsOk m U b (j + 1) r

/-- Bits below. -/
def lowBits : Nat → List Nat → Bool
  | _, [] => true
  | i, x :: r => Nat.blt x (2 ^ i) && lowBits (i + 1) r

def allYes : Nat → Bool := fun _ => true

def newsEnd (m : Nat) (rs : List Res) : List (Option Blk) := match noEv rs with
  | true => List.replicate m none
  | false => (List.range m).map fun k => evAt allYes k 0 rs none

/-- A piece that draws its order. -/
def pieceE (T : Tab) (E : Env) (call : CallE) (ops : Array Oper) (b : List Nat) (l : List Oper) (tm : Tm) (H : Hp) : Tree (Outs × List Res) :=
  let U := outsOf T E l H tm 0 l
  match scanOk ops b 0 l [] [] && (lowBits 0 b && outsOk b U) with
  | true => (earlyE T E call ops H l.length U b l [] tm).bind fun rs => match evsOk l.length U b 0 rs with
    | true => .ret (U, rs)
    | false => .bad "blocks, in a region that draws its order"
  | false => .bad "the order of a region"
/-! A piece whose operations that turn something come one behind the other -/
/-- Neither comes ahead of the other one. -/
def unord (b : List Nat) (i j : Nat) : Bool := match Nat.blt j i with
  | true => !((b.getD i 0).testBit j)
  | false => Nat.blt i j && !((b.getD j 0).testBit i)
/-- Those that turn something ('ks': false) come one behind the other. -/
def chainOk (b : List Nat) (ks : List Bool) : Bool := (List.range ks.length).all fun j => ks.getD j true || (List.range j).all fun i => ks.getD i true || (b.getD j 0).testBit i
def nameOf : SV → List Nat
  | .ref b _ => [b]
  | .rref b _ _ _ => [b]
  | .own b => [b]
  | .osl b _ _ _ => [b]
  | .cut b _ _ _ => [b]
  | .sl b _ _ _ => [b]
  | .mp b => [b]
  | _ => []
def readsMem : Op → Bool
  | .load .. | .indexAddr .. | .slice .. | .call .. | .convert .. | .index .. => true
  | _ => false
/-- The blocks that an operation that only reads looks into; 'none': all that turn something come ahead of it, or behind it. -/
def readsOf (T : Tab) (l : List Oper) (tm : Tm) (H : Hp) (b : List Nat) (ks : List Bool) (i : Nat) (o : Oper) : Option (List Nat) :=
  match (List.range ks.length).any fun j => !(ks.getD j true) && unord b i j with
  | false => none
  | true => some (match readsMem o.op with
    | true => o.op.operands.toList.flatMap fun x => match ptrOf T l tm H 20 x with
      | some v => nameOf v
      | none => []
    | false => [])
def readsL (T : Tab) (l : List Oper) (tm : Tm) (H : Hp) (b : List Nat) (ks : List Bool) : Nat → List Oper → List (Option (List Nat))
  | _, [] => []
  | i, o :: r => (match ks.getD i true with
    | true => readsOf T l tm H b ks i o
    | false => none) :: readsL T l tm H b ks (i + 1) r
/-- What an operation that turns something may not see. -/
def hidOf (b : List Nat) (rd : List (Option (List Nat))) (i : Nat) : List Nat := (List.range rd.length).flatMap fun s => match unord b i s with
  | true => (rd.getD s none).getD []
  | false => []
def memN (F : List Nat) (b : Nat) : Bool := F.any (Nat.beq b)
mutual
/-- All names in it are such. -/
def SV.allN (f : Nat → Bool) : SV → Bool
  | .ref b _ => f b
  | .rref b _ _ _ => f b
  | .sl b _ _ _ => f b
  | .own b => f b
  | .osl b _ _ _ => f b
  | .cut b _ _ _ => f b
  | .mp b => f b
  | .agg cs => SV.allNL f cs
  | .tup vs => SV.allNL f vs
  | .clo _ first caps => SV.allNL f first && SV.allNL f caps
  | _ => true
def SV.allNL (f : Nat → Bool) : List SV → Bool
  | [] => true
  | c :: r => SV.allN f c && SV.allNL f r
end
def allNO (f : Nat → Bool) : Option Blk → Bool
  | some ⟨.cells cs, _, _⟩ => SV.allNL f cs
  | _ => true
def allNH (f : Nat → Bool) : Nat → Hp → Bool
  | _, [] => true
  | i, b :: r => (match f i with
    | true => allNO f b
    | false => true) && allNH f (i + 1) r
def Slot.allN (f : Nat → Bool) : Slot → Bool
  | .unk => true
  | .is v => v.allN f
  | .when _ v => v.allN f
/-- A block that is there, and not hidden. -/
def vis (F : List Nat) (H : Hp) (b : Nat) : Bool := match memN F b with
  | true => false
  | false => match hget H b with
    | some _ => true
    | none => false
def visN (F : List Nat) (H : Hp) (b : Nat) : Bool := vis F H b || Nat.ble H.length b
def hideH (F : List Nat) : Nat → Hp → Hp
  | _, [] => []
  | i, b :: r => (match memN F i with | true => none | false => b) :: hideH F (i + 1) r
def showO (h : Bool) : Option Blk → Option Blk → Option Blk
  | none, _ => none
  | some b, c => match h with
    | true => some b
    | false => c
/-- What was hidden is as it was. -/
def showH (F : List Nat) : Nat → Hp → Hp → Hp
  | i, b :: r, c :: s => showO (memN F i) b c :: showH F (i + 1) r s
  | _, _, s => s
def onlyH (H : Hp) : List Nat → Hp → Hp
  | [], A => A
  | b :: r, A => onlyH H r (A.set b (hget H b))
def rdH (H : Hp) : Option (List Nat) → Hp
  | none => H
  | some R => onlyH H R (H.map fun _ => none)
def onlyT (tm : Tm) : List Tmp → Tm → Tm
  | [], t => t
  | i :: r, t => onlyT tm r (t.set i (tm.t.get i))
def slotAt (tm : Tm) : Option Tmp → Slot
  | some d => match tm.look d with
    | some s => s
    | none => .unk
  | none => .unk
def seqStep (T : Tab) (E : Env) (call : CallE) (ops : Array Oper) (rd : Option (List Nat)) (reads : Bool) (F : List Nat) (H : Hp) (o : Oper) (tm : Tm) : Tree (Slot × Hp) :=
  match reads with
  | true => match guardOf ops tm o with
    | some .no => .ret (.when false (.lb false), H)
    | some .yes => (pureOp T (evS tm) true (rdH H rd) o.op).bind fun v => .ret (.is v, H)
    | some (.on pc) => (pureOp T (evS tm) pc (rdH H rd) o.op).bind fun v => .ret (.when pc v, H)
    | none => .bad "guard"
  | false => match F with
    | [] => (stepE T E call ops o ⟨onlyT tm (Oper.looksAt ops o) ⟨tm.length, .nil⟩, H⟩).bind fun st => .ret (slotAt st.tmps o.dst, st.heap)
    | _ :: _ => match (F.all fun b => Nat.blt b H.length) && (allNH (vis F H) 0 H && (Oper.looksAt ops o).all fun t => (tm.t.get t).allN (vis F H)) with
      | true => (stepE T E call ops o ⟨onlyT tm (Oper.looksAt ops o) ⟨tm.length, .nil⟩, hideH F 0 H⟩).bind fun st => match (slotAt st.tmps o.dst).allN (visN F H) && (allNH (visN F H) 0 st.heap && Nat.ble H.length st.heap.length) with
        | true => .ret (slotAt st.tmps o.dst, showH F 0 H st.heap)
        | false => .bad "what is hidden in a region comes to light"
      | false => .bad "what is read in a region cannot be hidden"
def forkQ {α : Type} (g : Bool) (k : Slot × Hp → Tree α) (x : Slot × Hp) : Tree α :=
  match x.1, g with
  | .is (.sb b), true => .ite b (k (.is (.lb true), x.2)) (k (.is (.lb false), x.2))
  | _, _ => k x
theorem forkQ_run {α : Type} {g : Bool} {k : Slot × Hp → Tree α} {x : Slot × Hp} {r : α} (h : (forkQ g k x).run = some r) : ∃ x1, (k x1).run = some r ∧ x1.2 = x.2 ∧ ∀ (ρ : Names) (Φ : Nat → Prop) (w : World) (v : Value), x.1.ok ρ Φ w v → x1.1.ok ρ Φ w v := by
  unfold forkQ at h
  split at h
  · rename_i b hb
    rcases Tree.run_ite h with ⟨rfl, h⟩ | ⟨rfl, h⟩
    · exact ⟨_, h, rfl, fun ρ Φ w v hv => by rw [hb] at hv; simpa [Slot.ok, Den] using hv⟩
    · exact ⟨_, h, rfl, fun ρ Φ w v hv => by rw [hb] at hv; simpa [Slot.ok, Den] using hv⟩
  · exact ⟨x, h, rfl, fun _ _ _ _ h => h⟩
def seqE (T : Tab) (E : Env) (call : CallE) (ops : Array Oper) (b : List Nat) (ks : List Bool) (rd : List (Option (List Nat))) : Nat → List Oper → List Res → Tm → Hp → Tree (List Res × Hp)
  | _, [], rs, _, H => .ret (rs, H)
  | j, o :: r, rs, tm, H => (seqStep T E call ops (rd.getD j none) (ks.getD j false) (hidOf b rd j) H o tm).bind (forkQ (guardy ops o) fun x => seqE T E call ops b ks rd (j + 1) r (rs ++ [(x.1, none)]) (putS tm o.dst x.1) x.2)
def seqP (T : Tab) (E : Env) (call : CallE) (ops : Array Oper) (b : List Nat) (l : List Oper) (tm : Tm) (H : Hp) : Tree (List Res × Hp) :=
  match chainOk b (l.map fun o => isPure o.op) && (scanOk ops b 0 l [] [] && lowBits 0 b) with
  | true => seqE T E call ops b (l.map fun o => isPure o.op) (readsL T l tm H b (l.map fun o => isPure o.op) 0 l) 0 l [] tm H
  | false => .bad "no chain"
/-- The one, or (where there is none) the other. -/
def Tree.bindOr {α β : Type} (t : Tree α) (f : α → Tree β) (u : Unit → Tree β) : Tree β := match t with
  | .bad _ => u ()
  | .ret a => f a
  | .need p t => .need p (t.bind f)
  | .ite c x y => .ite c (x.bind f) (y.bind f)
theorem Tree.run_bindOr {α β : Type} {t : Tree α} {f : α → Tree β} {u : Unit → Tree β} {r : β} (h : (t.bindOr f u).run = some r) : (∃ a, t.run = some a ∧ (f a).run = some r) ∨ (u ()).run = some r := by
  cases t with
  | bad w => exact .inr h
  | ret a => exact .inl ⟨a, rfl, h⟩
  | need p t => exact .inl (Tree.run_bind (t := .need p t) h)
  | ite c x y => exact .inl (Tree.run_bind (t := .ite c x y) h)

/-- Piece by piece. -/
def segsE (sq : Bool) (T : Tab) (E : Env) (call : CallE) (ops : Array Oper) : List Nat → Nat → List Nat → List Oper → St → Tree St
  | [], _, _, _, st => .ret st
  | n :: r, c, b, l, st => match n with
    | 0 => segsE sq T E call ops r c b l st
    | 1 => match l with
      | o :: l' => (stepE T E call ops o st).bind (forkSt (guardy ops o) o.dst (segsE sq T E call ops r (c + 1) (b.drop 1) l'))
      | [] => .bad "the order of a region"
    | n + 2 => (match sq with | true => seqP T E call ops ((b.take (n + 2)).map fun x => x >>> c) (l.take (n + 2)) st.tmps st.heap | false => .bad "").bindOr (fun x => segsE sq T E call ops r (c + (n + 2)) (b.drop (n + 2)) (l.drop (n + 2)) { tmps := tmAt (l.take (n + 2)) x.1 st.tmps, heap := x.2 }) fun _ =>
      (pieceE T E call ops ((b.take (n + 2)).map fun x => x >>> c) (l.take (n + 2)) st.tmps st.heap).bind fun x =>
        segsE sq T E call ops r (c + (n + 2)) (b.drop (n + 2)) (l.drop (n + 2)) { tmps := tmAt (l.take (n + 2)) x.2 st.tmps, heap := outL (l.take (n + 2)).length x.2 allYes st.heap x.1 st.heap ++ newsEnd (l.take (n + 2)).length x.2 }
def drawnE (sq : Bool) (T : Tab) (E : Env) (call : CallE) (ops : Array Oper) (st : St) : Tree St :=
  let l := ops.toList
  let b := bef l []
  match edgesOk 0 l with
  | true => segsE sq T E call ops (cutsOf 0 0 (allBef b)) 0 b l st
  | false => .bad "the order of a region"

/-! ### 3. Bits -/

theorem bitsOf_spec {o : Oper} {acc : List Nat} {j : Nat} (h : (bitsOf o acc).testBit j = true) : ∃ e ∈ o.after.toList, Region.binds .any e = true ∧ (e.on = j ∨ (acc.getD e.on 0).testBit j = true) := by
  unfold bitsOf at h
  have key : ∀ (l : List Edge) (s : Nat), (l.foldl (fun s e => if Region.binds .any e then s ||| 2 ^ e.on ||| acc.getD e.on 0 else s) s).testBit j = true →
      s.testBit j = true ∨ ∃ e ∈ l, Region.binds .any e = true ∧ (e.on = j ∨ (acc.getD e.on 0).testBit j = true) := by
    intro l
    induction l with
    | nil => intro s h; exact .inl h
    | cons e r ih =>
      intro s h
      simp only [List.foldl_cons] at h
      rcases ih _ h with h | ⟨e', he', h⟩
      · split at h
        · rename_i hb
          simp only [Nat.testBit_or, Bool.or_eq_true] at h
          rcases h with (h | h) | h
          · exact .inl h
          · rw [Nat.testBit_two_pow] at h
            exact .inr ⟨e, by simp, hb, .inl (by simpa using h)⟩
          · exact .inr ⟨e, by simp, hb, .inr h⟩
        · exact .inl h
      · exact .inr ⟨e', by simp [he'], h⟩
  rcases key _ _ h with h | h
  · simp at h
  · exact h

theorem bef_prefix : ∀ (l : List Oper) (acc : List Nat), ∃ t, bef l acc = acc ++ t
  | [], acc => ⟨[], by simp [bef]⟩
  | o :: r, acc => by
    obtain ⟨t, ht⟩ := bef_prefix r (acc ++ [bitsOf o acc])
    exact ⟨bitsOf o acc :: t, by simp [bef, ht]⟩

theorem bef_at : ∀ (l : List Oper) (acc : List Nat) (i : Nat) (o : Oper), l[i]? = some o → ∃ pre t, bef l acc = pre ++ bitsOf o pre :: t ∧ pre.length = acc.length + i
  | [], acc, i, o, h => by simp at h
  | x :: r, acc, 0, o, h => by
    simp at h; subst h
    obtain ⟨t, ht⟩ := bef_prefix r (acc ++ [bitsOf x acc])
    exact ⟨acc, t, by simp [bef, ht], by simp⟩
  | x :: r, acc, i + 1, o, h => by
    obtain ⟨pre, t, h1, h2⟩ := bef_at r (acc ++ [bitsOf x acc]) i o (by simpa using h)
    exact ⟨pre, t, by simp [bef, h1], by simp at h2; omega⟩

/-- What stands among an operation's bits stands at one of its edges, or among the bits of one. -/
theorem bef_spec {l : List Oper} {i j : Nat} {o : Oper} (hi : l[i]? = some o) (h : ((bef l []).getD i 0).testBit j = true) :
    ∃ e ∈ o.after.toList, Region.binds .any e = true ∧ (e.on = j ∨ ((bef l []).getD e.on 0).testBit j = true) := by
  obtain ⟨pre, t, h1, h2⟩ := bef_at l [] i o hi
  simp at h2
  have e0 : (bef l []).getD i 0 = bitsOf o pre := by
    rw [h1, List.getD_eq_getElem?_getD, List.getElem?_append_right (by omega)]
    simp [h2]
  rw [e0] at h
  obtain ⟨e, he, hb, hor⟩ := bitsOf_spec h
  refine ⟨e, he, hb, ?_⟩
  rcases hor with hor | hor
  · exact .inl hor
  · refine .inr ?_
    have : e.on < pre.length := by
      rcases Nat.lt_or_ge e.on pre.length with hlt | hge
      · exact hlt
      · rw [List.getD_eq_getElem?_getD, List.getElem?_eq_none hge] at hor; simp at hor
    rw [h1, List.getD_eq_getElem?_getD, List.getElem?_append_left this, ← List.getD_eq_getElem?_getD]
    exact hor

theorem bef_length : ∀ (l : List Oper) (acc : List Nat), (bef l acc).length = acc.length + l.length
  | [], acc => by simp [bef]
  | o :: r, acc => by rw [bef, bef_length r]; simp; omega

theorem findW_of {W : List (Tmp × Nat)} {t : Tmp} {j : Nat} (h : findW W t = some j) : (t, j) ∈ W := by
  induction W with
  | nil => simp [findW] at h
  | cons x r ih =>
    obtain ⟨u, k⟩ := x
    simp only [findW] at h
    split at h
    · rename_i hu
      have : u = t := by simpa using hu
      simp only [Option.some.injEq] at h
      subst this; subst h; simp
    · exact List.mem_cons_of_mem _ (ih h)

/-- Whoever has written a slot, is found. -/
def Uniq (W : List (Tmp × Nat)) : Prop := ∀ t j, (t, j) ∈ W → findW W t = some j

theorem Uniq.cons {W : List (Tmp × Nat)} (h : Uniq W) {d : Tmp} {i : Nat} (hd : findW W d = none) : Uniq ((d, i) :: W) := by
  intro t j hj
  simp only [findW]
  rcases List.mem_cons.1 hj with e | hj
  · simp only [Prod.mk.injEq] at e; obtain ⟨rfl, rfl⟩ := e; simp
  · have h1 := h t j hj
    have hne : ¬ d = t := fun e => by subst e; rw [hd] at h1; cases h1
    simp [hne, h1]

theorem scanOk_spec {ops : Array Oper} {b : List Nat} : ∀ (l : List Oper) (i : Nat) (W R : List (Tmp × Nat)), scanOk ops b i l W R = true → Uniq W → ∀ (k : Nat) (o : Oper), l[k]? = some o →
    (∀ t j, (t, j) ∈ W → o.dst ≠ some t ∧ (t ∈ Oper.looksAt ops o → (b.getD (i + k) 0).testBit j = true)) ∧
    (∀ t j, (t, j) ∈ R → o.dst = some t → (b.getD (i + k) 0).testBit j = true) ∧
    (∀ (k' : Nat) (o' : Oper), k' < k → l[k']? = some o' → (∀ t, o'.dst = some t → o.dst ≠ some t ∧ (t ∈ Oper.looksAt ops o → (b.getD (i + k) 0).testBit (i + k') = true)) ∧
      (∀ t, t ∈ Oper.looksAt ops o' → o.dst = some t → (b.getD (i + k) 0).testBit (i + k') = true))
  | [], i, W, R, h, hu, k, o, hk => by simp at hk
  | x :: r, i, W, R, h, hu, k, o, hk => by
    simp only [scanOk, Bool.and_eq_true, List.all_eq_true] at h
    obtain ⟨h1, h2⟩ := h
    cases k with
    | zero =>
      simp at hk; subst hk
      refine ⟨?_, ?_, ?_⟩
      · intro t j hj
        have hf := hu t j hj
        refine ⟨?_, ?_⟩
        · intro hd
          rw [hd] at h2
          simp only [Bool.and_eq_true, hf] at h2
          simp at h2
        · intro ht
          have := h1 t ht
          rw [hf] at this
          simpa using this
      · intro t j hj hd
        rw [hd] at h2
        simp only [Bool.and_eq_true, List.all_eq_true] at h2
        have := h2.1.2 (t, j) hj
        simpa using this
      · intro k' o' hk'; omega
    | succ k =>
      have hk2 : r[k]? = some o := by simpa using hk
      have e : i + (k + 1) = i + 1 + k := by omega
      rw [e]
      have rest : ∃ W' R', scanOk ops b (i + 1) r W' R' = true ∧ Uniq W' ∧ (∀ y ∈ W, y ∈ W') ∧ (∀ y ∈ R, y ∈ R') ∧ (∀ t, x.dst = some t → (t, i) ∈ W') ∧ (∀ t, t ∈ Oper.looksAt ops x → (t, i) ∈ R') := by
        cases hd : x.dst with
        | none =>
          rw [hd] at h2
          exact ⟨W, _, h2, hu, fun y hy => hy, fun y hy => List.mem_append_right _ hy, fun t ht => (by cases ht), fun t ht => List.mem_append_left _ (List.mem_map.2 ⟨t, ht, rfl⟩)⟩
        | some d =>
          rw [hd] at h2
          simp only [Bool.and_eq_true] at h2
          refine ⟨(d, i) :: W, _, h2.2, hu.cons (by simpa using h2.1.1), fun y hy => List.mem_cons_of_mem _ hy, fun y hy => List.mem_append_right _ hy, fun t ht => ?_, fun t ht => List.mem_append_left _ (List.mem_map.2 ⟨t, ht, rfl⟩)⟩
          simp only [Option.some.injEq] at ht; subst ht; simp
      obtain ⟨W', R', hs, hu', hW, hR, hw, hr⟩ := rest
      obtain ⟨g1, g2, g3⟩ := scanOk_spec r (i + 1) W' R' hs hu' k o hk2
      refine ⟨fun t j hj => g1 t j (hW _ hj), fun t j hj => g2 t j (hR _ hj), ?_⟩
      intro k' o' hlt hk'
      cases k' with
      | zero =>
        simp at hk'; subst hk'
        refine ⟨fun t ht => ?_, fun t ht hd => ?_⟩
        · simpa using g1 t i (hw t ht)
        · simpa using g2 t i (hr t ht) hd
      | succ k' =>
        have e' : i + (k' + 1) = i + 1 + k' := by omega
        rw [e']
        exact g3 k' o' (by omega) (by simpa using hk')

theorem edgesOk_spec : ∀ (l : List Oper) (i : Nat), edgesOk i l = true → ∀ (k : Nat) (o : Oper), l[k]? = some o → ∀ e ∈ o.after.toList, Region.binds .any e = true → e.on < i + k
  | [], i, h, k, o, hk => by simp at hk
  | x :: r, i, h, k, o, hk => by
    simp only [edgesOk, Bool.and_eq_true, List.all_eq_true] at h
    intro e he hb
    cases k with
    | zero =>
      simp at hk; subst hk
      have := h.1 e he
      rw [hb] at this
      simp [Nat.blt] at this; omega
    | succ k =>
      have := edgesOk_spec r (i + 1) h.2 k o (by simpa using hk) e he hb
      omega

/-- All from there on come behind all ahead. -/
def Bd (b : List Nat) (c : Nat) : Prop := ∀ j, c ≤ j → j < b.length → ∀ i, i < c → (b.getD j 0).testBit i = true
def CutOk (b : List Nat) : Nat → List Nat → Prop
  | c, [] => b.length ≤ c
  | c, n :: r => c + n ≤ b.length ∧ Bd b (c + n) ∧ CutOk b (c + n) r
theorem allBef_spec : ∀ (l : List Nat) (x : Nat) (r : List Nat), allBef l = x :: r → (∀ i, x.testBit i = true → ∀ j, j < l.length → (l.getD j 0).testBit i = true) ∧ r = allBef (l.drop 1)
  | [], x, r, h => by simp [allBef] at h
  | a :: l, x, r, h => by
    simp only [allBef] at h
    split at h
    · rename_i he
      simp only [List.cons.injEq] at h
      obtain ⟨rfl, rfl⟩ := h
      have hl : l = [] := by
        cases l with
        | nil => rfl
        | cons b l => simp only [allBef] at he; split at he <;> simp at he
      subst hl
      refine ⟨fun i hi j hj => ?_, by simp [allBef]⟩
      have : j = 0 := by simp at hj; omega
      subst this; simpa using hi
    · rename_i y s he
      simp only [List.cons.injEq] at h
      obtain ⟨rfl, rfl⟩ := h
      obtain ⟨h1, _⟩ := allBef_spec l y s he
      refine ⟨fun i hi j hj => ?_, by simp [he]⟩
      rw [Nat.testBit_and, Bool.and_eq_true] at hi
      cases j with
      | zero => simpa using hi.1
      | succ j => simpa using h1 i hi.2 j (by simpa using hj)
theorem allBef_nil {l : List Nat} (h : allBef l = []) : l = [] := by
  cases l with
  | nil => rfl
  | cons a l => simp only [allBef] at h; split at h <;> simp at h
theorem cutsOf_ok (b : List Nat) : ∀ (k c n : Nat), b.length - c = k → n ≤ c → c ≤ b.length → CutOk b (c - n) (cutsOf c n (allBef (b.drop c)))
  | 0, c, n, hk, hn, hc => by
    have : b.drop c = [] := List.drop_eq_nil_of_le (by omega)
    rw [this]
    simp only [allBef, cutsOf, CutOk]
    refine ⟨by omega, fun j h1 h2 => by omega, by omega⟩
  | k + 1, c, n, hk, hn, hc => by
    cases he : allBef (b.drop c) with
    | nil =>
      have := allBef_nil he
      have := congrArg List.length this
      simp at this; omega
    | cons x r =>
      obtain ⟨h1, rfl⟩ := allBef_spec _ _ _ he
      rw [List.drop_drop]
      simp only [cutsOf]
      split
      · rename_i hcut
        have hx : x % 2 ^ c = 2 ^ c - 1 := by simpa using hcut
        have hbd : Bd b c := by
          intro j h2 h3 i hi
          have hxi : x.testBit i = true := by
            have h4 : (x % 2 ^ c).testBit i = true := by rw [hx, Nat.testBit_two_pow_sub_one]; simpa using hi
            rw [Nat.testBit_mod_two_pow] at h4
            simp at h4
            simpa using h4.2
          have := h1 i hxi (j - c) (by simp; omega)
          rw [List.getD_eq_getElem?_getD, List.getElem?_drop, show c + (j - c) = j by omega, ← List.getD_eq_getElem?_getD] at this
          exact this
        have ih := cutsOf_ok b k (c + 1) 1 (by omega) (by omega) (by omega)
        simp only [CutOk]
        rw [show c - n + n = c by omega]
        refine ⟨hc, hbd, ?_⟩
        rw [show c + 1 - 1 = c by omega] at ih
        exact ih
      · have ih := cutsOf_ok b k (c + 1) (n + 1) (by omega) (by omega) (by omega)
        rw [show c + 1 - (n + 1) = c - n by omega] at ih
        exact ih

theorem mem_looksAt {ops : Array Oper} {o : Oper} {t : Nat} (h : Operand.tmp t ∈ o.op.operands) : t ∈ Oper.looksAt ops o := by
  unfold Oper.looksAt
  refine List.mem_append_left _ (List.mem_filterMap.2 ⟨.tmp t, ?_, rfl⟩)
  exact Array.mem_toList_iff.2 h


/-- 'L' and one more. -/
def more (L : Nat → Bool) (i : Nat) : Nat → Bool := fun j => j == i || L j

section
variable {P : Program} {T : Tab} [GoodTab P T] {ops : Array Oper}
def isL (listed : Array Bool) (i : Nat) : Bool := listed.getD i false

theorem ready_spec {listed : Array Bool} (hsz : listed.size = ops.size) {i : Nat} : i ∈ Region.ready .any ops listed ↔ i < ops.size ∧ isL listed i = false ∧ ∃ o, ops[i]? = some o ∧ ∀ e ∈ o.after.toList, Region.binds .any e = true → isL listed e.on = true := by
  unfold Region.ready isL
  rw [List.mem_filter, List.mem_range]
  constructor
  · rintro ⟨hi, h⟩
    refine ⟨hi, ?_⟩
    have hil : i < listed.size := by omega
    simp only [Bool.and_eq_true, Bool.not_eq_true'] at h
    obtain ⟨h1, h2⟩ := h
    have ho : ops[i]? = some ops[i] := Array.getElem?_eq_getElem hi
    rw [ho] at h2
    simp only [Option.map_some, Option.getD_some, Array.all_eq_true'] at h2
    refine ⟨?_, ops[i], ho, ?_⟩
    · simpa [Array.getD, hil] using h1
    · intro e he hb
      have := h2 e (Array.mem_toList_iff.1 he)
      simpa [hb] using this
  · rintro ⟨hi, h1, o, ho, h2⟩
    refine ⟨hi, ?_⟩
    have hil : i < listed.size := by omega
    simp only [Bool.and_eq_true, Bool.not_eq_true']
    rw [ho]
    simp only [Option.map_some, Option.getD_some, Array.all_eq_true']
    refine ⟨?_, ?_⟩
    · simpa [Array.getD, hil] using h1
    · intro e he
      cases hb : Region.binds .any e with
      | false => simp
      | true => simpa using h2 e (Array.mem_toList_iff.2 he) hb

theorem isL_set {listed : Array Bool} {i : Nat} (hi : i < listed.size) : isL (listed.setIfInBounds i true) = more (isL listed) i := by
  funext j
  unfold isL more
  simp only [Array.getD_eq_getD_getElem?, Array.getElem?_setIfInBounds]
  by_cases h : i = j
  · subst h; simp [hi]
  · have : ¬ j = i := fun e => h e.symm
    simp [h, this]

theorem countP_lt {p p' : Nat → Bool} {i : Nat} (hle : ∀ j, p' j = true → p j = true) (hp : p i = true) (hp' : p' i = false) : ∀ l : List Nat, i ∈ l → l.countP p' < l.countP p
  | [], h => by simp at h
  | a :: r, h => by
    have hmono : r.countP p' ≤ r.countP p := List.countP_mono_left fun x _ hx => hle x hx
    rw [List.countP_cons, List.countP_cons]
    by_cases ha : a = i
    · subst ha; simp [hp, hp']; omega
    · have hr : i ∈ r := by
        rcases List.mem_cons.1 h with e | e
        · exact absurd e.symm ha
        · exact e
      have := countP_lt hle hp hp' r hr
      by_cases h1 : p' a = true
      · simp [h1, hle a h1]; omega
      · simp [h1]; split <;> omega


end
theorem lowBits_spec : ∀ (l : List Nat) (i : Nat), lowBits i l = true → ∀ k j, (l.getD k 0).testBit j = true → j < i + k
  | [], i, h, k, j, hj => by simp at hj
  | x :: r, i, h, k, j, hj => by
    simp only [lowBits, Bool.and_eq_true] at h
    cases k with
    | zero =>
      have hx : x < 2 ^ i := nlt.1 h.1
      simp at hj
      rcases Nat.lt_or_ge j i with hlt | hge
      · omega
      · have := Nat.testBit_lt_two_pow (Nat.lt_of_lt_of_le hx (Nat.pow_le_pow_right (by omega) hge))
        rw [this] at hj; cases hj
    | succ k =>
      have := lowBits_spec r (i + 1) h.2 k j (by simpa using hj)
      omega
end Go.Sy
