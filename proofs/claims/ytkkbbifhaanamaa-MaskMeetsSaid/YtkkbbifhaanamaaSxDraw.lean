/-
  A region that draws its order: run once, in the order of its text; what it comes to, holds of every order.
  No statement of the seat is proved here. Conditions: none.
-/
import Derived.Test.YtkkbbifhaanamaaSxSnd6
import Derived.Orders
set_option linter.unusedSimpArgs false
set_option linter.unusedVariables false
namespace Go.Sx
open Go.RowKit

/-! ### 1. Definitions -/

mutual
def SV.refs (p : Nat → Bool) : SV → Bool
  | .ref b _ => p b
  | .sl b _ _ _ => p b
  | .agg cs => SV.refsL p cs
  | .tup vs => SV.refsL p vs
  | .clo _ first caps => SV.refsL p first && SV.refsL p caps
  | _ => true
def SV.refsL (p : Nat → Bool) : List SV → Bool
  | [] => true
  | c :: r => SV.refs p c && SV.refsL p r
end
def Slot.refs (p : Nat → Bool) : Slot → Bool
  | .unk => true
  | .is v => v.refs p
  | .when _ v => v.refs p

/-- Which operations come ahead, as bits. -/
def bitsOf (o : Oper) (acc : List Nat) : Nat := o.after.toList.foldl (fun s e => if Region.binds .any e then s ||| 2 ^ e.on ||| acc.getD e.on 0 else s) 0
def bef : List Oper → List Nat → List Nat
  | [], acc => acc
  | o :: r, acc => bef r (acc ++ [bitsOf o acc])

/-- How many stand ahead of the first store or assignment. -/
def earlyN : List Oper → Nat
  | [] => 0
  | o :: r => match o.op with
    | .store .. => 0
    | .assign _ => 0
    | _ => earlyN r + 1

def dstAt (ops : Array Oper) (j : Nat) : Option Tmp := (ops[j]?).bind (·.dst)

def findW : List (Tmp × Nat) → Tmp → Option Nat
  | [], _ => none
  | (t, j) :: r, u => if Nat.beq t u then some j else findW r u

/-- The operations, one by one: what each looks at was written by one that comes ahead of it by its edges; what it writes, nobody has written, and whoever has looked at it comes ahead by its edges. 'W': who has written what; 'R': who has looked at what. -/
def scanOk (ops : Array Oper) (b : List Nat) : Nat → List Oper → List (Tmp × Nat) → List (Tmp × Nat) → Bool
  | _, [], _, _ => true
  | i, o :: r, W, R =>
    (Oper.looksAt ops o).all (fun t => match findW W t with | some j => (b.getD i 0).testBit j | none => true) &&
    (match o.dst with
     | none => scanOk ops b (i + 1) r W ((Oper.looksAt ops o).map (fun t => (t, i)) ++ R)
     | some d => (findW W d).isNone && R.all (fun x => !(Nat.beq x.1 d) || (b.getD i 0).testBit x.2) && scanOk ops b (i + 1) r ((d, i) :: W) ((Oper.looksAt ops o).map (fun t => (t, i)) ++ R))

def edgesOk : Nat → List Oper → Bool
  | _, [] => true
  | i, o :: r => o.after.toList.all (fun e => !Region.binds .any e || Nat.blt e.on i) && edgesOk (i + 1) r

def lateOk : Nat → List Nat → Bool
  | _, [] => true
  | i, b :: r => Nat.beq (b % 2 ^ i) (2 ^ i - 1) && lateOk (i + 1) r

def orderOk (ops : Array Oper) (b : List Nat) (m : Nat) : Bool :=
  scanOk ops b 0 (ops.toList.take m) [] [] && edgesOk 0 ops.toList && lateOk m (b.drop m)

def opEarly (P : Program) (call : CallE) (H0 : Hp) (i : Nat) (tm : List Slot) (op : Op) : Tree (Slot × Option Blk) :=
  match op with
  | .call { callee := .value f, args, argTypes := _ } => (evS tm true f).bind fun
    | .clo (.func k) first caps => (evs (evS tm true) args.toList).bind fun as => (call k (first ++ as ++ caps) (List.replicate H0.length none)).bind fun r =>
      if r.1.low 0 then .ret (.is r.1, none) else .bad "a call, in a region that draws its order"
    | _ => .bad "call"
  | .store .. => .bad "a store, in a region that draws its order"
  | op => (opE P call (evS tm) H0 (H0.length + i) op).bind fun
    | (v, .none) => .ret (.is v, none)
    | (v, .new b) => .ret (.is v, some b)
    | _ => .bad "a region that draws its order"

def earlyStep (P : Program) (call : CallE) (specs : Specs) (ops : Array Oper) (H0 : Hp) (i : Nat) (o : Oper) (tm : List Slot) : Tree (Slot × Option Blk) :=
  match guardOf ops tm o with
  | none => .bad "guard"
  | some .no => .ret (.unk, none)
  | some .yes => opEarly P call H0 i tm o.op
  | some (.on pc) =>
    if isPure o.op then (pureOp P (evS tm) pc H0 o.op).bind fun v => .ret (.when pc v, none)
    else match o.op with
      | .call { callee := .value (.func k), args, argTypes := _ } => (evs (evS tm pc) args.toList).bind fun as => match trySpec specs k as with
        | some (pre, r) => if r.low 0 then .need (!pc || pre) (.ret (.when pc r, none)) else .bad "call: the contract"
        | none => .ite pc (opEarly P call H0 i tm o.op) (.ret (.unk, none))
      | _ => .ite pc (opEarly P call H0 i tm o.op) (.ret (.unk, none))

def earlyE (P : Program) (call : CallE) (specs : Specs) (ops : Array Oper) (H0 : Hp) : Nat → List Oper → List Slot → Tree (List (Slot × Option Blk))
  | _, [], _ => .ret []
  | i, o :: r, tm => (earlyStep P call specs ops H0 i o tm).bind fun x => (earlyE P call specs ops H0 (i + 1) r (putS tm o.dst x.1)).bind fun xs => .ret (x :: xs)

def tmAt (ops : List Oper) (rs : List (Slot × Option Blk)) (tm : List Slot) : List Slot :=
  match ops, rs with
  | o :: ops, x :: rs => tmAt ops rs (putS tm o.dst x.1)
  | _, _ => tm

def refOf (n0 : Nat) (b : List Nat) (j k : Nat) : Bool := Nat.blt k n0 || (k - n0 == j || (b.getD j 0).testBit (k - n0))
def refOfB (n0 : Nat) (b : List Nat) (j k : Nat) : Bool := Nat.blt k n0 || (b.getD j 0).testBit (k - n0)
def refsOk (n0 : Nat) (b : List Nat) : Nat → List (Slot × Option Blk) → Bool
  | _, [] => true
  | j, x :: r => x.1.refs (refOf n0 b j) && (match x.2 with | none => true | some blk => SV.refsL (refOfB n0 b j) blk.cells) && refsOk n0 b (j + 1) r

def drawnE (P : Program) (specs : Specs) (call : CallE) (ops : Array Oper) (st : St) : Tree St :=
  let l := ops.toList
  let m := earlyN l
  let b := bef l []
  if orderOk ops b m && lowS st.heap.length st.tmps && lowH st.heap.length st.heap then
    (earlyE P call specs ops st.heap 0 (l.take m) st.tmps).bind fun rs =>
      if refsOk st.heap.length b 0 rs then stepsE P call specs ops (l.drop m) { tmps := tmAt (l.take m) rs st.tmps, heap := st.heap ++ rs.map (·.2) }
      else .bad "names, in a region that draws its order"
  else .bad "the order of a region"

/-! ### 2. Names -/

mutual
theorem SV.den_refs {ρ ρ' : Nat → Nat} {p : Nat → Bool} (h : ∀ k, p k = true → ρ' k = ρ k) : ∀ v : SV, v.refs p = true → v.den ρ' = v.den ρ
  | .li _ _, _ => by simp [SV.den]
  | .si _ _, _ => by simp [SV.den]
  | .lb _, _ => by simp [SV.den]
  | .sb _, _ => by simp [SV.den]
  | .val _, _ => by simp [SV.den]
  | .ref b off, hl => by simp only [SV.refs] at hl; simp [SV.den, h b hl]
  | .sl b off len cap, hl => by simp only [SV.refs] at hl; simp [SV.den, h b hl]
  | .agg cs, hl => by simp only [SV.refs] at hl; simp only [SV.den, SV.denL_refs h cs hl]
  | .tup vs, hl => by simp only [SV.refs] at hl; simp only [SV.den, SV.denL_refs h vs hl]
  | .clo fn first caps, hl => by
    simp only [SV.refs, Bool.and_eq_true] at hl
    simp only [SV.den, SV.denL_refs h first hl.1, SV.denL_refs h caps hl.2]
theorem SV.denL_refs {ρ ρ' : Nat → Nat} {p : Nat → Bool} (h : ∀ k, p k = true → ρ' k = ρ k) : ∀ l : List SV, SV.refsL p l = true → SV.denL ρ' l = SV.denL ρ l
  | [], _ => by simp [SV.denL]
  | c :: r, hl => by
    simp only [SV.refsL, Bool.and_eq_true] at hl
    simp only [SV.denL, SV.den_refs h c hl.1, SV.denL_refs h r hl.2]
end
theorem Slot.ok_refs {ρ ρ' : Nat → Nat} {p : Nat → Bool} (h : ∀ k, p k = true → ρ' k = ρ k) {s : Slot} {x : Value} (hl : s.refs p = true) (hs : s.ok ρ x) : s.ok ρ' x := by
  cases s with
  | unk => trivial
  | is v => rw [Slot.ok, hs]; exact (SV.den_refs h v hl).symm
  | when c v => rw [Slot.ok, hs, SV.den_refs h v hl]

/-- A block for a name that has none yet. -/
theorem Rel.newAt {ρ : Nat → Nat} {H : Hp} {Φ : Nat → Prop} {w : World} (h : Rel ρ H Φ w) {k0 : Nat} (hk0 : H[k0]? = some none)
    (hH : ∀ (k : Nat) (b : Blk), H[k]? = some (some b) → SV.denL (named ρ k0 w.heap.size) b.cells = SV.denL ρ b.cells) {b : Blk} (hb : SV.denL (named ρ k0 w.heap.size) b.cells = SV.denL ρ b.cells) :
    Rel (named ρ k0 w.heap.size) (H.set k0 (some b)) Φ (w.alloc (.cells (SV.denL ρ b.cells).toArray b.ty (0, 0))) := by
  have hlt0 : k0 < H.length := (List.getElem?_eq_some_iff.1 hk0).1
  have old : ∀ (k : Nat) (c : Blk), (H.set k0 (some b))[k]? = some (some c) → (k ≠ k0 ∧ H[k]? = some (some c)) ∨ (k = k0 ∧ c = b) := by
    intro k c hk
    rw [List.getElem?_set] at hk
    split at hk
    · rename_i he
      subst he
      simp only [Option.some.injEq, hlt0, if_true] at hk
      exact .inr ⟨rfl, hk.symm⟩
    · rename_i he; exact .inl ⟨fun e => he e.symm, hk⟩
  have nm : ∀ k, k ≠ k0 → named ρ k0 w.heap.size k = ρ k := fun k hk => by simp [named, hk]
  have heap_old : ∀ j, j < w.heap.size → (w.alloc (.cells (SV.denL ρ b.cells).toArray b.ty (0, 0))).heap[j]? = w.heap[j]? := fun j hj => Below.heap_alloc _ _ _ hj
  refine ⟨?_, ?_, ?_, ?_⟩
  · intro k c hk
    rcases old k c hk with ⟨hne, hk'⟩ | ⟨rfl, rfl⟩
    · rw [nm k hne, heap_old _ (h.lt hk'), hH k c hk']; exact h.own k c hk'
    · rw [named_at, hb]
      show (w.heap.push _)[w.heap.size]? = _
      simp
  · intro k c hk
    rcases old k c hk with ⟨hne, hk'⟩ | ⟨rfl, rfl⟩
    · rw [nm k hne]; exact h.apart k c hk'
    · rw [named_at]; intro hp; have := h.phi _ hp; omega
  · intro k k' c c' hk hk' e
    rcases old k c hk with ⟨hne, h1⟩ | ⟨rfl, rfl⟩ <;> rcases old k' c' hk' with ⟨hne', h2⟩ | ⟨rfl, rfl⟩
    · rw [nm k hne, nm k' hne'] at e; exact h.inj k k' c c' h1 h2 e
    · rw [nm k hne, named_at] at e; have := h.lt h1; omega
    · rw [named_at, nm k' hne'] at e; have := h.lt h2; omega
    · rfl
  · intro k hk
    have := h.phi k hk
    show k < (w.heap.push _).size
    simp; omega

/-! ### 3. What is known of what an operation looks at -/

theorem knows_slot {ρ : Nat → Nat} {tm : List Slot} {a : Act} {x : Operand} (h : ∀ (t : Nat) (s : Slot), x = .tmp t → tm[t]? = some s → ∃ v, a.tmps[t]? = some v ∧ s.ok ρ v) : Knows (evS tm) a.eval ρ x := by
  intro pc v hv hpc
  cases x with
  | const c => simp only [evS, Tree.run, Option.some.injEq] at hv; subst hv; rw [ofConst_den]; rfl
  | global g => simp [evS, Tree.run] at hv
  | func f => simp only [evS, Tree.run, Option.some.injEq] at hv; subst hv; simp [SV.den, SV.denL, Act.eval]
  | tmp t =>
    simp only [evS] at hv
    split at hv
    · rename_i v' ht
      simp only [Tree.run, Option.some.injEq] at hv; subst hv
      obtain ⟨x, hx, hs⟩ := h t _ rfl ht
      simp only [Slot.ok] at hs
      simp [Act.eval, hx, hs]
    · rename_i c v' ht
      obtain ⟨hc, hv⟩ := Tree.run_need hv
      simp only [Tree.run, Option.some.injEq] at hv; subst hv
      obtain ⟨x, hx, hs⟩ := h t _ rfl ht
      simp only [Slot.ok] at hs
      subst hpc
      have hc' : c = true := by simpa using hc
      subst hc'
      simp [Act.eval, hx, hs]
    · simp [Tree.run] at hv

theorem guardOf_says' {ρ : Nat → Nat} {tm : List Slot} {a : Act} {ops : Array Oper} {o : Oper} (h : ∀ (t : Nat) (s : Slot), t ∈ Oper.looksAt ops o → tm[t]? = some s → ∃ v, a.tmps[t]? = some v ∧ s.ok ρ v) {g : Guard} (hg : guardOf ops tm o = some g) :
    Region.wanted o (yielded ops a.tmps) = g.says := by
  unfold guardOf at hg
  unfold Region.wanted
  split at hg
  · rename_i hn
    simp only [Option.some.injEq] at hg; subst hg
    simp [hn, Guard.says]
  · rename_i j want hn
    simp only [hn]
    split at hg
    · rename_i d hd
      have key : ∀ {s : Slot} (hs : tm[d]? = some s), ∃ x, s.ok ρ x ∧ yielded ops a.tmps j = (match x with | .bool b => some b | _ => none) := by
        intro s hs
        obtain ⟨x, hx, hok⟩ := h d s (by unfold Oper.looksAt; rw [hn]; simp only [hd]; simp) hs
        exact ⟨x, hok, by simp only [yielded, hd]; rw [Option.bind_some, hx]; cases x <;> rfl⟩
      split at hg
      · rename_i b hs
        obtain ⟨x, hok, hy⟩ := key hs
        simp only [Slot.ok, SV.den] at hok; subst hok
        simp only [Option.some.injEq] at hg
        rw [hy]
        cases b <;> cases want <;> simp at hg <;> subst hg <;> simp [Guard.says]
      · rename_i b hs
        obtain ⟨x, hok, hy⟩ := key hs
        simp only [Slot.ok, SV.den] at hok; subst hok
        simp only [Option.some.injEq] at hg; subst hg
        rw [hy]
        cases b <;> cases want <;> simp [Guard.says, pol]
      · rename_i c b hs
        obtain ⟨x, hok, hy⟩ := key hs
        simp only [Slot.ok, SV.den] at hok; subst hok
        simp only [Option.some.injEq] at hg; subst hg
        rw [hy]
        cases c <;> cases b <;> cases want <;> simp [Guard.says, pol, undef]
      · rename_i c b hs
        obtain ⟨x, hok, hy⟩ := key hs
        simp only [Slot.ok, SV.den] at hok; subst hok
        simp only [Option.some.injEq] at hg; subst hg
        rw [hy]
        cases c <;> cases b <;> cases want <;> simp [Guard.says, pol, undef]
      · simp at hg
    · simp at hg

theorem mem_looksAt {ops : Array Oper} {o : Oper} {t : Nat} (h : Operand.tmp t ∈ o.op.operands) : t ∈ Oper.looksAt ops o := by
  unfold Oper.looksAt
  refine List.mem_append_left _ (List.mem_filterMap.2 ⟨.tmp t, ?_, rfl⟩)
  exact Array.mem_toList_iff.2 h

/-! ### 3b. What an operation that makes a block does -/
section
variable {P : Program} {call : CallE} {ρ : Nat → Nat} {Φ : Nat → Prop} {w : World} {eval : Operand → Value} {ev : Bool → Operand → Tree SV} {H : Hp}

theorem opE_none_run {o : Oper} {nm : Nat} {sv : SV} (hk : ∀ x ∈ o.op.operands, Knows ev eval ρ x) (hrel : Rel ρ H Φ w) (h : (opE P call ev H nm o.op).run = some (sv, .none)) : (execOp eval o).run P w = .ok (.value (sv.den ρ)) w := by
  have pc : (opE P call ev H nm o.op) = (pureOp P ev true H o.op).bind (fun v => Tree.ret (v, Eff.none)) → (execOp eval o).run P w = .ok (.value (sv.den ρ)) w := by
    intro he
    rw [he] at h
    obtain ⟨v, h1, h2⟩ := Tree.run_bind h
    simp only [Tree.run, Option.some.injEq, Prod.mk.injEq] at h2
    obtain ⟨rfl, _⟩ := h2
    exact pureOp_run hk hrel h1
  obtain ⟨dst, op, ty, pos, after, guard⟩ := o
  simp only at h hk pc ⊢
  cases op
  case call c =>
    obtain ⟨callee, args, argTypes⟩ := c
    cases callee
    case value f =>
      simp only [opE] at h
      obtain ⟨fv, _, h2⟩ := Tree.run_bind h
      split at h2
      · obtain ⟨as, _, h4⟩ := Tree.run_bind h2
        obtain ⟨r, h5, h6⟩ := Tree.run_bind h4
        simp [Tree.run] at h6
      · simp [Tree.run] at h2
    all_goals exact pc rfl
  case alloc t =>
    simp only [opE] at h
    split at h <;> simp [Tree.run] at h
  case box t y =>
    simp only [opE] at h
    obtain ⟨v, _, h2⟩ := Tree.run_bind h
    split at h2 <;> simp [Tree.run] at h2
  case store t y z =>
    simp only [opE] at h
    obtain ⟨v, _, h2⟩ := Tree.run_bind h
    split at h2
    · obtain ⟨zv, _, h4⟩ := Tree.run_bind h2
      split at h4
      · split at h4 <;> simp [Tree.run] at h4
      · simp [Tree.run] at h4
    · simp [Tree.run] at h2
  case buildSlice t len parts =>
    simp only [opE] at h
    obtain ⟨vs, _, h2⟩ := Tree.run_bind h
    split at h2
    · split at h2
      · split at h2
        · split at h2 <;> simp [Tree.run] at h2
        · simp [Tree.run] at h2
      · simp [Tree.run] at h2
    · simp [Tree.run] at h2
  all_goals exact pc rfl

theorem opE_new_run {o : Oper} {nm : Nat} {sv : SV} {b : Blk} (hk : ∀ x ∈ o.op.operands, Knows ev eval ρ x) (h : (opE P call ev H nm o.op).run = some (sv, .new b)) :
    (execOp eval o).run P w = .ok (.value (sv.den (named ρ nm w.heap.size))) (w.alloc (.cells (SV.denL ρ b.cells).toArray b.ty)) := by
  have pc : (opE P call ev H nm o.op) = (pureOp P ev true H o.op).bind (fun v => Tree.ret (v, Eff.none)) → (execOp eval o).run P w = .ok (.value (sv.den (named ρ nm w.heap.size))) (w.alloc (.cells (SV.denL ρ b.cells).toArray b.ty)) := by
    intro he
    rw [he] at h
    obtain ⟨v, h1, h2⟩ := Tree.run_bind h
    simp [Tree.run] at h2
  obtain ⟨dst, op, ty, pos, after, guard⟩ := o
  simp only at h hk pc ⊢
  cases op
  case call c =>
    obtain ⟨callee, args, argTypes⟩ := c
    cases callee
    case value f =>
      simp only [opE] at h
      obtain ⟨fv, _, h2⟩ := Tree.run_bind h
      split at h2
      · obtain ⟨as, _, h4⟩ := Tree.run_bind h2
        obtain ⟨r, h5, h6⟩ := Tree.run_bind h4
        simp [Tree.run] at h6
      · simp [Tree.run] at h2
    all_goals exact pc rfl
  case alloc t =>
    simp only [opE] at h
    split at h
    · rename_i z hz
      simp only [Tree.run, Option.some.injEq, Prod.mk.injEq, Eff.new.injEq] at h
      obtain ⟨rfl, rfl⟩ := h
      simp only [execOp]
      rw [Sem.run_bind, alloc_run (ρ := ρ) hz, Result.andThen_ok]
      simp [SV.den, named_at]
    · simp [Tree.run] at h
  case box t y =>
    simp only [opE] at h
    obtain ⟨v, h1, h2⟩ := Tree.run_bind h
    have hy := hk y (by simp [Op.operands]) true v h1 rfl
    split at h2
    · rename_i cs hf
      simp only [Tree.run, Option.some.injEq, Prod.mk.injEq, Eff.new.injEq] at h2
      obtain ⟨rfl, rfl⟩ := h2
      simp only [execOp, Instr.box, newVar, hy, SV.flat_cells ρ hf]
      rw [Sem.run_bind, Sem.run_bind, newRow_run]
      simp [SV.den, named_at]
    · simp [Tree.run] at h2
  case store t y z =>
    simp only [opE] at h
    obtain ⟨v, _, h2⟩ := Tree.run_bind h
    split at h2
    · obtain ⟨zv, _, h4⟩ := Tree.run_bind h2
      split at h4
      · split at h4 <;> simp [Tree.run] at h4
      · simp [Tree.run] at h4
    · simp [Tree.run] at h2
  case buildSlice t len parts =>
    simp only [opE] at h
    obtain ⟨vs, h1, h2⟩ := Tree.run_bind h
    have m1 : ∀ x ∈ parts.toList, x.2 ∈ (Op.buildSlice t len parts).operands := by
      intro x hx; simp only [Op.operands, List.mem_toArray, List.mem_map]; exact ⟨x, hx, rfl⟩
    have e1 := evsP_run (ev true) eval ρ parts.toList vs (fun y hy v hv => hk y.2 (m1 y hy) true v hv rfl) h1
    have a1 : parts.map (fun y => (y.1, eval y.2)) = (vs.map fun y => (y.1, y.2.den ρ)).toArray := by rw [← e1, ← Array.toList_map, Array.toArray_toList]
    split at h2
    · rename_i e hu
      split at h2
      · rename_i n z hn hz
        split at h2
        · rename_i hc
          simp only [Bool.and_eq_true, Nat.ble_eq, Bool.not_eq_true', beq_eq_false_iff_ne, ne_eq, beq_iff_eq] at hc
          obtain ⟨⟨hle, hne⟩, hzl⟩ := hc
          split at h2
          · rename_i cs hf
            simp only [Tree.run, Option.some.injEq, Prod.mk.injEq, Eff.new.injEq] at h2
            obtain ⟨rfl, rfl⟩ := h2
            obtain ⟨zv, hzr, hzc⟩ := zeroL_run hz ρ w
            have hfill := fillL_run ρ hf
            have hn0 : 0 < n := by
              rcases Nat.eq_zero_or_pos n with h0 | h0
              · subst h0; simp at hne
              · exact h0
            have hcells : (Array.range (len * n)).map (fun i => zv.cells[i % zv.cells.size]!) = (SV.denL ρ (List.replicate len z).flatten).toArray := by
              rw [hzc, denL_flatten, ← range_flatten (SV.denL ρ z) n (by rw [SV.denL_length, hzl]) hn0 len]
              apply Array.ext'
              simp
            simp only [execOp, a1, Instr.buildSlice]
            rw [Sem.run_bind, Sem.run_bind, run_underlying' hu, Result.andThen_ok]
            simp only [Sem.run_bind, sizeT_run hn, Result.andThen_ok]
            rw [if_neg (by omega), if_neg hne]
            simp only [Sem.run_bind, hzr, Result.andThen_ok, Sem.run_pure]
            have hcells' : Array.map (fun i => zv.cells[i % zv.cells.size]!) (Array.range (len * n)) = (SV.denL ρ (List.replicate len z).flatten).toArray := hcells
            simp only [hcells']
            simp only [hfill]
            simp only [Sem.run_bind, newRow_run, Result.andThen_ok, Sem.run_pure]
            simp [SV.den, named_at]
          · simp [Tree.run] at h2
        · simp [Tree.run] at h2
      · simp [Tree.run] at h2
    · simp [Tree.run] at h2
  all_goals exact pc rfl
end

/-! ### 4. Bits -/

theorem bitsOf_spec {o : Oper} {acc : List Nat} {j : Nat} (h : (bitsOf o acc).testBit j = true) : ∃ e ∈ o.after.toList, Region.binds .any e = true ∧ (e.on = j ∨ (acc.getD e.on 0).testBit j = true) := by
  unfold bitsOf at h
  have key : ∀ (l : List Edge) (s : Nat), (l.foldl (fun s e => if Region.binds .any e then s ||| 2 ^ e.on ||| acc.getD e.on 0 else s) s).testBit j = true →
      s.testBit j = true ∨ ∃ e ∈ l, Region.binds .any e = true ∧ (e.on = j ∨ (acc.getD e.on 0).testBit j = true) := by
    intro l
    induction l with
    | nil => intro s h; exact .inl h
    | cons e r ih =>
      intro s h
      simp only [List.foldl_cons] at h
      rcases ih _ h with h | ⟨e', he', h⟩
      · split at h
        · rename_i hb
          simp only [Nat.testBit_or, Bool.or_eq_true] at h
          rcases h with (h | h) | h
          · exact .inl h
          · rw [Nat.testBit_two_pow] at h
            exact .inr ⟨e, by simp, hb, .inl (by simpa using h)⟩
          · exact .inr ⟨e, by simp, hb, .inr h⟩
        · exact .inl h
      · exact .inr ⟨e', by simp [he'], h⟩
  rcases key _ _ h with h | h
  · simp at h
  · exact h

theorem bef_prefix : ∀ (l : List Oper) (acc : List Nat), ∃ t, bef l acc = acc ++ t
  | [], acc => ⟨[], by simp [bef]⟩
  | o :: r, acc => by
    obtain ⟨t, ht⟩ := bef_prefix r (acc ++ [bitsOf o acc])
    exact ⟨bitsOf o acc :: t, by simp [bef, ht]⟩

theorem bef_at : ∀ (l : List Oper) (acc : List Nat) (i : Nat) (o : Oper), l[i]? = some o → ∃ pre t, bef l acc = pre ++ bitsOf o pre :: t ∧ pre.length = acc.length + i
  | [], acc, i, o, h => by simp at h
  | x :: r, acc, 0, o, h => by
    simp at h; subst h
    obtain ⟨t, ht⟩ := bef_prefix r (acc ++ [bitsOf x acc])
    exact ⟨acc, t, by simp [bef, ht], by simp⟩
  | x :: r, acc, i + 1, o, h => by
    obtain ⟨pre, t, h1, h2⟩ := bef_at r (acc ++ [bitsOf x acc]) i o (by simpa using h)
    exact ⟨pre, t, by simp [bef, h1], by simp at h2; omega⟩

/-- What stands among an operation's bits stands at one of its edges, or among the bits of one. -/
theorem bef_spec {l : List Oper} {i j : Nat} {o : Oper} (hi : l[i]? = some o) (h : ((bef l []).getD i 0).testBit j = true) :
    ∃ e ∈ o.after.toList, Region.binds .any e = true ∧ (e.on = j ∨ ((bef l []).getD e.on 0).testBit j = true) := by
  obtain ⟨pre, t, h1, h2⟩ := bef_at l [] i o hi
  simp at h2
  have e0 : (bef l []).getD i 0 = bitsOf o pre := by
    rw [h1, List.getD_eq_getElem?_getD, List.getElem?_append_right (by omega)]
    simp [h2]
  rw [e0] at h
  obtain ⟨e, he, hb, hor⟩ := bitsOf_spec h
  refine ⟨e, he, hb, ?_⟩
  rcases hor with hor | hor
  · exact .inl hor
  · refine .inr ?_
    have : e.on < pre.length := by
      rcases Nat.lt_or_ge e.on pre.length with hlt | hge
      · exact hlt
      · rw [List.getD_eq_getElem?_getD, List.getElem?_eq_none hge] at hor; simp at hor
    rw [h1, List.getD_eq_getElem?_getD, List.getElem?_append_left this, ← List.getD_eq_getElem?_getD]
    exact hor

theorem bef_length : ∀ (l : List Oper) (acc : List Nat), (bef l acc).length = acc.length + l.length
  | [], acc => by simp [bef]
  | o :: r, acc => by rw [bef, bef_length r]; simp; omega

theorem findW_of {W : List (Tmp × Nat)} {t : Tmp} {j : Nat} (h : findW W t = some j) : (t, j) ∈ W := by
  induction W with
  | nil => simp [findW] at h
  | cons x r ih =>
    obtain ⟨u, k⟩ := x
    simp only [findW] at h
    split at h
    · rename_i hu
      have : u = t := by simpa using hu
      simp only [Option.some.injEq] at h
      subst this; subst h; simp
    · exact List.mem_cons_of_mem _ (ih h)

/-- Whoever has written a slot, is found. -/
def Uniq (W : List (Tmp × Nat)) : Prop := ∀ t j, (t, j) ∈ W → findW W t = some j

theorem Uniq.cons {W : List (Tmp × Nat)} (h : Uniq W) {d : Tmp} {i : Nat} (hd : findW W d = none) : Uniq ((d, i) :: W) := by
  intro t j hj
  simp only [findW]
  rcases List.mem_cons.1 hj with e | hj
  · simp only [Prod.mk.injEq] at e; obtain ⟨rfl, rfl⟩ := e; simp
  · have h1 := h t j hj
    have hne : ¬ d = t := fun e => by subst e; rw [hd] at h1; cases h1
    simp [hne, h1]

theorem scanOk_spec {ops : Array Oper} {b : List Nat} : ∀ (l : List Oper) (i : Nat) (W R : List (Tmp × Nat)), scanOk ops b i l W R = true → Uniq W → ∀ (k : Nat) (o : Oper), l[k]? = some o →
    (∀ t j, (t, j) ∈ W → o.dst ≠ some t ∧ (t ∈ Oper.looksAt ops o → (b.getD (i + k) 0).testBit j = true)) ∧
    (∀ t j, (t, j) ∈ R → o.dst = some t → (b.getD (i + k) 0).testBit j = true) ∧
    (∀ (k' : Nat) (o' : Oper), k' < k → l[k']? = some o' → (∀ t, o'.dst = some t → o.dst ≠ some t ∧ (t ∈ Oper.looksAt ops o → (b.getD (i + k) 0).testBit (i + k') = true)) ∧
      (∀ t, t ∈ Oper.looksAt ops o' → o.dst = some t → (b.getD (i + k) 0).testBit (i + k') = true))
  | [], i, W, R, h, hu, k, o, hk => by simp at hk
  | x :: r, i, W, R, h, hu, k, o, hk => by
    simp only [scanOk, Bool.and_eq_true, List.all_eq_true] at h
    obtain ⟨h1, h2⟩ := h
    cases k with
    | zero =>
      simp at hk; subst hk
      refine ⟨?_, ?_, ?_⟩
      · intro t j hj
        have hf := hu t j hj
        refine ⟨?_, ?_⟩
        · intro hd
          rw [hd] at h2
          simp only [Bool.and_eq_true, hf] at h2
          simp at h2
        · intro ht
          have := h1 t ht
          rw [hf] at this
          simpa using this
      · intro t j hj hd
        rw [hd] at h2
        simp only [Bool.and_eq_true, List.all_eq_true] at h2
        have := h2.1.2 (t, j) hj
        simpa using this
      · intro k' o' hk'; omega
    | succ k =>
      have hk2 : r[k]? = some o := by simpa using hk
      have e : i + (k + 1) = i + 1 + k := by omega
      rw [e]
      have rest : ∃ W' R', scanOk ops b (i + 1) r W' R' = true ∧ Uniq W' ∧ (∀ y ∈ W, y ∈ W') ∧ (∀ y ∈ R, y ∈ R') ∧ (∀ t, x.dst = some t → (t, i) ∈ W') ∧ (∀ t, t ∈ Oper.looksAt ops x → (t, i) ∈ R') := by
        cases hd : x.dst with
        | none =>
          rw [hd] at h2
          exact ⟨W, _, h2, hu, fun y hy => hy, fun y hy => List.mem_append_right _ hy, fun t ht => (by cases ht), fun t ht => List.mem_append_left _ (List.mem_map.2 ⟨t, ht, rfl⟩)⟩
        | some d =>
          rw [hd] at h2
          simp only [Bool.and_eq_true] at h2
          refine ⟨(d, i) :: W, _, h2.2, hu.cons (by simpa using h2.1.1), fun y hy => List.mem_cons_of_mem _ hy, fun y hy => List.mem_append_right _ hy, fun t ht => ?_, fun t ht => List.mem_append_left _ (List.mem_map.2 ⟨t, ht, rfl⟩)⟩
          simp only [Option.some.injEq] at ht; subst ht; simp
      obtain ⟨W', R', hs, hu', hW, hR, hw, hr⟩ := rest
      obtain ⟨g1, g2, g3⟩ := scanOk_spec r (i + 1) W' R' hs hu' k o hk2
      refine ⟨fun t j hj => g1 t j (hW _ hj), fun t j hj => g2 t j (hR _ hj), ?_⟩
      intro k' o' hlt hk'
      cases k' with
      | zero =>
        simp at hk'; subst hk'
        refine ⟨fun t ht => ?_, fun t ht hd => ?_⟩
        · simpa using g1 t i (hw t ht)
        · simpa using g2 t i (hr t ht) hd
      | succ k' =>
        have e' : i + (k' + 1) = i + 1 + k' := by omega
        rw [e']
        exact g3 k' o' (by omega) (by simpa using hk')

theorem edgesOk_spec : ∀ (l : List Oper) (i : Nat), edgesOk i l = true → ∀ (k : Nat) (o : Oper), l[k]? = some o → ∀ e ∈ o.after.toList, Region.binds .any e = true → e.on < i + k
  | [], i, h, k, o, hk => by simp at hk
  | x :: r, i, h, k, o, hk => by
    simp only [edgesOk, Bool.and_eq_true, List.all_eq_true] at h
    intro e he hb
    cases k with
    | zero =>
      simp at hk; subst hk
      have := h.1 e he
      rw [hb] at this
      simp [Nat.blt] at this; omega
    | succ k =>
      have := edgesOk_spec r (i + 1) h.2 k o (by simpa using hk) e he hb
      omega

theorem lateOk_spec : ∀ (l : List Nat) (i : Nat), lateOk i l = true → ∀ (k : Nat), k < l.length → ∀ j, j < i + k → (l.getD k 0).testBit j = true
  | [], i, h, k, hk => by simp at hk
  | x :: r, i, h, k, hk => by
    simp only [lateOk, Bool.and_eq_true] at h
    intro j hj
    cases k with
    | zero =>
      have hx : x % 2 ^ i = 2 ^ i - 1 := by simpa using h.1
      have h1 : (x % 2 ^ i).testBit j = true := by rw [hx, Nat.testBit_two_pow_sub_one]; simpa using hj
      rw [Nat.testBit_mod_two_pow] at h1
      simp at h1
      simpa using h1.2
    | succ k =>
      have := lateOk_spec r (i + 1) h.2 k (by simpa using hk) j (by omega)
      simpa using this

end Go.Sx
