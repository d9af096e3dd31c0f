/-
  From runs to contracts ('PC.run'); what a tree's run is.
  No statement of the seat is proved here. Conditions: none.
-/
import Derived.Test.YtkcadajkgeakhaaY24
set_option linter.unusedSimpArgs false
set_option linter.unusedVariables false
namespace Go.Sy
open Go.RowKit

theorem Tree.run_ret' {α : Type} (a : α) : (Tree.ret a).run = some a := rfl
theorem Tree.run_need' {α : Type} (p : Bool) (t : Tree α) : (Tree.need p t).run = bif p then t.run else none := by cases p <;> rfl
theorem Tree.run_ite' {α : Type} (b : Bool) (t e : Tree α) : (Tree.ite b t e).run = bif b then t.run else e.run := by cases b <;> rfl

/-! ### What well formed data are -/
theorem wf_int {k : IntKind} {d : D} (h : Wf (.int k) d) : k.min ≤ d.int ∧ d.int ≤ k.max := by
  simp only [Wf] at h
  obtain ⟨n, rfl, h1, h2⟩ := h
  exact ⟨h1, h2⟩
theorem wf_str {d : D} (h : Wf .str d) : d.str.length ≤ maxLen := by
  simp only [Wf] at h
  obtain ⟨l, rfl, h1⟩ := h
  exact h1
theorem wf_list {e : Sh} {d : D} (h : Wf (.list e) d) : (d.nl = true → d.xs = []) ∧ d.xs.length ≤ maxLen ∧ ∀ x ∈ d.xs, Wf e x := by
  simp only [Wf] at h
  obtain ⟨nl, xs, rfl, h1⟩ := h
  exact h1
theorem wfL_at : ∀ {cs : List Sh} {ds : List D} {j : Nat} {c : Sh}, WfL cs ds → cs[j]? = some c → Wf c (ds.getD j default)
  | [], ds, j, c, h, hj => by simp at hj
  | c0 :: r, ds, j, c, h, hj => by
    simp only [WfL] at h
    obtain ⟨d, rest, rfl, h1, h2⟩ := h
    cases j with
    | zero => simp at hj; subst hj; simpa using h1
    | succ j => simpa using wfL_at h2 (by simpa using hj)
theorem wf_cell {cs : List Sh} {d : D} (h : Wf (.agg cs) d) (j : Nat) {c : Sh} (hj : cs[j]? = some c) : Wf c (d.at j) := by
  simp only [Wf] at h
  obtain ⟨ds, rfl, h1⟩ := h
  exact wfL_at h1 hj

/-- A contract out of runs. -/
def PC.run {P : Program} {T : Tab} [GoodTab P T] (hm : P.follows .mixedOrders = true) {E : Env} (hE : GoodEnv P E) (rounds depth : Nat) (f : FuncId) (spec : PSpec)
    (h : ∀ ds pre r, spec.fn ds = some (pre, r) → pre = true → ∃ args, (callG T E rounds depth f args []).run = some (r, []) ∧ args = encL spec.shapes (.a ds) 0) (he : Enters P f) : PC P where
  f := f
  spec := spec
  enters := he
  ok := by
    intro ds pre r hfn hp _
    obtain ⟨args, hr, rfl⟩ := h ds pre r hfn hp
    exact (callG_ok hm hE hr).2

theorem wrap64 {n : Int} (h1 : -9223372036854775808 ≤ n) (h2 : n ≤ 9223372036854775807) : IntKind.i64.wrap n = n := by
  simp [IntKind.wrap, IntKind.bits, IntKind.signed]
  omega
theorem wrap_u8 {n : Int} (h1 : 0 ≤ n) (h2 : n ≤ 255) : IntKind.u8.wrap n = n := by
  simp [IntKind.wrap, IntKind.bits, IntKind.signed]
  omega
/-! ### Loops -/
/-- Slots at some places. -/
def atL : Nat → Nat → List (Nat × Slot) → List Slot
  | 0, _, _ => []
  | n + 1, i, [] => .unk :: atL n (i + 1) []
  | n + 1, i, (j, s) :: r => match Nat.beq i j with
    | true => s :: atL n (i + 1) r
    | false => .unk :: atL n (i + 1) ((j, s) :: r)
def Tm.at (n : Nat) (l : List (Nat × Slot)) : Tm := Tm.of (atL n 0 l) n
def codeOf (fn : Func) : Code := match fn.body with
  | some c => c
  | none => .skip
def loopOf (c : Code) (i : Nat) : Code := match loopAt c i with
  | some b => b
  | none => .skip
def startSt (fn : Func) (args : List SV) (H : Hp) : St := ⟨Tm.of (args.map .is) (args.length + (fn.ntmps - args.length)), H⟩
/-- What stands in a slot, in a block's cell; a list's rows. -/
def slotV (st : St) (t : Nat) : SV := match st.tmps.t.get t with
  | .is v => v
  | .when _ v => v
  | .unk => default
def cellV (st : St) (b j : Nat) : SV := match hget st.heap b with
  | some ⟨.cells cs, _, _⟩ => cs.getD j default
  | _ => default
def rowsV (st : St) (b : Nat) : SV := match hget st.heap b with
  | some ⟨.rows e nl xs, _, _⟩ => .lst e nl xs
  | _ => default
def partV (v : SV) (j : Nat) : SV := match v with
  | .agg cs => cs.getD j default
  | .tup cs => cs.getD j default
  | _ => default
def iOf : SV → Int
  | .si _ n => n
  | .li _ n => n
  | _ => 0
def bOf : SV → Bool
  | .sb b => b
  | .lb b => b
  | _ => false
def sOf : SV → List UInt8
  | .str s => s
  | _ => []
def nlOf : SV → Bool
  | .lst _ nl _ => nl
  | _ => true
def xsOf : SV → List D
  | .lst _ _ xs => xs
  | _ => []

theorem iterC_step {B : St → Tree (Ex × St)} {st st' : St} {r : Ex × St} (h : (B st).run = some (.normal, st')) (hi : ∃ n, iterC B n st' = some r) : ∃ n, iterC B n st = some r := by
  obtain ⟨n, hn⟩ := hi
  exact ⟨n + 1, by simp only [iterC, h]; exact hn⟩
theorem iterC_stop {B : St → Tree (Ex × St)} {st : St} {ex : Ex} {st' : St} (h : (B st).run = some (ex, st')) (hx : ex ≠ .normal) : ∃ n, iterC B n st = some (ex, st') := by
  refine ⟨1, ?_⟩
  simp only [iterC, h]
  cases ex with
  | normal => exact absurd rfl hx
  | _ => rfl

/-- For a look at a loop's begin. -/
def withStop (E : Env) (f j : Nat) : Env := { E with loops := fun f' j' => match Nat.beq f' f && Nat.beq j' j with
  | true => some fun st => .ret (.exit (1000000 + j), st)
  | false => E.loops f' j' }
def entryF (T : Tab) (E : Env) (rounds depth : Nat) (f j : Nat) (c : Code) (k : Nat) (p : LP) (st : St) : Tree (Ex × St) :=
  (execE T (withStop E f j) (callF T E rounds depth) (meetD T E (callF T E rounds depth)) ((withStop E f j).loops f) rounds c k st).bind fun x => match x.1 with
    | .exit n => match Nat.beq n (1000000 + j) with
      | true => (orBad "a loop's begin" (clean { p with base := x.2.heap.length }.base p.mv p.mask p.nm p.nb p.kl x.2)).bind fun s => .ret (.exit n, s)
      | false => .bad "elsewhere"
    | _ => .bad "elsewhere"
def entryB (T : Tab) (E : Env) (rounds depth : Nat) (f j : Nat) (c : Code) (k : Nat) (st : St) : Tree Nat :=
  (execE T (withStop E f j) (callF T E rounds depth) (meetD T E (callF T E rounds depth)) ((withStop E f j).loops f) rounds c k st).bind fun x => match x.1 with
    | .exit n => match Nat.beq n (1000000 + j) with
      | true => .ret x.2.heap.length
      | false => .bad "elsewhere"
    | _ => .bad "elsewhere"
end Go.Sy
