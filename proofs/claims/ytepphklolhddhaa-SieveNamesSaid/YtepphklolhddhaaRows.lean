/-
  No cell of these rows narrows 'for every input' (looked for: loops, veiled, ifaces, maps, wideKeys, modest, calm, conditions, laid).
  DERIVED. THE GIVEN ROWS OF THIS SEAT. 3 by the template 'for every input the law returns true; each argument reads behind the call as it read before'; 0 by the template 'total and deterministic' (their statements: YtepphklolhddhaaTotals.lean).
  GIVEN WITH THE SEED: the statements are not yours to turn. If you find one false, say at which input.
  Laid BY PROGRAM, IN A SANDBOX (cutbox-rows.mjs): the forced cells as the released guide's own fill.sh prints them over the translation 5caaa18bafb6ae3b… (all of the seat's roots in one cut). By AI agents, Wed Nov 11 2026. No macro, syntax, notation, axiom, sorry.
-/
import Derived.Test.YtepphklolhddhaaChecked
import GoSem.Claim
import GoSem.ClaimJoined
import GoSem.ClaimMapViews
import Derived.JoinedTies
import Derived.KernelRfl
namespace Go.Proofs.Ytepphklolhddhaa
/- THE CELL 'sum', in the pinned program and in every row, IS THE sha256 OF THE DUMP (.gsa) THAT YtepphklolhddhaaProg.lean LOADS. Nothing in Lean hashes anything: it is a label: what it is worth is what the hold of that sum in a sandbox is worth. -/
noncomputable def Try.pinned : Pinned := { name := "ytepphklolhddhaa", sum := "5caaa18bafb6ae3b1f6f14a67d9dc5a625032c9eb5924c15fd4dd2d9512d11de", checked := Try.checked }
namespace Rows
def none {H : Type} : Left H := { results := [], args := [] }

/-- 'catenarylaw24.SieveRules': WHATEVER THE INPUT: true; the input reads as it did. -/
def sieveRulesSpec : ChangeSpec := { name := "sieveRules", fn := fun _ => fun
  | [d1, d2, d3] => { results := [.lit (.bool true)], args := [d1, d2, d3] }
  | _ => none }
def sieveRulesRow : OpenClaim := { program := "ytepphklolhddhaa", sum := "5caaa18bafb6ae3b1f6f14a67d9dc5a625032c9eb5924c15fd4dd2d9512d11de", func := "catenary/catenarylaw24.SieveRules", spec := "sieveRules", unfollowed := true, recurses := true, apart := false }
def SieveRulesSaid : Prop := sieveRulesRow.holds Try.pinned (OpenSpec.ofChange sieveRulesSpec)

/-- ITS FALSE NEIGHBOUR: 'it returns false'. Refute it at one input. -/
def sieveRulesWrong : ChangeSpec := { name := "sieveRules", fn := fun _ => fun
  | [d1, d2, d3] => { results := [.lit (.bool false)], args := [d1, d2, d3] }
  | _ => none }
def SieveRulesWrongFalsely : Prop := sieveRulesRow.holds Try.pinned (OpenSpec.ofChange sieveRulesWrong)

/-- 'catenarylaw24.SieveNames': WHATEVER THE INPUT: true; the input reads as it did. -/
def sieveNamesSpec : ChangeSpec := { name := "sieveNames", fn := fun _ => fun
  | [] => { results := [.lit (.bool true)], args := [] }
  | _ => none }
def sieveNamesRow : OpenClaim := { program := "ytepphklolhddhaa", sum := "5caaa18bafb6ae3b1f6f14a67d9dc5a625032c9eb5924c15fd4dd2d9512d11de", func := "catenary/catenarylaw24.SieveNames", spec := "sieveNames", unfollowed := true, recurses := true, apart := false }
def SieveNamesSaid : Prop := sieveNamesRow.holds Try.pinned (OpenSpec.ofChange sieveNamesSpec)

/-- ITS FALSE NEIGHBOUR: 'it returns false'. Refute it at one input. -/
def sieveNamesWrong : ChangeSpec := { name := "sieveNames", fn := fun _ => fun
  | [] => { results := [.lit (.bool false)], args := [] }
  | _ => none }
def SieveNamesWrongFalsely : Prop := sieveNamesRow.holds Try.pinned (OpenSpec.ofChange sieveNamesWrong)

/-- 'catenarylaw24.SieveShort': WHATEVER THE INPUT: true; the input reads as it did. -/
def sieveShortSpec : ChangeSpec := { name := "sieveShort", fn := fun _ => fun
  | [d1, d2, d3] => { results := [.lit (.bool true)], args := [d1, d2, d3] }
  | _ => none }
def sieveShortRow : OpenClaim := { program := "ytepphklolhddhaa", sum := "5caaa18bafb6ae3b1f6f14a67d9dc5a625032c9eb5924c15fd4dd2d9512d11de", func := "catenary/catenarylaw24.SieveShort", spec := "sieveShort", unfollowed := true, recurses := true, apart := false }
def SieveShortSaid : Prop := sieveShortRow.holds Try.pinned (OpenSpec.ofChange sieveShortSpec)

/-- ITS FALSE NEIGHBOUR: 'it returns false'. Refute it at one input. -/
def sieveShortWrong : ChangeSpec := { name := "sieveShort", fn := fun _ => fun
  | [d1, d2, d3] => { results := [.lit (.bool false)], args := [d1, d2, d3] }
  | _ => none }
def SieveShortWrongFalsely : Prop := sieveShortRow.holds Try.pinned (OpenSpec.ofChange sieveShortWrong)

/- THE SECOND FORM. 'bulk': how many values and letters a reading holds, each counted each time it is reached (what is shared counts as often as it is met; a slice's spare places count too). A statement '..UptoSaid' is the law's where the arguments, and the package variables that the reading takes, are together of bulk at most 1048576: NARROWER than '..Said'. Prove '..Said' where nothing that the law and all that it calls make is longer than what came in: it says more and counts as full. Else prove '..UptoSaid'. A law counts once. -/
mutual
def uptoBulk {H : Type} : DataW H → Nat
  | .lit (.string bytes) => bytes.length + 1
  | .lit _ => 1
  | .nil => 1
  | .ptr d => uptoBulk d + 1
  | .slice elems spare => uptoBulkAll elems + uptoBulkAll spare + 1
  | .agg parts => uptoBulkAll parts + 1
  | .iface _ d => uptoBulk d + 1
  | .map entries => uptoBulkEntries entries + 1
  | .held _ => 1
def uptoBulkAll {H : Type} : List (DataW H) → Nat
  | [] => 0
  | d :: r => uptoBulk d + uptoBulkAll r
def uptoBulkEntries {H : Type} : List (Lit × DataW H) → Nat
  | [] => 0
  | x :: r => uptoBulkEntry x + uptoBulkEntries r
def uptoBulkEntry {H : Type} : Lit × DataW H → Nat
  | (.string bytes, d) => bytes.length + uptoBulk d + 1
  | (_, d) => uptoBulk d + 1
 end
def uptoSmall : (H : Type) → List (DataW H) → Bool := fun _ ds => decide (uptoBulkAll ds ≤ 1048576)
def OpenSpec.upto (s : _root_.Go.ChangeSpec) : _root_.Go.OpenSpec := { _root_.Go.OpenSpec.ofChange s with cond := some uptoSmall }

/-- 'catenarylaw24.SieveRules', WHERE WHAT IT READS IS OF BULK AT MOST 1048576: true; the input reads as it did. -/
def sieveRulesUptoRow : OpenClaim := { program := "ytepphklolhddhaa", sum := "5caaa18bafb6ae3b1f6f14a67d9dc5a625032c9eb5924c15fd4dd2d9512d11de", func := "catenary/catenarylaw24.SieveRules", spec := "sieveRules", unfollowed := true, recurses := true, apart := false, narrowed := true }
def SieveRulesUptoSaid : Prop := sieveRulesUptoRow.holds Try.pinned (OpenSpec.upto sieveRulesSpec)

/-- 'catenarylaw24.SieveNames', WHERE WHAT IT READS IS OF BULK AT MOST 1048576: true; the input reads as it did. -/
def sieveNamesUptoRow : OpenClaim := { program := "ytepphklolhddhaa", sum := "5caaa18bafb6ae3b1f6f14a67d9dc5a625032c9eb5924c15fd4dd2d9512d11de", func := "catenary/catenarylaw24.SieveNames", spec := "sieveNames", unfollowed := true, recurses := true, apart := false, narrowed := true }
def SieveNamesUptoSaid : Prop := sieveNamesUptoRow.holds Try.pinned (OpenSpec.upto sieveNamesSpec)

/-- 'catenarylaw24.SieveShort', WHERE WHAT IT READS IS OF BULK AT MOST 1048576: true; the input reads as it did. -/
def sieveShortUptoRow : OpenClaim := { program := "ytepphklolhddhaa", sum := "5caaa18bafb6ae3b1f6f14a67d9dc5a625032c9eb5924c15fd4dd2d9512d11de", func := "catenary/catenarylaw24.SieveShort", spec := "sieveShort", unfollowed := true, recurses := true, apart := false, narrowed := true }
def SieveShortUptoSaid : Prop := sieveShortUptoRow.holds Try.pinned (OpenSpec.upto sieveShortSpec)

end Rows
end Go.Proofs.Ytepphklolhddhaa
