/-
  No cell of these rows narrows 'for every input' (looked for: loops, veiled, ifaces, maps, wideKeys, modest, calm, conditions, laid).
  DERIVED. THE GIVEN ROWS OF THIS SEAT. 3 by the template 'for every input the law returns true; each argument reads behind the call as it read before'; 0 by the template 'total and deterministic' (their statements: YtkcadajkgeakhaaTotals.lean).
  GIVEN WITH THE SEED: the statements are not yours to turn. If you find one false, say at which input.
  Laid BY PROGRAM, IN A SANDBOX (cutbox-rows.mjs): the forced cells as the released guide's own fill.sh prints them over the translation 60b58c8861d0a437… (all of the seat's roots in one cut). By AI agents, Wed Nov 11 2026. No macro, syntax, notation, axiom, sorry.
-/
import Derived.Test.YtkcadajkgeakhaaChecked
import GoSem.Claim
import GoSem.ClaimJoined
import GoSem.ClaimMapViews
import Derived.JoinedTies
import Derived.KernelRfl
namespace Go.Proofs.Ytkcadajkgeakhaa
/- THE CELL 'sum', in the pinned program and in every row, IS THE sha256 OF THE DUMP (.gsa) THAT YtkcadajkgeakhaaProg.lean LOADS. Nothing in Lean hashes anything: it is a label: what it is worth is what the hold of that sum in a sandbox is worth. -/
noncomputable def Try.pinned : Pinned := { name := "ytkcadajkgeakhaa", sum := "60b58c8861d0a43788b8db7a5eb2eb2d69e806f8b3dab862643c6fe2ba2050bb", checked := Try.checked }
namespace Rows
def none {H : Type} : Left H := { results := [], args := [] }

/-- 'catenarylaw08.RuleDoes': WHATEVER THE INPUT: true; the input reads as it did. -/
def ruleDoesSpec : ChangeSpec := { name := "ruleDoes", fn := fun _ => fun
  | [d1, d2] => { results := [.lit (.bool true)], args := [d1, d2] }
  | _ => none }
def ruleDoesRow : OpenClaim := { program := "ytkcadajkgeakhaa", sum := "60b58c8861d0a43788b8db7a5eb2eb2d69e806f8b3dab862643c6fe2ba2050bb", func := "catenary/catenarylaw08.RuleDoes", spec := "ruleDoes", unfollowed := true, recurses := true, apart := false }
def RuleDoesSaid : Prop := ruleDoesRow.holds Try.pinned (OpenSpec.ofChange ruleDoesSpec)

/-- ITS FALSE NEIGHBOUR: 'it returns false'. Refute it at one input. -/
def ruleDoesWrong : ChangeSpec := { name := "ruleDoes", fn := fun _ => fun
  | [d1, d2] => { results := [.lit (.bool false)], args := [d1, d2] }
  | _ => none }
def RuleDoesWrongFalsely : Prop := ruleDoesRow.holds Try.pinned (OpenSpec.ofChange ruleDoesWrong)

/-- 'catenarylaw08.RulePlaces': WHATEVER THE INPUT: true; the input reads as it did. -/
def rulePlacesSpec : ChangeSpec := { name := "rulePlaces", fn := fun _ => fun
  | [d] => { results := [.lit (.bool true)], args := [d] }
  | _ => none }
def rulePlacesRow : OpenClaim := { program := "ytkcadajkgeakhaa", sum := "60b58c8861d0a43788b8db7a5eb2eb2d69e806f8b3dab862643c6fe2ba2050bb", func := "catenary/catenarylaw08.RulePlaces", spec := "rulePlaces", unfollowed := true, recurses := true, apart := false }
def RulePlacesSaid : Prop := rulePlacesRow.holds Try.pinned (OpenSpec.ofChange rulePlacesSpec)

/-- ITS FALSE NEIGHBOUR: 'it returns false'. Refute it at one input. -/
def rulePlacesWrong : ChangeSpec := { name := "rulePlaces", fn := fun _ => fun
  | [d] => { results := [.lit (.bool false)], args := [d] }
  | _ => none }
def RulePlacesWrongFalsely : Prop := rulePlacesRow.holds Try.pinned (OpenSpec.ofChange rulePlacesWrong)

/-- 'catenarylaw08.RuleSends': WHATEVER THE INPUT: true; the input reads as it did. -/
def ruleSendsSpec : ChangeSpec := { name := "ruleSends", fn := fun _ => fun
  | [d1, d2] => { results := [.lit (.bool true)], args := [d1, d2] }
  | _ => none }
def ruleSendsRow : OpenClaim := { program := "ytkcadajkgeakhaa", sum := "60b58c8861d0a43788b8db7a5eb2eb2d69e806f8b3dab862643c6fe2ba2050bb", func := "catenary/catenarylaw08.RuleSends", spec := "ruleSends", unfollowed := true, recurses := true, apart := false }
def RuleSendsSaid : Prop := ruleSendsRow.holds Try.pinned (OpenSpec.ofChange ruleSendsSpec)

/-- ITS FALSE NEIGHBOUR: 'it returns false'. Refute it at one input. -/
def ruleSendsWrong : ChangeSpec := { name := "ruleSends", fn := fun _ => fun
  | [d1, d2] => { results := [.lit (.bool false)], args := [d1, d2] }
  | _ => none }
def RuleSendsWrongFalsely : Prop := ruleSendsRow.holds Try.pinned (OpenSpec.ofChange ruleSendsWrong)

/- THE SECOND FORM. 'bulk': how many values and letters a reading holds, each counted each time it is reached (what is shared counts as often as it is met; a slice's spare places count too). A statement '..UptoSaid' is the law's where the arguments, and the package variables that the reading takes, are together of bulk at most 1048576: NARROWER than '..Said'. Prove '..Said' where nothing that the law and all that it calls make is longer than what came in: it says more and counts as full. Else prove '..UptoSaid'. A law counts once. -/
mutual
def uptoBulk {H : Type} : DataW H → Nat
  | .lit (.string bytes) => bytes.length + 1
  | .lit _ => 1
  | .nil => 1
  | .ptr d => uptoBulk d + 1
  | .slice elems spare => uptoBulkAll elems + uptoBulkAll spare + 1
  | .agg parts => uptoBulkAll parts + 1
  | .iface _ d => uptoBulk d + 1
  | .map entries => uptoBulkEntries entries + 1
  | .held _ => 1
def uptoBulkAll {H : Type} : List (DataW H) → Nat
  | [] => 0
  | d :: r => uptoBulk d + uptoBulkAll r
def uptoBulkEntries {H : Type} : List (Lit × DataW H) → Nat
  | [] => 0
  | x :: r => uptoBulkEntry x + uptoBulkEntries r
def uptoBulkEntry {H : Type} : Lit × DataW H → Nat
  | (.string bytes, d) => bytes.length + uptoBulk d + 1
  | (_, d) => uptoBulk d + 1
 end
def uptoSmall : (H : Type) → List (DataW H) → Bool := fun _ ds => decide (uptoBulkAll ds ≤ 1048576)
def OpenSpec.upto (s : _root_.Go.ChangeSpec) : _root_.Go.OpenSpec := { _root_.Go.OpenSpec.ofChange s with cond := some uptoSmall }

/-- 'catenarylaw08.RuleDoes', WHERE WHAT IT READS IS OF BULK AT MOST 1048576: true; the input reads as it did. -/
def ruleDoesUptoRow : OpenClaim := { program := "ytkcadajkgeakhaa", sum := "60b58c8861d0a43788b8db7a5eb2eb2d69e806f8b3dab862643c6fe2ba2050bb", func := "catenary/catenarylaw08.RuleDoes", spec := "ruleDoes", unfollowed := true, recurses := true, apart := false, narrowed := true }
def RuleDoesUptoSaid : Prop := ruleDoesUptoRow.holds Try.pinned (OpenSpec.upto ruleDoesSpec)

/-- 'catenarylaw08.RulePlaces', WHERE WHAT IT READS IS OF BULK AT MOST 1048576: true; the input reads as it did. -/
def rulePlacesUptoRow : OpenClaim := { program := "ytkcadajkgeakhaa", sum := "60b58c8861d0a43788b8db7a5eb2eb2d69e806f8b3dab862643c6fe2ba2050bb", func := "catenary/catenarylaw08.RulePlaces", spec := "rulePlaces", unfollowed := true, recurses := true, apart := false, narrowed := true }
def RulePlacesUptoSaid : Prop := rulePlacesUptoRow.holds Try.pinned (OpenSpec.upto rulePlacesSpec)

/-- 'catenarylaw08.RuleSends', WHERE WHAT IT READS IS OF BULK AT MOST 1048576: true; the input reads as it did. -/
def ruleSendsUptoRow : OpenClaim := { program := "ytkcadajkgeakhaa", sum := "60b58c8861d0a43788b8db7a5eb2eb2d69e806f8b3dab862643c6fe2ba2050bb", func := "catenary/catenarylaw08.RuleSends", spec := "ruleSends", unfollowed := true, recurses := true, apart := false, narrowed := true }
def RuleSendsUptoSaid : Prop := ruleSendsUptoRow.holds Try.pinned (OpenSpec.upto ruleSendsSpec)

end Rows
end Go.Proofs.Ytkcadajkgeakhaa
