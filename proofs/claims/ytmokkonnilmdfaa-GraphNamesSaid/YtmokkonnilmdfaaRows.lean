/-
  No cell of these rows narrows 'for every input' (looked for: loops, veiled, ifaces, maps, wideKeys, modest, calm, conditions, laid).
  DERIVED. THE GIVEN ROWS OF THIS SEAT. 5 by the template 'for every input the law returns true; each argument reads behind the call as it read before'; 0 by the template 'total and deterministic' (their statements: YtmokkonnilmdfaaTotals.lean).
  GIVEN WITH THE SEED: the statements are not yours to turn. If you find one false, say at which input.
  Laid BY PROGRAM, IN A SANDBOX (cutbox-rows.mjs): the forced cells as the released guide's own fill.sh prints them over the translation c4533fc17f1b090a… (all of the seat's roots in one cut). By AI agents, Wed Nov 11 2026. No macro, syntax, notation, axiom, sorry.
-/
import Derived.Test.YtmokkonnilmdfaaChecked
import GoSem.Claim
import GoSem.ClaimJoined
import GoSem.ClaimMapViews
import Derived.JoinedTies
import Derived.KernelRfl
namespace Go.Proofs.Ytmokkonnilmdfaa
/- THE CELL 'sum', in the pinned program and in every row, IS THE sha256 OF THE DUMP (.gsa) THAT YtmokkonnilmdfaaProg.lean LOADS. Nothing in Lean hashes anything: it is a label: what it is worth is what the hold of that sum in a sandbox is worth. -/
noncomputable def Try.pinned : Pinned := { name := "ytmokkonnilmdfaa", sum := "c4533fc17f1b090aa763a4e21b7df0400cfed5ce694f02babbc324aafb0eb58b", checked := Try.checked }
namespace Rows
def none {H : Type} : Left H := { results := [], args := [] }

/-- 'catenarylaw12.GraphReach': WHATEVER THE INPUT: true; the input reads as it did. -/
def graphReachSpec : ChangeSpec := { name := "graphReach", fn := fun _ => fun
  | [d1, d2, d3] => { results := [.lit (.bool true)], args := [d1, d2, d3] }
  | _ => none }
def graphReachRow : OpenClaim := { program := "ytmokkonnilmdfaa", sum := "c4533fc17f1b090aa763a4e21b7df0400cfed5ce694f02babbc324aafb0eb58b", func := "catenary/catenarylaw12.GraphReach", spec := "graphReach", unfollowed := true, recurses := true, plainKeys := false, apart := false }
def GraphReachSaid : Prop := graphReachRow.holds Try.pinned (OpenSpec.ofChange graphReachSpec)

/-- ITS FALSE NEIGHBOUR: 'it returns false'. Refute it at one input. -/
def graphReachWrong : ChangeSpec := { name := "graphReach", fn := fun _ => fun
  | [d1, d2, d3] => { results := [.lit (.bool false)], args := [d1, d2, d3] }
  | _ => none }
def GraphReachWrongFalsely : Prop := graphReachRow.holds Try.pinned (OpenSpec.ofChange graphReachWrong)

/-- 'catenarylaw12.GraphEnds': WHATEVER THE INPUT: true; the input reads as it did. -/
def graphEndsSpec : ChangeSpec := { name := "graphEnds", fn := fun _ => fun
  | [d1, d2] => { results := [.lit (.bool true)], args := [d1, d2] }
  | _ => none }
def graphEndsRow : OpenClaim := { program := "ytmokkonnilmdfaa", sum := "c4533fc17f1b090aa763a4e21b7df0400cfed5ce694f02babbc324aafb0eb58b", func := "catenary/catenarylaw12.GraphEnds", spec := "graphEnds", unfollowed := true, recurses := true, plainKeys := false, apart := false }
def GraphEndsSaid : Prop := graphEndsRow.holds Try.pinned (OpenSpec.ofChange graphEndsSpec)

/-- ITS FALSE NEIGHBOUR: 'it returns false'. Refute it at one input. -/
def graphEndsWrong : ChangeSpec := { name := "graphEnds", fn := fun _ => fun
  | [d1, d2] => { results := [.lit (.bool false)], args := [d1, d2] }
  | _ => none }
def GraphEndsWrongFalsely : Prop := graphEndsRow.holds Try.pinned (OpenSpec.ofChange graphEndsWrong)

/-- 'catenarylaw12.GraphPeers': WHATEVER THE INPUT: true; the input reads as it did. -/
def graphPeersSpec : ChangeSpec := { name := "graphPeers", fn := fun _ => fun
  | [d1, d2] => { results := [.lit (.bool true)], args := [d1, d2] }
  | _ => none }
def graphPeersRow : OpenClaim := { program := "ytmokkonnilmdfaa", sum := "c4533fc17f1b090aa763a4e21b7df0400cfed5ce694f02babbc324aafb0eb58b", func := "catenary/catenarylaw12.GraphPeers", spec := "graphPeers", unfollowed := true, recurses := true, plainKeys := false, apart := false }
def GraphPeersSaid : Prop := graphPeersRow.holds Try.pinned (OpenSpec.ofChange graphPeersSpec)

/-- ITS FALSE NEIGHBOUR: 'it returns false'. Refute it at one input. -/
def graphPeersWrong : ChangeSpec := { name := "graphPeers", fn := fun _ => fun
  | [d1, d2] => { results := [.lit (.bool false)], args := [d1, d2] }
  | _ => none }
def GraphPeersWrongFalsely : Prop := graphPeersRow.holds Try.pinned (OpenSpec.ofChange graphPeersWrong)

/-- 'catenarylaw12.GraphGrows': WHATEVER THE INPUT: true; the input reads as it did. -/
def graphGrowsSpec : ChangeSpec := { name := "graphGrows", fn := fun _ => fun
  | [d1, d2, d3] => { results := [.lit (.bool true)], args := [d1, d2, d3] }
  | _ => none }
def graphGrowsRow : OpenClaim := { program := "ytmokkonnilmdfaa", sum := "c4533fc17f1b090aa763a4e21b7df0400cfed5ce694f02babbc324aafb0eb58b", func := "catenary/catenarylaw12.GraphGrows", spec := "graphGrows", unfollowed := true, recurses := true, plainKeys := false, apart := false }
def GraphGrowsSaid : Prop := graphGrowsRow.holds Try.pinned (OpenSpec.ofChange graphGrowsSpec)

/-- ITS FALSE NEIGHBOUR: 'it returns false'. Refute it at one input. -/
def graphGrowsWrong : ChangeSpec := { name := "graphGrows", fn := fun _ => fun
  | [d1, d2, d3] => { results := [.lit (.bool false)], args := [d1, d2, d3] }
  | _ => none }
def GraphGrowsWrongFalsely : Prop := graphGrowsRow.holds Try.pinned (OpenSpec.ofChange graphGrowsWrong)

/-- 'catenarylaw12.GraphNames': WHATEVER THE INPUT: true; the input reads as it did. -/
def graphNamesSpec : ChangeSpec := { name := "graphNames", fn := fun _ => fun
  | [] => { results := [.lit (.bool true)], args := [] }
  | _ => none }
def graphNamesRow : OpenClaim := { program := "ytmokkonnilmdfaa", sum := "c4533fc17f1b090aa763a4e21b7df0400cfed5ce694f02babbc324aafb0eb58b", func := "catenary/catenarylaw12.GraphNames", spec := "graphNames", unfollowed := true, recurses := true, plainKeys := false, apart := false }
def GraphNamesSaid : Prop := graphNamesRow.holds Try.pinned (OpenSpec.ofChange graphNamesSpec)

/-- ITS FALSE NEIGHBOUR: 'it returns false'. Refute it at one input. -/
def graphNamesWrong : ChangeSpec := { name := "graphNames", fn := fun _ => fun
  | [] => { results := [.lit (.bool false)], args := [] }
  | _ => none }
def GraphNamesWrongFalsely : Prop := graphNamesRow.holds Try.pinned (OpenSpec.ofChange graphNamesWrong)

/- THE SECOND FORM. 'bulk': how many values and letters a reading holds, each counted each time it is reached (what is shared counts as often as it is met; a slice's spare places count too). A statement '..UptoSaid' is the law's where the arguments, and the package variables that the reading takes, are together of bulk at most 1048576: NARROWER than '..Said'. Prove '..Said' where nothing that the law and all that it calls make is longer than what came in: it says more and counts as full. Else prove '..UptoSaid'. A law counts once. -/
mutual
def uptoBulk {H : Type} : DataW H → Nat
  | .lit (.string bytes) => bytes.length + 1
  | .lit _ => 1
  | .nil => 1
  | .ptr d => uptoBulk d + 1
  | .slice elems spare => uptoBulkAll elems + uptoBulkAll spare + 1
  | .agg parts => uptoBulkAll parts + 1
  | .iface _ d => uptoBulk d + 1
  | .map entries => uptoBulkEntries entries + 1
  | .held _ => 1
def uptoBulkAll {H : Type} : List (DataW H) → Nat
  | [] => 0
  | d :: r => uptoBulk d + uptoBulkAll r
def uptoBulkEntries {H : Type} : List (Lit × DataW H) → Nat
  | [] => 0
  | x :: r => uptoBulkEntry x + uptoBulkEntries r
def uptoBulkEntry {H : Type} : Lit × DataW H → Nat
  | (.string bytes, d) => bytes.length + uptoBulk d + 1
  | (_, d) => uptoBulk d + 1
 end
def uptoSmall : (H : Type) → List (DataW H) → Bool := fun _ ds => decide (uptoBulkAll ds ≤ 1048576)
def OpenSpec.upto (s : _root_.Go.ChangeSpec) : _root_.Go.OpenSpec := { _root_.Go.OpenSpec.ofChange s with cond := some uptoSmall }

/-- 'catenarylaw12.GraphReach', WHERE WHAT IT READS IS OF BULK AT MOST 1048576: true; the input reads as it did. -/
def graphReachUptoRow : OpenClaim := { program := "ytmokkonnilmdfaa", sum := "c4533fc17f1b090aa763a4e21b7df0400cfed5ce694f02babbc324aafb0eb58b", func := "catenary/catenarylaw12.GraphReach", spec := "graphReach", unfollowed := true, recurses := true, plainKeys := false, apart := false, narrowed := true }
def GraphReachUptoSaid : Prop := graphReachUptoRow.holds Try.pinned (OpenSpec.upto graphReachSpec)

/-- 'catenarylaw12.GraphEnds', WHERE WHAT IT READS IS OF BULK AT MOST 1048576: true; the input reads as it did. -/
def graphEndsUptoRow : OpenClaim := { program := "ytmokkonnilmdfaa", sum := "c4533fc17f1b090aa763a4e21b7df0400cfed5ce694f02babbc324aafb0eb58b", func := "catenary/catenarylaw12.GraphEnds", spec := "graphEnds", unfollowed := true, recurses := true, plainKeys := false, apart := false, narrowed := true }
def GraphEndsUptoSaid : Prop := graphEndsUptoRow.holds Try.pinned (OpenSpec.upto graphEndsSpec)

/-- 'catenarylaw12.GraphPeers', WHERE WHAT IT READS IS OF BULK AT MOST 1048576: true; the input reads as it did. -/
def graphPeersUptoRow : OpenClaim := { program := "ytmokkonnilmdfaa", sum := "c4533fc17f1b090aa763a4e21b7df0400cfed5ce694f02babbc324aafb0eb58b", func := "catenary/catenarylaw12.GraphPeers", spec := "graphPeers", unfollowed := true, recurses := true, plainKeys := false, apart := false, narrowed := true }
def GraphPeersUptoSaid : Prop := graphPeersUptoRow.holds Try.pinned (OpenSpec.upto graphPeersSpec)

/-- 'catenarylaw12.GraphGrows', WHERE WHAT IT READS IS OF BULK AT MOST 1048576: true; the input reads as it did. -/
def graphGrowsUptoRow : OpenClaim := { program := "ytmokkonnilmdfaa", sum := "c4533fc17f1b090aa763a4e21b7df0400cfed5ce694f02babbc324aafb0eb58b", func := "catenary/catenarylaw12.GraphGrows", spec := "graphGrows", unfollowed := true, recurses := true, plainKeys := false, apart := false, narrowed := true }
def GraphGrowsUptoSaid : Prop := graphGrowsUptoRow.holds Try.pinned (OpenSpec.upto graphGrowsSpec)

/-- 'catenarylaw12.GraphNames', WHERE WHAT IT READS IS OF BULK AT MOST 1048576: true; the input reads as it did. -/
def graphNamesUptoRow : OpenClaim := { program := "ytmokkonnilmdfaa", sum := "c4533fc17f1b090aa763a4e21b7df0400cfed5ce694f02babbc324aafb0eb58b", func := "catenary/catenarylaw12.GraphNames", spec := "graphNames", unfollowed := true, recurses := true, plainKeys := false, apart := false, narrowed := true }
def GraphNamesUptoSaid : Prop := graphNamesUptoRow.holds Try.pinned (OpenSpec.upto graphNamesSpec)

end Rows
end Go.Proofs.Ytmokkonnilmdfaa
