/-
  No cell of these rows narrows 'for every input' (looked for: loops, veiled, ifaces, maps, wideKeys, modest, calm, conditions, laid).
  DERIVED. THE GIVEN ROWS OF THIS SEAT. 4 by the template 'for every input the law returns true; each argument reads behind the call as it read before'; 0 by the template 'total and deterministic' (their statements: YtdfdjikkgmclfaaTotals.lean).
  GIVEN WITH THE SEED: the statements are not yours to turn. If you find one false, say at which input.
  Laid BY PROGRAM, IN A SANDBOX (cutbox-rows.mjs): the forced cells as the released guide's own fill.sh prints them over the translation f4638091ca8cf6a5… (all of the seat's roots in one cut). By AI agents, Wed Nov 11 2026. No macro, syntax, notation, axiom, sorry.
-/
import Derived.Test.YtdfdjikkgmclfaaChecked
import GoSem.Claim
import GoSem.ClaimJoined
import GoSem.ClaimMapViews
import Derived.JoinedTies
import Derived.KernelRfl
namespace Go.Proofs.Ytdfdjikkgmclfaa
/- THE CELL 'sum', in the pinned program and in every row, IS THE sha256 OF THE DUMP (.gsa) THAT YtdfdjikkgmclfaaProg.lean LOADS. Nothing in Lean hashes anything: it is a label: what it is worth is what the hold of that sum in a sandbox is worth. -/
noncomputable def Try.pinned : Pinned := { name := "ytdfdjikkgmclfaa", sum := "f4638091ca8cf6a580001a2662e5c7522ea4d2d7f84ec23c412e3dea77a80884", checked := Try.checked }
namespace Rows
def none {H : Type} : Left H := { results := [], args := [] }

/-- 'catenarylaw16.HailOne': WHATEVER THE INPUT: true; the input reads as it did. -/
def hailOneSpec : ChangeSpec := { name := "hailOne", fn := fun _ => fun
  | [d] => { results := [.lit (.bool true)], args := [d] }
  | _ => none }
def hailOneRow : OpenClaim := { program := "ytdfdjikkgmclfaa", sum := "f4638091ca8cf6a580001a2662e5c7522ea4d2d7f84ec23c412e3dea77a80884", func := "catenary/catenarylaw16.HailOne", spec := "hailOne", unfollowed := true, recurses := true, apart := false }
def HailOneSaid : Prop := hailOneRow.holds Try.pinned (OpenSpec.ofChange hailOneSpec)

/-- ITS FALSE NEIGHBOUR: 'it returns false'. Refute it at one input. -/
def hailOneWrong : ChangeSpec := { name := "hailOne", fn := fun _ => fun
  | [d] => { results := [.lit (.bool false)], args := [d] }
  | _ => none }
def HailOneWrongFalsely : Prop := hailOneRow.holds Try.pinned (OpenSpec.ofChange hailOneWrong)

/-- 'catenarylaw16.HailLives': WHATEVER THE INPUT: true; the input reads as it did. -/
def hailLivesSpec : ChangeSpec := { name := "hailLives", fn := fun _ => fun
  | [d1, d2, d3] => { results := [.lit (.bool true)], args := [d1, d2, d3] }
  | _ => none }
def hailLivesRow : OpenClaim := { program := "ytdfdjikkgmclfaa", sum := "f4638091ca8cf6a580001a2662e5c7522ea4d2d7f84ec23c412e3dea77a80884", func := "catenary/catenarylaw16.HailLives", spec := "hailLives", unfollowed := true, recurses := true, apart := false }
def HailLivesSaid : Prop := hailLivesRow.holds Try.pinned (OpenSpec.ofChange hailLivesSpec)

/-- ITS FALSE NEIGHBOUR: 'it returns false'. Refute it at one input. -/
def hailLivesWrong : ChangeSpec := { name := "hailLives", fn := fun _ => fun
  | [d1, d2, d3] => { results := [.lit (.bool false)], args := [d1, d2, d3] }
  | _ => none }
def HailLivesWrongFalsely : Prop := hailLivesRow.holds Try.pinned (OpenSpec.ofChange hailLivesWrong)

/-- 'catenarylaw16.HailPlays': WHATEVER THE INPUT: true; the input reads as it did. -/
def hailPlaysSpec : ChangeSpec := { name := "hailPlays", fn := fun _ => fun
  | [d1, d2, d3] => { results := [.lit (.bool true)], args := [d1, d2, d3] }
  | _ => none }
def hailPlaysRow : OpenClaim := { program := "ytdfdjikkgmclfaa", sum := "f4638091ca8cf6a580001a2662e5c7522ea4d2d7f84ec23c412e3dea77a80884", func := "catenary/catenarylaw16.HailPlays", spec := "hailPlays", unfollowed := true, recurses := true, apart := false }
def HailPlaysSaid : Prop := hailPlaysRow.holds Try.pinned (OpenSpec.ofChange hailPlaysSpec)

/-- ITS FALSE NEIGHBOUR: 'it returns false'. Refute it at one input. -/
def hailPlaysWrong : ChangeSpec := { name := "hailPlays", fn := fun _ => fun
  | [d1, d2, d3] => { results := [.lit (.bool false)], args := [d1, d2, d3] }
  | _ => none }
def HailPlaysWrongFalsely : Prop := hailPlaysRow.holds Try.pinned (OpenSpec.ofChange hailPlaysWrong)

/-- 'catenarylaw16.HailKnown': WHATEVER THE INPUT: true; the input reads as it did. -/
def hailKnownSpec : ChangeSpec := { name := "hailKnown", fn := fun _ => fun
  | [] => { results := [.lit (.bool true)], args := [] }
  | _ => none }
def hailKnownRow : OpenClaim := { program := "ytdfdjikkgmclfaa", sum := "f4638091ca8cf6a580001a2662e5c7522ea4d2d7f84ec23c412e3dea77a80884", func := "catenary/catenarylaw16.HailKnown", spec := "hailKnown", unfollowed := true, recurses := true, apart := false }
def HailKnownSaid : Prop := hailKnownRow.holds Try.pinned (OpenSpec.ofChange hailKnownSpec)

/-- ITS FALSE NEIGHBOUR: 'it returns false'. Refute it at one input. -/
def hailKnownWrong : ChangeSpec := { name := "hailKnown", fn := fun _ => fun
  | [] => { results := [.lit (.bool false)], args := [] }
  | _ => none }
def HailKnownWrongFalsely : Prop := hailKnownRow.holds Try.pinned (OpenSpec.ofChange hailKnownWrong)

/- THE SECOND FORM. 'bulk': how many values and letters a reading holds, each counted each time it is reached (what is shared counts as often as it is met; a slice's spare places count too). A statement '..UptoSaid' is the law's where the arguments, and the package variables that the reading takes, are together of bulk at most 1048576: NARROWER than '..Said'. Prove '..Said' where nothing that the law and all that it calls make is longer than what came in: it says more and counts as full. Else prove '..UptoSaid'. A law counts once. -/
mutual
def uptoBulk {H : Type} : DataW H → Nat
  | .lit (.string bytes) => bytes.length + 1
  | .lit _ => 1
  | .nil => 1
  | .ptr d => uptoBulk d + 1
  | .slice elems spare => uptoBulkAll elems + uptoBulkAll spare + 1
  | .agg parts => uptoBulkAll parts + 1
  | .iface _ d => uptoBulk d + 1
  | .map entries => uptoBulkEntries entries + 1
  | .held _ => 1
def uptoBulkAll {H : Type} : List (DataW H) → Nat
  | [] => 0
  | d :: r => uptoBulk d + uptoBulkAll r
def uptoBulkEntries {H : Type} : List (Lit × DataW H) → Nat
  | [] => 0
  | x :: r => uptoBulkEntry x + uptoBulkEntries r
def uptoBulkEntry {H : Type} : Lit × DataW H → Nat
  | (.string bytes, d) => bytes.length + uptoBulk d + 1
  | (_, d) => uptoBulk d + 1
 end
def uptoSmall : (H : Type) → List (DataW H) → Bool := fun _ ds => decide (uptoBulkAll ds ≤ 1048576)
def OpenSpec.upto (s : _root_.Go.ChangeSpec) : _root_.Go.OpenSpec := { _root_.Go.OpenSpec.ofChange s with cond := some uptoSmall }

/-- 'catenarylaw16.HailOne', WHERE WHAT IT READS IS OF BULK AT MOST 1048576: true; the input reads as it did. -/
def hailOneUptoRow : OpenClaim := { program := "ytdfdjikkgmclfaa", sum := "f4638091ca8cf6a580001a2662e5c7522ea4d2d7f84ec23c412e3dea77a80884", func := "catenary/catenarylaw16.HailOne", spec := "hailOne", unfollowed := true, recurses := true, apart := false, narrowed := true }
def HailOneUptoSaid : Prop := hailOneUptoRow.holds Try.pinned (OpenSpec.upto hailOneSpec)

/-- 'catenarylaw16.HailLives', WHERE WHAT IT READS IS OF BULK AT MOST 1048576: true; the input reads as it did. -/
def hailLivesUptoRow : OpenClaim := { program := "ytdfdjikkgmclfaa", sum := "f4638091ca8cf6a580001a2662e5c7522ea4d2d7f84ec23c412e3dea77a80884", func := "catenary/catenarylaw16.HailLives", spec := "hailLives", unfollowed := true, recurses := true, apart := false, narrowed := true }
def HailLivesUptoSaid : Prop := hailLivesUptoRow.holds Try.pinned (OpenSpec.upto hailLivesSpec)

/-- 'catenarylaw16.HailPlays', WHERE WHAT IT READS IS OF BULK AT MOST 1048576: true; the input reads as it did. -/
def hailPlaysUptoRow : OpenClaim := { program := "ytdfdjikkgmclfaa", sum := "f4638091ca8cf6a580001a2662e5c7522ea4d2d7f84ec23c412e3dea77a80884", func := "catenary/catenarylaw16.HailPlays", spec := "hailPlays", unfollowed := true, recurses := true, apart := false, narrowed := true }
def HailPlaysUptoSaid : Prop := hailPlaysUptoRow.holds Try.pinned (OpenSpec.upto hailPlaysSpec)

/-- 'catenarylaw16.HailKnown', WHERE WHAT IT READS IS OF BULK AT MOST 1048576: true; the input reads as it did. -/
def hailKnownUptoRow : OpenClaim := { program := "ytdfdjikkgmclfaa", sum := "f4638091ca8cf6a580001a2662e5c7522ea4d2d7f84ec23c412e3dea77a80884", func := "catenary/catenarylaw16.HailKnown", spec := "hailKnown", unfollowed := true, recurses := true, apart := false, narrowed := true }
def HailKnownUptoSaid : Prop := hailKnownUptoRow.holds Try.pinned (OpenSpec.upto hailKnownSpec)

end Rows
end Go.Proofs.Ytdfdjikkgmclfaa
