/-
  No cell of these rows narrows 'for every input' (looked for: loops, veiled, ifaces, maps, wideKeys, modest, calm, conditions, laid).
  DERIVED. THE GIVEN ROWS OF THIS SEAT. 5 by the template 'for every input the law returns true; each argument reads behind the call as it read before'; 0 by the template 'total and deterministic' (their statements: YtgodelllnilcfaaTotals.lean).
  GIVEN WITH THE SEED: the statements are not yours to turn. If you find one false, say at which input.
  Laid BY PROGRAM, IN A SANDBOX (cutbox-rows.mjs): the forced cells as the released guide's own fill.sh prints them over the translation ad43831cc0d851f1… (all of the seat's roots in one cut). By AI agents, Wed Nov 11 2026. No macro, syntax, notation, axiom, sorry.
-/
import Derived.Test.YtgodelllnilcfaaChecked
import GoSem.Claim
import GoSem.ClaimJoined
import GoSem.ClaimMapViews
import Derived.JoinedTies
import Derived.KernelRfl
namespace Go.Proofs.Ytgodelllnilcfaa
/- THE CELL 'sum', in the pinned program and in every row, IS THE sha256 OF THE DUMP (.gsa) THAT YtgodelllnilcfaaProg.lean LOADS. Nothing in Lean hashes anything: it is a label: what it is worth is what the hold of that sum in a sandbox is worth. -/
noncomputable def Try.pinned : Pinned := { name := "ytgodelllnilcfaa", sum := "ad43831cc0d851f1363e08fafe66672551e8c4a59196587e13ce13f78f9677de", checked := Try.checked }
namespace Rows
def none {H : Type} : Left H := { results := [], args := [] }

/-- 'catenarylaw09.TableFirst': WHATEVER THE INPUT: true; the input reads as it did. -/
def tableFirstSpec : ChangeSpec := { name := "tableFirst", fn := fun _ => fun
  | [d1, d2, d3] => { results := [.lit (.bool true)], args := [d1, d2, d3] }
  | _ => none }
def tableFirstRow : OpenClaim := { program := "ytgodelllnilcfaa", sum := "ad43831cc0d851f1363e08fafe66672551e8c4a59196587e13ce13f78f9677de", func := "catenary/catenarylaw09.TableFirst", spec := "tableFirst", inPlace := ["slices.overlaps[catenary/api.Rule]"], unfollowed := true, recurses := true, apart := false }
def TableFirstSaid : Prop := tableFirstRow.holds Try.pinned (OpenSpec.ofChange tableFirstSpec)

/-- ITS FALSE NEIGHBOUR: 'it returns false'. Refute it at one input. -/
def tableFirstWrong : ChangeSpec := { name := "tableFirst", fn := fun _ => fun
  | [d1, d2, d3] => { results := [.lit (.bool false)], args := [d1, d2, d3] }
  | _ => none }
def TableFirstWrongFalsely : Prop := tableFirstRow.holds Try.pinned (OpenSpec.ofChange tableFirstWrong)

/-- 'catenarylaw09.TablePlays': WHATEVER THE INPUT: true; the input reads as it did. -/
def tablePlaysSpec : ChangeSpec := { name := "tablePlays", fn := fun _ => fun
  | [d1, d2] => { results := [.lit (.bool true)], args := [d1, d2] }
  | _ => none }
def tablePlaysRow : OpenClaim := { program := "ytgodelllnilcfaa", sum := "ad43831cc0d851f1363e08fafe66672551e8c4a59196587e13ce13f78f9677de", func := "catenary/catenarylaw09.TablePlays", spec := "tablePlays", inPlace := ["slices.overlaps[catenary/api.Rule]"], unfollowed := true, recurses := true, apart := false }
def TablePlaysSaid : Prop := tablePlaysRow.holds Try.pinned (OpenSpec.ofChange tablePlaysSpec)

/-- ITS FALSE NEIGHBOUR: 'it returns false'. Refute it at one input. -/
def tablePlaysWrong : ChangeSpec := { name := "tablePlays", fn := fun _ => fun
  | [d1, d2] => { results := [.lit (.bool false)], args := [d1, d2] }
  | _ => none }
def TablePlaysWrongFalsely : Prop := tablePlaysRow.holds Try.pinned (OpenSpec.ofChange tablePlaysWrong)

/-- 'catenarylaw09.TableKnown': WHATEVER THE INPUT: true; the input reads as it did. -/
def tableKnownSpec : ChangeSpec := { name := "tableKnown", fn := fun _ => fun
  | [] => { results := [.lit (.bool true)], args := [] }
  | _ => none }
def tableKnownRow : OpenClaim := { program := "ytgodelllnilcfaa", sum := "ad43831cc0d851f1363e08fafe66672551e8c4a59196587e13ce13f78f9677de", func := "catenary/catenarylaw09.TableKnown", spec := "tableKnown", inPlace := ["slices.overlaps[catenary/api.Rule]"], unfollowed := true, recurses := true, apart := false }
def TableKnownSaid : Prop := tableKnownRow.holds Try.pinned (OpenSpec.ofChange tableKnownSpec)

/-- ITS FALSE NEIGHBOUR: 'it returns false'. Refute it at one input. -/
def tableKnownWrong : ChangeSpec := { name := "tableKnown", fn := fun _ => fun
  | [] => { results := [.lit (.bool false)], args := [] }
  | _ => none }
def TableKnownWrongFalsely : Prop := tableKnownRow.holds Try.pinned (OpenSpec.ofChange tableKnownWrong)

/-- 'catenarylaw09.TableLoose': WHATEVER THE INPUT: true; the input reads as it did. -/
def tableLooseSpec : ChangeSpec := { name := "tableLoose", fn := fun _ => fun
  | [d1, d2] => { results := [.lit (.bool true)], args := [d1, d2] }
  | _ => none }
def tableLooseRow : OpenClaim := { program := "ytgodelllnilcfaa", sum := "ad43831cc0d851f1363e08fafe66672551e8c4a59196587e13ce13f78f9677de", func := "catenary/catenarylaw09.TableLoose", spec := "tableLoose", inPlace := ["slices.overlaps[catenary/api.Rule]"], unfollowed := true, recurses := true, apart := false }
def TableLooseSaid : Prop := tableLooseRow.holds Try.pinned (OpenSpec.ofChange tableLooseSpec)

/-- ITS FALSE NEIGHBOUR: 'it returns false'. Refute it at one input. -/
def tableLooseWrong : ChangeSpec := { name := "tableLoose", fn := fun _ => fun
  | [d1, d2] => { results := [.lit (.bool false)], args := [d1, d2] }
  | _ => none }
def TableLooseWrongFalsely : Prop := tableLooseRow.holds Try.pinned (OpenSpec.ofChange tableLooseWrong)

/-- 'catenarylaw09.TableMixed': WHATEVER THE INPUT: true; the input reads as it did. -/
def tableMixedSpec : ChangeSpec := { name := "tableMixed", fn := fun _ => fun
  | [d1, d2, d3] => { results := [.lit (.bool true)], args := [d1, d2, d3] }
  | _ => none }
def tableMixedRow : OpenClaim := { program := "ytgodelllnilcfaa", sum := "ad43831cc0d851f1363e08fafe66672551e8c4a59196587e13ce13f78f9677de", func := "catenary/catenarylaw09.TableMixed", spec := "tableMixed", inPlace := ["slices.overlaps[catenary/api.Rule]"], unfollowed := true, recurses := true, apart := false }
def TableMixedSaid : Prop := tableMixedRow.holds Try.pinned (OpenSpec.ofChange tableMixedSpec)

/-- ITS FALSE NEIGHBOUR: 'it returns false'. Refute it at one input. -/
def tableMixedWrong : ChangeSpec := { name := "tableMixed", fn := fun _ => fun
  | [d1, d2, d3] => { results := [.lit (.bool false)], args := [d1, d2, d3] }
  | _ => none }
def TableMixedWrongFalsely : Prop := tableMixedRow.holds Try.pinned (OpenSpec.ofChange tableMixedWrong)

/- THE SECOND FORM. 'bulk': how many values and letters a reading holds, each counted each time it is reached (what is shared counts as often as it is met; a slice's spare places count too). A statement '..UptoSaid' is the law's where the arguments, and the package variables that the reading takes, are together of bulk at most 1048576: NARROWER than '..Said'. Prove '..Said' where nothing that the law and all that it calls make is longer than what came in: it says more and counts as full. Else prove '..UptoSaid'. A law counts once. -/
mutual
def uptoBulk {H : Type} : DataW H → Nat
  | .lit (.string bytes) => bytes.length + 1
  | .lit _ => 1
  | .nil => 1
  | .ptr d => uptoBulk d + 1
  | .slice elems spare => uptoBulkAll elems + uptoBulkAll spare + 1
  | .agg parts => uptoBulkAll parts + 1
  | .iface _ d => uptoBulk d + 1
  | .map entries => uptoBulkEntries entries + 1
  | .held _ => 1
def uptoBulkAll {H : Type} : List (DataW H) → Nat
  | [] => 0
  | d :: r => uptoBulk d + uptoBulkAll r
def uptoBulkEntries {H : Type} : List (Lit × DataW H) → Nat
  | [] => 0
  | x :: r => uptoBulkEntry x + uptoBulkEntries r
def uptoBulkEntry {H : Type} : Lit × DataW H → Nat
  | (.string bytes, d) => bytes.length + uptoBulk d + 1
  | (_, d) => uptoBulk d + 1
 end
def uptoSmall : (H : Type) → List (DataW H) → Bool := fun _ ds => decide (uptoBulkAll ds ≤ 1048576)
def OpenSpec.upto (s : _root_.Go.ChangeSpec) : _root_.Go.OpenSpec := { _root_.Go.OpenSpec.ofChange s with cond := some uptoSmall }

/-- 'catenarylaw09.TableFirst', WHERE WHAT IT READS IS OF BULK AT MOST 1048576: true; the input reads as it did. -/
def tableFirstUptoRow : OpenClaim := { program := "ytgodelllnilcfaa", sum := "ad43831cc0d851f1363e08fafe66672551e8c4a59196587e13ce13f78f9677de", func := "catenary/catenarylaw09.TableFirst", spec := "tableFirst", inPlace := ["slices.overlaps[catenary/api.Rule]"], unfollowed := true, recurses := true, apart := false, narrowed := true }
def TableFirstUptoSaid : Prop := tableFirstUptoRow.holds Try.pinned (OpenSpec.upto tableFirstSpec)

/-- 'catenarylaw09.TablePlays', WHERE WHAT IT READS IS OF BULK AT MOST 1048576: true; the input reads as it did. -/
def tablePlaysUptoRow : OpenClaim := { program := "ytgodelllnilcfaa", sum := "ad43831cc0d851f1363e08fafe66672551e8c4a59196587e13ce13f78f9677de", func := "catenary/catenarylaw09.TablePlays", spec := "tablePlays", inPlace := ["slices.overlaps[catenary/api.Rule]"], unfollowed := true, recurses := true, apart := false, narrowed := true }
def TablePlaysUptoSaid : Prop := tablePlaysUptoRow.holds Try.pinned (OpenSpec.upto tablePlaysSpec)

/-- 'catenarylaw09.TableKnown', WHERE WHAT IT READS IS OF BULK AT MOST 1048576: true; the input reads as it did. -/
def tableKnownUptoRow : OpenClaim := { program := "ytgodelllnilcfaa", sum := "ad43831cc0d851f1363e08fafe66672551e8c4a59196587e13ce13f78f9677de", func := "catenary/catenarylaw09.TableKnown", spec := "tableKnown", inPlace := ["slices.overlaps[catenary/api.Rule]"], unfollowed := true, recurses := true, apart := false, narrowed := true }
def TableKnownUptoSaid : Prop := tableKnownUptoRow.holds Try.pinned (OpenSpec.upto tableKnownSpec)

/-- 'catenarylaw09.TableLoose', WHERE WHAT IT READS IS OF BULK AT MOST 1048576: true; the input reads as it did. -/
def tableLooseUptoRow : OpenClaim := { program := "ytgodelllnilcfaa", sum := "ad43831cc0d851f1363e08fafe66672551e8c4a59196587e13ce13f78f9677de", func := "catenary/catenarylaw09.TableLoose", spec := "tableLoose", inPlace := ["slices.overlaps[catenary/api.Rule]"], unfollowed := true, recurses := true, apart := false, narrowed := true }
def TableLooseUptoSaid : Prop := tableLooseUptoRow.holds Try.pinned (OpenSpec.upto tableLooseSpec)

/-- 'catenarylaw09.TableMixed', WHERE WHAT IT READS IS OF BULK AT MOST 1048576: true; the input reads as it did. -/
def tableMixedUptoRow : OpenClaim := { program := "ytgodelllnilcfaa", sum := "ad43831cc0d851f1363e08fafe66672551e8c4a59196587e13ce13f78f9677de", func := "catenary/catenarylaw09.TableMixed", spec := "tableMixed", inPlace := ["slices.overlaps[catenary/api.Rule]"], unfollowed := true, recurses := true, apart := false, narrowed := true }
def TableMixedUptoSaid : Prop := tableMixedUptoRow.holds Try.pinned (OpenSpec.upto tableMixedSpec)

end Rows
end Go.Proofs.Ytgodelllnilcfaa
