/-
  No cell of these rows narrows 'for every input' (looked for: loops, veiled, ifaces, maps, wideKeys, modest, calm, conditions, laid).
  DERIVED. THE GIVEN ROWS OF THIS SEAT. 6 by the template 'for every input the law returns true; each argument reads behind the call as it read before'; 0 by the template 'total and deterministic' (their statements: YtkkbbifhaanamaaTotals.lean).
  GIVEN WITH THE SEED: the statements are not yours to turn. If you find one false, say at which input.
  Laid BY PROGRAM, IN A SANDBOX (cutbox-rows.mjs): the forced cells as the released guide's own fill.sh prints them over the translation b21bb1baacad7dad… (all of the seat's roots in one cut). By AI agents, Wed Nov 11 2026. No macro, syntax, notation, axiom, sorry.
-/
import Derived.Test.YtkkbbifhaanamaaChecked
import GoSem.Claim
import GoSem.ClaimJoined
import GoSem.ClaimMapViews
import Derived.JoinedTies
import Derived.KernelRfl
namespace Go.Proofs.Ytkkbbifhaanamaa
/- THE CELL 'sum', in the pinned program and in every row, IS THE sha256 OF THE DUMP (.gsa) THAT YtkkbbifhaanamaaProg.lean LOADS. Nothing in Lean hashes anything: it is a label: what it is worth is what the hold of that sum in a sandbox is worth. -/
noncomputable def Try.pinned : Pinned := { name := "ytkkbbifhaanamaa", sum := "b21bb1baacad7dad6e886a3d6610ef4aa41b7037b16a886e75c31e66666ca6b2", checked := Try.checked }
namespace Rows
def none {H : Type} : Left H := { results := [], args := [] }

/-- 'catenarylaw07.MaskFits': WHATEVER THE INPUT: true; the input reads as it did. -/
def maskFitsSpec : ChangeSpec := { name := "maskFits", fn := fun _ => fun
  | [d1, d2, d3] => { results := [.lit (.bool true)], args := [d1, d2, d3] }
  | _ => none }
def maskFitsRow : OpenClaim := { program := "ytkkbbifhaanamaa", sum := "b21bb1baacad7dad6e886a3d6610ef4aa41b7037b16a886e75c31e66666ca6b2", func := "catenary/catenarylaw07.MaskFits", spec := "maskFits", apart := false }
def MaskFitsSaid : Prop := maskFitsRow.holds Try.pinned (OpenSpec.ofChange maskFitsSpec)

/-- ITS FALSE NEIGHBOUR: 'it returns false'. Refute it at one input. -/
def maskFitsWrong : ChangeSpec := { name := "maskFits", fn := fun _ => fun
  | [d1, d2, d3] => { results := [.lit (.bool false)], args := [d1, d2, d3] }
  | _ => none }
def MaskFitsWrongFalsely : Prop := maskFitsRow.holds Try.pinned (OpenSpec.ofChange maskFitsWrong)

/-- 'catenarylaw07.MaskMeets': WHATEVER THE INPUT: true; the input reads as it did. -/
def maskMeetsSpec : ChangeSpec := { name := "maskMeets", fn := fun _ => fun
  | [d1, d2] => { results := [.lit (.bool true)], args := [d1, d2] }
  | _ => none }
def maskMeetsRow : OpenClaim := { program := "ytkkbbifhaanamaa", sum := "b21bb1baacad7dad6e886a3d6610ef4aa41b7037b16a886e75c31e66666ca6b2", func := "catenary/catenarylaw07.MaskMeets", spec := "maskMeets", apart := false }
def MaskMeetsSaid : Prop := maskMeetsRow.holds Try.pinned (OpenSpec.ofChange maskMeetsSpec)

/-- ITS FALSE NEIGHBOUR: 'it returns false'. Refute it at one input. -/
def maskMeetsWrong : ChangeSpec := { name := "maskMeets", fn := fun _ => fun
  | [d1, d2] => { results := [.lit (.bool false)], args := [d1, d2] }
  | _ => none }
def MaskMeetsWrongFalsely : Prop := maskMeetsRow.holds Try.pinned (OpenSpec.ofChange maskMeetsWrong)

/-- 'catenarylaw07.MaskOnly': WHATEVER THE INPUT: true; the input reads as it did. -/
def maskOnlySpec : ChangeSpec := { name := "maskOnly", fn := fun _ => fun
  | [d1, d2, d3] => { results := [.lit (.bool true)], args := [d1, d2, d3] }
  | _ => none }
def maskOnlyRow : OpenClaim := { program := "ytkkbbifhaanamaa", sum := "b21bb1baacad7dad6e886a3d6610ef4aa41b7037b16a886e75c31e66666ca6b2", func := "catenary/catenarylaw07.MaskOnly", spec := "maskOnly", apart := false }
def MaskOnlySaid : Prop := maskOnlyRow.holds Try.pinned (OpenSpec.ofChange maskOnlySpec)

/-- ITS FALSE NEIGHBOUR: 'it returns false'. Refute it at one input. -/
def maskOnlyWrong : ChangeSpec := { name := "maskOnly", fn := fun _ => fun
  | [d1, d2, d3] => { results := [.lit (.bool false)], args := [d1, d2, d3] }
  | _ => none }
def MaskOnlyWrongFalsely : Prop := maskOnlyRow.holds Try.pinned (OpenSpec.ofChange maskOnlyWrong)

/-- 'catenarylaw07.MaskBoth': WHATEVER THE INPUT: true; the input reads as it did. -/
def maskBothSpec : ChangeSpec := { name := "maskBoth", fn := fun _ => fun
  | [d1, d2, d3] => { results := [.lit (.bool true)], args := [d1, d2, d3] }
  | _ => none }
def maskBothRow : OpenClaim := { program := "ytkkbbifhaanamaa", sum := "b21bb1baacad7dad6e886a3d6610ef4aa41b7037b16a886e75c31e66666ca6b2", func := "catenary/catenarylaw07.MaskBoth", spec := "maskBoth", apart := false }
def MaskBothSaid : Prop := maskBothRow.holds Try.pinned (OpenSpec.ofChange maskBothSpec)

/-- ITS FALSE NEIGHBOUR: 'it returns false'. Refute it at one input. -/
def maskBothWrong : ChangeSpec := { name := "maskBoth", fn := fun _ => fun
  | [d1, d2, d3] => { results := [.lit (.bool false)], args := [d1, d2, d3] }
  | _ => none }
def MaskBothWrongFalsely : Prop := maskBothRow.holds Try.pinned (OpenSpec.ofChange maskBothWrong)

/-- 'catenarylaw07.MaskCovers': WHATEVER THE INPUT: true; the input reads as it did. -/
def maskCoversSpec : ChangeSpec := { name := "maskCovers", fn := fun _ => fun
  | [d1, d2, d3] => { results := [.lit (.bool true)], args := [d1, d2, d3] }
  | _ => none }
def maskCoversRow : OpenClaim := { program := "ytkkbbifhaanamaa", sum := "b21bb1baacad7dad6e886a3d6610ef4aa41b7037b16a886e75c31e66666ca6b2", func := "catenary/catenarylaw07.MaskCovers", spec := "maskCovers", apart := false }
def MaskCoversSaid : Prop := maskCoversRow.holds Try.pinned (OpenSpec.ofChange maskCoversSpec)

/-- ITS FALSE NEIGHBOUR: 'it returns false'. Refute it at one input. -/
def maskCoversWrong : ChangeSpec := { name := "maskCovers", fn := fun _ => fun
  | [d1, d2, d3] => { results := [.lit (.bool false)], args := [d1, d2, d3] }
  | _ => none }
def MaskCoversWrongFalsely : Prop := maskCoversRow.holds Try.pinned (OpenSpec.ofChange maskCoversWrong)

/-- 'catenarylaw07.MaskKnown': WHATEVER THE INPUT: true; the input reads as it did. -/
def maskKnownSpec : ChangeSpec := { name := "maskKnown", fn := fun _ => fun
  | [] => { results := [.lit (.bool true)], args := [] }
  | _ => none }
def maskKnownRow : OpenClaim := { program := "ytkkbbifhaanamaa", sum := "b21bb1baacad7dad6e886a3d6610ef4aa41b7037b16a886e75c31e66666ca6b2", func := "catenary/catenarylaw07.MaskKnown", spec := "maskKnown", apart := false }
def MaskKnownSaid : Prop := maskKnownRow.holds Try.pinned (OpenSpec.ofChange maskKnownSpec)

/-- ITS FALSE NEIGHBOUR: 'it returns false'. Refute it at one input. -/
def maskKnownWrong : ChangeSpec := { name := "maskKnown", fn := fun _ => fun
  | [] => { results := [.lit (.bool false)], args := [] }
  | _ => none }
def MaskKnownWrongFalsely : Prop := maskKnownRow.holds Try.pinned (OpenSpec.ofChange maskKnownWrong)

/- THE SECOND FORM. 'bulk': how many values and letters a reading holds, each counted each time it is reached (what is shared counts as often as it is met; a slice's spare places count too). A statement '..UptoSaid' is the law's where the arguments, and the package variables that the reading takes, are together of bulk at most 1048576: NARROWER than '..Said'. Prove '..Said' where nothing that the law and all that it calls make is longer than what came in: it says more and counts as full. Else prove '..UptoSaid'. A law counts once. -/
mutual
def uptoBulk {H : Type} : DataW H → Nat
  | .lit (.string bytes) => bytes.length + 1
  | .lit _ => 1
  | .nil => 1
  | .ptr d => uptoBulk d + 1
  | .slice elems spare => uptoBulkAll elems + uptoBulkAll spare + 1
  | .agg parts => uptoBulkAll parts + 1
  | .iface _ d => uptoBulk d + 1
  | .map entries => uptoBulkEntries entries + 1
  | .held _ => 1
def uptoBulkAll {H : Type} : List (DataW H) → Nat
  | [] => 0
  | d :: r => uptoBulk d + uptoBulkAll r
def uptoBulkEntries {H : Type} : List (Lit × DataW H) → Nat
  | [] => 0
  | x :: r => uptoBulkEntry x + uptoBulkEntries r
def uptoBulkEntry {H : Type} : Lit × DataW H → Nat
  | (.string bytes, d) => bytes.length + uptoBulk d + 1
  | (_, d) => uptoBulk d + 1
 end
def uptoSmall : (H : Type) → List (DataW H) → Bool := fun _ ds => decide (uptoBulkAll ds ≤ 1048576)
def OpenSpec.upto (s : _root_.Go.ChangeSpec) : _root_.Go.OpenSpec := { _root_.Go.OpenSpec.ofChange s with cond := some uptoSmall }

/-- 'catenarylaw07.MaskFits', WHERE WHAT IT READS IS OF BULK AT MOST 1048576: true; the input reads as it did. -/
def maskFitsUptoRow : OpenClaim := { program := "ytkkbbifhaanamaa", sum := "b21bb1baacad7dad6e886a3d6610ef4aa41b7037b16a886e75c31e66666ca6b2", func := "catenary/catenarylaw07.MaskFits", spec := "maskFits", apart := false, narrowed := true }
def MaskFitsUptoSaid : Prop := maskFitsUptoRow.holds Try.pinned (OpenSpec.upto maskFitsSpec)

/-- 'catenarylaw07.MaskMeets', WHERE WHAT IT READS IS OF BULK AT MOST 1048576: true; the input reads as it did. -/
def maskMeetsUptoRow : OpenClaim := { program := "ytkkbbifhaanamaa", sum := "b21bb1baacad7dad6e886a3d6610ef4aa41b7037b16a886e75c31e66666ca6b2", func := "catenary/catenarylaw07.MaskMeets", spec := "maskMeets", apart := false, narrowed := true }
def MaskMeetsUptoSaid : Prop := maskMeetsUptoRow.holds Try.pinned (OpenSpec.upto maskMeetsSpec)

/-- 'catenarylaw07.MaskOnly', WHERE WHAT IT READS IS OF BULK AT MOST 1048576: true; the input reads as it did. -/
def maskOnlyUptoRow : OpenClaim := { program := "ytkkbbifhaanamaa", sum := "b21bb1baacad7dad6e886a3d6610ef4aa41b7037b16a886e75c31e66666ca6b2", func := "catenary/catenarylaw07.MaskOnly", spec := "maskOnly", apart := false, narrowed := true }
def MaskOnlyUptoSaid : Prop := maskOnlyUptoRow.holds Try.pinned (OpenSpec.upto maskOnlySpec)

/-- 'catenarylaw07.MaskBoth', WHERE WHAT IT READS IS OF BULK AT MOST 1048576: true; the input reads as it did. -/
def maskBothUptoRow : OpenClaim := { program := "ytkkbbifhaanamaa", sum := "b21bb1baacad7dad6e886a3d6610ef4aa41b7037b16a886e75c31e66666ca6b2", func := "catenary/catenarylaw07.MaskBoth", spec := "maskBoth", apart := false, narrowed := true }
def MaskBothUptoSaid : Prop := maskBothUptoRow.holds Try.pinned (OpenSpec.upto maskBothSpec)

/-- 'catenarylaw07.MaskCovers', WHERE WHAT IT READS IS OF BULK AT MOST 1048576: true; the input reads as it did. -/
def maskCoversUptoRow : OpenClaim := { program := "ytkkbbifhaanamaa", sum := "b21bb1baacad7dad6e886a3d6610ef4aa41b7037b16a886e75c31e66666ca6b2", func := "catenary/catenarylaw07.MaskCovers", spec := "maskCovers", apart := false, narrowed := true }
def MaskCoversUptoSaid : Prop := maskCoversUptoRow.holds Try.pinned (OpenSpec.upto maskCoversSpec)

/-- 'catenarylaw07.MaskKnown', WHERE WHAT IT READS IS OF BULK AT MOST 1048576: true; the input reads as it did. -/
def maskKnownUptoRow : OpenClaim := { program := "ytkkbbifhaanamaa", sum := "b21bb1baacad7dad6e886a3d6610ef4aa41b7037b16a886e75c31e66666ca6b2", func := "catenary/catenarylaw07.MaskKnown", spec := "maskKnown", apart := false, narrowed := true }
def MaskKnownUptoSaid : Prop := maskKnownUptoRow.holds Try.pinned (OpenSpec.upto maskKnownSpec)

end Rows
end Go.Proofs.Ytkkbbifhaanamaa
