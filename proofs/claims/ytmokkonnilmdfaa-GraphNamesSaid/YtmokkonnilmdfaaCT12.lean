/-
  Functions of the program, by their runs.
  No statement of the seat is proved here. Conditions: none.
-/
import Derived.Test.YtmokkonnilmdfaaY25
import Derived.Test.YtmokkonnilmdfaaTab12
import Derived.Test.YtmokkonnilmdfaaRB12
set_option linter.unusedSimpArgs false
set_option linter.unusedVariables false
set_option maxRecDepth 100000
namespace Go.Proofs.Ytmokkonnilmdfaa
open Go.Sy Go.RowKit
def ports_tr : List D → Option (Tree (SV × Hp))
  | [.a [.i sw, .l nl ls], .i s] => some (.need (shortB ls.length) (.ret (.own 0, [some ⟨.rows (.int .i64) ((portsI sw ls s).map D.i).isEmpty ((portsI sw ls s).map D.i), 3, false⟩])))
  | _ => none
noncomputable def ports_ct : Ct Try.prog := Ct.borrow 16 (enters_of (c := codeOf Try.f16) Try.func16 (by kernel_rfl) (by kernel_rfl)) [.d (.agg [.int .i64, .list LINKs]), .d (.int .i64)] ports_tr (by
  intro ds t r H' ht hr
  unfold ports_tr at ht
  split at ht
  · rename_i sw nl ls s
    simp only [Option.some.injEq] at ht
    subst ht
    obtain ⟨hp, h⟩ := Tree.run_need hr
    simp only [Tree.run_ret', Option.some.injEq, Prod.mk.injEq] at h
    obtain ⟨rfl, rfl⟩ := h
    exact ports_ok sw nl ls s hp
  · cases ht)
def reach_tr : List D → Option (Tree (SV × Hp))
  | [.a [.i sw, .l nl ls], .l unl us, .i f] => some (.need (shortB ls.length) (.ret (.own 0, [some ⟨.rows (.int .i64) ((reachI sw ls (us.map D.bool) f).map D.i).isEmpty ((reachI sw ls (us.map D.bool) f).map D.i), 3, false⟩])))
  | _ => none
noncomputable def reach_ct : Ct Try.prog := Ct.borrow 9 (enters_of (c := codeOf Try.f9) Try.func9 (by kernel_rfl) (by kernel_rfl)) [.d (.agg [.int .i64, .list LINKs]), .d (.list .bool), .d (.int .i64)] reach_tr (by
  intro ds t r H' ht hr
  unfold reach_tr at ht
  split at ht
  · rename_i sw nl ls unl us f
    simp only [Option.some.injEq] at ht
    subst ht
    obtain ⟨hp, h⟩ := Tree.run_need hr
    simp only [Tree.run_ret', Option.some.injEq, Prod.mk.injEq] at h
    obtain ⟨rfl, rfl⟩ := h
    exact reach_ok sw nl ls unl us f hp
  · cases ht)
end Go.Proofs.Ytmokkonnilmdfaa
