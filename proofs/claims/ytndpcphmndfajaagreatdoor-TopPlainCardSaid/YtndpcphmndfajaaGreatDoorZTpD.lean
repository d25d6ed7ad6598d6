/- The row's closed cells, all of them. -/
import Derived.Test.YtndpcphmndfajaaGreatDoorZTpB
import Derived.Test.YtndpcphmndfajaaGreatDoorTie
import Derived.JoinedCond
import Derived.SevenTiedAt

namespace Go.Proofs.YtndpcphmndfajaaGreatDoor.topPlain
open Go.RowKit
set_option linter.unusedVariables false

theorem closed : joinedFacts Tryz.prog 3 Tryz.f3 (OpenSpec.ofChange Rows.topPlainSpec).bare Rows.topPlainRow = true := by
  unfold joinedFacts
  simp only [Bool.and_eq_true]
  repeat' apply And.intro
  all_goals first | with_reducible exact inp | with_reducible exact unf | with_reducible exact recu | with_reducible exact vars | with_reducible exact laidOut | with_reducible exact rowed | with_reducible exact heard | kernel_rfl
theorem inst : Tryz.f3.isInstance Tryz.prog Rows.topPlainRow.origin Rows.topPlainRow.targs := of_decide_eq_true (by kernel_rfl)
theorem wrap : Tryz.f3.isWrapper Tryz.prog Rows.topPlainRow.wrapper Rows.topPlainRow.mainSum := by
  unfold Func.isWrapper
  first | (rw [if_pos (by decide +kernel)]; kernel_rfl) | (rw [if_neg (by decide +kernel)]; exact ⟨rfl, rfl⟩)
theorem wft : Rows.topPlainRow.wfByText (OpenSpec.ofChange Rows.topPlainSpec) = true := by kernel_rfl
theorem main : Tryz.prog.mainIs = some (true, "6c9ea362183204e7f03daedbb3beb88b910ee3a0172792f22a095e47bbdc358a".toList) := by kernel_rfl
theorem wanted : ([9, 5].all fun u => !Tryz.prog.wantsStandIn u) = true := by kernel_rfl
theorem told : ∀ f fn, Tryz.prog.funcNamed Rows.topPlainRow.func = some f → Tryz.prog.funcs[f]? = some fn → false = Tryz.prog.looks [] ∧ ∀ (j : Nat) t, fn.params[j]? = some t → Tryz.prog.wantsStandIn t = false := fun f fn hf hfn => by
  obtain rfl : f = 3 := Option.some.inj (named.symm.trans hf) |>.symm
  obtain rfl : fn = Tryz.f3 := (Option.some.inj (Tryz.func3.symm.trans hfn)).symm
  exact ⟨looks, fun j t ht => by
    rw [Tryz.params3] at ht
    have hm : t ∈ [9, 5] := by simpa using Array.mem_of_getElem? ht
    exact (show Tryz.prog.wantsStandIn t = false by simpa using List.all_eq_true.1 wanted t hm)⟩
end Go.Proofs.YtndpcphmndfajaaGreatDoor.topPlain
