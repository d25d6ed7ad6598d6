/- A fact: a call which the kernel ran. -/
import Derived.Test.YtndpcphmndfajaaGreatDoorZKn1

namespace Go.Proofs.YtndpcphmndfajaaGreatDoor
/-- diacritic/diacriticlaw05.Awake -/
def fa10 : Fact := ⟨229, [], .b true⟩
theorem kn10 : Known fa10 := known_of 118571099379011784139447697357040262050419857775074539216759813924627730116116480 [fa1, fa2] (fun p h => match List.mem_cons.1 h with | .inl e => e ▸ kn1 | .inr h => match List.mem_cons.1 h with | .inl e => e ▸ kn2 | .inr h => nomatch h) 1000000 fa10 (by kernel_rfl) (by kernel_rfl) (by kernel_rfl) (by kernel_rfl)
end Go.Proofs.YtndpcphmndfajaaGreatDoor
