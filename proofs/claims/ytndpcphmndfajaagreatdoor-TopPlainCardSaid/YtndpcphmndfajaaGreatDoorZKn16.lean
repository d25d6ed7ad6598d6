/- A fact: a call which the kernel ran. -/
import Derived.Test.YtndpcphmndfajaaGreatDoorZKn1
import Derived.Test.YtndpcphmndfajaaGreatDoorZKn15

namespace Go.Proofs.YtndpcphmndfajaaGreatDoor
/-- diacritic/diacriticlaw29.Awake -/
def fa16 : Fact := ⟨7, [], .b true⟩
theorem kn16 : Known fa16 := known_of 72057594037929984 [fa3, fa15] (fun p h => match List.mem_cons.1 h with | .inl e => e ▸ kn3 | .inr h => match List.mem_cons.1 h with | .inl e => e ▸ kn15 | .inr h => nomatch h) 1000000 fa16 (by kernel_rfl) (by kernel_rfl) (by kernel_rfl) (by kernel_rfl)
end Go.Proofs.YtndpcphmndfajaaGreatDoor
