/- A fact: a call which the kernel ran. -/
import Derived.Test.YtndpcphmndfajaaGreatDoorZKn4
import Derived.Test.YtndpcphmndfajaaGreatDoorZKn7
import Derived.Test.YtndpcphmndfajaaGreatDoorZKn10
import Derived.Test.YtndpcphmndfajaaGreatDoorZKn11
import Derived.Test.YtndpcphmndfajaaGreatDoorZKn13

namespace Go.Proofs.YtndpcphmndfajaaGreatDoor
/-- diacritic/diacriticlaw28.Awake -/
def fa15 : Fact := ⟨11, [], .b true⟩
theorem kn15 : Known fa15 := known_of 4374501449566023848745004454236105448999687682259854217334325841001462387020273144838479263779782656 [fa4, fa5, fa6, fa7, fa8, fa9, fa10, fa11, fa13, fa14] (fun p h => match List.mem_cons.1 h with | .inl e => e ▸ kn4 | .inr h => match List.mem_cons.1 h with | .inl e => e ▸ kn5 | .inr h => match List.mem_cons.1 h with | .inl e => e ▸ kn6 | .inr h => match List.mem_cons.1 h with | .inl e => e ▸ kn7 | .inr h => match List.mem_cons.1 h with | .inl e => e ▸ kn8 | .inr h => match List.mem_cons.1 h with | .inl e => e ▸ kn9 | .inr h => match List.mem_cons.1 h with | .inl e => e ▸ kn10 | .inr h => match List.mem_cons.1 h with | .inl e => e ▸ kn11 | .inr h => match List.mem_cons.1 h with | .inl e => e ▸ kn13 | .inr h => match List.mem_cons.1 h with | .inl e => e ▸ kn14 | .inr h => nomatch h) 1000000 fa15 (by kernel_rfl) (by kernel_rfl) (by kernel_rfl) (by kernel_rfl)
end Go.Proofs.YtndpcphmndfajaaGreatDoor
