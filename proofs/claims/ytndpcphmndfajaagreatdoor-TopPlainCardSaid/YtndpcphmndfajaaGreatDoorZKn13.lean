/- A fact: a call which the kernel ran. | A fact: a call which the kernel ran. -/
import Derived.Test.YtndpcphmndfajaaGreatDoorZKn4
import Derived.Test.YtndpcphmndfajaaGreatDoorZKn7
import Derived.Test.YtndpcphmndfajaaGreatDoorZKn10
import Derived.Test.YtndpcphmndfajaaGreatDoorZKn11

namespace Go.Proofs.YtndpcphmndfajaaGreatDoor
/-- diacritic/diacriticlaw20.Awake -/
def fa13 : Fact := ⟨25, [], .b true⟩
theorem kn13 : Known fa13 := known_of 4374501449566023848745004454236105448999687682259854217334325841001462387020282589571445002902437888 [fa4, fa5, fa6, fa7, fa8, fa9, fa10, fa11, fa12] (fun p h => match List.mem_cons.1 h with | .inl e => e ▸ kn4 | .inr h => match List.mem_cons.1 h with | .inl e => e ▸ kn5 | .inr h => match List.mem_cons.1 h with | .inl e => e ▸ kn6 | .inr h => match List.mem_cons.1 h with | .inl e => e ▸ kn7 | .inr h => match List.mem_cons.1 h with | .inl e => e ▸ kn8 | .inr h => match List.mem_cons.1 h with | .inl e => e ▸ kn9 | .inr h => match List.mem_cons.1 h with | .inl e => e ▸ kn10 | .inr h => match List.mem_cons.1 h with | .inl e => e ▸ kn11 | .inr h => match List.mem_cons.1 h with | .inl e => e ▸ kn12 | .inr h => nomatch h) 1000000 fa13 (by kernel_rfl) (by kernel_rfl) (by kernel_rfl) (by kernel_rfl)
end Go.Proofs.YtndpcphmndfajaaGreatDoor

namespace Go.Proofs.YtndpcphmndfajaaGreatDoor
/-- diacritic/diacriticlaw27.Awake -/
def fa14 : Fact := ⟨27, [], .b true⟩
theorem kn14 : Known fa14 := known_of 4374501449566023848745004454236105448999687682259854217334325841001462387020273144838479263612010496 [fa4, fa5, fa6, fa7, fa8, fa9, fa10, fa11] (fun p h => match List.mem_cons.1 h with | .inl e => e ▸ kn4 | .inr h => match List.mem_cons.1 h with | .inl e => e ▸ kn5 | .inr h => match List.mem_cons.1 h with | .inl e => e ▸ kn6 | .inr h => match List.mem_cons.1 h with | .inl e => e ▸ kn7 | .inr h => match List.mem_cons.1 h with | .inl e => e ▸ kn8 | .inr h => match List.mem_cons.1 h with | .inl e => e ▸ kn9 | .inr h => match List.mem_cons.1 h with | .inl e => e ▸ kn10 | .inr h => match List.mem_cons.1 h with | .inl e => e ▸ kn11 | .inr h => nomatch h) 1000000 fa14 (by kernel_rfl) (by kernel_rfl) (by kernel_rfl) (by kernel_rfl)
end Go.Proofs.YtndpcphmndfajaaGreatDoor
