/- A fact: a call which the kernel ran. | A fact: a call which the kernel ran. -/
import Derived.Test.YtndpcphmndfajaaGreatDoorZEv24

namespace Go.Proofs.YtndpcphmndfajaaGreatDoor
/-- diacritic/wansung.Rank -/
def fa11 : Fact := ⟨331, [.i .i32 (Int.ofNat 55203)], .tup [.i .i64 (Int.ofNat 8821), .b false, .b true]⟩
theorem kn11 : Known fa11 := known_of 0 [] (by intro p h; cases h) 1000000 fa11 (by kernel_rfl) (by kernel_rfl) (by kernel_rfl) (by kernel_rfl)
end Go.Proofs.YtndpcphmndfajaaGreatDoor

namespace Go.Proofs.YtndpcphmndfajaaGreatDoor
/-- diacritic/diacriticlaw17.Awake -/
def fa12 : Fact := ⟨73, [], .b true⟩
theorem kn12 : Known fa12 := known_of 0 [] (by intro p h; cases h) 1000000 fa12 (by kernel_rfl) (by kernel_rfl) (by kernel_rfl) (by kernel_rfl)
end Go.Proofs.YtndpcphmndfajaaGreatDoor
