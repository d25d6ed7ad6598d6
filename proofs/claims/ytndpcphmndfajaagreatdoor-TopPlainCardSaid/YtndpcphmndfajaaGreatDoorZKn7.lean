/- A fact: a call which the kernel ran. | A fact: a call which the kernel ran. | A fact: a call which the kernel ran. -/
import Derived.Test.YtndpcphmndfajaaGreatDoorZKn1
import Derived.Test.YtndpcphmndfajaaGreatDoorZEv24

namespace Go.Proofs.YtndpcphmndfajaaGreatDoor
/-- diacritic/charset.Decode -/
def fa7 : Fact := ⟨56, [.i .i64 (Int.ofNat 2), .s [176, 161]], .tup [.s [226, 149, 159, 226, 149, 145], .agg [.i .i64 (Int.ofNat 0), .i .i64 (Int.ofNat 0)]]⟩
theorem kn7 : Known fa7 := known_of 118571099379011784139447697357040262050419857775074539216759813924627730116116480 [fa1, fa2] (fun p h => match List.mem_cons.1 h with | .inl e => e ▸ kn1 | .inr h => match List.mem_cons.1 h with | .inl e => e ▸ kn2 | .inr h => nomatch h) 1000000 fa7 (by kernel_rfl) (by kernel_rfl) (by kernel_rfl) (by kernel_rfl)
end Go.Proofs.YtndpcphmndfajaaGreatDoor

namespace Go.Proofs.YtndpcphmndfajaaGreatDoor
/-- diacritic/charset.Decode -/
def fa8 : Fact := ⟨56, [.i .i64 (Int.ofNat 3), .s [176, 161]], .tup [.s [226, 150, 145, 208, 177], .agg [.i .i64 (Int.ofNat 0), .i .i64 (Int.ofNat 0)]]⟩
theorem kn8 : Known fa8 := known_of 0 [] (by intro p h; cases h) 1000000 fa8 (by kernel_rfl) (by kernel_rfl) (by kernel_rfl) (by kernel_rfl)
end Go.Proofs.YtndpcphmndfajaaGreatDoor

namespace Go.Proofs.YtndpcphmndfajaaGreatDoor
/-- diacritic/charset.Decode -/
def fa9 : Fact := ⟨56, [.i .i64 (Int.ofNat 0), .s [176, 161]], .tup [.s [194, 176, 194, 161], .agg [.i .i64 (Int.ofNat 0), .i .i64 (Int.ofNat 0)]]⟩
theorem kn9 : Known fa9 := known_of 0 [] (by intro p h; cases h) 1000000 fa9 (by kernel_rfl) (by kernel_rfl) (by kernel_rfl) (by kernel_rfl)
end Go.Proofs.YtndpcphmndfajaaGreatDoor
