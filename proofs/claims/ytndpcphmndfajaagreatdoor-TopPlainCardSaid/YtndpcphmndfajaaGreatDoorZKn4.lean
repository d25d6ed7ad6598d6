/- A fact: a call which the kernel ran. | A fact: a call which the kernel ran. | A fact: a call which the kernel ran. -/
import Derived.Test.YtndpcphmndfajaaGreatDoorZKn1
import Derived.Test.YtndpcphmndfajaaGreatDoorZEv24

namespace Go.Proofs.YtndpcphmndfajaaGreatDoor
/-- diacritic/charset.Decode -/
def fa4 : Fact := ⟨56, [.i .i64 (Int.ofNat 1), .s [193, 194]], .tup [.s [208, 176, 208, 177], .agg [.i .i64 (Int.ofNat 0), .i .i64 (Int.ofNat 0)]]⟩
theorem kn4 : Known fa4 := known_of 118571099379011784139447697357040262050419857775074539216759813924627730116116480 [fa1, fa2] (fun p h => match List.mem_cons.1 h with | .inl e => e ▸ kn1 | .inr h => match List.mem_cons.1 h with | .inl e => e ▸ kn2 | .inr h => nomatch h) 1000000 fa4 (by kernel_rfl) (by kernel_rfl) (by kernel_rfl) (by kernel_rfl)
end Go.Proofs.YtndpcphmndfajaaGreatDoor

namespace Go.Proofs.YtndpcphmndfajaaGreatDoor
/-- diacritic/wansung.Rank -/
def fa5 : Fact := ⟨331, [.i .i32 (Int.ofNat 49968)], .tup [.i .i64 (Int.ofNat 4651), .b false, .b true]⟩
theorem kn5 : Known fa5 := known_of 0 [] (by intro p h; cases h) 1000000 fa5 (by kernel_rfl) (by kernel_rfl) (by kernel_rfl) (by kernel_rfl)
end Go.Proofs.YtndpcphmndfajaaGreatDoor

namespace Go.Proofs.YtndpcphmndfajaaGreatDoor
/-- diacritic/charset.Decode -/
def fa6 : Fact := ⟨56, [.i .i64 (Int.ofNat 1), .s [176, 161]], .tup [.s [226, 149, 159, 226, 149, 145], .agg [.i .i64 (Int.ofNat 0), .i .i64 (Int.ofNat 0)]]⟩
theorem kn6 : Known fa6 := known_of 118571099379011784139447697357040262050419857775074539216759813924627730116116480 [fa1, fa2] (fun p h => match List.mem_cons.1 h with | .inl e => e ▸ kn1 | .inr h => match List.mem_cons.1 h with | .inl e => e ▸ kn2 | .inr h => nomatch h) 1000000 fa6 (by kernel_rfl) (by kernel_rfl) (by kernel_rfl) (by kernel_rfl)
end Go.Proofs.YtndpcphmndfajaaGreatDoor
