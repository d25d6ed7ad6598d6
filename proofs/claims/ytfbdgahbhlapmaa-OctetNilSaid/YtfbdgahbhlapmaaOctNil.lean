/- The walk of the statement OctetNil: a reader that is none answers nothing. -/
import Derived.Test.YtfbdgahbhlapmaaOctLaw
namespace Go.Proofs.Ytfbdgahbhlapmaa
open Go.RowKit

set_option maxRecDepth 100000 in
theorem take_nil (n : Int) (w : World) : Calls Try.prog 49 #[.pointer none, .int .i64 n] w fun e w' => e = .returned (.string ⟨#[]⟩) ∧ w = w' := by
  go_enter Try.func49, Try.ntmps49
  go_wp2_with (go_at_call 62; refine (ready_nil _).mono ?_; rintro e w1 ⟨rfl, rfl⟩)
  go_ret
  exact ⟨rfl, rfl⟩
set_option maxRecDepth 100000 in
theorem rest_nil (w : World) : Calls Try.prog 50 #[.pointer none] w fun e w' => e = .returned (.string ⟨#[]⟩) ∧ w = w' := by
  go_enter Try.func50, Try.ntmps50
  go_wp2_with (first | (go_at_call 41; refine (left_nil _).mono ?_; rintro e w1 ⟨rfl, rfl⟩) | (go_at_call 49; refine (take_nil _ _).mono ?_; rintro e w1 ⟨rfl, rfl⟩))
  go_ret
  exact ⟨rfl, rfl⟩
set_option maxRecDepth 100000 in
theorem peek_nil (n : Int) (w : World) : Calls Try.prog 51 #[.pointer none, .int .i64 n] w fun e w' => e = .returned (.string ⟨#[]⟩) ∧ w = w' := by
  go_enter Try.func51, Try.ntmps51
  go_wp2_with (go_at_call 62; refine (ready_nil _).mono ?_; rintro e w1 ⟨rfl, rfl⟩)
  go_ret
  exact ⟨rfl, rfl⟩
set_option maxRecDepth 100000 in
theorem want_nil (s : List UInt8) (w : World) : Calls Try.prog 52 #[.pointer none, .string ⟨s.toArray⟩] w fun e w' => e = .returned (.bool false) ∧ w = w' := by
  go_enter Try.func52, Try.ntmps52
  go_wp2_with (go_at_call 62; refine (ready_nil _).mono ?_; rintro e w1 ⟨rfl, rfl⟩)
  go_ret
  exact ⟨rfl, rfl⟩
set_option maxRecDepth 100000 in
theorem until_nil (s : List UInt8) (w : World) : Calls Try.prog 53 #[.pointer none, .string ⟨s.toArray⟩] w fun e w' => e = .returned (.string ⟨#[]⟩) ∧ w = w' := by
  go_enter Try.func53, Try.ntmps53
  go_wp2_with (go_at_call 62; refine (ready_nil _).mono ?_; rintro e w1 ⟨rfl, rfl⟩)
  go_ret
  exact ⟨rfl, rfl⟩
set_option maxRecDepth 100000 in
theorem inbig_nil (n : Int) (w : World) : Calls Try.prog 39 #[.pointer none, .int .i64 n] w fun e w' => e = .returned (.int .u64 0) ∧ w = w' := by
  go_enter Try.func39, Try.ntmps39
  go_wp2_with (first | (go_at_call 61; refine (width_any _ _).mono ?_; rintro e w' ⟨rfl, rfl⟩) | (go_at_call 49; refine (take_nil _ _).mono ?_; rintro e w1 ⟨rfl, rfl⟩))
  refine wp_loop_rounds 1 ?_; rw [rounds_succ]
  go_wp2
  go_ret
  exact ⟨rfl, rfl⟩
set_option maxRecDepth 100000 in
theorem insmall_nil (n : Int) (w : World) : Calls Try.prog 40 #[.pointer none, .int .i64 n] w fun e w' => e = .returned (.int .u64 0) ∧ w = w' := by
  go_enter Try.func40, Try.ntmps40
  go_wp2_with (first | (go_at_call 61; refine (width_any _ _).mono ?_; rintro e w' ⟨rfl, rfl⟩) | (go_at_call 49; refine (take_nil _ _).mono ?_; rintro e w1 ⟨rfl, rfl⟩))
  refine wp_loop_rounds 1 ?_; rw [rounds_succ]
  go_wp2
  go_ret
  exact ⟨rfl, rfl⟩
set_option maxRecDepth 100000 in
theorem insafe_nil (w : World) : Calls Try.prog 26 #[.pointer none] w fun e w' => e = .returned (.int .i64 0) ∧ w = w' := by
  go_enter Try.func26, Try.ntmps26
  go_wp2_with (go_at_call 49; refine (take_nil _ _).mono ?_; rintro e w1 ⟨rfl, rfl⟩)
  refine wp_loop_rounds 1 ?_; rw [rounds_succ]
  go_wp2
  go_ret
  exact ⟨rfl, rfl⟩

set_option maxHeartbeats 1000000 in
set_option maxRecDepth 100000 in
theorem walk_OctetNil (n : Int) (_hn : (Lit.int .i64 n).wf = true) (s : List UInt8) (_hs : s.length ≤ maxLen) (w : World) :
    Calls Try.prog 12 #[.int .i64 n, .string ⟨s.toArray⟩] w fun e w' => e = .returned (.bool true) ∧ Below w.heap.size w w' := by
  go_enter Try.func12, Try.ntmps12
  go_wp2_with (first | (go_at_call 48; refine (fail_nil _ _ _).mono ?_; rintro e w1 ⟨rfl, rfl⟩) | (go_at_call 23; refine (awake01' _).mono ?_; rintro e w1 ⟨rfl, hb1⟩) | (go_at_call 41; refine (left_nil _).mono ?_; rintro e w9 ⟨rfl, rfl⟩) | (go_at_call 47; refine (at_nil _).mono ?_; rintro e w9 ⟨rfl, rfl⟩) | (go_at_call 27; refine (fault_nil _).mono ?_; rintro e w2 ⟨rfl, hb2⟩) | (go_at_call 49; refine (take_nil _ _).mono ?_; rintro e w9 ⟨rfl, rfl⟩) | (go_at_call 50; refine (rest_nil _).mono ?_; rintro e w9 ⟨rfl, rfl⟩) | (go_at_call 51; refine (peek_nil _ _).mono ?_; rintro e w9 ⟨rfl, rfl⟩) | (go_at_call 39; refine (inbig_nil _ _).mono ?_; rintro e w9 ⟨rfl, rfl⟩) | (go_at_call 40; refine (insmall_nil _ _).mono ?_; rintro e w9 ⟨rfl, rfl⟩) | (go_at_call 26; refine (insafe_nil _).mono ?_; rintro e w9 ⟨rfl, rfl⟩) | (go_at_call 52; refine (want_nil _ _).mono ?_; rintro e w9 ⟨rfl, rfl⟩) | (go_at_call 53; refine (until_nil _ _).mono ?_; rintro e w9 ⟨rfl, rfl⟩))
  go_ret
  exact ⟨rfl, nextB hb1 hb2⟩
end Go.Proofs.Ytfbdgahbhlapmaa
