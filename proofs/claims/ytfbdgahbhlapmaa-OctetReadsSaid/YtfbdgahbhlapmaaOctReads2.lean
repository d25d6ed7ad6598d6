/- The walk of the statement OctetReads: the other ways. -/
import Derived.Test.YtfbdgahbhlapmaaOctReads
namespace Go.Proofs.Ytfbdgahbhlapmaa
open Go.RowKit

set_option maxHeartbeats 2000000 in
set_option maxRecDepth 100000 in
theorem walk_reads_over (t : List UInt8) (base : Int) (a : Option Addr) (len cap : Nat) (w : World) (h : (2000 : Int) < t.length ∨ (100 : Int) < len ∨ 1099511627776 < base) :
    Calls Try.prog 11 #[.string ⟨t.toArray⟩, .int .i64 base, .slice a len cap] w fun e w' => e = .returned (.bool true) ∧ Below w.heap.size w w' := by
  by_cases h1 : (2000 : Int) < t.length
  · go_enter Try.func11, Try.ntmps11
    go_wp2_with (go_at_call 23; refine (awake01' _).mono ?_; rintro e w3 ⟨rfl, hb3⟩)
    go_ret
    exact ⟨rfl, hb3⟩
  by_cases h2 : (100 : Int) < len
  · go_enter Try.func11, Try.ntmps11
    go_wp2_with (go_at_call 23; refine (awake01' _).mono ?_; rintro e w3 ⟨rfl, hb3⟩)
    go_ret
    exact ⟨rfl, hb3⟩
  · have h3 : 1099511627776 < base := by omega
    clear h
    go_enter Try.func11, Try.ntmps11
    go_wp2_with (go_at_call 23; refine (awake01' _).mono ?_; rintro e w3 ⟨rfl, hb3⟩)
    go_ret
    exact ⟨rfl, hb3⟩

set_option maxHeartbeats 2000000 in
set_option maxRecDepth 100000 in
theorem walk_reads_nil (t : List UInt8) (base : Int) (a : Option Addr) (cap : Nat) (w : World) (ht : t.length ≤ 2000) (hbase : base ≤ 1099511627776) :
    Calls Try.prog 11 #[.string ⟨t.toArray⟩, .int .i64 base, .slice a 0 cap] w fun e w' => e = .returned (.bool true) ∧ Below w.heap.size w w' := by
  have hok := new_ok t base (by omega) (by omega)
  have hnw : Rd.new t base = ⟨t, 0, max base 0, 0, 0⟩ := rfl
  have hmx : (if base < 0 then (0 : Int) else base) = max base 0 := by split <;> omega
  have HI := Lib.hid (fun w => inner_any t base w)
  rw [hnw] at HI hok
  clear hnw
  generalize max base 0 = bs at *
  go_enter Try.func11, Try.ntmps11
  go_wp2_with (go_at_call 44; refine (HI.out _).mono ?_; rintro e w1 ⟨rfl, hr1, hb1⟩; have HB1 := Lib.hid hb1; clear hr1 hb1)
  refine wp_loop_rounds 1 ?_
  rw [rounds_succ]
  go_wp2_with (go_at_call 23; refine (awake01' _).mono ?_; rintro e w3 ⟨rfl, hb3⟩)
  go_ret
  exact ⟨rfl, nextB (HB1.out.alloc HB1.out.size _) hb3⟩
end Go.Proofs.Ytfbdgahbhlapmaa
