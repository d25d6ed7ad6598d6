/- The walk of the statement TailReads. -/
import Derived.Test.YtlgkbkbghheokaaTail9
namespace Go.Proofs.Ytlgkbkbghheokaa
open Go.RowKit
set_option linter.unusedVariables false

set_option maxRecDepth 100000 in
theorem treads_over (b : List UInt8) (w : World) (h : (3000 : Int) < b.length) : Calls Try.prog 4 #[.string ⟨b.toArray⟩] w fun e w' => e = .returned (.bool true) ∧ Below w.heap.size w w' := by
  go_enter Try.func4, Try.ntmps4
  go_wp2_with (go_at_call 11; refine (awake12' _).mono ?_; rintro e w1 ⟨rfl, hb1⟩)
  go_ret
  exact ⟨rfl, hb1⟩
theorem pre3 (l : List UInt8) : ([84, 65, 71] : List UInt8).isPrefixOf l = true ↔ l.take 3 = [84, 65, 71] := by
  rw [List.isPrefixOf_iff_prefix]
  constructor
  · rintro ⟨r, rfl⟩
    rfl
  · intro h
    exact ⟨l.drop 3, by rw [← h]; exact List.take_append_drop 3 l⟩
theorem pre3_no (l : List UInt8) : ([84, 65, 71] : List UInt8).isPrefixOf l = false ↔ ¬ l.take 3 = [84, 65, 71] := by
  rw [← pre3, Bool.not_eq_true]


set_option maxHeartbeats 2000000 in
set_option maxRecDepth 100000 in
theorem treads_short (b : List UInt8) (w : World) (h0 : ¬ (3000 : Int) < b.length) (h : b.length < 128) : Calls Try.prog 4 #[.string ⟨b.toArray⟩] w fun e w' => e = .returned (.bool true) ∧ Below w.heap.size w w' := by
  have PA : Hid (∀ w, Calls Try.prog 15 #[.string ⟨b.toArray⟩] w fun e w' => e = .returned (.tuple #[.agg #[.string ⟨#[]⟩, .string ⟨#[]⟩, .string ⟨#[]⟩, .string ⟨#[]⟩, .string ⟨#[]⟩, .int .u8 0, .int .u8 0], .bool false]) ∧ Below w.heap.size w w') := Lib.hid fun w => tparse_no b w (.inl (by omega))
  have SP : Hid (∀ w, Calls Try.prog 18 #[.string ⟨b.toArray⟩] w fun e w' => e = .returned (.tuple #[.string ⟨b.toArray⟩, .string ⟨#[]⟩]) ∧ Below w.heap.size w w') := Lib.hid fun w => split_no b w (by omega) (.inl h)
  have t1 : ((b.length : Int) == 128) = false := by simp; omega
  have t2 : ¬ (0 : Int) ≤ (b.length : Int) - 128 := by omega
  have t3 : (b.length : Int) - 128 < 0 := by omega
  have t9 : (b.length : Int) < 128 := by omega
  clear h
  go_enter Try.func4, Try.ntmps4
  go_wp2_with (first | (go_at_call 15; (with_reducible refine (PA.out _).mono ?_); rintro e w1 ⟨rfl, hb1⟩; have K1 := Lib.hid hb1; clear hb1) | (go_at_call 18; (with_reducible refine (SP.out _).mono ?_); rintro e w2 ⟨rfl, hb2⟩; have K2 := Lib.hid (nextB K1.out (below_a1 hb2)); clear hb2) | (go_at_call 11; (with_reducible refine (awake12' _).mono ?_); rintro e w3 ⟨rfl, hb3⟩; have K3 := Lib.hid (nextB K2.out hb3); clear hb3))
  go_ret
  exact ⟨rfl, K3.out⟩


set_option maxHeartbeats 2000000 in
set_option maxRecDepth 100000 in
theorem treads_long_no (b : List UInt8) (w : World) (h0 : ¬ (3000 : Int) < b.length) (h : 128 < b.length) (hs : ¬ (b.drop (b.length - 128)).take 3 = [84, 65, 71]) : Calls Try.prog 4 #[.string ⟨b.toArray⟩] w fun e w' => e = .returned (.bool true) ∧ Below w.heap.size w w' := by
  have PA : Hid (∀ w, Calls Try.prog 15 #[.string ⟨b.toArray⟩] w fun e w' => e = .returned (.tuple #[.agg #[.string ⟨#[]⟩, .string ⟨#[]⟩, .string ⟨#[]⟩, .string ⟨#[]⟩, .string ⟨#[]⟩, .int .u8 0, .int .u8 0], .bool false]) ∧ Below w.heap.size w w') := Lib.hid fun w => tparse_no b w (.inl (by omega))
  have SP : Hid (∀ w, Calls Try.prog 18 #[.string ⟨b.toArray⟩] w fun e w' => e = .returned (.tuple #[.string ⟨b.toArray⟩, .string ⟨#[]⟩]) ∧ Below w.heap.size w w') := Lib.hid fun w => split_no b w (by omega) (.inr ((pre3_no _).2 hs))
  have t1 : ((b.length : Int) == 128) = false := by simp; omega
  have t9 : ¬ (b.length : Int) < 128 := by omega
  have t8 : (128 : Int) ≤ b.length := by omega
  have t2 : (0 : Int) ≤ (b.length : Int) - 128 := by omega
  have t3 : (b.length : Int) - 128 ≤ b.length := by omega
  have t4 : ((b.length : Int) - 128).toNat = b.length - 128 := by omega
  have t5 : (b.length : Int) - 128 + 3 ≤ b.length := by omega
  have t6 : ((b.length : Int) - 128 + 3).toNat = b.length - 128 + 3 := by omega
  have t7 : b.length - 128 + 3 - (b.length - 128) = 3 := by omega
  have ht : List.take (b.length - (b.length - 128)) (List.drop (b.length - 128) b) = List.drop (b.length - 128) b := List.take_of_length_le (by rw [List.length_drop]; omega)
  clear h
  have s1 : (List.take 3 (List.drop (b.length - 128) b) = [84, 65, 71]) = False := by simpa using hs
  have s2 : (List.take 3 (List.drop (b.length - 128) b) == [84, 65, 71]) = false := by simpa using hs
  clear hs
  go_enter Try.func4, Try.ntmps4
  go_wp2_with (first | (go_at_call 15; (with_reducible refine (PA.out _).mono ?_); rintro e w1 ⟨rfl, hb1⟩; have K1 := Lib.hid hb1; clear hb1) | (go_at_call 18; (with_reducible refine (SP.out _).mono ?_); rintro e w2 ⟨rfl, hb2⟩; have K2 := Lib.hid (nextB K1.out (below_a1 hb2)); clear hb2) | (go_at_call 11; (with_reducible refine (awake12' _).mono ?_); rintro e w3 ⟨rfl, hb3⟩; have K3 := Lib.hid (nextB K2.out hb3); clear hb3))
  go_ret
  exact ⟨rfl, K3.out⟩


set_option maxHeartbeats 2000000 in
set_option maxRecDepth 100000 in
theorem treads_long_yes (b : List UInt8) (w : World) (h0 : ¬ (3000 : Int) < b.length) (h : 128 < b.length) (hs : (b.drop (b.length - 128)).take 3 = [84, 65, 71]) : Calls Try.prog 4 #[.string ⟨b.toArray⟩] w fun e w' => e = .returned (.bool true) ∧ Below w.heap.size w w' := by
  have PA : Hid (∀ w, Calls Try.prog 15 #[.string ⟨b.toArray⟩] w fun e w' => e = .returned (.tuple #[.agg #[.string ⟨#[]⟩, .string ⟨#[]⟩, .string ⟨#[]⟩, .string ⟨#[]⟩, .string ⟨#[]⟩, .int .u8 0, .int .u8 0], .bool false]) ∧ Below w.heap.size w w') := Lib.hid fun w => tparse_no b w (.inl (by omega))
  have SP := Lib.hid (fun w => split_yes b w (by omega) (by omega) ((pre3 _).2 hs))
  unfold SplitSays at SP
  have t1 : ((b.length : Int) == 128) = false := by simp; omega
  have t9 : ¬ (b.length : Int) < 128 := by omega
  have t8 : (128 : Int) ≤ b.length := by omega
  have t2 : (0 : Int) ≤ (b.length : Int) - 128 := by omega
  have t3 : (b.length : Int) - 128 ≤ b.length := by omega
  have t4 : ((b.length : Int) - 128).toNat = b.length - 128 := by omega
  have t5 : (b.length : Int) - 128 + 3 ≤ b.length := by omega
  have t6 : ((b.length : Int) - 128 + 3).toNat = b.length - 128 + 3 := by omega
  have t7 : b.length - 128 + 3 - (b.length - 128) = 3 := by omega
  have ht : List.take (b.length - (b.length - 128)) (List.drop (b.length - 128) b) = List.drop (b.length - 128) b := List.take_of_length_le (by rw [List.length_drop]; omega)
  clear h
  go_enter Try.func4, Try.ntmps4
  go_wp2_with (first | (go_at_call 15; (with_reducible refine (PA.out _).mono ?_); rintro e w1 ⟨rfl, hb1⟩; have K1 := Lib.hid hb1; clear hb1) | (go_at_call 18; (with_reducible refine (SP.out _).mono ?_); rintro e w2 ⟨rfl, hb2⟩; have K2 := Lib.hid (nextB K1.out (below_a1 hb2)); clear hb2) | (go_at_call 11; (with_reducible refine (awake12' _).mono ?_); rintro e w3 ⟨rfl, hb3⟩; have K3 := Lib.hid (nextB K2.out hb3); clear hb3))
  go_ret
  exact ⟨rfl, K3.out⟩


set_option maxHeartbeats 2000000 in
set_option maxRecDepth 100000 in
theorem treads_no (b : List UInt8) (w : World) (h0 : ¬ (3000 : Int) < b.length) (h : b.length = 128) (hs : ¬ b.take 3 = [84, 65, 71]) : Calls Try.prog 4 #[.string ⟨b.toArray⟩] w fun e w' => e = .returned (.bool true) ∧ Below w.heap.size w w' := by
  have PA : Hid (∀ w, Calls Try.prog 15 #[.string ⟨b.toArray⟩] w fun e w' => e = .returned (.tuple #[.agg #[.string ⟨#[]⟩, .string ⟨#[]⟩, .string ⟨#[]⟩, .string ⟨#[]⟩, .string ⟨#[]⟩, .int .u8 0, .int .u8 0], .bool false]) ∧ Below w.heap.size w w') := Lib.hid fun w => tparse_no b w (.inr ((pre3_no _).2 hs))
  have SP : Hid (∀ w, Calls Try.prog 18 #[.string ⟨b.toArray⟩] w fun e w' => e = .returned (.tuple #[.string ⟨b.toArray⟩, .string ⟨#[]⟩]) ∧ Below w.heap.size w w') := Lib.hid fun w => split_no b w (by omega) (.inr ((pre3_no _).2 (by rw [h]; exact hs)))
  have s1 : (List.take 3 b = [84, 65, 71]) = False := by simpa using hs
  have s2 : (List.take 3 b == [84, 65, 71]) = false := by simpa using hs
  have g3 : (3 : Int) ≤ 128 := by omega
  clear hs
  go_enter Try.func4, Try.ntmps4
  go_wp2_with (first | (go_at_call 15; (with_reducible refine (PA.out _).mono ?_); rintro e w1 ⟨rfl, hb1⟩; have K1 := Lib.hid hb1; clear hb1) | (go_at_call 18; (with_reducible refine (SP.out _).mono ?_); rintro e w2 ⟨rfl, hb2⟩; have K2 := Lib.hid (nextB K1.out (below_a1 hb2)); clear hb2) | (go_at_call 11; (with_reducible refine (awake12' _).mono ?_); rintro e w3 ⟨rfl, hb3⟩; have K3 := Lib.hid (nextB K2.out hb3); clear hb3))
  go_ret
  exact ⟨rfl, K3.out⟩


set_option maxHeartbeats 2000000 in
set_option maxRecDepth 100000 in
theorem treads_yes (b : List UInt8) (w : World) (h0 : ¬ (3000 : Int) < b.length) (h : b.length = 128) (hs : b.take 3 = [84, 65, 71]) : Calls Try.prog 4 #[.string ⟨b.toArray⟩] w fun e w' => e = .returned (.bool true) ∧ Below w.heap.size w w' := by
  have htk : List.take 128 b = b := List.take_of_length_le (by omega)
  have HNE := Lib.hid (fun w => run_neq_rtail (parseT b) w)
  have OF := Lib.hid (fun w => tof_any (parseT b) w)
  have RP := Lib.hid (fun w => rtparse_any b w h)
  unfold RParseSays at RP
  have PA : Hid (∀ w, Calls Try.prog 15 #[.string ⟨b.toArray⟩] w fun e w' => e = .returned (.tuple #[tlV (parseT b), .bool true]) ∧ Below w.heap.size w w') := Lib.hid fun w => tparse_yes b w h ((pre3 _).2 hs)
  have SP : Hid (∀ w, Calls Try.prog 18 #[.string ⟨b.toArray⟩] w fun e w' => e = .returned (.tuple #[.string ⟨(b.take 0).toArray⟩, .string ⟨(b.drop 0).toArray⟩]) ∧ Below w.heap.size w w') := Lib.hid fun w => by
    have h1 := split_yes b w (by omega) (by omega) ((pre3 _).2 (by rw [h]; exact hs))
    rw [h] at h1
    exact h1
  generalize parseT b = t at *
  have hne := HNE.out
  unfold tlV tlR rtV rtR at *
  rw [List.take_zero, List.drop_zero] at SP
  go_enter Try.func4, Try.ntmps4
  go_wp2_with (first | (go_at_call 15; (with_reducible refine (PA.out _).mono ?_); rintro e w1 ⟨rfl, hb1⟩; have K1 := Lib.hid hb1; clear hb1) | (go_at_call 10; (with_reducible refine (OF.out _).mono ?_); rintro e w4 ⟨rfl, hb4⟩; have K4 := Lib.hid (nextB K1.out (below_a1 hb4)); clear hb4) | (go_at_call 17; (with_reducible refine (RP.out _).mono ?_); rintro e w5 ⟨rfl, hb5⟩; have K5 := Lib.hid (nextB K4.out hb5); clear hb5) | (go_at_call 18; (with_reducible refine (SP.out _).mono ?_); rintro e w2 ⟨rfl, hb2⟩; have K2 := Lib.hid (nextB K5.out hb2); clear hb2) | (go_at_call 11; (with_reducible refine (awake12' _).mono ?_); rintro e w3 ⟨rfl, hb3⟩; have K3 := Lib.hid (nextB K2.out hb3); clear hb3))
  go_ret
  exact ⟨rfl, K3.out⟩

theorem walk_TailReads (b : List UInt8) (hb : b.length ≤ maxLen) (w : World) : Calls Try.prog 4 #[.string ⟨b.toArray⟩] w fun e w' => e = .returned (.bool true) ∧ Below w.heap.size w w' := by
  by_cases h0 : (3000 : Int) < b.length
  · exact treads_over b w h0
  rcases Nat.lt_trichotomy b.length 128 with h | h | h
  · exact treads_short b w h0 h
  · by_cases hs : b.take 3 = [84, 65, 71]
    · exact treads_yes b w h0 h hs
    · exact treads_no b w h0 h hs
  · by_cases hs : (b.drop (b.length - 128)).take 3 = [84, 65, 71]
    · exact treads_long_yes b w h0 h hs
    · exact treads_long_no b w h0 h hs
end Go.Proofs.Ytlgkbkbghheokaa
