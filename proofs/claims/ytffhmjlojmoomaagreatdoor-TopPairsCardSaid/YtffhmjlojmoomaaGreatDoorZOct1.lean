/- The walks of layer 1 (octet), first part: the reader's small methods. -/
import Derived.Test.YtffhmjlojmoomaaGreatDoorProg
import Derived.Test.YtffhmjlojmoomaaGreatDoorZRd
import Derived.BigGuardPart
import Derived.Deep.QuietTactic
import Derived.BigQuiet

namespace Go.Proofs.YtffhmjlojmoomaaGreatDoor
open Go.RowKit

abbrev RdAt (w : World) (b : Nat) (m : Rd) : Prop := InAt 135 w b m

set_option maxRecDepth 100000 in
theorem bad_any (c p : Int) (w : World) : Calls Tryz.prog 7 #[.agg #[.int .i64 c, .int .i64 p]] w fun e w' => e = .returned (.bool (c != 0)) ∧ Below w.heap.size w w' := by
  go_enter Tryz.func7, Tryz.ntmps7
  go_wp2
  go_ret
  exact ⟨rfl, (Below.refl _ _).alloc (Nat.le_refl _) _⟩

set_option maxRecDepth 100000 in
theorem ready_yes (b : Nat) (m : Rd) (w : World) (h : RdAt w b m) (hc : m.cd = 0) : Calls Tryz.prog 96 #[.pointer (some ⟨b, 0, none⟩)] w fun e w' => e = .returned (.bool true) ∧ Below w.heap.size w w' := by
  obtain ⟨c0, c1, c2, c3, c4, f1, f3, f4⟩ := h.cells
  go_enter Tryz.func96, Tryz.ntmps96
  go_wp2_with (go_at_call 7; refine (bad_any _ _ _).mono ?_; rintro e w1 ⟨rfl, hb1⟩)
  go_ret
  exact ⟨rfl, hb1⟩

set_option maxRecDepth 100000 in
theorem ready_no (b : Nat) (m : Rd) (w : World) (h : RdAt w b m) (hc : m.cd ≠ 0) : Calls Tryz.prog 96 #[.pointer (some ⟨b, 0, none⟩)] w fun e w' => e = .returned (.bool false) ∧ Below w.heap.size w w' := by
  obtain ⟨c0, c1, c2, c3, c4, f1, f3, f4⟩ := h.cells
  have hc' : (m.cd != 0) = true := by simpa using hc
  clear hc
  go_enter Tryz.func96, Tryz.ntmps96
  go_wp2_with (go_at_call 7; refine (bad_any _ _ _).mono ?_; rintro e w1 ⟨rfl, hb1⟩)
  go_ret
  exact ⟨rfl, hb1⟩

set_option maxRecDepth 100000 in
theorem ready_nil (w : World) : Calls Tryz.prog 96 #[.pointer none] w fun e w' => e = .returned (.bool false) ∧ w = w' := by
  go_enter Tryz.func96, Tryz.ntmps96
  go_wp2
  go_ret
  exact ⟨rfl, rfl⟩

set_option maxRecDepth 100000 in
theorem place_any (b : Nat) (m : Rd) (n : Int) (w : World) (h : RdAt w b m) (hm : m.Ok) (hn0 : 0 ≤ n) (hn : n ≤ 4000000000) : Calls Tryz.prog 97 #[.pointer (some ⟨b, 0, none⟩), .int .i64 n] w fun e w' => e = .returned (.int .i64 (m.bs + n)) ∧ w = w' := by
  obtain ⟨c0, c1, c2, c3, c4, f1, f3, f4⟩ := h.cells
  obtain ⟨_, _, h1, h2⟩ := hm
  go_enter Tryz.func97, Tryz.ntmps97
  go_wp2
  go_ret
  exact ⟨rfl, rfl⟩

/-- Fail, whatever the reader's state -/
theorem fail_any (b : Nat) (m : Rd) (c p : Int) (w : World) (h : RdAt w b m) : Calls Tryz.prog 127 #[.pointer (some ⟨b, 0, none⟩), .int .i64 c, .int .i64 p] w fun e w' => e = .returned (.tuple #[]) ∧ RdAt w' b (m.fail c p) ∧ Only b w w' := by
  by_cases hc : m.cd = 0
  · have HC := Lib.hid hc
    clear hc
    by_cases hz : c = 0
    · have e0 : m.fail c p = m := Rd.fail_no _ _ _ (by simp [hz])
      have hz' : (c != 0) = false := by simp [hz]
      rw [e0]
      clear e0 hz
      go_enter Tryz.func127, Tryz.ntmps127
      go_wp2_with (go_at_call 96; refine (ready_yes _ _ _ h HC.out).mono ?_; rintro e w1 ⟨rfl, hb1⟩)
      go_end0
      exact ⟨rfl, h.below hb1, Only.of_below hb1⟩
    · have e0 : m.fail c p = { m with cd := c, pl := p } := Rd.fail_yes _ _ _ HC.out hz
      have hz' : (c != 0) = true := by simpa using hz
      rw [e0]
      clear e0 hz
      go_enter Tryz.func127, Tryz.ntmps127
      go_wp2_with (go_at_call 96; refine (ready_yes _ _ _ h HC.out).mono ?_; rintro e w1 ⟨rfl, hb1⟩; obtain ⟨c0, c1, c2, c3, c4, f1, f3, f4⟩ := (h.below hb1).cells)
      go_end0
      exact ⟨rfl, (h.below hb1).set34 c p, ((Only.of_below hb1).trans (Only.set _)).trans (Only.set _)⟩
  · have e0 : m.fail c p = m := Rd.fail_no _ _ _ (by simp [hc])
    have HC := Lib.hid hc
    rw [e0]
    clear e0 hc
    go_enter Tryz.func127, Tryz.ntmps127
    go_wp2_with (go_at_call 96; refine (ready_no _ _ _ h HC.out).mono ?_; rintro e w1 ⟨rfl, hb1⟩)
    go_end0
    exact ⟨rfl, h.below hb1, Only.of_below hb1⟩

set_option maxRecDepth 100000 in
theorem fail_nil (c p : Int) (w : World) : Calls Tryz.prog 127 #[.pointer none, .int .i64 c, .int .i64 p] w fun e w' => e = .returned (.tuple #[]) ∧ w = w' := by
  go_enter Tryz.func127, Tryz.ntmps127
  go_wp2_with (go_at_call 96; refine (ready_nil _).mono ?_; rintro e w1 ⟨rfl, rfl⟩)
  go_end0
  exact ⟨rfl, rfl⟩

set_option maxRecDepth 100000 in
theorem short_any (b : Nat) (m : Rd) (w : World) (h : RdAt w b m) (hm : m.Ok) : Calls Tryz.prog 99 #[.pointer (some ⟨b, 0, none⟩)] w fun e w' => e = .returned (.tuple #[]) ∧ RdAt w' b m.short ∧ Only b w w' := by
  obtain ⟨c0, c1, c2, c3, c4, f1, f3, f4⟩ := h.cells
  have hl := hm.2.1
  go_enter Tryz.func99, Tryz.ntmps99
  go_wp2_with (first | (go_at_call 97; refine (place_any _ _ _ _ h hm (by omega) (by omega)).mono ?_; rintro e w1 ⟨rfl, rfl⟩) | (go_at_call 127; refine (fail_any _ _ _ _ _ h).mono ?_; rintro e w2 ⟨rfl, hr2, ho2⟩))
  go_end0
  exact ⟨rfl, hr2, ho2⟩

set_option maxRecDepth 100000 in
theorem left_any (b : Nat) (m : Rd) (w : World) (h : RdAt w b m) (hm : m.Ok) : Calls Tryz.prog 48 #[.pointer (some ⟨b, 0, none⟩)] w fun e w' => e = .returned (.int .i64 m.left) ∧ Below w.heap.size w w' := by
  obtain ⟨h0, h3, h1, h2⟩ := hm
  by_cases hc : m.cd = 0
  · have e0 : m.left = (m.t.length : Int) - m.nx := if_pos hc
    rw [e0]
    have HC := Lib.hid hc
    clear hc e0
    go_enter Tryz.func48, Tryz.ntmps48
    go_wp2_with (go_at_call 96; refine (ready_yes _ _ _ h HC.out).mono ?_; rintro e w1 ⟨rfl, hb1⟩; obtain ⟨c0, c1, c2, c3, c4, f1, f3, f4⟩ := (h.below hb1).cells)
    go_quiet (fail)
    go_wp2
    go_ret
    exact ⟨rfl, below_drewN hb1 _⟩
  · have e0 : m.left = 0 := if_neg hc
    rw [e0]
    have HC := Lib.hid hc
    clear hc e0
    go_enter Tryz.func48, Tryz.ntmps48
    go_wp2_with (go_at_call 96; refine (ready_no _ _ _ h HC.out).mono ?_; rintro e w1 ⟨rfl, hb1⟩)
    go_ret
    exact ⟨rfl, hb1⟩

set_option maxRecDepth 100000 in
theorem left_nil (w : World) : Calls Tryz.prog 48 #[.pointer none] w fun e w' => e = .returned (.int .i64 0) ∧ w = w' := by
  go_enter Tryz.func48, Tryz.ntmps48
  go_wp2_with (go_at_call 96; refine (ready_nil _).mono ?_; rintro e w1 ⟨rfl, rfl⟩)
  go_ret
  exact ⟨rfl, rfl⟩

set_option maxRecDepth 100000 in
theorem at_any (b : Nat) (m : Rd) (w : World) (h : RdAt w b m) (hm : m.Ok) : Calls Tryz.prog 49 #[.pointer (some ⟨b, 0, none⟩)] w fun e w' => e = .returned (.int .i64 (m.bs + m.nx)) ∧ w = w' := by
  obtain ⟨c0, c1, c2, c3, c4, f1, f3, f4⟩ := h.cells
  have hl := hm.1
  have hl' := hm.2.1
  go_enter Tryz.func49, Tryz.ntmps49
  go_wp2_with (go_at_call 97; refine (place_any _ _ _ _ h hm (by omega) (by omega)).mono ?_; rintro e w1 ⟨rfl, rfl⟩)
  go_ret
  exact ⟨rfl, rfl⟩

set_option maxRecDepth 100000 in
theorem at_nil (w : World) : Calls Tryz.prog 49 #[.pointer none] w fun e w' => e = .returned (.int .i64 0) ∧ w = w' := by
  go_enter Tryz.func49, Tryz.ntmps49
  go_wp2
  go_ret
  exact ⟨rfl, rfl⟩

def TakeSays (b : Nat) (m : Rd) (n : Int) (w : World) (e : Ending) (w' : World) : Prop := e = .returned (.string ⟨(m.take n).2.toArray⟩) ∧ RdAt w' b (m.take n).1 ∧ Only b w w'

set_option maxHeartbeats 400000 in
set_option maxRecDepth 100000 in
theorem take_no (b : Nat) (m : Rd) (n : Int) (w : World) (h : RdAt w b m) (hc : ¬ m.cd = 0) : Calls Tryz.prog 52 #[.pointer (some ⟨b, 0, none⟩), .int .i64 n] w (TakeSays b m n w) := by
  have e0 : m.take n = (m, []) := by simp [Rd.take, hc]
  unfold TakeSays
  rw [e0]
  have HC := Lib.hid hc
  clear hc e0
  go_enter Tryz.func52, Tryz.ntmps52
  go_wp2_with (go_at_call 96; refine (ready_no _ _ _ h HC.out).mono ?_; rintro e w1 ⟨rfl, hb1⟩)
  go_ret
  exact ⟨rfl, h.below hb1, Only.of_below hb1⟩

set_option maxHeartbeats 400000 in
set_option maxRecDepth 100000 in
theorem take_short (b : Nat) (m : Rd) (n : Int) (w : World) (h : RdAt w b m) (hm : m.Ok) (hc : m.cd = 0) (hn : n < 0 ∨ (m.t.length : Int) - m.nx < n) : Calls Tryz.prog 52 #[.pointer (some ⟨b, 0, none⟩), .int .i64 n] w (TakeSays b m n w) := by
  obtain ⟨h0, h3, h1, h2⟩ := hm
  have HC := Lib.hid hc
  have e1 : IntKind.i64.wrap ((m.t.length : Int) - m.nx) = (m.t.length : Int) - m.nx := IntWalk.i64_in _ (by omega)
  have e0 : m.take n = (m.short, []) := by simp [Rd.take, hc, hn]
  unfold TakeSays
  rw [e0]
  clear hc e0
  by_cases hn1 : n < 0
  · have hd1 : decide (n < 0) = true := by simpa using hn1
    clear hn
    go_enter Tryz.func52, Tryz.ntmps52
    go_wp2_with (first | (go_at_call 96; refine (ready_yes _ _ _ h HC.out).mono ?_; rintro e w1 ⟨rfl, hb1⟩; obtain ⟨c0, c1, c2, c3, c4, f1, f3, f4⟩ := (h.below hb1).cells))
    go_quiet (fail)
    go_wp2_with (go_at_call 99; refine (short_any b m _ (by exact (h.below hb1).drewN _) ⟨h0, h3, h1, h2⟩).mono ?_; rintro e w2 ⟨rfl, hr2, ho2⟩)
    go_ret
    exact ⟨rfl, hr2, ((Only.of_below hb1).drewN _).trans ho2⟩
  · have hd1 : decide (n < 0) = false := by simpa using hn1
    have hd2 : decide ((m.t.length : Int) - m.nx < n) = true := by simp; omega
    clear hn hn1
    go_enter Tryz.func52, Tryz.ntmps52
    go_wp2_with (first | (go_at_call 96; refine (ready_yes _ _ _ h HC.out).mono ?_; rintro e w1 ⟨rfl, hb1⟩; obtain ⟨c0, c1, c2, c3, c4, f1, f3, f4⟩ := (h.below hb1).cells))
    go_quiet (fail)
    go_wp2_with (go_at_call 99; refine (short_any b m _ (by exact (h.below hb1).drewN _) ⟨h0, h3, h1, h2⟩).mono ?_; rintro e w2 ⟨rfl, hr2, ho2⟩)
    go_ret
    exact ⟨rfl, hr2, ((Only.of_below hb1).drewN _).trans ho2⟩

set_option maxHeartbeats 400000 in
set_option maxRecDepth 100000 in
theorem take_yes (b : Nat) (m : Rd) (n : Int) (w : World) (h : RdAt w b m) (hm : m.Ok) (hc : m.cd = 0) (hn : ¬ n < 0) (hn2 : ¬ (m.t.length : Int) - m.nx < n) : Calls Tryz.prog 52 #[.pointer (some ⟨b, 0, none⟩), .int .i64 n] w (TakeSays b m n w) := by
  obtain ⟨h0, h3, h1, h2⟩ := hm
  have HC := Lib.hid hc
  have hd1 : decide (n < 0) = false := by simpa using hn
  have hd2 : decide ((m.t.length : Int) - m.nx < n) = false := by simpa using hn2
  have e0 : m.take n = ({ m with nx := m.nx + n.toNat }, (m.t.drop m.nx).take n.toNat) := by
    simp [Rd.take, hc, hn2, hn]
  have e1 : IntKind.i64.wrap ((m.t.length : Int) - m.nx) = (m.t.length : Int) - m.nx := IntWalk.i64_in _ (by omega)
  have e2 : IntKind.i64.wrap ((m.nx : Int) + n) = (m.nx : Int) + n := IntWalk.i64_in _ (by omega)
  have e3 : 0 ≤ (m.nx : Int) + n := by omega
  have e4 : ((m.nx : Int) + n).toNat = m.nx + n.toNat := by omega
  have e5 : (m.nx : Int) + n ≤ m.t.length := by omega
  have e6 : (m.nx : Int) ≤ (m.nx : Int) + n := by omega
  have e7 : (m.nx : Int) + n = ((m.nx + n.toNat : Nat) : Int) := by omega
  have E4 := Lib.hid e4
  have E7 := Lib.hid e7
  unfold TakeSays
  rw [e0]
  have hn3 : (m.nx : Int) + n ≤ m.t.length := by omega
  clear hc e0 hn2 e7
  go_enter Tryz.func52, Tryz.ntmps52
  go_wp2_with (first | (go_at_call 96; refine (ready_yes _ _ _ h HC.out).mono ?_; rintro e w1 ⟨rfl, hb1⟩; obtain ⟨c0, c1, c2, c3, c4, f1, f3, f4⟩ := (h.below hb1).cells))
  go_quiet (fail)
  go_wp2
  go_quiet (fail)
  clear e1 e2 e3 e5 e6 e4
  go_wp2
  go_ret
  rw [E7.out]
  exact ⟨rfl, ((h.below hb1).drewN _).set1 _, ((Only.of_below hb1).drewN _).trans (Only.set _)⟩

theorem take_any (b : Nat) (m : Rd) (n : Int) (w : World) (h : RdAt w b m) (hm : m.Ok) : Calls Tryz.prog 52 #[.pointer (some ⟨b, 0, none⟩), .int .i64 n] w fun e w' => e = .returned (.string ⟨(m.take n).2.toArray⟩) ∧ RdAt w' b (m.take n).1 ∧ Only b w w' := by
  by_cases hc : m.cd = 0
  · by_cases hn : n < 0 ∨ (m.t.length : Int) - m.nx < n
    · exact take_short b m n w h hm hc hn
    · rw [not_or] at hn
      exact take_yes b m n w h hm hc hn.1 hn.2
  · exact take_no b m n w h hc
end Go.Proofs.YtffhmjlojmoomaaGreatDoor
