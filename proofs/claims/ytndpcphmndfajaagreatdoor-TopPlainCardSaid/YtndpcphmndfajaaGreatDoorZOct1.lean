/- The walks of layer 1 (octet), first part: the reader's small methods. | The walks of layer 1 (octet), second part: Inner, Read, Rest, Peek, the numbers. | The walks of layer 1 (octet), third part: the safe number, and the document's numbers. -/
import Derived.Test.YtndpcphmndfajaaGreatDoorProg
import Derived.Test.YtndpcphmndfajaaGreatDoorZRd
import Derived.BigGuardPart
import Derived.Deep.QuietTactic
import Derived.BigQuiet

namespace Go.Proofs.YtndpcphmndfajaaGreatDoor
open Go.RowKit

abbrev RdAt (w : World) (b : Nat) (m : Rd) : Prop := InAt 161 w b m

set_option maxRecDepth 100000 in
theorem bad_any (c p : Int) (w : World) : Calls Tryz.prog 6 #[.agg #[.int .i64 c, .int .i64 p]] w fun e w' => e = .returned (.bool (c != 0)) ∧ Below w.heap.size w w' := by
  go_enter Tryz.func6, Tryz.ntmps6
  go_wp2
  go_ret
  exact ⟨rfl, (Below.refl _ _).alloc (Nat.le_refl _) _⟩

set_option maxRecDepth 100000 in
theorem ready_yes (b : Nat) (m : Rd) (w : World) (h : RdAt w b m) (hc : m.cd = 0) : Calls Tryz.prog 106 #[.pointer (some ⟨b, 0, none⟩)] w fun e w' => e = .returned (.bool true) ∧ Below w.heap.size w w' := by
  obtain ⟨c0, c1, c2, c3, c4, f1, f3, f4⟩ := h.cells
  go_enter Tryz.func106, Tryz.ntmps106
  go_wp2_with (go_at_call 6; refine (bad_any _ _ _).mono ?_; rintro e w1 ⟨rfl, hb1⟩)
  go_ret
  exact ⟨rfl, hb1⟩

set_option maxRecDepth 100000 in
theorem ready_no (b : Nat) (m : Rd) (w : World) (h : RdAt w b m) (hc : m.cd ≠ 0) : Calls Tryz.prog 106 #[.pointer (some ⟨b, 0, none⟩)] w fun e w' => e = .returned (.bool false) ∧ Below w.heap.size w w' := by
  obtain ⟨c0, c1, c2, c3, c4, f1, f3, f4⟩ := h.cells
  have hc' : (m.cd != 0) = true := by simpa using hc
  clear hc
  go_enter Tryz.func106, Tryz.ntmps106
  go_wp2_with (go_at_call 6; refine (bad_any _ _ _).mono ?_; rintro e w1 ⟨rfl, hb1⟩)
  go_ret
  exact ⟨rfl, hb1⟩

set_option maxRecDepth 100000 in
theorem ready_nil (w : World) : Calls Tryz.prog 106 #[.pointer none] w fun e w' => e = .returned (.bool false) ∧ w = w' := by
  go_enter Tryz.func106, Tryz.ntmps106
  go_wp2
  go_ret
  exact ⟨rfl, rfl⟩

set_option maxRecDepth 100000 in
theorem place_any (b : Nat) (m : Rd) (n : Int) (w : World) (h : RdAt w b m) (hm : m.Ok) (hn0 : 0 ≤ n) (hn : n ≤ 4000000000) : Calls Tryz.prog 107 #[.pointer (some ⟨b, 0, none⟩), .int .i64 n] w fun e w' => e = .returned (.int .i64 (m.bs + n)) ∧ w = w' := by
  obtain ⟨c0, c1, c2, c3, c4, f1, f3, f4⟩ := h.cells
  obtain ⟨_, _, h1, h2⟩ := hm
  go_enter Tryz.func107, Tryz.ntmps107
  go_wp2
  go_ret
  exact ⟨rfl, rfl⟩

/-- Fail, whatever the reader's state -/
theorem fail_any (b : Nat) (m : Rd) (c p : Int) (w : World) (h : RdAt w b m) : Calls Tryz.prog 102 #[.pointer (some ⟨b, 0, none⟩), .int .i64 c, .int .i64 p] w fun e w' => e = .returned (.tuple #[]) ∧ RdAt w' b (m.fail c p) ∧ Only b w w' := by
  by_cases hc : m.cd = 0
  · have HC := Lib.hid hc
    clear hc
    by_cases hz : c = 0
    · have e0 : m.fail c p = m := Rd.fail_no _ _ _ (by simp [hz])
      have hz' : (c != 0) = false := by simp [hz]
      rw [e0]
      clear e0 hz
      go_enter Tryz.func102, Tryz.ntmps102
      go_wp2_with (go_at_call 106; refine (ready_yes _ _ _ h HC.out).mono ?_; rintro e w1 ⟨rfl, hb1⟩)
      go_end0
      exact ⟨rfl, h.below hb1, Only.of_below hb1⟩
    · have e0 : m.fail c p = { m with cd := c, pl := p } := Rd.fail_yes _ _ _ HC.out hz
      have hz' : (c != 0) = true := by simpa using hz
      rw [e0]
      clear e0 hz
      go_enter Tryz.func102, Tryz.ntmps102
      go_wp2_with (go_at_call 106; refine (ready_yes _ _ _ h HC.out).mono ?_; rintro e w1 ⟨rfl, hb1⟩; obtain ⟨c0, c1, c2, c3, c4, f1, f3, f4⟩ := (h.below hb1).cells)
      go_end0
      exact ⟨rfl, (h.below hb1).set34 c p, ((Only.of_below hb1).trans (Only.set _)).trans (Only.set _)⟩
  · have e0 : m.fail c p = m := Rd.fail_no _ _ _ (by simp [hc])
    have HC := Lib.hid hc
    rw [e0]
    clear e0 hc
    go_enter Tryz.func102, Tryz.ntmps102
    go_wp2_with (go_at_call 106; refine (ready_no _ _ _ h HC.out).mono ?_; rintro e w1 ⟨rfl, hb1⟩)
    go_end0
    exact ⟨rfl, h.below hb1, Only.of_below hb1⟩

set_option maxRecDepth 100000 in
theorem fail_nil (c p : Int) (w : World) : Calls Tryz.prog 102 #[.pointer none, .int .i64 c, .int .i64 p] w fun e w' => e = .returned (.tuple #[]) ∧ w = w' := by
  go_enter Tryz.func102, Tryz.ntmps102
  go_wp2_with (go_at_call 106; refine (ready_nil _).mono ?_; rintro e w1 ⟨rfl, rfl⟩)
  go_end0
  exact ⟨rfl, rfl⟩

set_option maxRecDepth 100000 in
theorem short_any (b : Nat) (m : Rd) (w : World) (h : RdAt w b m) (hm : m.Ok) : Calls Tryz.prog 108 #[.pointer (some ⟨b, 0, none⟩)] w fun e w' => e = .returned (.tuple #[]) ∧ RdAt w' b m.short ∧ Only b w w' := by
  obtain ⟨c0, c1, c2, c3, c4, f1, f3, f4⟩ := h.cells
  have hl := hm.2.1
  go_enter Tryz.func108, Tryz.ntmps108
  go_wp2_with (first | (go_at_call 107; refine (place_any _ _ _ _ h hm (by omega) (by omega)).mono ?_; rintro e w1 ⟨rfl, rfl⟩) | (go_at_call 102; refine (fail_any _ _ _ _ _ h).mono ?_; rintro e w2 ⟨rfl, hr2, ho2⟩))
  go_end0
  exact ⟨rfl, hr2, ho2⟩

set_option maxRecDepth 100000 in
theorem left_any (b : Nat) (m : Rd) (w : World) (h : RdAt w b m) (hm : m.Ok) : Calls Tryz.prog 113 #[.pointer (some ⟨b, 0, none⟩)] w fun e w' => e = .returned (.int .i64 m.left) ∧ Below w.heap.size w w' := by
  obtain ⟨h0, h3, h1, h2⟩ := hm
  by_cases hc : m.cd = 0
  · have e0 : m.left = (m.t.length : Int) - m.nx := if_pos hc
    rw [e0]
    have HC := Lib.hid hc
    clear hc e0
    go_enter Tryz.func113, Tryz.ntmps113
    go_wp2_with (go_at_call 106; refine (ready_yes _ _ _ h HC.out).mono ?_; rintro e w1 ⟨rfl, hb1⟩; obtain ⟨c0, c1, c2, c3, c4, f1, f3, f4⟩ := (h.below hb1).cells)
    go_quiet (fail)
    go_wp2
    go_ret
    exact ⟨rfl, below_drewN hb1 _⟩
  · have e0 : m.left = 0 := if_neg hc
    rw [e0]
    have HC := Lib.hid hc
    clear hc e0
    go_enter Tryz.func113, Tryz.ntmps113
    go_wp2_with (go_at_call 106; refine (ready_no _ _ _ h HC.out).mono ?_; rintro e w1 ⟨rfl, hb1⟩)
    go_ret
    exact ⟨rfl, hb1⟩

set_option maxRecDepth 100000 in
theorem left_nil (w : World) : Calls Tryz.prog 113 #[.pointer none] w fun e w' => e = .returned (.int .i64 0) ∧ w = w' := by
  go_enter Tryz.func113, Tryz.ntmps113
  go_wp2_with (go_at_call 106; refine (ready_nil _).mono ?_; rintro e w1 ⟨rfl, rfl⟩)
  go_ret
  exact ⟨rfl, rfl⟩

set_option maxRecDepth 100000 in
theorem at_any (b : Nat) (m : Rd) (w : World) (h : RdAt w b m) (hm : m.Ok) : Calls Tryz.prog 47 #[.pointer (some ⟨b, 0, none⟩)] w fun e w' => e = .returned (.int .i64 (m.bs + m.nx)) ∧ w = w' := by
  obtain ⟨c0, c1, c2, c3, c4, f1, f3, f4⟩ := h.cells
  have hl := hm.1
  have hl' := hm.2.1
  go_enter Tryz.func47, Tryz.ntmps47
  go_wp2_with (go_at_call 107; refine (place_any _ _ _ _ h hm (by omega) (by omega)).mono ?_; rintro e w1 ⟨rfl, rfl⟩)
  go_ret
  exact ⟨rfl, rfl⟩

set_option maxRecDepth 100000 in
theorem at_nil (w : World) : Calls Tryz.prog 47 #[.pointer none] w fun e w' => e = .returned (.int .i64 0) ∧ w = w' := by
  go_enter Tryz.func47, Tryz.ntmps47
  go_wp2
  go_ret
  exact ⟨rfl, rfl⟩

set_option maxRecDepth 100000 in
theorem fault_any (b : Nat) (m : Rd) (w : World) (h : RdAt w b m) : Calls Tryz.prog 45 #[.pointer (some ⟨b, 0, none⟩)] w fun e w' => e = .returned (.agg #[.int .i64 m.cd, .int .i64 m.pl]) ∧ Below w.heap.size w w' := by
  obtain ⟨c0, c1, c2, c3, c4, f1, f3, f4⟩ := h.cells
  have hlt := h.lt
  go_enter Tryz.func45, Tryz.ntmps45
  go_wp2
  exact bodyPost_ret (v := .agg #[.int .i64 m.cd, .int .i64 m.pl]) (by simp [results, Tryz.results45, go_sem]) rfl ⟨rfl, (Below.refl _ _).alloc (Nat.le_refl _) _⟩

set_option maxRecDepth 100000 in
theorem fault_nil (w : World) : Calls Tryz.prog 45 #[.pointer none] w fun e w' => e = .returned (.agg #[.int .i64 8, .int .i64 0]) ∧ Below w.heap.size w w' := by
  go_enter Tryz.func45, Tryz.ntmps45
  go_wp2
  exact bodyPost_ret (v := .agg #[.int .i64 8, .int .i64 0]) (by simp [results, Tryz.results45, go_sem]) rfl ⟨rfl, (Below.refl _ _).alloc (Nat.le_refl _) _⟩

def TakeSays (b : Nat) (m : Rd) (n : Int) (w : World) (e : Ending) (w' : World) : Prop := e = .returned (.string ⟨(m.take n).2.toArray⟩) ∧ RdAt w' b (m.take n).1 ∧ Only b w w'

set_option maxHeartbeats 400000 in
set_option maxRecDepth 100000 in
theorem take_no (b : Nat) (m : Rd) (n : Int) (w : World) (h : RdAt w b m) (hc : ¬ m.cd = 0) : Calls Tryz.prog 49 #[.pointer (some ⟨b, 0, none⟩), .int .i64 n] w (TakeSays b m n w) := by
  have e0 : m.take n = (m, []) := by simp [Rd.take, hc]
  unfold TakeSays
  rw [e0]
  have HC := Lib.hid hc
  clear hc e0
  go_enter Tryz.func49, Tryz.ntmps49
  go_wp2_with (go_at_call 106; refine (ready_no _ _ _ h HC.out).mono ?_; rintro e w1 ⟨rfl, hb1⟩)
  go_ret
  exact ⟨rfl, h.below hb1, Only.of_below hb1⟩

set_option maxHeartbeats 400000 in
set_option maxRecDepth 100000 in
theorem take_short (b : Nat) (m : Rd) (n : Int) (w : World) (h : RdAt w b m) (hm : m.Ok) (hc : m.cd = 0) (hn : n < 0 ∨ (m.t.length : Int) - m.nx < n) : Calls Tryz.prog 49 #[.pointer (some ⟨b, 0, none⟩), .int .i64 n] w (TakeSays b m n w) := by
  obtain ⟨h0, h3, h1, h2⟩ := hm
  have HC := Lib.hid hc
  have e1 : IntKind.i64.wrap ((m.t.length : Int) - m.nx) = (m.t.length : Int) - m.nx := IntWalk.i64_in _ (by omega)
  have e0 : m.take n = (m.short, []) := by simp [Rd.take, hc, hn]
  unfold TakeSays
  rw [e0]
  clear hc e0
  by_cases hn1 : n < 0
  · have hd1 : decide (n < 0) = true := by simpa using hn1
    clear hn
    go_enter Tryz.func49, Tryz.ntmps49
    go_wp2_with (first | (go_at_call 106; refine (ready_yes _ _ _ h HC.out).mono ?_; rintro e w1 ⟨rfl, hb1⟩; obtain ⟨c0, c1, c2, c3, c4, f1, f3, f4⟩ := (h.below hb1).cells))
    go_quiet (fail)
    go_wp2_with (go_at_call 108; refine (short_any b m _ (by exact (h.below hb1).drewN _) ⟨h0, h3, h1, h2⟩).mono ?_; rintro e w2 ⟨rfl, hr2, ho2⟩)
    go_ret
    exact ⟨rfl, hr2, ((Only.of_below hb1).drewN _).trans ho2⟩
  · have hd1 : decide (n < 0) = false := by simpa using hn1
    have hd2 : decide ((m.t.length : Int) - m.nx < n) = true := by simp; omega
    clear hn hn1
    go_enter Tryz.func49, Tryz.ntmps49
    go_wp2_with (first | (go_at_call 106; refine (ready_yes _ _ _ h HC.out).mono ?_; rintro e w1 ⟨rfl, hb1⟩; obtain ⟨c0, c1, c2, c3, c4, f1, f3, f4⟩ := (h.below hb1).cells))
    go_quiet (fail)
    go_wp2_with (go_at_call 108; refine (short_any b m _ (by exact (h.below hb1).drewN _) ⟨h0, h3, h1, h2⟩).mono ?_; rintro e w2 ⟨rfl, hr2, ho2⟩)
    go_ret
    exact ⟨rfl, hr2, ((Only.of_below hb1).drewN _).trans ho2⟩

set_option maxHeartbeats 400000 in
set_option maxRecDepth 100000 in
theorem take_yes (b : Nat) (m : Rd) (n : Int) (w : World) (h : RdAt w b m) (hm : m.Ok) (hc : m.cd = 0) (hn : ¬ n < 0) (hn2 : ¬ (m.t.length : Int) - m.nx < n) : Calls Tryz.prog 49 #[.pointer (some ⟨b, 0, none⟩), .int .i64 n] w (TakeSays b m n w) := by
  obtain ⟨h0, h3, h1, h2⟩ := hm
  have HC := Lib.hid hc
  have hd1 : decide (n < 0) = false := by simpa using hn
  have hd2 : decide ((m.t.length : Int) - m.nx < n) = false := by simpa using hn2
  have e0 : m.take n = ({ m with nx := m.nx + n.toNat }, (m.t.drop m.nx).take n.toNat) := by
    simp [Rd.take, hc, hn2, hn]
  have e1 : IntKind.i64.wrap ((m.t.length : Int) - m.nx) = (m.t.length : Int) - m.nx := IntWalk.i64_in _ (by omega)
  have e2 : IntKind.i64.wrap ((m.nx : Int) + n) = (m.nx : Int) + n := IntWalk.i64_in _ (by omega)
  have e3 : 0 ≤ (m.nx : Int) + n := by omega
  have e4 : ((m.nx : Int) + n).toNat = m.nx + n.toNat := by omega
  have e5 : (m.nx : Int) + n ≤ m.t.length := by omega
  have e6 : (m.nx : Int) ≤ (m.nx : Int) + n := by omega
  have e7 : (m.nx : Int) + n = ((m.nx + n.toNat : Nat) : Int) := by omega
  have E4 := Lib.hid e4
  have E7 := Lib.hid e7
  unfold TakeSays
  rw [e0]
  have hn3 : (m.nx : Int) + n ≤ m.t.length := by omega
  clear hc e0 hn2 e7
  go_enter Tryz.func49, Tryz.ntmps49
  go_wp2_with (first | (go_at_call 106; refine (ready_yes _ _ _ h HC.out).mono ?_; rintro e w1 ⟨rfl, hb1⟩; obtain ⟨c0, c1, c2, c3, c4, f1, f3, f4⟩ := (h.below hb1).cells))
  go_quiet (fail)
  go_wp2
  go_quiet (fail)
  clear e1 e2 e3 e5 e6 e4
  go_wp2
  go_ret
  rw [E7.out]
  exact ⟨rfl, ((h.below hb1).drewN _).set1 _, ((Only.of_below hb1).drewN _).trans (Only.set _)⟩

theorem take_any (b : Nat) (m : Rd) (n : Int) (w : World) (h : RdAt w b m) (hm : m.Ok) : Calls Tryz.prog 49 #[.pointer (some ⟨b, 0, none⟩), .int .i64 n] w fun e w' => e = .returned (.string ⟨(m.take n).2.toArray⟩) ∧ RdAt w' b (m.take n).1 ∧ Only b w w' := by
  by_cases hc : m.cd = 0
  · by_cases hn : n < 0 ∨ (m.t.length : Int) - m.nx < n
    · exact take_short b m n w h hm hc hn
    · rw [not_or] at hn
      exact take_yes b m n w h hm hc hn.1 hn.2
  · exact take_no b m n w h hc
end Go.Proofs.YtndpcphmndfajaaGreatDoor

namespace Go.Proofs.YtndpcphmndfajaaGreatDoor
open Go.RowKit

def Rd.new (l : List UInt8) (base : Int) : Rd := ⟨l, 0, max base 0, 0, 0⟩

set_option maxRecDepth 100000 in
theorem inner_any (l : List UInt8) (base : Int) (w : World) : Calls Tryz.prog 51 #[.string ⟨l.toArray⟩, .int .i64 base] w fun e w' => e = .returned (.pointer (some ⟨w.heap.size, 0, none⟩)) ∧ RdAt w' w.heap.size (Rd.new l base) ∧ Below w.heap.size w w' := by
  go_enter Tryz.func51, Tryz.ntmps51
  go_wp2
  · go_ret
    refine ⟨rfl, ?_, (Below.refl _ _).alloc (Nat.le_refl _) _⟩
    have e : Rd.new l base = ⟨l, 0, 0, 0, 0⟩ := by unfold Rd.new; rw [Int.max_eq_right (by omega)]
    rw [e]
    exact heap_alloc_new _ _
  · go_ret
    refine ⟨rfl, ?_, (Below.refl _ _).alloc (Nat.le_refl _) _⟩
    have e : Rd.new l base = ⟨l, 0, base, 0, 0⟩ := by unfold Rd.new; rw [Int.max_eq_left (by omega)]
    rw [e]
    exact heap_alloc_new _ _

set_option maxRecDepth 100000 in
theorem read_any (l : List UInt8) (w : World) : Calls Tryz.prog 42 #[.string ⟨l.toArray⟩] w fun e w' => e = .returned (.pointer (some ⟨w.heap.size, 0, none⟩)) ∧ RdAt w' w.heap.size (Rd.new l 0) ∧ Below w.heap.size w w' := by
  go_enter Tryz.func42, Tryz.ntmps42
  go_wp2_with (go_at_call 51; refine (inner_any _ _ _).mono ?_; rintro e w1 ⟨rfl, hr1, hb1⟩)
  go_ret
  exact ⟨rfl, hr1, hb1⟩

set_option maxRecDepth 100000 in
theorem rest_any (b : Nat) (m : Rd) (w : World) (h : RdAt w b m) (hm : m.Ok) : Calls Tryz.prog 52 #[.pointer (some ⟨b, 0, none⟩)] w fun e w' => e = .returned (.string ⟨m.rest.2.toArray⟩) ∧ RdAt w' b m.rest.1 ∧ Only b w w' := by
  go_enter Tryz.func52, Tryz.ntmps52
  go_wp2_with (first | (go_at_call 113; refine (left_any _ _ _ h hm).mono ?_; rintro e w1 ⟨rfl, hb1⟩) | (go_at_call 49; refine (take_any _ _ _ _ (h.below hb1) hm).mono ?_; rintro e w2 ⟨rfl, hr2, ho2⟩))
  go_ret
  exact ⟨rfl, hr2, (Only.of_below hb1).trans ho2⟩

set_option maxHeartbeats 400000 in
set_option maxRecDepth 100000 in
theorem peek_any (b : Nat) (m : Rd) (n : Int) (w : World) (h : RdAt w b m) (hm : m.Ok) : Calls Tryz.prog 237 #[.pointer (some ⟨b, 0, none⟩), .int .i64 n] w fun e w' => e = .returned (.string ⟨(m.peek n).toArray⟩) ∧ Below w.heap.size w w' := by
  obtain ⟨h0, h3, h1, h2⟩ := hm
  by_cases hc : m.cd = 0
  · have HC := Lib.hid hc
    have e0 : m.peek n = (m.t.drop m.nx).take n.toNat := by simp [Rd.peek, hc]
    rw [e0]
    have e1 : IntKind.i64.wrap ((m.t.length : Int) - m.nx) = (m.t.length : Int) - m.nx := IntWalk.i64_in _ (by omega)
    clear hc e0
    by_cases hn : n < 0
    · have hn0 : (m.t.drop m.nx).take n.toNat = [] := by rw [show n.toNat = 0 by omega]; rfl
      have hz : ¬ ((m.t.length : Int) - m.nx < 0) := by omega
      have hz' : (0 : Int) ≤ (m.t.length : Int) - m.nx := by omega
      rw [hn0]
      clear hn0
      go_enter Tryz.func237, Tryz.ntmps237
      go_wp2_with (first | (go_at_call 106; refine (ready_yes _ _ _ h HC.out).mono ?_; rintro e w1 ⟨rfl, hb1⟩; obtain ⟨c0, c1, c2, c3, c4, f1, f3, f4⟩ := (h.below hb1).cells))
      go_quiet (fail)
      have e2 : IntKind.i64.wrap (m.nx : Int) = (m.nx : Int) := IntWalk.i64_in _ (by omega)
      go_wp2
      go_quiet (fail)
      go_wp2
      go_ret
      exact ⟨ret_str (by first | rfl | simp | exact List.take_of_length_le (by rw [List.length_drop]; omega)), by repeat (first | exact hb1 | refine below_drewN ?_ _)⟩
    · by_cases hn2 : (m.t.length : Int) - m.nx < n
      · have hn0 : (m.t.drop m.nx).take n.toNat = m.t.drop m.nx := List.take_of_length_le (by rw [List.length_drop]; omega)
        have hn3 : ¬ (n < (m.t.length : Int) - m.nx) := by omega
        have hn4 : ¬ (n ≤ (m.t.length : Int) - m.nx) := by omega
        have e2 : IntKind.i64.wrap ((m.nx : Int) + ((m.t.length : Int) - m.nx)) = (m.t.length : Int) := by rw [IntWalk.i64_in _ (by omega)]; omega
        have e3 : IntKind.i64.wrap (m.t.length : Int) = (m.t.length : Int) := IntWalk.i64_in _ (by omega)
        rw [hn0]
        clear hn0
        go_enter Tryz.func237, Tryz.ntmps237
        go_wp2_with (first | (go_at_call 106; refine (ready_yes _ _ _ h HC.out).mono ?_; rintro e w1 ⟨rfl, hb1⟩; obtain ⟨c0, c1, c2, c3, c4, f1, f3, f4⟩ := (h.below hb1).cells))
        go_quiet (fail)
        go_wp2
        go_quiet (fail)
        go_wp2
        go_ret
        exact ⟨ret_str (by first | rfl | simp | exact List.take_of_length_le (by rw [List.length_drop]; omega)), by repeat (first | exact hb1 | refine below_drewN ?_ _)⟩
      · obtain ⟨k, rfl⟩ := Int.eq_ofNat_of_zero_le (show 0 ≤ n by omega)
        have hn3 : (k : Int) ≤ (m.t.length : Int) - m.nx := by omega
        have e2 : IntKind.i64.wrap ((m.nx : Int) + (k : Int)) = (m.nx : Int) + (k : Int) := IntWalk.i64_in _ (by omega)
        have e3 : 0 ≤ (m.nx : Int) + (k : Int) := by omega
        have e4 : ((m.nx : Int) + (k : Int)).toNat = m.nx + k := by omega
        have e5 : (m.nx : Int) + (k : Int) ≤ m.t.length := by omega
        have e6 : (m.nx : Int) ≤ (m.nx : Int) + (k : Int) := by omega
        go_enter Tryz.func237, Tryz.ntmps237
        go_wp2_with (first | (go_at_call 106; refine (ready_yes _ _ _ h HC.out).mono ?_; rintro e w1 ⟨rfl, hb1⟩; obtain ⟨c0, c1, c2, c3, c4, f1, f3, f4⟩ := (h.below hb1).cells))
        go_quiet (fail)
        go_wp2
        go_quiet (fail)
        go_wp2
        go_ret
        exact ⟨ret_str (by first | rfl | simp | exact List.take_of_length_le (by rw [List.length_drop]; omega)), by repeat (first | exact hb1 | refine below_drewN ?_ _)⟩
  · have e0 : m.peek n = [] := by simp [Rd.peek, hc]
    rw [e0]
    have HC := Lib.hid hc
    clear hc e0
    go_enter Tryz.func237, Tryz.ntmps237
    go_wp2_with (go_at_call 106; refine (ready_no _ _ _ h HC.out).mono ?_; rintro e w1 ⟨rfl, hb1⟩)
    go_ret
    exact ⟨rfl, hb1⟩

set_option maxRecDepth 100000 in
theorem width_any (n : Int) (w : World) : Calls Tryz.prog 114 #[.int .i64 n] w fun e w' => e = .returned (.int .i64 (min (max n 0) 8)) ∧ w = w' := by
  go_enter Tryz.func114, Tryz.ntmps114
  go_wp2
  all_goals (go_ret; exact ⟨ret_int (by omega), rfl⟩)

/-- a number's bytes, the lowest first, the highest first -/
def smallL : Nat → Nat → List UInt8
  | _, 0 => []
  | n, k + 1 => UInt8.ofNat n :: smallL (n / 256) k
def bigL (n k : Nat) : List UInt8 := (smallL n k).reverse

theorem info_u8' : (Tryz.prog.info? 5).map (fun i => (i.zero, i.size, i.bytes)) = some (some (.int .u8 0), 1, 1) := by kernel_rfl

/-- the buffer of Small's and Big's loops at a round -/
def SmallB (wr : World) (B : Nat) (k j x n : Nat) : Prop :=
  ∃ acc, Buf wr B 5 (.slice (some ⟨B, 0, none⟩) k k) (acc ++ List.replicate (k - j) 0) ∧ acc.length = j ∧ acc ++ smallL x (k - j) = smallL n k
theorem SmallB.has {wr : World} {B k j x n : Nat} (h : SmallB wr B k j x n) (hj : j < k) : (∃ u, wr.cell? ⟨B, j, none⟩ = some u) ∧ wr.frozen? ⟨B, j, none⟩ = false := by
  obtain ⟨acc, hb, hal, _⟩ := h
  exact ⟨hb.has j (by simp; omega), hb.free j⟩
theorem SmallB.step {wr : World} {B k j x n : Nat} (h : SmallB wr B k j x n) (hj : j < k) : SmallB (wr.setCell ⟨B, j, none⟩ (.int .u8 ((x : Int) % 256))) B k (j + 1) (x / 256) n := by
  obtain ⟨acc, hb, rfl, hax⟩ := h
  have h1 := (hb.stored acc.length (UInt8.ofNat x)).1
  rw [set_mid _ _ _ _ hj, u8_mod] at h1
  refine ⟨acc ++ [UInt8.ofNat x], h1, by simp, ?_⟩
  have e : k - acc.length = (k - (acc.length + 1)) + 1 := by omega
  rw [e, smallL] at hax
  rw [← hax]
  simp

set_option maxHeartbeats 400000 in
set_option maxRecDepth 100000 in
theorem small_any (n : Nat) (k : Nat) (size : Int) (w : World) (hn : Hid (n < 18446744073709551616)) (hk : Hid (min (max size 0) 8 = (k : Int))) :
    Calls Tryz.prog 217 #[.int .u64 n, .int .i64 size] w fun e w' => e = .returned (.string ⟨(smallL n k).toArray⟩) ∧ Below w.heap.size w w' := by
  have hk8 : k ≤ 8 := by have := hk.out; omega
  obtain ⟨i0, hi, hz0, hz1, hz2⟩ := info_parts info_u8'
  go_enter Tryz.func217, Tryz.ntmps217
  go_wp2_with (first | (go_at_call 114; refine (width_any _ _).mono ?_; rw [hk.out]; rintro e w' ⟨rfl, rfl⟩) | (at_make; refine wpList_make_full _ rfl _ _ 193 rfl w.heap.size 5 i0 (.int .u8 0) 1 Tryz.underlying193 hi hz0 hz1 _ _ _ _ k rfl rfl rfl rfl (by rw [hz2]; omega) (by unfold maxLen; omega) (Nat.le_refl _) ?_))
  intro w1 hown hgrow
  have hbuf := Buf.zeros hown
  have hbel : Below w.heap.size w w1 := (Below.refl _ _).grown hgrow (Nat.le_refl _) (by intro k hk; cases hk)
  clear hown hgrow
  go_wp2
  go_loopw [0, 12] (fun v i wr => ∃ (j x : Nat), j ≤ k ∧ i = .int .i64 j ∧ v = .int .u64 x ∧ Hid (x < 18446744073709551616) ∧ Hid (SmallB wr w.heap.size k j x n) ∧ Hid (Below w.heap.size w wr)) (fun _ i _ => k - (intOf i).toNat)
  case atStart => exact ⟨0, n, Nat.zero_le _, rfl, rfl, hn, Lib.hid ⟨[], by simpa using hbuf, rfl, by simp⟩, Lib.hid hbel⟩
  case round =>
    clear hbuf hbel
    obtain ⟨j, x, hj, rfl, rfl, HX, HB, HL⟩ := hrel
    by_cases hlt : j < k
    · obtain ⟨⟨u, hc⟩, hf⟩ := HB.out.has hlt
      go_wp2
      go_roundw
      case rel => exact ⟨j + 1, x / 256, by omega, by go_num, by go_num, Lib.hid (by have := HX.out; omega), Lib.hid (HB.out.step hlt), Lib.hid (HL.out.setCell (Nat.le_refl _) _)⟩
      case measure => simp [intOf]; omega
    · obtain ⟨acc, hb, hal, hax⟩ := HB.out
      have hjk : k - j = 0 := by omega
      rw [hjk] at hb hax
      have hcv := ownsRow_bytes (P := Tryz.prog) (src := 193) (dst := 9) (show World.ownsRow _ _ _ _ _ _ _ from hb) Tryz.underlying193 Tryz.underlying5 Tryz.underlying9
      have HAX := Lib.hid hax
      clear hax hjk hal
      go_wp2
      go_ret
      exact ⟨ret_str (by simpa [smallL] using HAX.out), HL.out⟩

/-- the buffer of Big's loop, j bytes still to come -/
def BigB (wr : World) (B : Nat) (k j x n : Nat) : Prop :=
  ∃ done, Buf wr B 5 (.slice (some ⟨B, 0, none⟩) k k) (List.replicate j 0 ++ done) ∧ done.length + j = k ∧ bigL x j ++ done = bigL n k
theorem BigB.has {wr : World} {B k j x n : Nat} (h : BigB wr B k (j + 1) x n) : (∃ u, wr.cell? ⟨B, j, none⟩ = some u) ∧ wr.frozen? ⟨B, j, none⟩ = false := by
  obtain ⟨done, hb, hal, _⟩ := h
  exact ⟨hb.has j (by simp; omega), hb.free j⟩
theorem bigL_succ (x j : Nat) : bigL x (j + 1) = bigL (x / 256) j ++ [UInt8.ofNat x] := by simp [bigL, smallL]
theorem set_last {α : Type} (j : Nat) (d c : α) (done : List α) : (List.replicate (j + 1) d ++ done).set j c = List.replicate j d ++ c :: done := by
  rw [List.replicate_succ', List.append_assoc]
  have : j = (List.replicate j d).length := by simp
  conv => lhs; rw [this]
  simp
theorem BigB.step {wr : World} {B k j x n : Nat} (h : BigB wr B k (j + 1) x n) : BigB (wr.setCell ⟨B, j, none⟩ (.int .u8 ((x : Int) % 256))) B k j (x / 256) n := by
  obtain ⟨done, hb, hd, hax⟩ := h
  have h1 := (hb.stored j (UInt8.ofNat x)).1
  rw [set_last, u8_mod] at h1
  refine ⟨UInt8.ofNat x :: done, h1, by simp; omega, ?_⟩
  rw [← hax, bigL_succ]
  simp

set_option maxHeartbeats 400000 in
set_option maxRecDepth 100000 in
theorem big_any (n : Nat) (k : Nat) (size : Int) (w : World) (hn : Hid (n < 18446744073709551616)) (hk : Hid (min (max size 0) 8 = (k : Int))) :
    Calls Tryz.prog 65 #[.int .u64 n, .int .i64 size] w fun e w' => e = .returned (.string ⟨(bigL n k).toArray⟩) ∧ Below w.heap.size w w' := by
  have hk8 : k ≤ 8 := by have := hk.out; omega
  obtain ⟨i0, hi, hz0, hz1, hz2⟩ := info_parts info_u8'
  go_enter Tryz.func65, Tryz.ntmps65
  go_wp2_with (first | (go_at_call 114; refine (width_any _ _).mono ?_; rw [hk.out]; rintro e w' ⟨rfl, rfl⟩) | (at_make; refine wpList_make_full _ rfl _ _ 193 rfl w.heap.size 5 i0 (.int .u8 0) 1 Tryz.underlying193 hi hz0 hz1 _ _ _ _ k rfl rfl rfl rfl (by rw [hz2]; omega) (by unfold maxLen; omega) (Nat.le_refl _) ?_))
  intro w1 hown hgrow
  have hbuf := Buf.zeros hown
  have hbel : Below w.heap.size w w1 := (Below.refl _ _).grown hgrow (Nat.le_refl _) (by intro k hk; cases hk)
  clear hown hgrow
  go_wp2
  go_loopw [0, 6] (fun v i wr => ∃ (j x : Nat), j ≤ k ∧ i = .int .i64 ((j : Int) - 1) ∧ v = .int .u64 x ∧ Hid (x < 18446744073709551616) ∧ Hid (BigB wr w.heap.size k j x n) ∧ Hid (Below w.heap.size w wr)) (fun _ i _ => (intOf i + 1).toNat)
  case atStart => exact ⟨k, n, Nat.le_refl _, rfl, rfl, hn, Lib.hid ⟨[], by simpa using hbuf, by simp, by simp⟩, Lib.hid hbel⟩
  case round =>
    clear hbuf hbel
    obtain ⟨j, x, hj, hij, rfl, HX, HB, HL⟩ := hrel
    rcases j with _ | j
    · subst hij
      obtain ⟨done, hb, hal, hax⟩ := HB.out
      have hcv := ownsRow_bytes (P := Tryz.prog) (src := 193) (dst := 9) (show World.ownsRow _ _ _ _ _ _ _ from hb) Tryz.underlying193 Tryz.underlying5 Tryz.underlying9
      have HAX := Lib.hid hax
      clear hax hal
      go_wp2
      go_ret
      exact ⟨ret_str (by simpa [bigL, smallL] using HAX.out), HL.out⟩
    · obtain rfl : _ = Value.int .i64 (j : Int) := hij.trans (by rw [show ((j + 1 : Nat) : Int) - 1 = (j : Int) by omega])
      clear hij
      obtain ⟨⟨u, hc⟩, hf⟩ := HB.out.has
      go_wp2
      go_roundw
      case rel => exact ⟨j, x / 256, by omega, rfl, by go_num, Lib.hid (by have := HX.out; omega), Lib.hid HB.out.step, Lib.hid (HL.out.setCell (Nat.le_refl _) _)⟩
      case measure => simp [intOf]
end Go.Proofs.YtndpcphmndfajaaGreatDoor

namespace Go.Proofs.YtndpcphmndfajaaGreatDoor
open Go.RowKit

/-- a number in seven bits a byte, the lowest first -/
def safeS : Nat → Nat → List UInt8
  | _, 0 => []
  | n, k + 1 => UInt8.ofNat (n % 128) :: safeS (n / 128) k
def safeL (n : Nat) : List UInt8 := (safeS n 4).reverse

def SafeB (wr : World) (B : Nat) (j x n : Nat) : Prop :=
  ∃ done, Buf wr B 5 (.slice (some ⟨B, 0, none⟩) 4 4) (List.replicate j 0 ++ done) ∧ done.length + j = 4 ∧ (safeS x j).reverse ++ done = safeL n
theorem SafeB.has {wr : World} {B j x n : Nat} (h : SafeB wr B (j + 1) x n) : (∃ u, wr.cell? ⟨B, j, none⟩ = some u) ∧ wr.frozen? ⟨B, j, none⟩ = false := by
  obtain ⟨done, hb, hal, _⟩ := h
  exact ⟨hb.has j (by simp; omega), hb.free j⟩
theorem SafeB.step {wr : World} {B j x n : Nat} (h : SafeB wr B (j + 1) x n) : SafeB (wr.setCell ⟨B, j, none⟩ (.int .u8 ((x : Int) % 128))) B j (x / 128) n := by
  obtain ⟨done, hb, hd, hax⟩ := h
  have h1 := (hb.stored j (UInt8.ofNat (x % 128))).1
  rw [set_last, u8_mod, show (((x % 128 : Nat) : Int) % 256) = (x : Int) % 128 by omega] at h1
  refine ⟨UInt8.ofNat (x % 128) :: done, h1, by simp; omega, ?_⟩
  rw [← hax, safeS]
  simp

set_option maxHeartbeats 400000 in
set_option maxRecDepth 100000 in
theorem safe_yes (n : Nat) (w : World) (hn : n ≤ 268435455) :
    Calls Tryz.prog 131 #[.int .u64 n] w fun e w' => e = .returned (.tuple #[.string ⟨(safeL n).toArray⟩, .bool true]) ∧ Below w.heap.size w w' := by
  obtain ⟨i0, hi, hz0, hz1, hz2⟩ := info_parts info_u8'
  go_enter Tryz.func131, Tryz.ntmps131
  go_wp2_with (at_make; refine wpList_make_full _ rfl _ _ 193 rfl w.heap.size 5 i0 (.int .u8 0) 1 Tryz.underlying193 hi hz0 hz1 _ _ _ _ 4 rfl rfl rfl rfl (by rw [hz2]; omega) (by unfold maxLen; omega) (Nat.le_refl _) ?_)
  intro w1 hown hgrow
  have hbuf := Buf.zeros hown
  have hbel : Below w.heap.size w w1 := (Below.refl _ _).grown hgrow (Nat.le_refl _) (by intro k hk; cases hk)
  clear hown hgrow
  go_wp2
  go_loopw [0, 5] (fun v i wr => ∃ (j x : Nat), j ≤ 4 ∧ i = .int .i64 ((j : Int) - 1) ∧ v = .int .u64 x ∧ x ≤ 268435455 ∧ Hid (SafeB wr w.heap.size j x n) ∧ Hid (Below w.heap.size w wr)) (fun _ i _ => (intOf i + 1).toNat)
  case atStart => exact ⟨4, n, Nat.le_refl _, rfl, rfl, hn, Lib.hid ⟨[], by simpa using hbuf, by simp, by simp [safeL]⟩, Lib.hid hbel⟩
  case round =>
    clear hbuf hbel
    obtain ⟨j, x, hj, hij, rfl, HX, HB, HL⟩ := hrel
    rcases j with _ | j
    · subst hij
      obtain ⟨done, hb, hal, hax⟩ := HB.out
      have hcv := ownsRow_bytes (P := Tryz.prog) (src := 193) (dst := 9) (show World.ownsRow _ _ _ _ _ _ _ from hb) Tryz.underlying193 Tryz.underlying5 Tryz.underlying9
      have HAX := Lib.hid hax
      clear hax hal
      go_wp2
      go_ret2
      exact ⟨by rw [show done = safeL n by simpa [safeS] using HAX.out]; rfl, HL.out⟩
    · obtain rfl : _ = Value.int .i64 (j : Int) := hij.trans (by rw [show ((j + 1 : Nat) : Int) - 1 = (j : Int) by omega])
      clear hij
      obtain ⟨⟨u, hc⟩, hf⟩ := HB.out.has
      have hand := and127 x (by omega)
      go_wp2
      go_roundw
      case rel => exact ⟨j, x / 128, by omega, rfl, by go_num, by omega, Lib.hid HB.out.step, Lib.hid (HL.out.setCell (Nat.le_refl _) _)⟩
      case measure => simp [intOf]

/-- the number of some bytes, the highest first -/
def numL (l : List UInt8) : Nat := l.foldl (fun n c => n * 256 + c.toNat) 0
theorem numL_snoc (l : List UInt8) (c : UInt8) : numL (l ++ [c]) = numL l * 256 + c.toNat := by simp [numL]
theorem numL_lt : ∀ (l : List UInt8) (a : Nat), l.foldl (fun n c => n * 256 + c.toNat) a < (a + 1) * 256 ^ l.length
  | [], a => by simp
  | c :: t, a => by
    have h := numL_lt t (a * 256 + c.toNat)
    have hc := UInt8.toNat_lt c
    simp only [List.foldl_cons, List.length_cons]
    have : (a * 256 + c.toNat + 1) * 256 ^ t.length ≤ (a + 1) * 256 ^ (t.length + 1) := by
      rw [Nat.pow_succ, Nat.mul_comm (256 ^ t.length) 256, ← Nat.mul_assoc]
      exact Nat.mul_le_mul_right _ (by omega)
    omega

theorem numL_take (l : List UInt8) (j : Nat) (h : j < l.length) : numL (l.take (j + 1)) = numL (l.take j) * 256 + l[j].toNat := by
  rw [List.take_succ_eq_append_getElem h, numL_snoc]
theorem numL_bound (l : List UInt8) : numL l < 256 ^ l.length := by have := numL_lt l 0; simpa [numL] using this
theorem numL_bound' (l : List UInt8) (j : Nat) (h : j ≤ 7) : numL (l.take j) ≤ 72057594037927935 := by
  have h1 := numL_bound (l.take j)
  have h2 : (256 : Nat) ^ (l.take j).length ≤ 256 ^ 7 := Nat.pow_le_pow_right (by decide) (by rw [List.length_take]; omega)
  have h3 : (256 : Nat) ^ 7 = 72057594037927936 := by decide
  omega

theorem take_len (m : Rd) (n : Int) : (m.take n).2.length ≤ n.toNat := by
  unfold Rd.take
  split
  · split
    · simp
    · simp; omega
  · simp

set_option maxHeartbeats 400000 in
set_option maxRecDepth 100000 in
theorem inbig_any (b : Nat) (m : Rd) (size : Int) (k : Nat) (w : World) (h : RdAt w b m) (hm : m.Ok) (hk : Hid (min (max size 0) 8 = (k : Int))) : Calls Tryz.prog 48 #[.pointer (some ⟨b, 0, none⟩), .int .i64 size] w fun e w' => e = .returned (.int .u64 (numL (m.take k).2)) ∧ RdAt w' b (m.take k).1 ∧ Only b w w' := by
  have hk8 : k ≤ 8 := by have := hk.out; omega
  have HT := Lib.hid (fun w h => take_any b m k w h hm)
  have hl := take_len m k
  rw [Int.toNat_natCast] at hl
  generalize m.take (k : Int) = mt at *
  obtain ⟨m', l⟩ := mt
  simp only at hl
  go_enter Tryz.func48, Tryz.ntmps48
  go_wp2_with (first | (go_at_call 114; refine (width_any _ _).mono ?_; rw [hk.out]; rintro e w' ⟨rfl, rfl⟩) | (go_at_call 49; refine (HT.out _ h).mono ?_; rintro e w2 ⟨rfl, hr2, ho2⟩))
  go_loop [6, 7] (fun s i => ∃ (j x : Nat), j ≤ l.length ∧ i = .int .i64 j ∧ s = .int .u64 x ∧ Hid (x = numL (l.take j))) (fun _ i => l.length - (intOf i).toNat)
  case atStart => exact ⟨0, 0, Nat.zero_le _, rfl, rfl, Lib.hid (by simp [numL])⟩
  case round =>
    obtain ⟨j, x, hj, rfl, rfl, HX⟩ := hrel
    by_cases hlt : j < l.length
    · have hx : x ≤ 72057594037927935 := by rw [HX.out]; exact numL_bound' l j (by omega)
      have hc := byte_le l[j]
      have hor := or_byte x l[j] hx
      go_wp2
      go_round
      case rel => exact ⟨j + 1, x * 256 + l[j].toNat, by omega, by go_num, by go_num, Lib.hid (by rw [numL_take l j hlt, HX.out])⟩
      case measure => simp [intOf]; omega
    · go_wp2
      go_ret
      exact ⟨ret_int (by rw [HX.out, List.take_of_length_le (by omega)]), hr2, ho2⟩

theorem numL_drop (l : List UInt8) (j : Nat) (h : j < l.length) : numL (l.drop j).reverse = numL (l.drop (j + 1)).reverse * 256 + l[j].toNat := by
  rw [drop_cons l j h, List.reverse_cons, numL_snoc]
theorem numL_bound2 (l : List UInt8) (j : Nat) (h : l.length - j ≤ 7) : numL (l.drop j).reverse ≤ 72057594037927935 := by
  have h1 := numL_bound (l.drop j).reverse
  have h2 : (256 : Nat) ^ (l.drop j).reverse.length ≤ 256 ^ 7 := Nat.pow_le_pow_right (by decide) (by rw [List.length_reverse, List.length_drop]; omega)
  have h3 : (256 : Nat) ^ 7 = 72057594037927936 := by decide
  omega

set_option maxHeartbeats 400000 in
set_option maxRecDepth 100000 in
theorem insmall_any (b : Nat) (m : Rd) (size : Int) (k : Nat) (w : World) (h : RdAt w b m) (hm : m.Ok) (hk : Hid (min (max size 0) 8 = (k : Int))) : Calls Tryz.prog 111 #[.pointer (some ⟨b, 0, none⟩), .int .i64 size] w fun e w' => e = .returned (.int .u64 (numL (m.take k).2.reverse)) ∧ RdAt w' b (m.take k).1 ∧ Only b w w' := by
  have hk8 : k ≤ 8 := by have := hk.out; omega
  have HT := Lib.hid (fun w h => take_any b m k w h hm)
  have hl := take_len m k
  rw [Int.toNat_natCast] at hl
  generalize m.take (k : Int) = mt at *
  obtain ⟨m', l⟩ := mt
  simp only at hl
  go_enter Tryz.func111, Tryz.ntmps111
  go_wp2_with (first | (go_at_call 114; refine (width_any _ _).mono ?_; rw [hk.out]; rintro e w' ⟨rfl, rfl⟩) | (go_at_call 49; refine (HT.out _ h).mono ?_; rintro e w2 ⟨rfl, hr2, ho2⟩))
  go_loop [6, 7] (fun s i => ∃ (j x : Nat), j ≤ l.length ∧ i = .int .i64 ((j : Int) - 1) ∧ s = .int .u64 x ∧ Hid (x = numL (l.drop j).reverse)) (fun _ i => (intOf i + 1).toNat)
  case atStart => exact ⟨l.length, 0, Nat.le_refl _, rfl, rfl, Lib.hid (by simp [numL])⟩
  case round =>
    obtain ⟨j, x, hj, hij, rfl, HX⟩ := hrel
    rcases j with _ | j
    · subst hij
      go_wp2
      go_ret
      exact ⟨ret_int (by rw [HX.out]; rfl), hr2, ho2⟩
    · obtain rfl : _ = Value.int .i64 (j : Int) := hij.trans (by rw [show ((j + 1 : Nat) : Int) - 1 = (j : Int) by omega])
      clear hij
      have hlt : j < l.length := hj
      have hx : x ≤ 72057594037927935 := by rw [HX.out]; exact numL_bound2 l (j + 1) (by omega)
      have hc := byte_le l[j]
      have hor := or_byte x l[j] hx
      go_wp2
      go_round
      case rel => exact ⟨j, x * 256 + l[j].toNat, by omega, rfl, by go_num, Lib.hid (by rw [numL_drop l j hlt, HX.out])⟩
      case measure => simp [intOf]

/-! ### The number of seven bits a byte -/
def num7 (l : List UInt8) : Nat := l.foldl (fun n c => n * 128 + c.toNat) 0
theorem num7_snoc (l : List UInt8) (c : UInt8) : num7 (l ++ [c]) = num7 l * 128 + c.toNat := by simp [num7]
def hi (c : UInt8) : Bool := decide (128 ≤ c.toNat)
def Rd.safe (m : Rd) : Rd × Int :=
  match (m.take 4).2.findIdx? hi with
  | some i => ((m.take 4).1.fail 1 (m.bs + m.nx + i), 0)
  | none => ((m.take 4).1, num7 (m.take 4).2)

theorem take_bs (m : Rd) (n : Int) : (m.take n).1.bs = m.bs := by
  unfold Rd.take; split
  · split
    · exact Rd.fail_bs _ _ _
    · rfl
  · rfl
theorem take_t (m : Rd) (n : Int) : (m.take n).1.t = m.t := by
  unfold Rd.take; split
  · split
    · exact Rd.fail_t _ _ _
    · rfl
  · rfl
theorem take_nx (m : Rd) (n : Int) (hm : m.nx ≤ m.t.length) : (m.take n).1.nx = m.nx + (m.take n).2.length := by
  unfold Rd.take; split
  · split
    · exact Rd.fail_nx _ _ _
    · simp; omega
  · rfl
theorem take_ok {m : Rd} (n : Int) (hm : m.Ok) : (m.take n).1.Ok := by
  refine ⟨?_, ?_, ?_, ?_⟩
  · rw [take_nx m n hm.1, take_t]
    unfold Rd.take; split
    · split
      · exact hm.1
      · have := hm.1; simp; omega
    · exact hm.1
  · rw [take_t]; exact hm.2.1
  · rw [take_bs]; exact hm.2.2.1
  · rw [take_bs]; exact hm.2.2.2

def Low7 (l : List UInt8) : Prop := ∀ c ∈ l, hi c = false
theorem num7_take (l : List UInt8) (j : Nat) (h : j < l.length) : num7 (l.take (j + 1)) = num7 (l.take j) * 128 + l[j].toNat := by
  rw [List.take_succ_eq_append_getElem h, num7_snoc]

theorem low7_take (l : List UInt8) (j : Nat) (h : j < l.length) (h1 : Low7 (l.take j)) (h2 : hi l[j] = false) : Low7 (l.take (j + 1)) := by
  rw [List.take_succ_eq_append_getElem h]
  intro c hc
  rw [List.mem_append, List.mem_singleton] at hc
  rcases hc with hc | rfl
  · exact h1 c hc
  · exact h2
theorem findIdx_at (l : List UInt8) (j : Nat) (h : j < l.length) (h1 : Low7 (l.take j)) (h2 : hi l[j] = true) : l.findIdx? hi = some j := by
  rw [List.findIdx?_eq_some_iff_getElem]
  refine ⟨h, h2, ?_⟩
  intro i hi'
  have := h1 l[i] (by rw [List.mem_take_iff_getElem]; exact ⟨i, by omega, rfl⟩)
  simpa using this
theorem num7_lt : ∀ (l : List UInt8) (a : Nat), Low7 l → l.foldl (fun n c => n * 128 + c.toNat) a < (a + 1) * 128 ^ l.length
  | [], a, _ => by simp
  | c :: t, a, hl => by
    have h := num7_lt t (a * 128 + c.toNat) (fun d hd => hl d (List.mem_cons_of_mem _ hd))
    have hc : c.toNat < 128 := by have := hl c (List.mem_cons_self ..); simpa [hi] using this
    simp only [List.foldl_cons, List.length_cons]
    have : (a * 128 + c.toNat + 1) * 128 ^ t.length ≤ (a + 1) * 128 ^ (t.length + 1) := by
      rw [Nat.pow_succ, Nat.mul_comm (128 ^ t.length) 128, ← Nat.mul_assoc]
      exact Nat.mul_le_mul_right _ (by omega)
    omega
theorem num7_bound (l : List UInt8) (h : Low7 l) (hl : l.length ≤ 3) : num7 l ≤ 2097151 := by
  have h1 := num7_lt l 0 h
  have h2 : (128 : Nat) ^ l.length ≤ 128 ^ 3 := Nat.pow_le_pow_right (by decide) hl
  have h3 : (128 : Nat) ^ 3 = 2097152 := by decide
  unfold num7
  omega

set_option maxHeartbeats 400000 in
set_option maxRecDepth 100000 in
theorem insafe_any (b : Nat) (m : Rd) (w : World) (h : RdAt w b m) (hm : m.Ok) : Calls Tryz.prog 91 #[.pointer (some ⟨b, 0, none⟩)] w fun e w' => e = .returned (.int .i64 m.safe.2) ∧ RdAt w' b m.safe.1 ∧ Only b w w' := by
  have HT := Lib.hid (fun w h => take_any b m 4 w h hm)
  have hl := take_len m 4
  have hnx := take_nx m 4 hm.1
  have hbs := take_bs m 4
  have hok := take_ok 4 hm
  have HS : Hid (m.safe = match (m.take 4).2.findIdx? hi with
    | some i => ((m.take 4).1.fail 1 (m.bs + m.nx + i), 0)
    | none => ((m.take 4).1, (num7 (m.take 4).2 : Int))) := Lib.hid rfl
  generalize m.safe = ms at *
  generalize m.take 4 = mt at *
  obtain ⟨m', l⟩ := mt
  have hl4 : l.length ≤ 4 := hl
  have HN : Hid (m'.nx = m.nx + l.length) := Lib.hid hnx
  have HB : Hid (m'.bs = m.bs) := Lib.hid hbs
  have hok' : m'.Ok := hok
  clear hl hnx hbs hok
  go_enter Tryz.func91, Tryz.ntmps91
  go_wp2_with (go_at_call 49; refine (HT.out _ h).mono ?_; rintro e w2 ⟨rfl, hr2, ho2⟩)
  have hr2' : RdAt w2 b m' := hr2
  clear hr2
  go_loop [4, 5] (fun s i => ∃ (j x : Nat), j ≤ l.length ∧ i = .int .i64 j ∧ s = .int .i64 x ∧ Hid (x = num7 (l.take j) ∧ Low7 (l.take j))) (fun _ i => l.length - (intOf i).toNat)
  case atStart => exact ⟨0, 0, Nat.zero_le _, rfl, rfl, Lib.hid ⟨by simp [num7], by simp [Low7]⟩⟩
  case round =>
    obtain ⟨j, x, hj, rfl, rfl, HX⟩ := hrel
    by_cases hlt : j < l.length
    · have hx : x ≤ 2097151 := by rw [HX.out.1]; exact num7_bound _ HX.out.2 (by rw [List.length_take]; omega)
      have hc := byte_le l[j]
      have HL7 := Lib.hid HX.out.2
      by_cases hhi : (128 : Int) ≤ (l[j].toNat : Int)
      · obtain ⟨c0, c1, c2, c3, c4, f1, f3, f4⟩ := hr2'.cells
        have hn := HN.out
        have hn' : l.length ≤ m'.nx := by omega
        have hn2 : m'.nx ≤ 1000000000 := by have := hok'.1; have := hok'.2.1; omega
        clear hn
        go_wp2_with (first | (go_at_call 107; refine (place_any b m' _ _ hr2' hok' (by omega) (by have := hok'.1; have := hok'.2.1; omega)).mono ?_; rintro e w3 ⟨rfl, rfl⟩) | (go_at_call 102; refine (fail_any _ _ _ _ _ hr2').mono ?_; rintro e w4 ⟨rfl, hr4, ho4⟩))
        go_ret
        have e1 : l.findIdx? hi = some j := findIdx_at l j hlt HL7.out (by unfold hi; exact decide_eq_true (by omega))
        have HS' := HS.out
        simp only [e1] at HS'
        have e2 : m'.bs + ((m'.nx : Int) - l.length + j) = m.bs + m.nx + j := by have := HN.out; have := HB.out; omega
        rw [e2] at hr4
        rw [HS']
        exact ⟨rfl, hr4, ho2.trans ho4⟩
      · have hl7 : hi l[j] = false := by simp [hi]; omega
        have hor := or_seven x l[j].toNat (by omega) (by omega)
        go_wp2
        go_round
        case rel => exact ⟨j + 1, x * 128 + l[j].toNat, by omega, by go_num, by go_num, Lib.hid ⟨by rw [num7_take l j hlt, HX.out.1], low7_take l j hlt HX.out.2 hl7⟩⟩
        case measure => simp [intOf]; omega
    · go_wp2
      go_ret
      have e0 : l.take j = l := List.take_of_length_le (by omega)
      have HX' := HX.out
      rw [e0] at HX'
      have e1 : l.findIdx? hi = none := by rw [List.findIdx?_eq_none_iff]; exact HX'.2
      have HS' := HS.out
      simp only [e1] at HS'
      rw [HS']
      exact ⟨ret_int (by rw [HX'.1]), hr2', ho2⟩
end Go.Proofs.YtndpcphmndfajaaGreatDoor
