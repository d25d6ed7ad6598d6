/- The walks of layer 1 (octet), second part: Inner, Read, Rest, Peek, the numbers. -/
import Derived.Test.YtffhmjlojmoomaaGreatDoorZOct1

namespace Go.Proofs.YtffhmjlojmoomaaGreatDoor
open Go.RowKit

def Rd.new (l : List UInt8) (base : Int) : Rd := ⟨l, 0, max base 0, 0, 0⟩

set_option maxRecDepth 100000 in
theorem inner_any (l : List UInt8) (base : Int) (w : World) : Calls Tryz.prog 95 #[.string ⟨l.toArray⟩, .int .i64 base] w fun e w' => e = .returned (.pointer (some ⟨w.heap.size, 0, none⟩)) ∧ RdAt w' w.heap.size (Rd.new l base) ∧ Below w.heap.size w w' := by
  go_enter Tryz.func95, Tryz.ntmps95
  go_wp2
  · go_ret
    refine ⟨rfl, ?_, (Below.refl _ _).alloc (Nat.le_refl _) _⟩
    have e : Rd.new l base = ⟨l, 0, 0, 0, 0⟩ := by unfold Rd.new; rw [Int.max_eq_right (by omega)]
    rw [e]
    exact heap_alloc_new _ _
  · go_ret
    refine ⟨rfl, ?_, (Below.refl _ _).alloc (Nat.le_refl _) _⟩
    have e : Rd.new l base = ⟨l, 0, base, 0, 0⟩ := by unfold Rd.new; rw [Int.max_eq_left (by omega)]
    rw [e]
    exact heap_alloc_new _ _

set_option maxRecDepth 100000 in
theorem read_any (l : List UInt8) (w : World) : Calls Tryz.prog 47 #[.string ⟨l.toArray⟩] w fun e w' => e = .returned (.pointer (some ⟨w.heap.size, 0, none⟩)) ∧ RdAt w' w.heap.size (Rd.new l 0) ∧ Below w.heap.size w w' := by
  go_enter Tryz.func47, Tryz.ntmps47
  go_wp2_with (go_at_call 95; refine (inner_any _ _ _).mono ?_; rintro e w1 ⟨rfl, hr1, hb1⟩)
  go_ret
  exact ⟨rfl, hr1, hb1⟩

set_option maxHeartbeats 400000 in
set_option maxRecDepth 100000 in
theorem peek_any (b : Nat) (m : Rd) (n : Int) (w : World) (h : RdAt w b m) (hm : m.Ok) : Calls Tryz.prog 51 #[.pointer (some ⟨b, 0, none⟩), .int .i64 n] w fun e w' => e = .returned (.string ⟨(m.peek n).toArray⟩) ∧ Below w.heap.size w w' := by
  obtain ⟨h0, h3, h1, h2⟩ := hm
  by_cases hc : m.cd = 0
  · have HC := Lib.hid hc
    have e0 : m.peek n = (m.t.drop m.nx).take n.toNat := by simp [Rd.peek, hc]
    rw [e0]
    have e1 : IntKind.i64.wrap ((m.t.length : Int) - m.nx) = (m.t.length : Int) - m.nx := IntWalk.i64_in _ (by omega)
    clear hc e0
    by_cases hn : n < 0
    · have hn0 : (m.t.drop m.nx).take n.toNat = [] := by rw [show n.toNat = 0 by omega]; rfl
      have hz : ¬ ((m.t.length : Int) - m.nx < 0) := by omega
      have hz' : (0 : Int) ≤ (m.t.length : Int) - m.nx := by omega
      rw [hn0]
      clear hn0
      go_enter Tryz.func51, Tryz.ntmps51
      go_wp2_with (first | (go_at_call 96; refine (ready_yes _ _ _ h HC.out).mono ?_; rintro e w1 ⟨rfl, hb1⟩; obtain ⟨c0, c1, c2, c3, c4, f1, f3, f4⟩ := (h.below hb1).cells))
      go_quiet (fail)
      have e2 : IntKind.i64.wrap (m.nx : Int) = (m.nx : Int) := IntWalk.i64_in _ (by omega)
      go_wp2
      go_quiet (fail)
      go_wp2
      go_ret
      exact ⟨ret_str (by first | rfl | simp | exact List.take_of_length_le (by rw [List.length_drop]; omega)), by repeat (first | exact hb1 | refine below_drewN ?_ _)⟩
    · by_cases hn2 : (m.t.length : Int) - m.nx < n
      · have hn0 : (m.t.drop m.nx).take n.toNat = m.t.drop m.nx := List.take_of_length_le (by rw [List.length_drop]; omega)
        have hn3 : ¬ (n < (m.t.length : Int) - m.nx) := by omega
        have hn4 : ¬ (n ≤ (m.t.length : Int) - m.nx) := by omega
        have e2 : IntKind.i64.wrap ((m.nx : Int) + ((m.t.length : Int) - m.nx)) = (m.t.length : Int) := by rw [IntWalk.i64_in _ (by omega)]; omega
        have e3 : IntKind.i64.wrap (m.t.length : Int) = (m.t.length : Int) := IntWalk.i64_in _ (by omega)
        rw [hn0]
        clear hn0
        go_enter Tryz.func51, Tryz.ntmps51
        go_wp2_with (first | (go_at_call 96; refine (ready_yes _ _ _ h HC.out).mono ?_; rintro e w1 ⟨rfl, hb1⟩; obtain ⟨c0, c1, c2, c3, c4, f1, f3, f4⟩ := (h.below hb1).cells))
        go_quiet (fail)
        go_wp2
        go_quiet (fail)
        go_wp2
        go_ret
        exact ⟨ret_str (by first | rfl | simp | exact List.take_of_length_le (by rw [List.length_drop]; omega)), by repeat (first | exact hb1 | refine below_drewN ?_ _)⟩
      · obtain ⟨k, rfl⟩ := Int.eq_ofNat_of_zero_le (show 0 ≤ n by omega)
        have hn3 : (k : Int) ≤ (m.t.length : Int) - m.nx := by omega
        have e2 : IntKind.i64.wrap ((m.nx : Int) + (k : Int)) = (m.nx : Int) + (k : Int) := IntWalk.i64_in _ (by omega)
        have e3 : 0 ≤ (m.nx : Int) + (k : Int) := by omega
        have e4 : ((m.nx : Int) + (k : Int)).toNat = m.nx + k := by omega
        have e5 : (m.nx : Int) + (k : Int) ≤ m.t.length := by omega
        have e6 : (m.nx : Int) ≤ (m.nx : Int) + (k : Int) := by omega
        go_enter Tryz.func51, Tryz.ntmps51
        go_wp2_with (first | (go_at_call 96; refine (ready_yes _ _ _ h HC.out).mono ?_; rintro e w1 ⟨rfl, hb1⟩; obtain ⟨c0, c1, c2, c3, c4, f1, f3, f4⟩ := (h.below hb1).cells))
        go_quiet (fail)
        go_wp2
        go_quiet (fail)
        go_wp2
        go_ret
        exact ⟨ret_str (by first | rfl | simp | exact List.take_of_length_le (by rw [List.length_drop]; omega)), by repeat (first | exact hb1 | refine below_drewN ?_ _)⟩
  · have e0 : m.peek n = [] := by simp [Rd.peek, hc]
    rw [e0]
    have HC := Lib.hid hc
    clear hc e0
    go_enter Tryz.func51, Tryz.ntmps51
    go_wp2_with (go_at_call 96; refine (ready_no _ _ _ h HC.out).mono ?_; rintro e w1 ⟨rfl, hb1⟩)
    go_ret
    exact ⟨rfl, hb1⟩

set_option maxRecDepth 100000 in
theorem width_any (n : Int) (w : World) : Calls Tryz.prog 116 #[.int .i64 n] w fun e w' => e = .returned (.int .i64 (min (max n 0) 8)) ∧ w = w' := by
  go_enter Tryz.func116, Tryz.ntmps116
  go_wp2
  all_goals (go_ret; exact ⟨ret_int (by omega), rfl⟩)

/-- a number's bytes, the lowest first, the highest first -/
def smallL : Nat → Nat → List UInt8
  | _, 0 => []
  | n, k + 1 => UInt8.ofNat n :: smallL (n / 256) k
def bigL (n k : Nat) : List UInt8 := (smallL n k).reverse

theorem info_u8' : (Tryz.prog.info? 5).map (fun i => (i.zero, i.size, i.bytes)) = some (some (.int .u8 0), 1, 1) := by kernel_rfl

/-- the buffer of Small's and Big's loops at a round -/
def SmallB (wr : World) (B : Nat) (k j x n : Nat) : Prop :=
  ∃ acc, Buf wr B 5 (.slice (some ⟨B, 0, none⟩) k k) (acc ++ List.replicate (k - j) 0) ∧ acc.length = j ∧ acc ++ smallL x (k - j) = smallL n k
theorem SmallB.has {wr : World} {B k j x n : Nat} (h : SmallB wr B k j x n) (hj : j < k) : (∃ u, wr.cell? ⟨B, j, none⟩ = some u) ∧ wr.frozen? ⟨B, j, none⟩ = false := by
  obtain ⟨acc, hb, hal, _⟩ := h
  exact ⟨hb.has j (by simp; omega), hb.free j⟩
theorem SmallB.step {wr : World} {B k j x n : Nat} (h : SmallB wr B k j x n) (hj : j < k) : SmallB (wr.setCell ⟨B, j, none⟩ (.int .u8 ((x : Int) % 256))) B k (j + 1) (x / 256) n := by
  obtain ⟨acc, hb, rfl, hax⟩ := h
  have h1 := (hb.stored acc.length (UInt8.ofNat x)).1
  rw [set_mid _ _ _ _ hj, u8_mod] at h1
  refine ⟨acc ++ [UInt8.ofNat x], h1, by simp, ?_⟩
  have e : k - acc.length = (k - (acc.length + 1)) + 1 := by omega
  rw [e, smallL] at hax
  rw [← hax]
  simp

/-- the buffer of Big's loop, j bytes still to come -/
def BigB (wr : World) (B : Nat) (k j x n : Nat) : Prop :=
  ∃ done, Buf wr B 5 (.slice (some ⟨B, 0, none⟩) k k) (List.replicate j 0 ++ done) ∧ done.length + j = k ∧ bigL x j ++ done = bigL n k
theorem BigB.has {wr : World} {B k j x n : Nat} (h : BigB wr B k (j + 1) x n) : (∃ u, wr.cell? ⟨B, j, none⟩ = some u) ∧ wr.frozen? ⟨B, j, none⟩ = false := by
  obtain ⟨done, hb, hal, _⟩ := h
  exact ⟨hb.has j (by simp; omega), hb.free j⟩
theorem bigL_succ (x j : Nat) : bigL x (j + 1) = bigL (x / 256) j ++ [UInt8.ofNat x] := by simp [bigL, smallL]
theorem set_last {α : Type} (j : Nat) (d c : α) (done : List α) : (List.replicate (j + 1) d ++ done).set j c = List.replicate j d ++ c :: done := by
  rw [List.replicate_succ', List.append_assoc]
  have : j = (List.replicate j d).length := by simp
  conv => lhs; rw [this]
  simp
theorem BigB.step {wr : World} {B k j x n : Nat} (h : BigB wr B k (j + 1) x n) : BigB (wr.setCell ⟨B, j, none⟩ (.int .u8 ((x : Int) % 256))) B k j (x / 256) n := by
  obtain ⟨done, hb, hd, hax⟩ := h
  have h1 := (hb.stored j (UInt8.ofNat x)).1
  rw [set_last, u8_mod] at h1
  refine ⟨UInt8.ofNat x :: done, h1, by simp; omega, ?_⟩
  rw [← hax, bigL_succ]
  simp

set_option maxHeartbeats 400000 in
set_option maxRecDepth 100000 in
theorem big_any (n : Nat) (k : Nat) (size : Int) (w : World) (hn : Hid (n < 18446744073709551616)) (hk : Hid (min (max size 0) 8 = (k : Int))) :
    Calls Tryz.prog 81 #[.int .u64 n, .int .i64 size] w fun e w' => e = .returned (.string ⟨(bigL n k).toArray⟩) ∧ Below w.heap.size w w' := by
  have hk8 : k ≤ 8 := by have := hk.out; omega
  obtain ⟨i0, hi, hz0, hz1, hz2⟩ := info_parts info_u8'
  go_enter Tryz.func81, Tryz.ntmps81
  go_wp2_with (first | (go_at_call 116; refine (width_any _ _).mono ?_; rw [hk.out]; rintro e w' ⟨rfl, rfl⟩) | (at_make; refine wpList_make_full _ rfl _ _ 35 rfl w.heap.size 5 i0 (.int .u8 0) 1 Tryz.underlying35 hi hz0 hz1 _ _ _ _ k rfl rfl rfl rfl (by rw [hz2]; omega) (by unfold maxLen; omega) (Nat.le_refl _) ?_))
  intro w1 hown hgrow
  have hbuf := Buf.zeros hown
  have hbel : Below w.heap.size w w1 := (Below.refl _ _).grown hgrow (Nat.le_refl _) (by intro k hk; cases hk)
  clear hown hgrow
  go_wp2
  go_loopw [0, 6] (fun v i wr => ∃ (j x : Nat), j ≤ k ∧ i = .int .i64 ((j : Int) - 1) ∧ v = .int .u64 x ∧ Hid (x < 18446744073709551616) ∧ Hid (BigB wr w.heap.size k j x n) ∧ Hid (Below w.heap.size w wr)) (fun _ i _ => (intOf i + 1).toNat)
  case atStart => exact ⟨k, n, Nat.le_refl _, rfl, rfl, hn, Lib.hid ⟨[], by simpa using hbuf, by simp, by simp⟩, Lib.hid hbel⟩
  case round =>
    clear hbuf hbel
    obtain ⟨j, x, hj, hij, rfl, HX, HB, HL⟩ := hrel
    rcases j with _ | j
    · subst hij
      obtain ⟨done, hb, hal, hax⟩ := HB.out
      have hcv := ownsRow_bytes (P := Tryz.prog) (src := 35) (dst := 9) (show World.ownsRow _ _ _ _ _ _ _ from hb) Tryz.underlying35 Tryz.underlying5 Tryz.underlying9
      have HAX := Lib.hid hax
      clear hax hal
      go_wp2
      go_ret
      exact ⟨ret_str (by simpa [bigL, smallL] using HAX.out), HL.out⟩
    · obtain rfl : _ = Value.int .i64 (j : Int) := hij.trans (by rw [show ((j + 1 : Nat) : Int) - 1 = (j : Int) by omega])
      clear hij
      obtain ⟨⟨u, hc⟩, hf⟩ := HB.out.has
      go_wp2
      go_roundw
      case rel => exact ⟨j, x / 256, by omega, rfl, by go_num, Lib.hid (by have := HX.out; omega), Lib.hid HB.out.step, Lib.hid (HL.out.setCell (Nat.le_refl _) _)⟩
      case measure => simp [intOf]
end Go.Proofs.YtffhmjlojmoomaaGreatDoor
