/- The walks of layer 1 (octet), sixth part: the document's reader: Peek, ReadSafe, Want, Until. -/
import Derived.Test.YtmnmonmbdgedbaaOct5
namespace Go.Proofs.Ytmnmonmbdgedbaa
open Go.RowKit

set_option maxHeartbeats 1000000 in
set_option maxRecDepth 100000 in
theorem rpeek_any (m : Rd) (n : Int) (w : World) (hm : m.Ok) : Calls Try.prog 127 #[rdV m, .int .i64 n] w fun e w' => e = .returned (.string ⟨(m.peek n).toArray⟩) ∧ Below w.heap.size w w' := by
  obtain ⟨h0, h3, h1, h2⟩ := hm
  have hm : m.Ok := ⟨h0, h3, h1, h2⟩
  by_cases hc : m.cd = 0
  · have hz : (m.cd != 0) = false := by simpa using hc
    have L := fun w => rleft_any m w hm
    rw [show m.left = (m.t.length : Int) - m.nx from if_pos hc] at L
    have HL := Lib.hid L
    have e0 : m.peek n = (m.t.drop m.nx).take n.toNat := by simp [Rd.peek, hc]
    rw [e0]
    clear hc L e0
    have hz0 : ¬ ((m.t.length : Int) - m.nx < 0) := by omega
    by_cases hn : n < 0
    · rw [show (m.t.drop m.nx).take n.toNat = [] by rw [show n.toNat = 0 by omega]; rfl]
      have hn2 : ¬ ((m.t.length : Int) - m.nx < n) := by omega
      go_enter Try.func127, Try.ntmps127
      go_wp2_with (first | (go_at_call 103; refine (HL.out _).mono ?_; rintro e w2 ⟨rfl, hb2⟩; have HB2 := Lib.hid (nextB HB1.out hb2); obtain ⟨⟨c0, c1, c2, c3, c4⟩, f0, f1, f2, f3, f4⟩ := (HI.out.below hb2).all) | (go_at_call 103; refine (HL.out _).mono ?_; rintro e w1 ⟨rfl, hb1⟩; have HB1 := Lib.hid (below_a1 hb1); have HI := Lib.hid (InAt.below (m := m) (at_a0 _ _ _) hb1); obtain ⟨⟨c0, c1, c2, c3, c4⟩, f0, f1, f2, f3, f4⟩ := HI.out.all))
      go_ret
      exact ⟨rfl, HB1.out⟩
    · by_cases hn2 : (m.t.length : Int) - m.nx < n
      · rw [show (m.t.drop m.nx).take n.toNat = m.t.drop m.nx from List.take_of_length_le (by rw [List.length_drop]; omega)]
        go_enter Try.func127, Try.ntmps127
        go_wp2_with (first | (go_at_call 103; refine (HL.out _).mono ?_; rintro e w2 ⟨rfl, hb2⟩; have HB2 := Lib.hid (nextB HB1.out hb2); obtain ⟨⟨c0, c1, c2, c3, c4⟩, f0, f1, f2, f3, f4⟩ := (HI.out.below hb2).all) | (go_at_call 103; refine (HL.out _).mono ?_; rintro e w1 ⟨rfl, hb1⟩; have HB1 := Lib.hid (below_a1 hb1); have HI := Lib.hid (InAt.below (m := m) (at_a0 _ _ _) hb1); obtain ⟨⟨c0, c1, c2, c3, c4⟩, f0, f1, f2, f3, f4⟩ := HI.out.all))
        go_ret
        exact ⟨ret_str (by first | rfl | exact List.take_of_length_le (by rw [List.length_drop]; omega)), HB2.out⟩
      · obtain ⟨k, rfl⟩ := Int.eq_ofNat_of_zero_le (show 0 ≤ n by omega)
        have hn3 : (m.nx : Int) + k ≤ m.t.length := by omega
        go_enter Try.func127, Try.ntmps127
        go_wp2_with (first | (go_at_call 103; refine (HL.out _).mono ?_; rintro e w2 ⟨rfl, hb2⟩; have HB2 := Lib.hid (nextB HB1.out hb2); obtain ⟨⟨c0, c1, c2, c3, c4⟩, f0, f1, f2, f3, f4⟩ := (HI.out.below hb2).all) | (go_at_call 103; refine (HL.out _).mono ?_; rintro e w1 ⟨rfl, hb1⟩; have HB1 := Lib.hid (below_a1 hb1); have HI := Lib.hid (InAt.below (m := m) (at_a0 _ _ _) hb1); obtain ⟨⟨c0, c1, c2, c3, c4⟩, f0, f1, f2, f3, f4⟩ := HI.out.all))
        go_ret
        exact ⟨ret_str (by first | rfl | simp | (rw [Nat.add_sub_cancel_left]; simp)), HB1.out⟩
  · have hz : (m.cd != 0) = true := by simpa using hc
    have L := fun w => rleft_any m w hm
    rw [show m.left = 0 from if_neg hc] at L
    have HL := Lib.hid L
    have e0 : m.peek n = [] := by simp [Rd.peek, hc]
    rw [e0]
    clear hc L e0
    by_cases hn : n < 0
    · have hn2 : ¬ (0 < n) := by omega
      go_enter Try.func127, Try.ntmps127
      go_wp2_with (first | (go_at_call 103; refine (HL.out _).mono ?_; rintro e w2 ⟨rfl, hb2⟩; have HB2 := Lib.hid (nextB HB1.out hb2); obtain ⟨⟨c0, c1, c2, c3, c4⟩, f0, f1, f2, f3, f4⟩ := (HI.out.below hb2).all) | (go_at_call 103; refine (HL.out _).mono ?_; rintro e w1 ⟨rfl, hb1⟩; have HB1 := Lib.hid (below_a1 hb1); have HI := Lib.hid (InAt.below (m := m) (at_a0 _ _ _) hb1); obtain ⟨⟨c0, c1, c2, c3, c4⟩, f0, f1, f2, f3, f4⟩ := HI.out.all))
      go_ret
      exact ⟨rfl, HB1.out⟩
    · by_cases hn2 : 0 < n
      · go_enter Try.func127, Try.ntmps127
        go_wp2_with (first | (go_at_call 103; refine (HL.out _).mono ?_; rintro e w2 ⟨rfl, hb2⟩; have HB2 := Lib.hid (nextB HB1.out hb2); obtain ⟨⟨c0, c1, c2, c3, c4⟩, f0, f1, f2, f3, f4⟩ := (HI.out.below hb2).all) | (go_at_call 103; refine (HL.out _).mono ?_; rintro e w1 ⟨rfl, hb1⟩; have HB1 := Lib.hid (below_a1 hb1); have HI := Lib.hid (InAt.below (m := m) (at_a0 _ _ _) hb1); obtain ⟨⟨c0, c1, c2, c3, c4⟩, f0, f1, f2, f3, f4⟩ := HI.out.all))
        go_ret
        exact ⟨rfl, HB2.out⟩
      · go_enter Try.func127, Try.ntmps127
        go_wp2_with (first | (go_at_call 103; refine (HL.out _).mono ?_; rintro e w2 ⟨rfl, hb2⟩; have HB2 := Lib.hid (nextB HB1.out hb2); obtain ⟨⟨c0, c1, c2, c3, c4⟩, f0, f1, f2, f3, f4⟩ := (HI.out.below hb2).all) | (go_at_call 103; refine (HL.out _).mono ?_; rintro e w1 ⟨rfl, hb1⟩; have HB1 := Lib.hid (below_a1 hb1); have HI := Lib.hid (InAt.below (m := m) (at_a0 _ _ _) hb1); obtain ⟨⟨c0, c1, c2, c3, c4⟩, f0, f1, f2, f3, f4⟩ := HI.out.all))
        go_ret
        exact ⟨rfl, HB1.out⟩

set_option maxHeartbeats 1000000 in
set_option maxRecDepth 100000 in
theorem rreadsafe_any (m : Rd) (w : World) (hm : m.Ok) : Calls Try.prog 102 #[rdV m] w fun e w' => e = .returned (.tuple #[rdV m.safe.1, .int .i64 m.safe.2]) ∧ Below w.heap.size w w' := by
  have HT := Lib.hid (fun w => rtake_any m 4 w hm)
  have hl := take_len m 4
  have HS : Hid (m.safe = match (m.take 4).2.findIdx? hi with
    | some i => ((m.take 4).1.fail 1 (m.bs + m.nx + i), 0)
    | none => ((m.take 4).1, (num7 (m.take 4).2 : Int))) := Lib.hid rfl
  generalize m.safe = ms at *
  generalize m.take 4 = mt at *
  obtain ⟨m', l⟩ := mt
  have hl4 : l.length ≤ 4 := hl
  clear hl
  obtain ⟨h0, h3, h1, h2⟩ := hm
  have hsum : m.bs + (m.nx : Int) ≤ 4000000000000 := by omega
  go_enter Try.func102, Try.ntmps102
  go_wp2_with (go_at_call 68; refine (HT.out _).mono ?_; rintro e w1 ⟨rfl, hb1⟩; have HB1 := Lib.hid (below_a2 hb1); obtain ⟨ha1, ha2⟩ := boxes hb1; have HA2 := Lib.hid ha2; clear ha1 ha2)
  have hA : InAt 103 (w1.alloc (.cells #[.string ⟨m'.t.toArray⟩, .int .i64 m'.nx, .int .i64 m'.bs, .int .i64 m'.cd, .int .i64 m'.pl] 103)) w1.heap.size m' := at_a0 _ _ _
  have HX0 := Lib.hid hA
  have HA3 := Lib.hid (HA2.out.alloc (.cells #[.string ⟨m'.t.toArray⟩, .int .i64 m'.nx, .int .i64 m'.bs, .int .i64 m'.cd, .int .i64 m'.pl] 103))
  have HB2 := Lib.hid (HB1.out.alloc HB1.out.size (.cells #[.string ⟨m'.t.toArray⟩, .int .i64 m'.nx, .int .i64 m'.bs, .int .i64 m'.cd, .int .i64 m'.pl] 103))
  have hne : w1.heap.size ≠ w.heap.size + 1 := by have := HA2.out.lt; omega
  clear hA hb1
  go_loop [7, 8] (fun s i => ∃ (j x : Nat), j ≤ l.length ∧ i = .int .i64 j ∧ s = .int .i64 x ∧ Hid (x = num7 (l.take j) ∧ Low7 (l.take j))) (fun _ i => l.length - (intOf i).toNat)
  case atStart => exact ⟨0, 0, Nat.zero_le _, rfl, rfl, Lib.hid ⟨by simp [num7], by simp [Low7]⟩⟩
  case round =>
    obtain ⟨j, x, hj, rfl, rfl, HX⟩ := hrel
    by_cases hlt : j < l.length
    · have hx : x ≤ 2097151 := by rw [HX.out.1]; exact num7_bound _ HX.out.2 (by rw [List.length_take]; omega)
      have hc := byte_le l[j]
      have HL7 := Lib.hid HX.out.2
      by_cases hhi : (128 : Int) ≤ (l[j].toNat : Int)
      · go_wp2_with (go_at_call 101; refine (rfail_any m' _ _ _).mono ?_; rintro e w3 ⟨rfl, hb3⟩; obtain ⟨⟨d0, d1, d2, d3, d4⟩, g0, g1, g2, g3, g4⟩ := (HA3.out.below hb3).all)
        have e1 : l.findIdx? hi = some j := findIdx_at l j hlt HL7.out (by unfold hi; exact decide_eq_true (by omega))
        have HS' := HS.out
        simp only [e1] at HS'
        rw [HS']
        have HB3 := Lib.hid (nextB HB2.out hb3)
        exact end_cell_tmp rfl rfl rfl (store5 (HA3.out.below hb3) rfl) Try.underlying103 rfl info_ref01In ⟨rfl, by repeat (first | with_reducible refine Below.setCell ?_ (by simp) _ | with_reducible exact HB3.out)⟩
      · have hl7 : hi l[j] = false := by simp [hi]; omega
        go_wp2
        go_round
        case rel => exact ⟨j + 1, x * 128 + l[j].toNat, by omega, by go_num, by go_num, Lib.hid ⟨by rw [num7_take l j hlt, HX.out.1], low7_take l j hlt HX.out.2 hl7⟩⟩
        case measure => simp [intOf]; omega
    · have e0 : l.take j = l := List.take_of_length_le (by omega)
      have HX' := HX.out
      rw [e0] at HX'
      have e1 : l.findIdx? hi = none := by rw [List.findIdx?_eq_none_iff]; exact HX'.2
      have HS' := HS.out
      simp only [e1] at HS'
      subst HS'
      have HX2 := Lib.hid HX'.1
      clear HX' e0 e1
      obtain ⟨⟨d0, d1, d2, d3, d4⟩, g0, g1, g2, g3, g4⟩ := HA3.out.all
      go_wp2
      exact end_cell_tmp rfl rfl rfl (store5 HA3.out rfl) Try.underlying103 rfl info_ref01In ⟨by rw [← HX2.out]; rfl, by repeat (first | with_reducible refine Below.setCell ?_ (by simp) _ | with_reducible exact HB2.out)⟩

def RWant (m : Rd) (s : List UInt8) (w : World) (e : Ending) (w' : World) : Prop := e = .returned (.tuple #[rdV (m.want s).1, .bool (m.want s).2]) ∧ Below w.heap.size w w'

set_option maxHeartbeats 400000 in
set_option maxRecDepth 100000 in
theorem rwant_no (m : Rd) (s : List UInt8) (w : World) (hc : ¬ m.cd = 0) : Calls Try.prog 71 #[rdV m, .string ⟨s.toArray⟩] w (RWant m s w) := by
  have e0 : m.want s = (m, false) := if_neg hc
  have hz : (m.cd != 0) = true := by simpa using hc
  unfold RWant
  rw [e0]
  clear e0 hc
  go_enter Try.func71, Try.ntmps71
  go_wp2
  exact end_cell_tmp rfl rfl rfl (at_a2 _ _ _ _) Try.underlying103 rfl info_ref01In ⟨rfl, ((Below.refl _ _).alloc (Nat.le_refl _) _).alloc (by simp) _⟩

/-- a world in which the boxes of a function that takes and gives a reader by value lie -/
def Boxed (w : World) (m : Rd) (wr : World) : Prop := InAt 103 wr w.heap.size m ∧ InAt 103 wr (w.heap.size + 1) Rd.zero ∧ Below w.heap.size w wr
theorem boxed_start (w : World) (m : Rd) : Boxed w m ((w.alloc (.cells #[.string ⟨m.t.toArray⟩, .int .i64 m.nx, .int .i64 m.bs, .int .i64 m.cd, .int .i64 m.pl] 103)).alloc (.cells #[.string ⟨#[]⟩, .int .i64 0, .int .i64 0, .int .i64 0, .int .i64 0] 103)) :=
  ⟨at_a1 _ _ _ _, at_a2 _ _ _ _, ((Below.refl _ _).alloc (Nat.le_refl _) _).alloc (by simp) _⟩
theorem Boxed.drewN {w : World} {m : Rd} {wr : World} (h : Boxed w m wr) (n : Nat) : Boxed w m (wr.drewN n) := ⟨h.1.drewN n, h.2.1.drewN n, below_drewN h.2.2 n⟩
theorem Boxed.below {w : World} {m : Rd} {wr w1 : World} (h : Boxed w m wr) (hb : Below wr.heap.size wr w1) : Boxed w m w1 := ⟨h.1.below hb, h.2.1.below hb, nextB h.2.2 hb⟩

set_option maxHeartbeats 1000000 in
set_option maxRecDepth 100000 in
theorem rwant_yes (m : Rd) (s : List UInt8) (w : World) (hm : m.Ok) (hs : s.length ≤ 1000000000) (hc : m.cd = 0) : Calls Try.prog 71 #[rdV m, .string ⟨s.toArray⟩] w (RWant m s w) := by
  obtain ⟨h0, h3, h1, h2⟩ := hm
  have hz : (m.cd != 0) = false := by simpa using hc
  have HW : Hid (m.want s = match diff s (m.t.drop m.nx) with
    | some i => (m.fail 1 (m.bs + m.nx + i), false)
    | none => if (m.t.drop m.nx).length < s.length then (m.short, false) else ({ m with nx := m.nx + s.length }, true)) := Lib.hid (by unfold Rd.want; rw [if_pos hc]; rfl)
  have hlen : (m.t.drop m.nx).length = m.t.length - m.nx := List.length_drop
  have HLEN := Lib.hid hlen
  have HG : Hid (∀ k, m.nx + k < m.t.length → (m.t.drop m.nx)[k]? = m.t[m.nx + k]?) := Lib.hid (fun k _ => by rw [List.getElem?_drop])
  unfold RWant
  generalize m.want s = mw at *
  generalize m.t.drop m.nx = left at *
  clear hc hlen
  go_enter Try.func71, Try.ntmps71
  go_wp2
  go_loopw [6] (fun i wr => ∃ k : Nat, k ≤ s.length ∧ k ≤ left.length ∧ i = .int .i64 k ∧ Hid (s.take k = left.take k) ∧ Hid (Boxed w m wr)) (fun i _ => s.length - (intOf i).toNat)
  case atStart => exact ⟨0, Nat.zero_le _, Nat.zero_le _, rfl, Lib.hid rfl, Lib.hid (boxed_start w m)⟩
  case round =>
    obtain ⟨k, hk1, hk2, rfl, HT, HN⟩ := hrel
    obtain ⟨⟨c0, c1, c2, c3, c4⟩, f0, f1, f2, f3, f4⟩ := HN.out.1.all
    obtain ⟨⟨d0, d1, d2, d3, d4⟩, g0, g1, g2, g3, g4⟩ := HN.out.2.1.all
    by_cases hlt : k < s.length
    · by_cases hlt2 : k < left.length
      · have hl3 : m.nx + k < m.t.length := by have := HLEN.out; omega
        have a1 : ¬ ((m.t.length : Int) ≤ (m.nx : Int) + k) := by omega
        have a2 : (m.nx : Int) + k < m.t.length := by omega
        have a3 : (k : Int) < s.length := by omega
        have e1 : IntKind.i64.wrap ((m.nx : Int) + k) = (m.nx : Int) + k := IntWalk.i64_in _ (by omega)
        have e2 : ((m.nx : Int) + k).toNat = m.nx + k := by omega
        have e3 : 0 ≤ (m.nx : Int) + k := by omega
        have HE : Hid (left[k] = m.t[m.nx + k]) := Lib.hid (by have := HG.out k hl3; rw [List.getElem?_eq_getElem hlt2, List.getElem?_eq_getElem hl3] at this; exact Option.some.inj this)
        rcases hz2 : ((m.t[m.nx + k].toNat : Int) != (s[k].toNat : Int)) with _ | _
        · have HE2 : Hid (s[k] = left[k]) := Lib.hid (by rw [HE.out]; exact (toNat_eq (by simpa using hz2)).symm)
          go_wp2
          go_quiet (fail)
          go_wp2
          go_roundw
          case rel => exact ⟨k + 1, by omega, by omega, by go_num, Lib.hid (take_same s left k hlt hlt2 HT.out HE2.out), Lib.hid (HN.out.drewN _)⟩
          case measure => simp [intOf]; omega
        · have HE2 : Hid (s[k] ≠ left[k]) := Lib.hid (by rw [HE.out]; intro e; rw [e] at hz2; simp at hz2)
          go_wp2
          go_quiet (fail)
          go_wp2_with (go_at_call 101; refine (rfail_any m _ _ _).mono ?_; rintro e w3 ⟨rfl, hb3⟩; have HN3 := Lib.hid ((HN.out.drewN _).below hb3); obtain ⟨⟨d0, d1, d2, d3, d4⟩, g0, g1, g2, g3, g4⟩ := HN3.out.2.1.all)
          have HW' := HW.out
          rw [diff_at k s left HT.out hlt hlt2 HE2.out] at HW'
          rw [HW']
          have HB3 := Lib.hid HN3.out.2.2
          exact end_cell_tmp rfl rfl rfl (store5 HN3.out.2.1 rfl) Try.underlying103 rfl info_ref01In ⟨rfl, by repeat (first | with_reducible refine Below.setCell ?_ (by simp) _ | with_reducible exact HB3.out)⟩
      · have hl3 : ¬ m.nx + k < m.t.length := by have := HLEN.out; omega
        have a1 : (m.t.length : Int) ≤ (m.nx : Int) + k := by omega
        have a3 : (k : Int) < s.length := by omega
        go_wp2_with (go_at_call 101; refine (rfail_any m _ _ _).mono ?_; rintro e w3 ⟨rfl, hb3⟩; have HN3 := Lib.hid (HN.out.below hb3); obtain ⟨⟨d0, d1, d2, d3, d4⟩, g0, g1, g2, g3, g4⟩ := HN3.out.2.1.all)
        have HW' := HW.out
        rw [diff_none s left k HT.out (.inr (by omega)), if_pos (show left.length < s.length by omega)] at HW'
        rw [HW']
        have HB3 := Lib.hid HN3.out.2.2
        exact end_cell_tmp rfl rfl rfl (store5 HN3.out.2.1 rfl) Try.underlying103 rfl info_ref01In ⟨rfl, by repeat (first | with_reducible refine Below.setCell ?_ (by simp) _ | with_reducible exact HB3.out)⟩
    · have hsum : (m.nx : Int) + s.length ≤ 2000000000 := by omega
      have e9 : rdV { m with nx := m.nx + s.length } = .agg #[.string ⟨m.t.toArray⟩, .int .i64 ((m.nx : Int) + s.length), .int .i64 m.bs, .int .i64 m.cd, .int .i64 m.pl] := by simp [rdV]
      have HW' := HW.out
      rw [diff_none s left k HT.out (.inl (by omega)), if_neg (show ¬ left.length < s.length by have := HLEN.out; omega)] at HW'
      have HW2 := Lib.hid HW'
      have HB3 := Lib.hid HN.out.2.2
      have E9 := Lib.hid e9
      clear e9 HW'
      go_wp2
      refine end_cell_tmp rfl rfl rfl (store5 ((heap_set_other _ (by omega)).trans HN.out.2.1) rfl) Try.underlying103 rfl info_ref01In ⟨by rw [HW2.out, E9.out]; rfl, by repeat (first | with_reducible refine Below.setCell ?_ (by simp) _ | with_reducible exact HB3.out)⟩

theorem rwant_any (m : Rd) (s : List UInt8) (w : World) (hm : m.Ok) (hs : s.length ≤ 1000000000) : Calls Try.prog 71 #[rdV m, .string ⟨s.toArray⟩] w fun e w' => e = .returned (.tuple #[rdV (m.want s).1, .bool (m.want s).2]) ∧ Below w.heap.size w w' := by
  by_cases hc : m.cd = 0
  · exact rwant_yes m s w hm hs hc
  · exact rwant_no m s w hc
end Go.Proofs.Ytmnmonmbdgedbaa
