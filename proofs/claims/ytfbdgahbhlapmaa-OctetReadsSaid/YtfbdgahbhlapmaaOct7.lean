/- The walks of layer 1 (octet), seventh part: the document's Until; what the law's do does. -/
import Derived.Test.YtfbdgahbhlapmaaOct6
namespace Go.Proofs.Ytfbdgahbhlapmaa
open Go.RowKit

def RUntil (m : Rd) (s : List UInt8) (w : World) (e : Ending) (w' : World) : Prop := e = .returned (.tuple #[rdV (m.until s).1, .string ⟨(m.until s).2.toArray⟩]) ∧ Below w.heap.size w w'

set_option maxHeartbeats 400000 in
set_option maxRecDepth 100000 in
theorem runtil_no (m : Rd) (s : List UInt8) (w : World) (hc : ¬ m.cd = 0) : Calls Try.prog 69 #[rdV m, .string ⟨s.toArray⟩] w (RUntil m s w) := by
  have e0 : m.until s = (m, []) := if_neg hc
  have hz : (m.cd != 0) = true := by simpa using hc
  unfold RUntil
  rw [e0]
  clear e0 hc
  go_enter Try.func69, Try.ntmps69
  go_wp2
  exact end_cell_tmp rfl rfl rfl (at_a2 _ _ _ _) Try.underlying58 rfl info_ref01In ⟨rfl, ((Below.refl _ _).alloc (Nat.le_refl _) _).alloc (by simp) _⟩

set_option maxHeartbeats 1000000 in
set_option maxRecDepth 100000 in
theorem runtil_yes (m : Rd) (s : List UInt8) (st : Nat) (w : World) (hm : m.Ok) (hs : s.length ≤ 1000000000) (hst : Hid (st = max s.length 1)) (hc : m.cd = 0) : Calls Try.prog 69 #[rdV m, .string ⟨s.toArray⟩] w (RUntil m s w) := by
  obtain ⟨h0, h3, h1, h2⟩ := hm
  have hz : (m.cd != 0) = false := by simpa using hc
  have HW : Hid (m.until s = match findEnd m.t s st (m.t.length + 1) m.nx with
    | some p => ({ m with nx := p + s.length }, (m.t.drop m.nx).take (p - m.nx))
    | none => (m.short, [])) := Lib.hid (by unfold Rd.until; rw [if_pos hc, hst.out]; rfl)
  have hst1 : 1 ≤ st := by have := hst.out; omega
  have hst2 : st ≤ 1000000000 := by have := hst.out; omega
  have hst3 : s.length ≤ st := by have := hst.out; omega
  have HF0 : Hid (∀ w, Calls Try.prog 70 #[rdV m, .int .i64 1, .int .i64 (m.bs + m.t.length)] w fun e w' => e = .returned (rdV m.short) ∧ Below w.heap.size w w') := Lib.hid (fun w => rfail_any m 1 (m.bs + m.t.length) w)
  unfold RUntil
  generalize m.until s = mw at *
  generalize m.short = ms at *
  clear hc
  rcases hs0 : ((s.length : Int) == 0) with _ | _
  · have hs1 : ¬ s.length = 0 := by intro e; rw [e] at hs0; simp at hs0
    obtain rfl : st = s.length := by have := hst.out; omega
    clear hst hs1
    go_enter Try.func69, Try.ntmps69
    go_wp2
    go_loopw [7] (fun i wr => ∃ p : Nat, m.nx ≤ p ∧ p ≤ m.t.length + s.length ∧ i = .int .i64 p ∧ Hid (∃ f, m.t.length + 1 ≤ p + f ∧ findEnd m.t s s.length (m.t.length + 1) m.nx = findEnd m.t s s.length f p) ∧ Hid (Boxed w m wr)) (fun i _ => m.t.length + 1 - (intOf i).toNat)
    case atStart => exact ⟨m.nx, Nat.le_refl _, by omega, rfl, Lib.hid ⟨m.t.length + 1, by omega, rfl⟩, Lib.hid (boxed_start w m)⟩
    case round =>
      obtain ⟨p, hp1, hp2, rfl, HF, HN⟩ := hrel
      obtain ⟨⟨c0, c1, c2, c3, c4⟩, f0, f1, f2, f3, f4⟩ := HN.out.1.all
      obtain ⟨⟨d0, d1, d2, d3, d4⟩, g0, g1, g2, g3, g4⟩ := HN.out.2.1.all
      by_cases hin : p + s.length ≤ m.t.length
      · have a2 : (p : Int) + s.length ≤ m.t.length := by omega
        rcases hz : (List.take s.length (List.drop p m.t) == s) with _ | _
        · go_wp2
          go_roundw
          case rel => exact ⟨p + s.length, by omega, by omega, by go_num, Lib.hid (by obtain ⟨f, hf1, hf2⟩ := HF.out; obtain ⟨f', rfl, hf4⟩ := findEnd_on m.t s s.length f p hin hf1 hz; exact ⟨f', by omega, hf2.trans hf4⟩), HN⟩
          case measure => simp [intOf]; omega
        · have hb : (p : Int) + s.length ≤ 2000000000 := by omega
          have a3 : (m.nx : Int) ≤ p := by omega
          have a4 : (p : Int) ≤ m.t.length := by omega
          have e9 : rdV { m with nx := p + s.length } = .agg #[.string ⟨m.t.toArray⟩, .int .i64 ((p : Int) + s.length), .int .i64 m.bs, .int .i64 m.cd, .int .i64 m.pl] := by simp [rdV]
          have E9 := Lib.hid e9
          clear e9
          go_wp2
          have HW' := HW.out
          obtain ⟨f, hf1, hf2⟩ := HF.out
          rw [hf2, findEnd_hit m.t s s.length f p hin hf1 hz] at HW'
          have HB3 := Lib.hid HN.out.2.2
          refine end_cell_tmp rfl rfl rfl (store5 ((heap_set_other _ (by omega)).trans HN.out.2.1) rfl) Try.underlying58 rfl info_ref01In ⟨by rw [HW', E9.out]; rfl, by repeat (first | with_reducible refine Below.setCell ?_ (by simp) _ | with_reducible exact HB3.out)⟩
      · have a1 : ¬ (p : Int) + s.length ≤ (m.t.length : Int) := by omega
        go_wp2_with (go_at_call 70; refine (HF0.out _).mono ?_; rintro e w3 ⟨rfl, hb3⟩; have HN3 := Lib.hid (HN.out.below hb3); obtain ⟨⟨d0, d1, d2, d3, d4⟩, g0, g1, g2, g3, g4⟩ := HN3.out.2.1.all)
        have HW' := HW.out
        obtain ⟨f, hf1, hf2⟩ := HF.out
        rw [hf2, findEnd_out m.t s s.length f p (by omega)] at HW'
        rw [HW']
        have HB3 := Lib.hid HN3.out.2.2
        exact end_cell_tmp rfl rfl rfl (store5 HN3.out.2.1 rfl) Try.underlying58 rfl info_ref01In ⟨rfl, by repeat (first | with_reducible refine Below.setCell ?_ (by simp) _ | with_reducible exact HB3.out)⟩
  · have hs1 : s.length = 0 := by have := beq_iff_eq.1 hs0; omega
    obtain rfl : st = 1 := by have := hst.out; omega
    clear hst hs1
    go_enter Try.func69, Try.ntmps69
    go_wp2
    go_loopw [7] (fun i wr => ∃ p : Nat, m.nx ≤ p ∧ p ≤ m.t.length + 1 ∧ i = .int .i64 p ∧ Hid (∃ f, m.t.length + 1 ≤ p + f ∧ findEnd m.t s 1 (m.t.length + 1) m.nx = findEnd m.t s 1 f p) ∧ Hid (Boxed w m wr)) (fun i _ => m.t.length + 1 - (intOf i).toNat)
    case atStart => exact ⟨m.nx, Nat.le_refl _, by omega, rfl, Lib.hid ⟨m.t.length + 1, by omega, rfl⟩, Lib.hid (boxed_start w m)⟩
    case round =>
      obtain ⟨p, hp1, hp2, rfl, HF, HN⟩ := hrel
      obtain ⟨⟨c0, c1, c2, c3, c4⟩, f0, f1, f2, f3, f4⟩ := HN.out.1.all
      obtain ⟨⟨d0, d1, d2, d3, d4⟩, g0, g1, g2, g3, g4⟩ := HN.out.2.1.all
      by_cases hin : p + s.length ≤ m.t.length
      · have a2 : (p : Int) + s.length ≤ m.t.length := by omega
        rcases hz : (List.take s.length (List.drop p m.t) == s) with _ | _
        · go_wp2
          go_roundw
          case rel => exact ⟨p + 1, by omega, by omega, by go_num, Lib.hid (by obtain ⟨f, hf1, hf2⟩ := HF.out; obtain ⟨f', rfl, hf4⟩ := findEnd_on m.t s 1 f p hin hf1 hz; exact ⟨f', by omega, hf2.trans hf4⟩), HN⟩
          case measure => simp [intOf]; omega
        · have hb : (p : Int) + s.length ≤ 2000000000 := by omega
          have a3 : (m.nx : Int) ≤ p := by omega
          have a4 : (p : Int) ≤ m.t.length := by omega
          have e9 : rdV { m with nx := p + s.length } = .agg #[.string ⟨m.t.toArray⟩, .int .i64 ((p : Int) + s.length), .int .i64 m.bs, .int .i64 m.cd, .int .i64 m.pl] := by simp [rdV]
          have E9 := Lib.hid e9
          clear e9
          go_wp2
          have HW' := HW.out
          obtain ⟨f, hf1, hf2⟩ := HF.out
          rw [hf2, findEnd_hit m.t s 1 f p hin hf1 hz] at HW'
          have HB3 := Lib.hid HN.out.2.2
          refine end_cell_tmp rfl rfl rfl (store5 ((heap_set_other _ (by omega)).trans HN.out.2.1) rfl) Try.underlying58 rfl info_ref01In ⟨by rw [HW', E9.out]; rfl, by repeat (first | with_reducible refine Below.setCell ?_ (by simp) _ | with_reducible exact HB3.out)⟩
      · have a1 : ¬ (p : Int) + s.length ≤ (m.t.length : Int) := by omega
        go_wp2_with (go_at_call 70; refine (HF0.out _).mono ?_; rintro e w3 ⟨rfl, hb3⟩; have HN3 := Lib.hid (HN.out.below hb3); obtain ⟨⟨d0, d1, d2, d3, d4⟩, g0, g1, g2, g3, g4⟩ := HN3.out.2.1.all)
        have HW' := HW.out
        obtain ⟨f, hf1, hf2⟩ := HF.out
        rw [hf2, findEnd_out m.t s 1 f p (by omega)] at HW'
        rw [HW']
        have HB3 := Lib.hid HN3.out.2.2
        exact end_cell_tmp rfl rfl rfl (store5 HN3.out.2.1 rfl) Try.underlying58 rfl info_ref01In ⟨rfl, by repeat (first | with_reducible refine Below.setCell ?_ (by simp) _ | with_reducible exact HB3.out)⟩

theorem runtil_any (m : Rd) (s : List UInt8) (w : World) (hm : m.Ok) (hs : s.length ≤ 1000000000) : Calls Try.prog 69 #[rdV m, .string ⟨s.toArray⟩] w fun e w' => e = .returned (.tuple #[rdV (m.until s).1, .string ⟨(m.until s).2.toArray⟩]) ∧ Below w.heap.size w w' := by
  by_cases hc : m.cd = 0
  · exact runtil_yes m s _ w hm hs (Lib.hid rfl) hc
  · exact runtil_no m s w hc
end Go.Proofs.Ytfbdgahbhlapmaa
