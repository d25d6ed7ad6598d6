/- The walks of layer 1 (octet), fourth part: Want and Until. -/
import Derived.Test.YtdoheningeafhaaOctLaw
namespace Go.Proofs.Ytdoheningeafhaa
open Go.RowKit

/-- the first place where two texts part -/
def diff : List UInt8 → List UInt8 → Option Nat
  | c :: s, d :: l => if c = d then (diff s l).map (· + 1) else some 0
  | _, _ => none
def Rd.want (m : Rd) (s : List UInt8) : Rd × Bool :=
  if m.cd = 0 then
    match diff s (m.t.drop m.nx) with
    | some i => (m.fail 1 (m.bs + m.nx + i), false)
    | none => if (m.t.drop m.nx).length < s.length then (m.short, false) else ({ m with nx := m.nx + s.length }, true)
  else (m, false)

theorem diff_at : ∀ (k : Nat) (s l : List UInt8), s.take k = l.take k → (h1 : k < s.length) → (h2 : k < l.length) → s[k] ≠ l[k] → diff s l = some k
  | 0, c :: s, d :: l, _, _, _, h => by simp only [List.getElem_cons_zero] at h; simp [diff, h]
  | k + 1, c :: s, d :: l, ht, h1, h2, h => by
    simp only [List.take_succ_cons, List.cons.injEq] at ht
    have := diff_at k s l ht.2 (by simpa using h1) (by simpa using h2) (by simpa using h)
    simp [diff, ht.1, this]
  | _, [], _, _, h1, _, _ => by simp at h1
  | _, _, [], _, _, h2, _ => by simp at h2
theorem diff_none : ∀ (s l : List UInt8) (k : Nat), s.take k = l.take k → (s.length ≤ k ∨ l.length ≤ k) → diff s l = none
  | [], _, _, _, _ => by simp [diff]
  | _ :: _, [], _, _, _ => by simp [diff]
  | c :: s, d :: l, k, ht, h => by
    rcases k with _ | k
    · simp at h
    · simp only [List.take_succ_cons, List.cons.injEq] at ht
      have := diff_none s l k ht.2 (by simpa using h)
      simp [diff, ht.1, this]

theorem take_same (s l : List UInt8) (k : Nat) (h1 : k < s.length) (h2 : k < l.length) (h : s.take k = l.take k) (he : s[k] = l[k]) : s.take (k + 1) = l.take (k + 1) := by
  rw [List.take_succ_eq_append_getElem h1, List.take_succ_eq_append_getElem h2, h, he]

def WantSays (b : Nat) (m : Rd) (s : List UInt8) (w : World) (e : Ending) (w' : World) : Prop := e = .returned (.bool (m.want s).2) ∧ RdAt w' b (m.want s).1 ∧ Only b w w'

set_option maxHeartbeats 1000000 in
set_option maxRecDepth 100000 in
theorem want_yes (b : Nat) (m : Rd) (s : List UInt8) (w : World) (h : RdAt w b m) (hm : m.Ok) (hs : s.length ≤ 1000000000) (hc : m.cd = 0) : Calls Try.prog 85 #[.pointer (some ⟨b, 0, none⟩), .string ⟨s.toArray⟩] w (WantSays b m s w) := by
  obtain ⟨h0, h3, h1, h2⟩ := hm
  have hm : m.Ok := ⟨h0, h3, h1, h2⟩
  have HC := Lib.hid hc
  have HW : Hid (m.want s = match diff s (m.t.drop m.nx) with
    | some i => (m.fail 1 (m.bs + m.nx + i), false)
    | none => if (m.t.drop m.nx).length < s.length then (m.short, false) else ({ m with nx := m.nx + s.length }, true)) := Lib.hid (by unfold Rd.want; rw [if_pos hc])
  obtain ⟨left, hL⟩ : ∃ left, left = m.t.drop m.nx := ⟨_, rfl⟩
  have hleft : (m.t.drop m.nx).take (m.t.length - m.nx) = left := by rw [hL]; exact List.take_of_length_le (by rw [List.length_drop]; exact Nat.le_refl _)
  have hlen : left.length = m.t.length - m.nx := by rw [hL]; exact List.length_drop
  rw [← hL] at HW
  clear hL
  have hl2 : left.length ≤ 1000000000 := by omega
  have HLEN := Lib.hid hlen
  clear hc hlen
  unfold WantSays
  generalize m.want s = mw at *
  have hi1 : (m.nx : Int) ≤ (m.t.length : Int) := by omega
  go_enter Try.func85, Try.ntmps85
  go_wp2_with (first | (go_at_call 119; refine (ready_yes _ _ _ h HC.out).mono ?_; rintro e w1 ⟨rfl, hb1⟩; obtain ⟨c0, c1, c2, c3, c4, f1, f3, f4⟩ := (h.below hb1).cells))
  go_quiet (fail)
  clear hleft c0 c1 c2 c3 c4 f1 f3 f4 hi1
  go_wp2
  go_loopw [6] (fun i wr => ∃ k : Nat, k ≤ s.length ∧ k ≤ left.length ∧ i = .int .i64 k ∧ Hid (s.take k = left.take k) ∧ Hid (RdAt wr b m) ∧ Hid (Below w.heap.size w wr)) (fun i _ => s.length - (intOf i).toNat)
  case atStart => exact ⟨0, Nat.zero_le _, Nat.zero_le _, rfl, Lib.hid rfl, Lib.hid ((h.below hb1).drewN _), Lib.hid (below_drewN hb1 _)⟩
  case round =>
    clear hb1
    obtain ⟨k, hk1, hk2, rfl, HT, HR, HB⟩ := hrel
    obtain ⟨c0, c1, c2, c3, c4, f1, f3, f4⟩ := HR.out.cells
    by_cases hlt : k < s.length
    · by_cases hlt2 : k < left.length
      · have hd2 : decide (k < left.length) = true := by simpa using hlt2
        have a1 : (k : Int) < s.length := by omega
        have a2 : (k : Int) < left.length := by omega
        rcases hz : ((s[k].toNat : Int) != (left[k].toNat : Int)) with _ | _
        · have HE : Hid (s[k] = left[k]) := Lib.hid (toNat_eq (by simpa using hz))
          go_wp2
          go_quiet (fail)
          go_wp2
          go_roundw
          case rel => exact ⟨k + 1, by omega, by omega, by go_num, Lib.hid (take_same s left k hlt hlt2 HT.out HE.out), Lib.hid (HR.out.drewN _), Lib.hid (below_drewN HB.out _)⟩
          case measure => simp [intOf]; omega
        · have HE : Hid (s[k] ≠ left[k]) := Lib.hid (by intro e; rw [e] at hz; simp at hz)
          have hnx : m.nx ≤ 1000000000 := by omega
          go_wp2
          go_quiet (fail)
          go_wp2_with (first | (go_at_call 121; refine (place_any b m _ _ (by exact HR.out.drewN _) hm (by omega) (by omega)).mono ?_; rintro e w3 ⟨rfl, rfl⟩) | (go_at_call 94; refine (fail_any b m _ _ _ (by exact HR.out.drewN _)).mono ?_; rintro e w4 ⟨rfl, hr4, ho4⟩))
          go_ret
          have HW' := HW.out
          rw [diff_at k s left HT.out hlt hlt2 HE.out] at HW'
          have e2 : m.bs + ((m.nx : Int) + k) = m.bs + m.nx + k := by omega
          rw [e2] at hr4
          rw [HW']
          exact ⟨rfl, hr4, ((Only.of_below HB.out).drewN _).trans ho4⟩
      · have hd2 : decide (k < left.length) = false := by simpa using hlt2
        have a3 : (left.length : Int) < s.length := by omega
        go_wp2_with (go_at_call 120; refine (short_any b m _ HR.out hm).mono ?_; rintro e w4 ⟨rfl, hr4, ho4⟩)
        go_ret
        have HW' := HW.out
        rw [diff_none s left k HT.out (.inr (by omega)), if_pos (show left.length < s.length by omega)] at HW'
        rw [HW']
        exact ⟨rfl, hr4, (Only.of_below HB.out).trans ho4⟩
    · have a3 : ¬ (left.length : Int) < s.length := by omega
      have hsum : (m.nx : Int) + s.length ≤ 2000000000 := by omega
      go_wp2
      go_ret
      have HW' := HW.out
      rw [diff_none s left k HT.out (.inl (by omega)), if_neg (show ¬ left.length < s.length by omega)] at HW'
      rw [HW']
      exact ⟨rfl, HR.out.set1 (m.nx + s.length), (Only.of_below HB.out).trans (Only.set _)⟩

set_option maxRecDepth 100000 in
theorem want_no (b : Nat) (m : Rd) (s : List UInt8) (w : World) (h : RdAt w b m) (hc : ¬ m.cd = 0) : Calls Try.prog 85 #[.pointer (some ⟨b, 0, none⟩), .string ⟨s.toArray⟩] w (WantSays b m s w) := by
  have e0 : m.want s = (m, false) := if_neg hc
  unfold WantSays
  rw [e0]
  have HC := Lib.hid hc
  clear hc e0
  go_enter Try.func85, Try.ntmps85
  go_wp2_with (go_at_call 119; refine (ready_no _ _ _ h HC.out).mono ?_; rintro e w1 ⟨rfl, hb1⟩)
  go_ret
  exact ⟨rfl, h.below hb1, Only.of_below hb1⟩

theorem want_any (b : Nat) (m : Rd) (s : List UInt8) (w : World) (h : RdAt w b m) (hm : m.Ok) (hs : s.length ≤ 1000000000) : Calls Try.prog 85 #[.pointer (some ⟨b, 0, none⟩), .string ⟨s.toArray⟩] w fun e w' => e = .returned (.bool (m.want s).2) ∧ RdAt w' b (m.want s).1 ∧ Only b w w' := by
  by_cases hc : m.cd = 0
  · exact want_yes b m s w h hm hs hc
  · exact want_no b m s w h hc

/-! ### Until -/
def findEnd (t e : List UInt8) (step : Nat) : Nat → Nat → Option Nat
  | 0, _ => none
  | f + 1, p => if p + e.length ≤ t.length then if (t.drop p).take e.length == e then some p else findEnd t e step f (p + step) else none
def Rd.until (m : Rd) (e : List UInt8) : Rd × List UInt8 :=
  if m.cd = 0 then
    match findEnd m.t e (max e.length 1) (m.t.length + 1) m.nx with
    | some p => ({ m with nx := p + e.length }, (m.t.drop m.nx).take (p - m.nx))
    | none => (m.short, [])
  else (m, [])
theorem findEnd_out (t e : List UInt8) (step f p : Nat) (h : t.length < p + e.length) : findEnd t e step f p = none := by
  cases f with
  | zero => rfl
  | succ f => simp only [findEnd]; rw [if_neg (by omega)]
theorem findEnd_hit (t e : List UInt8) (step f p : Nat) (h : p + e.length ≤ t.length) (hf : t.length + 1 ≤ p + f) (he : ((t.drop p).take e.length == e) = true) : findEnd t e step f p = some p := by
  cases f with
  | zero => omega
  | succ f => simp only [findEnd]; rw [if_pos h, if_pos he]
theorem findEnd_on (t e : List UInt8) (step f p : Nat) (h : p + e.length ≤ t.length) (hf : t.length + 1 ≤ p + f) (he : ((t.drop p).take e.length == e) = false) : ∃ f', f = f' + 1 ∧ findEnd t e step f p = findEnd t e step f' (p + step) := by
  cases f with
  | zero => omega
  | succ f => exact ⟨f, rfl, by simp only [findEnd]; rw [if_pos h, he]; rfl⟩

def UntilSays (b : Nat) (m : Rd) (s : List UInt8) (w : World) (e : Ending) (w' : World) : Prop := e = .returned (.string ⟨(m.until s).2.toArray⟩) ∧ RdAt w' b (m.until s).1 ∧ Only b w w'

end Go.Proofs.Ytdoheningeafhaa
