/- The walks of the statements of layer 1 (octet) on numbers. | The walks of layer 1 (octet), fourth part: Want and Until. | A reader that stands at a known text: what its steps come to (plain, no program). -/
import Derived.Test.YtndpcphmndfajaaGreatDoorZOct1
import Derived.OpenShut

namespace Go.Proofs.YtndpcphmndfajaaGreatDoor
open Go.RowKit

theorem safeL_eq (n : Nat) : safeL n = [UInt8.ofNat (n / 2097152 % 128), UInt8.ofNat (n / 16384 % 128), UInt8.ofNat (n / 128 % 128), UInt8.ofNat (n % 128)] := by
  simp [safeL, safeS, Nat.div_div_eq_div_mul]
theorem safeL_len (n : Nat) : (safeL n).length = 4 := by rw [safeL_eq]; rfl
theorem lo_mod (x : Nat) : (UInt8.ofNat (x % 128)).toNat = x % 128 := by rw [UInt8.toNat_ofNat']; omega
theorem hi_mod (x : Nat) : hi (UInt8.ofNat (x % 128)) = false := by unfold hi; rw [lo_mod]; simp; omega
theorem safeL_low (n : Nat) : Low7 (safeL n) := by
  rw [safeL_eq]
  intro c hc
  simp only [List.mem_cons, List.not_mem_nil, or_false] at hc
  rcases hc with rfl | rfl | rfl | rfl <;> exact hi_mod _
theorem num7_safeL (n : Nat) (h : n ≤ 268435455) : num7 (safeL n) = n := by
  rw [safeL_eq]
  simp only [num7, List.foldl_cons, List.foldl_nil, lo_mod]
  omega
theorem new_ok (l : List UInt8) (b : Int) (h : l.length ≤ 1000000000) (hb : b ≤ 3000000000000) : (Rd.new l b).Ok := by
  refine ⟨Nat.zero_le _, h, ?_, ?_⟩
  · show 0 ≤ max b 0
    omega
  · show max b 0 ≤ _
    omega
theorem take_all (m : Rd) (n : Nat) (hc : m.cd = 0) (h : m.nx + n ≤ m.t.length) : m.take n = ({ m with nx := m.nx + n }, (m.t.drop m.nx).take n) := by
  unfold Rd.take
  rw [if_pos hc, if_neg (by omega)]
  simp
theorem safe_back (n : Nat) (h : n ≤ 268435455) : (Rd.new (safeL n) 0).safe = ({ Rd.new (safeL n) 0 with nx := 4 }, (n : Int)) := by
  have e := take_all (Rd.new (safeL n) 0) 4 rfl (by show 0 + 4 ≤ _; rw [show (Rd.new (safeL n) 0).t = safeL n from rfl, safeL_len]; exact Nat.le_refl 4)
  have e2 : ((Rd.new (safeL n) 0).t.drop (Rd.new (safeL n) 0).nx).take 4 = safeL n := by
    show ((safeL n).drop 0).take 4 = _
    rw [List.drop_zero, List.take_of_length_le (by rw [safeL_len]; exact Nat.le_refl _)]
  rw [e2] at e
  have e3 : (safeL n).findIdx? hi = none := by rw [List.findIdx?_eq_none_iff]; exact safeL_low n
  unfold Rd.safe
  rw [show (4 : Int) = ((4 : Nat) : Int) from rfl, e]
  simp only [e3, num7_safeL n h]
  rfl

set_option maxRecDepth 100000 in
theorem safe_no (n : Nat) (w : World) (hn : 268435455 < n) :
    Calls Tryz.prog 131 #[.int .u64 n] w fun e w' => e = .returned (.tuple #[.string ⟨#[]⟩, .bool false]) ∧ w = w' := by
  go_enter Tryz.func131, Tryz.ntmps131
  go_wp2
  go_ret2
  exact ⟨rfl, rfl⟩

set_option maxHeartbeats 1000000 in
set_option maxRecDepth 100000 in
theorem awake01 (w : World) : Calls Tryz.prog 151 #[] w fun e w' => e = .returned (.bool true) ∧ Below w.heap.size w w' := by
  have c1 := fun W => safe_yes 129 W (by decide)
  have e1 : safeL 129 = [0, 0, 1, 1] := by decide
  rw [e1] at c1
  have C1 := Lib.hid c1
  have hm := new_ok [97, 98] 10 (by decide) (by decide)
  have c2 := fun w b h => take_any b (Rd.new [97, 98] 10) 3 w h hm
  have e2 : (Rd.new [97, 98] 10).take 3 = (⟨[97, 98], 0, 10, 1, 12⟩, []) := by
    rfl
  rw [e2] at c2
  have C2 := Lib.hid c2
  have c3 := fun W => big_any 258 2 2 W (Lib.hid (by decide)) (Lib.hid (by decide))
  have e3 : bigL 258 2 = [1, 2] := by decide
  rw [e3] at c3
  have C3 := Lib.hid c3
  clear c1 c2 c3 e1 e2 e3
  go_enter Tryz.func151, Tryz.ntmps151
  go_wp2_with (first | (go_at_call 131; refine (C1.out _).mono ?_; rintro e w1 ⟨rfl, hb1⟩) | (go_at_call 51; refine (inner_any _ _ _).mono ?_; rintro e w2 ⟨rfl, hr2, hb2⟩) | (go_at_call 49; refine (C2.out _ _ hr2).mono ?_; rintro e w3 ⟨rfl, hr3, ho3⟩) | (go_at_call 65; refine (C3.out _).mono ?_; rintro e w4 ⟨rfl, hb4⟩) | (go_at_call 45; refine (fault_any _ _ _ (hr3.below hb4)).mono ?_; rintro e w5 ⟨rfl, hb5⟩))
  go_ret
  refine ⟨rfl, nextB (nextB ?_ hb4) hb5⟩
  exact (nextB hb1 hb2).trans (ho3.below hb1.size (Nat.le_trans hb1.size hb2.size))

/-! ### OctetNumbers -/
theorem pow_step (k : Nat) : (256 : Nat) ^ (k + 1) = 256 ^ k * 256 := Nat.pow_succ 256 k
theorem numL_bigL : ∀ (k n : Nat), numL (bigL n k) = n % 256 ^ k
  | 0, n => by simp [bigL, smallL, numL]; omega
  | k + 1, n => by
    have h1 : (UInt8.ofNat n).toNat = n % 256 := UInt8.toNat_ofNat'
    rw [bigL_succ, numL_snoc, numL_bigL k (n / 256), h1, pow_step, Nat.mul_comm (256 ^ k) 256, Nat.mod_mul]
    omega
theorem smallL_len : ∀ (k n : Nat), (smallL n k).length = k
  | 0, _ => rfl
  | k + 1, n => by simp [smallL, smallL_len k]
theorem bigL_len (k n : Nat) : (bigL n k).length = k := by simp [bigL, smallL_len]

end Go.Proofs.YtndpcphmndfajaaGreatDoor

namespace Go.Proofs.YtndpcphmndfajaaGreatDoor
open Go.RowKit

/-- the first place where two texts part -/
def diff : List UInt8 → List UInt8 → Option Nat
  | c :: s, d :: l => if c = d then (diff s l).map (· + 1) else some 0
  | _, _ => none
def Rd.want (m : Rd) (s : List UInt8) : Rd × Bool :=
  if m.cd = 0 then
    match diff s (m.t.drop m.nx) with
    | some i => (m.fail 1 (m.bs + m.nx + i), false)
    | none => if (m.t.drop m.nx).length < s.length then (m.short, false) else ({ m with nx := m.nx + s.length }, true)
  else (m, false)

theorem diff_at : ∀ (k : Nat) (s l : List UInt8), s.take k = l.take k → (h1 : k < s.length) → (h2 : k < l.length) → s[k] ≠ l[k] → diff s l = some k
  | 0, c :: s, d :: l, _, _, _, h => by simp only [List.getElem_cons_zero] at h; simp [diff, h]
  | k + 1, c :: s, d :: l, ht, h1, h2, h => by
    simp only [List.take_succ_cons, List.cons.injEq] at ht
    have := diff_at k s l ht.2 (by simpa using h1) (by simpa using h2) (by simpa using h)
    simp [diff, ht.1, this]
  | _, [], _, _, h1, _, _ => by simp at h1
  | _, _, [], _, _, h2, _ => by simp at h2
theorem diff_none : ∀ (s l : List UInt8) (k : Nat), s.take k = l.take k → (s.length ≤ k ∨ l.length ≤ k) → diff s l = none
  | [], _, _, _, _ => by simp [diff]
  | _ :: _, [], _, _, _ => by simp [diff]
  | c :: s, d :: l, k, ht, h => by
    rcases k with _ | k
    · simp at h
    · simp only [List.take_succ_cons, List.cons.injEq] at ht
      have := diff_none s l k ht.2 (by simpa using h)
      simp [diff, ht.1, this]

theorem take_same (s l : List UInt8) (k : Nat) (h1 : k < s.length) (h2 : k < l.length) (h : s.take k = l.take k) (he : s[k] = l[k]) : s.take (k + 1) = l.take (k + 1) := by
  rw [List.take_succ_eq_append_getElem h1, List.take_succ_eq_append_getElem h2, h, he]

def WantSays (b : Nat) (m : Rd) (s : List UInt8) (w : World) (e : Ending) (w' : World) : Prop := e = .returned (.bool (m.want s).2) ∧ RdAt w' b (m.want s).1 ∧ Only b w w'

set_option maxHeartbeats 1000000 in
set_option maxRecDepth 100000 in
theorem want_yes (b : Nat) (m : Rd) (s : List UInt8) (w : World) (h : RdAt w b m) (hm : m.Ok) (hs : s.length ≤ 1000000000) (hc : m.cd = 0) : Calls Tryz.prog 43 #[.pointer (some ⟨b, 0, none⟩), .string ⟨s.toArray⟩] w (WantSays b m s w) := by
  obtain ⟨h0, h3, h1, h2⟩ := hm
  have hm : m.Ok := ⟨h0, h3, h1, h2⟩
  have HC := Lib.hid hc
  have HW : Hid (m.want s = match diff s (m.t.drop m.nx) with
    | some i => (m.fail 1 (m.bs + m.nx + i), false)
    | none => if (m.t.drop m.nx).length < s.length then (m.short, false) else ({ m with nx := m.nx + s.length }, true)) := Lib.hid (by unfold Rd.want; rw [if_pos hc])
  obtain ⟨left, hL⟩ : ∃ left, left = m.t.drop m.nx := ⟨_, rfl⟩
  have hleft : (m.t.drop m.nx).take (m.t.length - m.nx) = left := by rw [hL]; exact List.take_of_length_le (by rw [List.length_drop]; exact Nat.le_refl _)
  have hlen : left.length = m.t.length - m.nx := by rw [hL]; exact List.length_drop
  rw [← hL] at HW
  clear hL
  have hl2 : left.length ≤ 1000000000 := by omega
  have HLEN := Lib.hid hlen
  clear hc hlen
  unfold WantSays
  generalize m.want s = mw at *
  have hi1 : (m.nx : Int) ≤ (m.t.length : Int) := by omega
  go_enter Tryz.func43, Tryz.ntmps43
  go_wp2_with (first | (go_at_call 106; refine (ready_yes _ _ _ h HC.out).mono ?_; rintro e w1 ⟨rfl, hb1⟩; obtain ⟨c0, c1, c2, c3, c4, f1, f3, f4⟩ := (h.below hb1).cells))
  go_quiet (fail)
  clear hleft c0 c1 c2 c3 c4 f1 f3 f4 hi1
  go_wp2
  go_loopw [6] (fun i wr => ∃ k : Nat, k ≤ s.length ∧ k ≤ left.length ∧ i = .int .i64 k ∧ Hid (s.take k = left.take k) ∧ Hid (RdAt wr b m) ∧ Hid (Below w.heap.size w wr)) (fun i _ => s.length - (intOf i).toNat)
  case atStart => exact ⟨0, Nat.zero_le _, Nat.zero_le _, rfl, Lib.hid rfl, Lib.hid ((h.below hb1).drewN _), Lib.hid (below_drewN hb1 _)⟩
  case round =>
    clear hb1
    obtain ⟨k, hk1, hk2, rfl, HT, HR, HB⟩ := hrel
    obtain ⟨c0, c1, c2, c3, c4, f1, f3, f4⟩ := HR.out.cells
    by_cases hlt : k < s.length
    · by_cases hlt2 : k < left.length
      · have hd2 : decide (k < left.length) = true := by simpa using hlt2
        have a1 : (k : Int) < s.length := by omega
        have a2 : (k : Int) < left.length := by omega
        rcases hz : ((s[k].toNat : Int) != (left[k].toNat : Int)) with _ | _
        · have HE : Hid (s[k] = left[k]) := Lib.hid (toNat_eq (by simpa using hz))
          go_wp2
          go_quiet (fail)
          go_wp2
          go_roundw
          case rel => exact ⟨k + 1, by omega, by omega, by go_num, Lib.hid (take_same s left k hlt hlt2 HT.out HE.out), Lib.hid (HR.out.drewN _), Lib.hid (below_drewN HB.out _)⟩
          case measure => simp [intOf]; omega
        · have HE : Hid (s[k] ≠ left[k]) := Lib.hid (by intro e; rw [e] at hz; simp at hz)
          have hnx : m.nx ≤ 1000000000 := by omega
          go_wp2
          go_quiet (fail)
          go_wp2_with (first | (go_at_call 107; refine (place_any b m _ _ (by exact HR.out.drewN _) hm (by omega) (by omega)).mono ?_; rintro e w3 ⟨rfl, rfl⟩) | (go_at_call 102; refine (fail_any b m _ _ _ (by exact HR.out.drewN _)).mono ?_; rintro e w4 ⟨rfl, hr4, ho4⟩))
          go_ret
          have HW' := HW.out
          rw [diff_at k s left HT.out hlt hlt2 HE.out] at HW'
          have e2 : m.bs + ((m.nx : Int) + k) = m.bs + m.nx + k := by omega
          rw [e2] at hr4
          rw [HW']
          exact ⟨rfl, hr4, ((Only.of_below HB.out).drewN _).trans ho4⟩
      · have hd2 : decide (k < left.length) = false := by simpa using hlt2
        have a3 : (left.length : Int) < s.length := by omega
        go_wp2_with (go_at_call 108; refine (short_any b m _ HR.out hm).mono ?_; rintro e w4 ⟨rfl, hr4, ho4⟩)
        go_ret
        have HW' := HW.out
        rw [diff_none s left k HT.out (.inr (by omega)), if_pos (show left.length < s.length by omega)] at HW'
        rw [HW']
        exact ⟨rfl, hr4, (Only.of_below HB.out).trans ho4⟩
    · have a3 : ¬ (left.length : Int) < s.length := by omega
      have hsum : (m.nx : Int) + s.length ≤ 2000000000 := by omega
      go_wp2
      go_ret
      have HW' := HW.out
      rw [diff_none s left k HT.out (.inl (by omega)), if_neg (show ¬ left.length < s.length by omega)] at HW'
      rw [HW']
      exact ⟨rfl, HR.out.set1 (m.nx + s.length), (Only.of_below HB.out).trans (Only.set _)⟩

set_option maxRecDepth 100000 in
theorem want_no (b : Nat) (m : Rd) (s : List UInt8) (w : World) (h : RdAt w b m) (hc : ¬ m.cd = 0) : Calls Tryz.prog 43 #[.pointer (some ⟨b, 0, none⟩), .string ⟨s.toArray⟩] w (WantSays b m s w) := by
  have e0 : m.want s = (m, false) := if_neg hc
  unfold WantSays
  rw [e0]
  have HC := Lib.hid hc
  clear hc e0
  go_enter Tryz.func43, Tryz.ntmps43
  go_wp2_with (go_at_call 106; refine (ready_no _ _ _ h HC.out).mono ?_; rintro e w1 ⟨rfl, hb1⟩)
  go_ret
  exact ⟨rfl, h.below hb1, Only.of_below hb1⟩

theorem want_any (b : Nat) (m : Rd) (s : List UInt8) (w : World) (h : RdAt w b m) (hm : m.Ok) (hs : s.length ≤ 1000000000) : Calls Tryz.prog 43 #[.pointer (some ⟨b, 0, none⟩), .string ⟨s.toArray⟩] w fun e w' => e = .returned (.bool (m.want s).2) ∧ RdAt w' b (m.want s).1 ∧ Only b w w' := by
  by_cases hc : m.cd = 0
  · exact want_yes b m s w h hm hs hc
  · exact want_no b m s w h hc

/-! ### Until -/
def findEnd (t e : List UInt8) (step : Nat) : Nat → Nat → Option Nat
  | 0, _ => none
  | f + 1, p => if p + e.length ≤ t.length then if (t.drop p).take e.length == e then some p else findEnd t e step f (p + step) else none
def Rd.until (m : Rd) (e : List UInt8) : Rd × List UInt8 :=
  if m.cd = 0 then
    match findEnd m.t e (max e.length 1) (m.t.length + 1) m.nx with
    | some p => ({ m with nx := p + e.length }, (m.t.drop m.nx).take (p - m.nx))
    | none => (m.short, [])
  else (m, [])
theorem findEnd_out (t e : List UInt8) (step f p : Nat) (h : t.length < p + e.length) : findEnd t e step f p = none := by
  cases f with
  | zero => rfl
  | succ f => simp only [findEnd]; rw [if_neg (by omega)]
theorem findEnd_hit (t e : List UInt8) (step f p : Nat) (h : p + e.length ≤ t.length) (hf : t.length + 1 ≤ p + f) (he : ((t.drop p).take e.length == e) = true) : findEnd t e step f p = some p := by
  cases f with
  | zero => omega
  | succ f => simp only [findEnd]; rw [if_pos h, if_pos he]
theorem findEnd_on (t e : List UInt8) (step f p : Nat) (h : p + e.length ≤ t.length) (hf : t.length + 1 ≤ p + f) (he : ((t.drop p).take e.length == e) = false) : ∃ f', f = f' + 1 ∧ findEnd t e step f p = findEnd t e step f' (p + step) := by
  cases f with
  | zero => omega
  | succ f => exact ⟨f, rfl, by simp only [findEnd]; rw [if_pos h, he]; rfl⟩

def UntilSays (b : Nat) (m : Rd) (s : List UInt8) (w : World) (e : Ending) (w' : World) : Prop := e = .returned (.string ⟨(m.until s).2.toArray⟩) ∧ RdAt w' b (m.until s).1 ∧ Only b w w'

set_option maxHeartbeats 1000000 in
set_option maxRecDepth 100000 in
theorem until_yes (b : Nat) (m : Rd) (s : List UInt8) (st : Nat) (w : World) (h : RdAt w b m) (hm : m.Ok) (hs : s.length ≤ 1000000000) (hst : Hid (st = max s.length 1)) (hc : m.cd = 0) : Calls Tryz.prog 188 #[.pointer (some ⟨b, 0, none⟩), .string ⟨s.toArray⟩] w (UntilSays b m s w) := by
  obtain ⟨h0, h3, h1, h2⟩ := hm
  have hm : m.Ok := ⟨h0, h3, h1, h2⟩
  have HC := Lib.hid hc
  have HW : Hid (m.until s = match findEnd m.t s st (m.t.length + 1) m.nx with
    | some p => ({ m with nx := p + s.length }, (m.t.drop m.nx).take (p - m.nx))
    | none => (m.short, [])) := Lib.hid (by unfold Rd.until; rw [if_pos hc, hst.out])
  have hst1 : 1 ≤ st := by have := hst.out; omega
  have hst2 : st ≤ 1000000000 := by have := hst.out; omega
  have hst3 : s.length ≤ st := by have := hst.out; omega
  unfold UntilSays
  generalize m.until s = mw at *
  clear hc
  have hmax : (if (s.length : Int) < 1 then (1 : Int) else (s.length : Int)) = (st : Int) := by have := hst.out; split <;> omega
  go_enter Tryz.func188, Tryz.ntmps188
  go_wp2_with (first | (go_at_call 106; refine (ready_yes _ _ _ h HC.out).mono ?_; rintro e w1 ⟨rfl, hb1⟩; obtain ⟨c0, c1, c2, c3, c4, f1, f3, f4⟩ := (h.below hb1).cells))
  clear hmax
  go_loop [6] (fun i => ∃ p : Nat, m.nx ≤ p ∧ p ≤ m.t.length + st ∧ i = .int .i64 p ∧ Hid (∃ f, m.t.length + 1 ≤ p + f ∧ findEnd m.t s st (m.t.length + 1) m.nx = findEnd m.t s st f p)) (fun i => m.t.length + 1 - (intOf i).toNat)
  case atStart => exact ⟨m.nx, Nat.le_refl _, by omega, rfl, Lib.hid ⟨m.t.length + 1, by omega, rfl⟩⟩
  case round =>
    obtain ⟨p, hp1, hp2, rfl, HF⟩ := hrel
    by_cases hin : p + s.length ≤ m.t.length
    · have a1 : (p : Int) ≤ (m.t.length : Int) - s.length := by omega
      have a2 : (p : Int) + s.length ≤ m.t.length := by omega
      rcases hz : (List.take s.length (List.drop p m.t) == s) with _ | _
      · go_wp2
        go_round
        case rel => exact ⟨p + st, by omega, by omega, by go_num, Lib.hid (by obtain ⟨f, hf1, hf2⟩ := HF.out; obtain ⟨f', rfl, hf4⟩ := findEnd_on m.t s st f p hin hf1 hz; exact ⟨f', by omega, hf2.trans hf4⟩)⟩
        case measure => simp [intOf]; omega
      · have hb : (p : Int) + s.length ≤ 2000000000 := by omega
        have a3 : (m.nx : Int) ≤ p := by omega
        have a4 : (p : Int) ≤ m.t.length := by omega
        go_wp2
        go_quiet (fail)
        go_wp2
        go_ret
        have HW' := HW.out
        obtain ⟨f, hf1, hf2⟩ := HF.out
        rw [hf2, findEnd_hit m.t s st f p hin hf1 hz] at HW'
        rw [HW']
        exact ⟨rfl, ((h.below hb1).drewN _).set1 (p + s.length), ((Only.of_below hb1).drewN _).trans (Only.set _)⟩
    · have a1 : ¬ (p : Int) ≤ (m.t.length : Int) - s.length := by omega
      go_wp2_with (go_at_call 108; refine (short_any b m _ (h.below hb1) hm).mono ?_; rintro e w4 ⟨rfl, hr4, ho4⟩)
      go_ret
      have HW' := HW.out
      obtain ⟨f, hf1, hf2⟩ := HF.out
      rw [hf2, findEnd_out m.t s st f p (by omega)] at HW'
      rw [HW']
      exact ⟨rfl, hr4, (Only.of_below hb1).trans ho4⟩

set_option maxRecDepth 100000 in
theorem until_no (b : Nat) (m : Rd) (s : List UInt8) (w : World) (h : RdAt w b m) (hc : ¬ m.cd = 0) : Calls Tryz.prog 188 #[.pointer (some ⟨b, 0, none⟩), .string ⟨s.toArray⟩] w (UntilSays b m s w) := by
  have e0 : m.until s = (m, []) := if_neg hc
  unfold UntilSays
  rw [e0]
  have HC := Lib.hid hc
  clear hc e0
  go_enter Tryz.func188, Tryz.ntmps188
  go_wp2_with (go_at_call 106; refine (ready_no _ _ _ h HC.out).mono ?_; rintro e w1 ⟨rfl, hb1⟩)
  go_ret
  exact ⟨rfl, h.below hb1, Only.of_below hb1⟩

theorem until_any (b : Nat) (m : Rd) (s : List UInt8) (w : World) (h : RdAt w b m) (hm : m.Ok) (hs : s.length ≤ 1000000000) : Calls Tryz.prog 188 #[.pointer (some ⟨b, 0, none⟩), .string ⟨s.toArray⟩] w fun e w' => e = .returned (.string ⟨(m.until s).2.toArray⟩) ∧ RdAt w' b (m.until s).1 ∧ Only b w w' := by
  by_cases hc : m.cd = 0
  · exact until_yes b m s _ w h hm hs (Lib.hid rfl) hc
  · exact until_no b m s w h hc
end Go.Proofs.YtndpcphmndfajaaGreatDoor

namespace Go.Proofs.YtndpcphmndfajaaGreatDoor
open Go.RowKit
set_option linter.unusedVariables false

/-- the reader m has nothing wrong and r ahead of it -/
def Run (m : Rd) (r : List UInt8) : Prop := m.cd = 0 ∧ m.nx ≤ m.t.length ∧ m.t.drop m.nx = r
/-- the reader m', on the text and the base of m, found the text's end too early -/
def Fell (m m' : Rd) : Prop := m'.cd = 1 ∧ m'.pl = m.bs + m.t.length ∧ m'.t = m.t ∧ m'.bs = m.bs
/-- m' is m, so many bytes on -/
def adv (m : Rd) (k : Nat) : Rd := { m with nx := m.nx + k }
theorem adv_adv (m : Rd) (j k : Nat) : adv (adv m j) k = adv m (j + k) := by simp [adv, Nat.add_assoc]
theorem adv_zero (m : Rd) : adv m 0 = m := rfl
theorem Run.new (t : List UInt8) (b : Int) : Run (Rd.new t b) t := ⟨rfl, Nat.zero_le _, rfl⟩
theorem Run.len {m : Rd} {r : List UInt8} (h : Run m r) : m.nx + r.length = m.t.length := by
  rw [← h.2.2, List.length_drop]; have := h.2.1; omega
theorem Run.adv {m : Rd} {a r : List UInt8} (h : Run m (a ++ r)) : Run (adv m a.length) r := by
  have hl := h.len
  rw [List.length_append] at hl
  refine ⟨h.1, ?_, ?_⟩
  · show m.nx + a.length ≤ m.t.length; omega
  · show m.t.drop (m.nx + a.length) = r
    rw [← List.drop_drop, h.2.2]
    simp
theorem Run.left {m : Rd} {r : List UInt8} (h : Run m r) : m.left = r.length := by
  have := h.len
  unfold Rd.left
  rw [if_pos h.1]
  omega
theorem diff_pre : ∀ (s r : List UInt8), diff s (s ++ r) = none
  | [], r => by simp [diff]
  | c :: s, r => by simp [diff, diff_pre s r]
theorem diff_cut : ∀ (r a : List UInt8), diff (r ++ a) r = none
  | [], a => by cases a <;> rfl
  | c :: r, a => by simp [diff, diff_cut r a]
theorem diff_sound : ∀ (s l : List UInt8), diff s l = none → s.length ≤ l.length → ∃ r, l = s ++ r
  | [], l, _, _ => ⟨l, rfl⟩
  | c :: s, [], _, h => by simp at h
  | c :: s, d :: l, h, hl => by
    by_cases e : c = d
    · subst e
      simp only [diff, if_true] at h
      have h2 : diff s l = none := by
        cases hd : diff s l with
        | none => rfl
        | some x => rw [hd] at h; cases h
      obtain ⟨r, rfl⟩ := diff_sound s l h2 (by simpa using hl)
      exact ⟨r, rfl⟩
    · simp [diff, e] at h
theorem Run.want {m : Rd} {s r : List UInt8} (h : Run m (s ++ r)) : m.want s = (Go.Proofs.YtndpcphmndfajaaGreatDoor.adv m s.length, true) := by
  unfold Rd.want
  rw [if_pos h.1, h.2.2, diff_pre]
  simp only
  rw [if_neg (by simp)]
  rfl
theorem Run.take {m : Rd} {a r : List UInt8} (h : Run m (a ++ r)) : m.take (a.length : Int) = (Go.Proofs.YtndpcphmndfajaaGreatDoor.adv m a.length, a) := by
  have hl := h.len
  rw [List.length_append] at hl
  rw [take_all m a.length h.1 (by omega), h.2.2]
  simp [Go.Proofs.YtndpcphmndfajaaGreatDoor.adv]
theorem Run.take_k {m : Rd} {a r : List UInt8} (k : Int) (h : Run m (a ++ r)) (hk : (a.length : Int) = k) : m.take k = (Go.Proofs.YtndpcphmndfajaaGreatDoor.adv m a.length, a) := by subst hk; exact h.take
theorem short_fell {m : Rd} {r : List UInt8} (h : Run m r) : Fell m m.short := by
  unfold Rd.short
  rw [Rd.fail_yes m 1 _ h.1 (by decide)]
  exact ⟨rfl, rfl, rfl, rfl⟩
theorem Run.take_fell {m : Rd} {r : List UInt8} (k : Int) (h : Run m r) (hk : (r.length : Int) < k) : Fell m (m.take k).1 ∧ (m.take k).2 = [] := by
  have hl := h.len
  unfold Rd.take
  rw [if_pos h.1, if_pos (.inr (by omega))]
  exact ⟨short_fell h, rfl⟩
theorem Run.want_fell {m : Rd} {r a s : List UInt8} (h : Run m r) (hs : s = r ++ a) (ha : 0 < a.length) : Fell m (m.want s).1 := by
  subst hs
  unfold Rd.want
  rw [if_pos h.1, h.2.2, diff_cut]
  simp only
  rw [if_pos (by rw [List.length_append]; omega)]
  exact short_fell h
theorem Fell.take {m m' : Rd} (h : Fell m m') (k : Int) : m'.take k = (m', []) := by
  unfold Rd.take
  rw [if_neg (by rw [h.1]; decide)]
theorem Fell.want {m m' : Rd} (h : Fell m m') (s : List UInt8) : (m'.want s).1 = m' := by
  unfold Rd.want
  rw [if_neg (by rw [h.1]; decide)]
theorem Fell.adv {m m' : Rd} {k : Nat} (h : Fell (adv m k) m') : Fell m m' := h
theorem Fell.cd {m m' : Rd} (h : Fell m m') : m'.cd ≠ 0 := by rw [h.1]; decide
theorem cut_step {r q a s : List UInt8} (h : r ++ q = a ++ s) : (∃ r', r = a ++ r' ∧ r' ++ q = s) ∨ ∃ a', a = r ++ a' ∧ 0 < a'.length := by
  rcases List.append_eq_append_iff.1 h with ⟨a', h1, h2⟩ | ⟨c', h1, h2⟩
  · cases a' with
    | nil => exact .inl ⟨[], by simpa using h1.symm, by simpa using h2⟩
    | cons c a' => exact .inr ⟨_, h1, by simp⟩
  · exact .inl ⟨c', h1, h2.symm⟩
/-- a step that went well -/
theorem take_ok_of {m : Rd} {k : Nat} (hm : m.nx ≤ m.t.length) (h : (m.take (k : Int)).1.cd = 0) : m.cd = 0 ∧ m.nx + k ≤ m.t.length ∧ m.take (k : Int) = (adv m k, (m.t.drop m.nx).take k) := by
  by_cases hc : m.cd = 0
  · by_cases hk : m.nx + k ≤ m.t.length
    · exact ⟨hc, hk, take_all m k hc hk⟩
    · exfalso
      have hr : Run m (m.t.drop m.nx) := ⟨hc, hm, rfl⟩
      have := (hr.take_fell (k : Int) (by rw [List.length_drop]; omega)).1
      rw [this.1] at h
      exact absurd h (by decide)
  · exfalso
    have : m.take (k : Int) = (m, []) := by unfold Rd.take; rw [if_neg hc]
    rw [this] at h
    exact hc h
theorem want_ok_of {m : Rd} {s : List UInt8} (hm : m.nx ≤ m.t.length) (h : (m.want s).1.cd = 0) : m.cd = 0 ∧ m.nx + s.length ≤ m.t.length ∧ (m.want s).1 = adv m s.length ∧ (m.t.drop m.nx).take s.length = s := by
  by_cases hc : m.cd = 0
  · unfold Rd.want at h ⊢
    rw [if_pos hc] at h ⊢
    rcases hd : diff s (m.t.drop m.nx) with _ | i
    · rw [hd] at h
      simp only at h
      by_cases hl : (m.t.drop m.nx).length < s.length
      · rw [if_pos hl] at h
        have := short_fell (m := m) ⟨hc, hm, rfl⟩
        rw [this.1] at h
        exact absurd h (by decide)
      · rw [if_neg hl]
        obtain ⟨r, hr⟩ := diff_sound _ _ hd (by omega)
        rw [List.length_drop] at hl
        refine ⟨hc, by omega, rfl, ?_⟩
        rw [hr]
        simp
    · rw [hd] at h
      simp only at h
      rw [Rd.fail_yes m 1 _ hc (by decide)] at h
      have h9 : (1 : Int) = 0 := h
      exact absurd h9 (by decide)
  · exfalso
    have : (m.want s).1 = m := by unfold Rd.want; rw [if_neg hc]
    rw [this] at h
    exact hc h
theorem adv_nx (m : Rd) (k : Nat) (h : m.nx + k ≤ m.t.length) : (adv m k).nx ≤ (adv m k).t.length := h
theorem drop_parts (t : List UInt8) (n k : Nat) : t.drop n = (t.drop n).take k ++ t.drop (n + k) := by
  rw [← List.drop_drop]; exact (List.take_append_drop k _).symm
theorem numL_one (c : UInt8) : numL [c] = c.toNat := by simp [numL]
theorem big_one (l : List UInt8) (h : l.length = 1) : bigL (UInt8.ofNat (numL l)).toNat 1 = l := by
  match l, h with
  | [c], _ =>
    rw [numL_one]
    have hc := UInt8.toNat_lt c
    simp [bigL, smallL]
theorem smallL_numL : ∀ (l : List UInt8), smallL (numL l.reverse) l.length = l
  | [] => rfl
  | c :: l => by
    have hc := UInt8.toNat_lt c
    rw [List.reverse_cons, numL_snoc, List.length_cons, smallL]
    have e1 : UInt8.ofNat (numL l.reverse * 256 + c.toNat) = c := by
      rw [← ofNat_mod, show (numL l.reverse * 256 + c.toNat) % 256 = c.toNat by omega]
      simp
    rw [e1, show (numL l.reverse * 256 + c.toNat) / 256 = numL l.reverse by omega, smallL_numL l]
theorem numL_smallL (k n : Nat) : numL (smallL n k).reverse = n % 256 ^ k := numL_bigL k n
theorem small_four (n : Nat) (h : n < 4294967296) : numL (smallL n 4).reverse = n := by
  rw [numL_smallL]
  exact Nat.mod_eq_of_lt h
theorem small_eight (n : Nat) (h : n < 18446744073709551616) : numL (smallL n 8).reverse = n := by
  rw [numL_smallL]
  exact Nat.mod_eq_of_lt h
theorem big_num (n : Nat) (h : n < 256) : numL (bigL n 1) = n := by
  rw [numL_bigL]
  exact Nat.mod_eq_of_lt h
theorem numL_lt4 (l : List UInt8) (h : l.length = 4) : numL l < 4294967296 := by have := numL_bound l; rw [h] at this; exact this
theorem numL_lt8 (l : List UInt8) (h : l.length = 8) : numL l < 18446744073709551616 := by have := numL_bound l; rw [h] at this; exact this
end Go.Proofs.YtndpcphmndfajaaGreatDoor
