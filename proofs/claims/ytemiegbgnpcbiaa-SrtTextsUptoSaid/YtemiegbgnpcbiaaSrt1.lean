/- Subtitles (srt) as plain data; the line of times, walked. -/
import Derived.Test.YtemiegbgnpcbiaaLine8
namespace Go.Proofs.Ytemiegbgnpcbiaa
open Go.RowKit
set_option linter.unusedVariables false

def formL : List UInt8 := [48, 48, 58, 48, 48, 58, 48, 48, 44, 48, 48, 48, 32, 45, 45, 62, 32, 48, 48, 58, 48, 48, 58, 48, 48, 44, 48, 48, 48]
def timesL (s : List UInt8) : Bool := decide (29 ≤ s.length) && likeL (s.take 29) formL && (s.length == 29 || s[29]? == some 32)
def sayP (s : List UInt8) : Pc := ⟨false, [116, 101, 120, 116], s⟩
def stepS (st cnt : Nat) (s : List UInt8) : Option (Nat × Nat × List Pc) :=
  if st = 1 then (if timesL s then some (2, cnt, [markL s]) else none)
  else if s = [] then some (0, cnt, [])
  else if st = 2 then some (2, cnt, [sayP s])
  else if digitsL s then some (1, cnt + 1, [markL s]) else none
def endP (e : List UInt8) : List Pc := if e = [] then [] else [markL e]
def walkS : List Ln → Nat → Nat → List Pc → Except Nat (Nat × Nat × List Pc)
  | [], st, cnt, acc => .ok (st, cnt, acc)
  | x :: r, st, cnt, acc => match stepS st cnt x.t with
    | none => .error x.a
    | some (st', cnt', ps) => walkS r st' cnt' (acc ++ ps ++ endP x.e)
/-- the pieces and how many blocks, or the place that is wrong -/
def readS (t : List UInt8) : Except Nat (Nat × List Pc) := match walkS (linesOf t 0) 0 0 [] with
  | .error a => .error a
  | .ok (st, cnt, acc) => if st = 1 then .error t.length else .ok (cnt, acc)

def TimesSays (s : List UInt8) (w : World) (e : Ending) (w' : World) : Prop := e = .returned (.bool (timesL s)) ∧ Below w.heap.size w w'
theorem times_short (s : List UInt8) (h : ¬ 29 ≤ s.length) : timesL s = false := by simp [timesL, h]
theorem times_unlike (s : List UInt8) (h : likeL (s.take 29) formL = false) : timesL s = false := by simp [timesL, h]
theorem times_just (s : List UInt8) (h : likeL (s.take 29) formL = true) (hl : s.length = 29) : timesL s = true := by simp [timesL, h, hl]
theorem times_more (s : List UInt8) (h : likeL (s.take 29) formL = true) (hl : 29 < s.length) : timesL s = (s[29] == 32) := by
  have h1 : ¬ s.length = 29 := by omega
  have h2 : 29 ≤ s.length := by omega
  simp [timesL, h, h1, h2, hl]

set_option maxHeartbeats 1000000 in
set_option maxRecDepth 100000 in
theorem times_any (s : List UInt8) (w : World) (hs : s.length ≤ 1000000000) : Calls Try.prog 53 #[.string ⟨s.toArray⟩] w (TimesSays s w) := by
  have HC := Lib.hid (fun w => like_any (s.take 29) formL w (by rw [List.length_take]; omega) (by decide))
  unfold TimesSays
  by_cases h1 : (29 : Int) ≤ s.length
  · have h29 : 29 ≤ s.length := by omega
    rcases hL : likeL (s.take 29) formL with _ | _
    · rw [times_unlike s hL]
      rw [hL] at HC
      clear hL
      go_enter Try.func53, Try.ntmps53
      go_wp2_with (go_at_call 20; refine (HC.out _).mono ?_; rintro e w1 ⟨rfl, hb1⟩)
      go_ret
      exact ⟨rfl, hb1⟩
    · rw [hL] at HC
      by_cases h2 : s.length = 29
      · rw [times_just s hL h2]
        have h3 : ((s.length : Int) == 29) = true := by simp; omega
        clear hL
        go_enter Try.func53, Try.ntmps53
        go_wp2_with (go_at_call 20; refine (HC.out _).mono ?_; rintro e w1 ⟨rfl, hb1⟩)
        go_ret
        exact ⟨rfl, hb1⟩
      · have h4 : 29 < s.length := by omega
        rw [times_more s hL h4]
        have h3 : ((s.length : Int) == 29) = false := by simp; omega
        have h5 : (29 : Int) < s.length := by omega
        clear hL
        rcases hE : ((s[29].toNat : Int) == 32) with _ | _
        · have he : (s[29] == 32) = false := by rw [beq_eq_false_iff_ne]; intro e; rw [e] at hE; simp at hE
          rw [he]
          clear he
          go_enter Try.func53, Try.ntmps53
          go_wp2_with (go_at_call 20; refine (HC.out _).mono ?_; rintro e w1 ⟨rfl, hb1⟩)
          go_ret
          exact ⟨rfl, hb1⟩
        · have he : (s[29] == 32) = true := by rw [beq_iff_eq]; exact (u8_lit _ 32 (by decide)).2 (by simpa using hE)
          rw [he]
          clear he
          go_enter Try.func53, Try.ntmps53
          go_wp2_with (go_at_call 20; refine (HC.out _).mono ?_; rintro e w1 ⟨rfl, hb1⟩)
          go_ret
          exact ⟨rfl, hb1⟩
  · rw [times_short s (by omega)]
    go_enter Try.func53, Try.ntmps53
    go_wp2
    go_ret
    exact ⟨rfl, Below.refl _ _⟩

set_option maxHeartbeats 1000000 in
set_option maxRecDepth 100000 in
theorem rtimes_any (s : List UInt8) (w : World) (hs : s.length ≤ 1000000000) : Calls Try.prog 27 #[.string ⟨s.toArray⟩] w (TimesSays s w) := by
  have HC := Lib.hid (fun w => rlike_any (s.take 29) formL w (by rw [List.length_take]; omega) (by decide))
  unfold TimesSays
  by_cases h1 : (29 : Int) ≤ s.length
  · have h29 : 29 ≤ s.length := by omega
    rcases hL : likeL (s.take 29) formL with _ | _
    · rw [times_unlike s hL]
      rw [hL] at HC
      clear hL
      go_enter Try.func27, Try.ntmps27
      go_wp2_with (go_at_call 21; refine (HC.out _).mono ?_; rintro e w1 ⟨rfl, hb1⟩)
      go_ret
      exact ⟨rfl, hb1⟩
    · rw [hL] at HC
      by_cases h2 : s.length = 29
      · rw [times_just s hL h2]
        have h3 : ((s.length : Int) == 29) = true := by simp; omega
        clear hL
        go_enter Try.func27, Try.ntmps27
        go_wp2_with (go_at_call 21; refine (HC.out _).mono ?_; rintro e w1 ⟨rfl, hb1⟩)
        go_ret
        exact ⟨rfl, hb1⟩
      · have h4 : 29 < s.length := by omega
        rw [times_more s hL h4]
        have h3 : ((s.length : Int) == 29) = false := by simp; omega
        have h5 : (29 : Int) < s.length := by omega
        clear hL
        rcases hE : ((s[29].toNat : Int) == 32) with _ | _
        · have he : (s[29] == 32) = false := by rw [beq_eq_false_iff_ne]; intro e; rw [e] at hE; simp at hE
          rw [he]
          clear he
          go_enter Try.func27, Try.ntmps27
          go_wp2_with (go_at_call 21; refine (HC.out _).mono ?_; rintro e w1 ⟨rfl, hb1⟩)
          go_ret
          exact ⟨rfl, hb1⟩
        · have he : (s[29] == 32) = true := by rw [beq_iff_eq]; exact (u8_lit _ 32 (by decide)).2 (by simpa using hE)
          rw [he]
          clear he
          go_enter Try.func27, Try.ntmps27
          go_wp2_with (go_at_call 21; refine (HC.out _).mono ?_; rintro e w1 ⟨rfl, hb1⟩)
          go_ret
          exact ⟨rfl, hb1⟩
  · rw [times_short s (by omega)]
    go_enter Try.func27, Try.ntmps27
    go_wp2
    go_ret
    exact ⟨rfl, Below.refl _ _⟩
end Go.Proofs.Ytemiegbgnpcbiaa
