/- Layer 13 (frame): the document's names and check, the law's Of, walked (printed by gen_fr12.py). -/
import Derived.Test.YtmnmonmbdgedbaaFr11
namespace Go.Proofs.Ytmnmonmbdgedbaa
open Go.RowKit
set_option linter.unusedVariables false
set_option linter.unusedSimpArgs false

set_option maxRecDepth 100000 in
theorem rletters_any (v : Int) (w : World) : Calls Try.prog 128 #[.int .i64 v] w fun e w' => e = .returned (.int .i64 (letters v : Nat)) ∧ w = w' := by
  unfold letters
  by_cases h2 : v = 2
  · subst h2
    rw [if_pos rfl]
    go_enter Try.func128, Try.ntmps128
    go_wp2
    go_ret
    exact ⟨rfl, rfl⟩
  · rw [if_neg h2]
    have t2 := no_case h2
    by_cases h3 : v = 3
    · subst h3
      rw [if_pos rfl]
      clear h2
      go_enter Try.func128, Try.ntmps128
      go_wp2
      go_ret
      exact ⟨rfl, rfl⟩
    · rw [if_neg h3]
      have t3 := no_case h3
      by_cases h4 : v = 4
      · subst h4
        rw [if_pos rfl]
        clear h2 h3
        go_enter Try.func128, Try.ntmps128
        go_wp2
        go_ret
        exact ⟨rfl, rfl⟩
      · rw [if_neg h4]
        have t4 := no_case h4
        clear h2 h3 h4
        go_enter Try.func128, Try.ntmps128
        go_wp2
        go_ret
        exact ⟨rfl, rfl⟩
theorem goodC_of {c : UInt8} {b : Bool} (h : ((65 ≤ c.toNat ∧ c.toNat ≤ 90) ∨ (48 ≤ c.toNat ∧ c.toNat ≤ 57)) ↔ b = true) : (!badC c) = b := by
  rw [Bool.eq_iff_iff, ← h]
  unfold badC
  simp
  omega
set_option maxRecDepth 100000 in
theorem letter_any (c : UInt8) (w : World) : Calls Try.prog 129 #[.int .u8 c.toNat] w fun e w' => e = .returned (.bool (!badC c)) ∧ w = w' := by
  have hc := byte_le c
  by_cases h1 : 65 ≤ c.toNat
  · have g1 : (65 : Int) ≤ c.toNat := by omega
    by_cases h2 : c.toNat ≤ 90
    · rw [goodC_of (b := true) (by simp; omega)]
      have g2 : (c.toNat : Int) ≤ 90 := by omega
      clear h1 h2
      go_enter Try.func129, Try.ntmps129
      go_wp2
      go_ret
      exact ⟨rfl, rfl⟩
    · rw [goodC_of (b := false) (by simp; omega)]
      have g2 : ¬ (c.toNat : Int) ≤ 90 := by omega
      have g3 : (48 : Int) ≤ c.toNat := by omega
      have g4 : ¬ (c.toNat : Int) ≤ 57 := by omega
      clear h1 h2
      go_enter Try.func129, Try.ntmps129
      go_wp2
      go_ret
      exact ⟨rfl, rfl⟩
  · have g1 : ¬ (65 : Int) ≤ c.toNat := by omega
    by_cases h3 : 48 ≤ c.toNat
    · have g3 : (48 : Int) ≤ c.toNat := by omega
      by_cases h4 : c.toNat ≤ 57
      · rw [goodC_of (b := true) (by simp; omega)]
        have g4 : (c.toNat : Int) ≤ 57 := by omega
        clear h1 h3 h4
        go_enter Try.func129, Try.ntmps129
        go_wp2
        go_ret
        exact ⟨rfl, rfl⟩
      · rw [goodC_of (b := false) (by simp; omega)]
        have g4 : ¬ (c.toNat : Int) ≤ 57 := by omega
        clear h1 h3 h4
        go_enter Try.func129, Try.ntmps129
        go_wp2
        go_ret
        exact ⟨rfl, rfl⟩
    · rw [goodC_of (b := false) (by simp; omega)]
      have g3 : ¬ (48 : Int) ≤ c.toNat := by omega
      clear h1 h3
      go_enter Try.func129, Try.ntmps129
      go_wp2
      go_ret
      exact ⟨rfl, rfl⟩
theorem wrong_le (id : List UInt8) : wrongN id ≤ id.length := List.findIdx_le_length
theorem wrong_drop (id : List UInt8) (j : Nat) (hj : j < id.length) (h : wrongN id = j + wrongN (id.drop j)) :
    (badC id[j] = true → wrongN id = j) ∧ (badC id[j] = false → wrongN id = (j + 1) + wrongN (id.drop (j + 1))) := by
  rw [drop_cons id j hj] at h
  unfold wrongN at h ⊢
  rw [List.findIdx_cons] at h
  constructor
  · intro e; rw [e] at h; simpa using h
  · intro e; rw [e] at h; rw [h]; simp; omega
set_option maxHeartbeats 1000000 in
set_option maxRecDepth 100000 in
theorem rnamed_any (v : Int) (id : List UInt8) (w : World) (hl : id.length ≤ 1000000000) : Calls Try.prog 106 #[.int .i64 v, .string ⟨id.toArray⟩] w fun e w' => e = .returned (.bool (named v id)) ∧ w = w' := by
  have LE := Lib.hid (fun w => rletters_any v w)
  have hwl := wrong_le id
  unfold named
  generalize letters v = n at *
  by_cases h0 : id = []
  · subst h0
    rw [show (decide (0 < n) && (decide (([] : List UInt8).length = n) && decide (wrongN [] = n))) = false by
      rcases n with _ | n
      · rfl
      · simp]
    have t0 : (([] : List UInt8) == []) = true := rfl
    clear hwl
    go_enter Try.func106, Try.ntmps106
    go_wp2_with (go_at_call 128; (with_reducible refine (LE.out _).mono ?_); rintro e w1 ⟨rfl, rfl⟩)
    go_ret
    exact ⟨rfl, rfl⟩
  · have t0 : (id == []) = false := by simpa using h0
    have t0' : (id = []) = False := eq_false h0
    have hpos : 0 < id.length := List.length_pos_iff.2 h0
    by_cases h2 : id.length = n
    · subst h2
      have HE := Lib.hid (show (decide (0 < id.length) && (decide (id.length = id.length) && decide (wrongN id = id.length))) = decide (wrongN id = id.length) by simp [hpos])
      rw [HE.out]
      clear h0 hpos HE
      have t2 : ((id.length : Int) != (id.length : Int)) = false := by simp
      go_enter Try.func106, Try.ntmps106
      go_wp2_with (go_at_call 128; (with_reducible refine (LE.out _).mono ?_); rintro e w1 ⟨rfl, rfl⟩)
      go_loop [5] (fun i => ∃ (j : Nat), j ≤ id.length ∧ i = .int .i64 j ∧ Hid (wrongN id = j + wrongN (id.drop j))) (fun i => id.length - (intOf i).toNat)
      case atStart => exact ⟨0, by omega, rfl, Lib.hid (by simp)⟩
      case round =>
        obtain ⟨j, hj, rfl, HW⟩ := hrel
        by_cases hlt : j < id.length
        · have g0 : (j : Int) < id.length := by omega
          have hd := wrong_drop id j hlt HW.out
          have LT := Lib.hid (fun w => letter_any id[j] w)
          have hb := byte_le id[j]
          generalize badC id[j] = bad at *
          rcases bad with _ | _
          · have HW2 := Lib.hid (hd.2 rfl)
            clear hd
            go_wp2_with (go_at_call 129; (with_reducible refine (LT.out _).mono ?_); rintro e w1 ⟨rfl, rfl⟩)
            go_round
            case rel => exact ⟨j + 1, by omega, by go_num, HW2⟩
            case measure => simp [intOf]; omega
          · have HW2 := Lib.hid (hd.1 rfl)
            clear hd
            go_wp2_with (go_at_call 129; (with_reducible refine (LT.out _).mono ?_); rintro e w1 ⟨rfl, rfl⟩)
            go_ret
            refine ⟨?_, rfl⟩
            rw [HW2.out]
            exact congrArg (fun b => Ending.returned (Value.bool b)) (show false = decide (j = id.length) by symm; simp; omega)
        · have g0 : ¬ (j : Int) < id.length := by omega
          go_wp2
          go_ret
          refine ⟨?_, rfl⟩
          have := HW.out
          rw [List.drop_eq_nil_of_le (by omega)] at this
          exact congrArg (fun b => Ending.returned (Value.bool b)) (show true = decide (wrongN id = id.length) by symm; rw [decide_eq_true_eq]; have e0 : wrongN [] = 0 := rfl; omega)
    · rw [show (decide (0 < n) && (decide (id.length = n) && decide (wrongN id = n))) = false by simp [h2]]
      have t2 : ((id.length : Int) != (n : Int)) = true := by simp; omega
      clear h0 hpos h2 hwl
      go_enter Try.func106, Try.ntmps106
      go_wp2_with (go_at_call 128; (with_reducible refine (LE.out _).mono ?_); rintro e w1 ⟨rfl, rfl⟩)
      go_ret
      exact ⟨rfl, rfl⟩
end Go.Proofs.Ytmnmonmbdgedbaa
