/- Layer 7 (wansung): Sign, walked. -/
import Derived.Test.YtffhmjlojmoomaaGreatDoorZW10

namespace Go.Proofs.YtffhmjlojmoomaaGreatDoor
open Go.RowKit
set_option linter.unusedVariables false
set_option linter.unusedSimpArgs false

set_option maxHeartbeats 4000000 in
set_option maxRecDepth 100000 in
theorem wsign_any (C : Cst) (hC : Hid (CstOk C)) (a b : Nat) (ha : (a : Int) < 256) (hb : (b : Int) < 256) (w : World) (hD : Hid (DeB w)) : Calls Tryz.prog 37 #[.int .u8 a, .int .u8 b] w fun e w' => e = .returned (.tuple #[.int .i32 ((signW C a b).getD 0 : Nat), .bool (signW C a b).isSome]) ∧ Below w.heap.size w w' := by
  have NU := Lib.hid (fun w => wnum_any b (by omega) (by omega) w)
  obtain ⟨n0, n9⟩ := numW_in b (by omega) (by omega)
  have HS : Hid (signW C a b = if a < 129 ∨ 254 < a then none else if 161 ≤ a ∧ 161 ≤ b then rowW C (a - 161) (b - 161) else if numW b < 0 then none else if a < 161 then wPl C false (((a : Int) - 129) * 178 + numW b) else wPl C false (5696 + ((a : Int) - 161) * 84 + numW b)) := Lib.hid rfl
  generalize numW b = n at *
  go_enter Tryz.func37, Tryz.ntmps37
  by_cases a1 : a < 129
  · have g1 : (a : Int) < 129 := by omega
    rw [if_pos (.inl a1)] at HS
    go_wp2_with (go_at_call 83; (with_reducible refine (NU.out _).mono ?_); rintro e wx ⟨rfl, rfl⟩)
    all_goals go_ret2
    all_goals (rw [HS.out]; exact ⟨rfl, Below.refl _ _⟩)
  by_cases a2 : 254 < a
  · have g1 : ¬ (a : Int) < 129 := by omega
    have g2 : (254 : Int) < a := by omega
    rw [if_pos (.inr a2)] at HS
    go_wp2_with (go_at_call 83; (with_reducible refine (NU.out _).mono ?_); rintro e wx ⟨rfl, rfl⟩)
    all_goals go_ret2
    all_goals (rw [HS.out]; exact ⟨rfl, Below.refl _ _⟩)
  have g1 : ¬ (a : Int) < 129 := by omega
  have g2 : ¬ (254 : Int) < a := by omega
  rw [if_neg (by omega)] at HS
  by_cases a3 : 161 ≤ a
  · obtain ⟨f, hf⟩ : ∃ f, f = a - 161 := ⟨_, rfl⟩
    have e1 : (a : Int) - 161 = (f : Int) := by omega
    have f9 : (f : Int) ≤ 93 := by omega
    by_cases a4 : 161 ≤ b
    · obtain ⟨s, hs⟩ : ∃ s, s = b - 161 := ⟨_, rfl⟩
      have e2 : (b : Int) - 161 = (s : Int) := by omega
      have s9 : (s : Int) ≤ 94 := by omega
      have g3 : (161 : Int) ≤ b := by omega
      rw [if_pos ⟨a3, a4⟩, ← hf, ← hs] at HS
      have RW := Lib.hid (fun w hD => row_any C hC f s f9 (by omega) w hD)
      have g0 : (0 : Int) ≤ f := by omega
      rw [HS.out]
      clear hf hs HS
      generalize rowW C f s = o at *
      go_wp2_with (first | (go_at_call 83; (with_reducible refine (NU.out _).mono ?_); rintro e wx ⟨rfl, rfl⟩) | (go_at_call 84; (with_reducible refine (RW.out _ hD).mono ?_); rintro e w1 ⟨rfl, hb1⟩; have K := Lib.hid hb1; clear hb1))
      all_goals go_ret2
      all_goals (first | exact ⟨rfl, K.out⟩ | (exfalso; omega))
    · have g3 : ¬ (161 : Int) ≤ b := by omega
      have g0 : (0 : Int) ≤ f := by omega
      have g0' : ¬ (f : Int) < 0 := by omega
      rw [if_neg (by omega)] at HS
      by_cases a5 : n < 0
      · rw [if_pos a5] at HS
        clear hf
        go_wp2_with (go_at_call 83; (with_reducible refine (NU.out _).mono ?_); rintro e wx ⟨rfl, rfl⟩)
        all_goals go_ret2
        all_goals (rw [HS.out]; exact ⟨rfl, Below.refl _ _⟩)
      · rw [if_neg a5, if_neg (by omega), e1] at HS
        have EX := Lib.hid (fun w hD => wextra_any C hC (5696 + (f : Int) * 84 + n) (by omega) w hD)
        rw [HS.out]
        clear hf HS
        generalize wPl C false (5696 + (f : Int) * 84 + n) = o at *
        go_wp2_with (first | (go_at_call 83; (with_reducible refine (NU.out _).mono ?_); rintro e wx ⟨rfl, rfl⟩) | (go_at_call 85; (with_reducible refine (EX.out _ hD).mono ?_); rintro e w1 ⟨rfl, hb1⟩; have K := Lib.hid hb1; clear hb1))
        all_goals go_ret2
        all_goals (first | exact ⟨rfl, K.out⟩ | (exfalso; omega))
  · have g3 : (a : Int) - 161 < 0 := by omega
    have g4 : ¬ (0 : Int) ≤ (a : Int) - 161 := by omega
    rw [if_neg (by omega)] at HS
    by_cases a5 : n < 0
    · rw [if_pos a5] at HS
      go_wp2_with (go_at_call 83; (with_reducible refine (NU.out _).mono ?_); rintro e wx ⟨rfl, rfl⟩)
      all_goals go_ret2
      all_goals (rw [HS.out]; exact ⟨rfl, Below.refl _ _⟩)
    · rw [if_neg a5, if_pos (by omega)] at HS
      have EX := Lib.hid (fun w hD => wextra_any C hC (((a : Int) - 129) * 178 + n) (by omega) w hD)
      rw [HS.out]
      clear HS
      generalize wPl C false (((a : Int) - 129) * 178 + n) = o at *
      go_wp2_with (first | (go_at_call 83; (with_reducible refine (NU.out _).mono ?_); rintro e wx ⟨rfl, rfl⟩) | (go_at_call 85; (with_reducible refine (EX.out _ hD).mono ?_); rintro e w1 ⟨rfl, hb1⟩; have K := Lib.hid hb1; clear hb1))
      all_goals go_ret2
      all_goals (first | exact ⟨rfl, K.out⟩ | (exfalso; omega))
end Go.Proofs.YtffhmjlojmoomaaGreatDoor
