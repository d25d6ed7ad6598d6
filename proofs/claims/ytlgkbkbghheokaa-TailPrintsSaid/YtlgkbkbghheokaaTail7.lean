/- Layer 12 (tail): the document's Parse, walked. -/
import Derived.Test.YtlgkbkbghheokaaTail6
namespace Go.Proofs.Ytlgkbkbghheokaa
open Go.RowKit
set_option linter.unusedVariables false

def RParseSays (t : Tl) (w : World) (e : Ending) (w' : World) : Prop := e = .returned (rtV t) ∧ Below w.heap.size w w'
set_option maxHeartbeats 8000000 in
set_option maxRecDepth 100000 in
theorem rtparse_any (b : List UInt8) (w : World) (h1 : b.length = 128) : Calls Try.prog 17 #[.string ⟨b.toArray⟩] w (RParseSays (parseT b) w) := by
  have h125 : 125 < b.length := by omega
  have h126 : 126 < b.length := by omega
  have h127 : 127 < b.length := by omega
  have h125i : (125 : Int) < b.length := by omega
  have h126i : (126 : Int) < b.length := by omega
  have h127i : (127 : Int) < b.length := by omega
  have hx125 : b[125]'h125 = b.getD 125 0 := by simp [List.getD_eq_getElem?_getD, h125]
  have hx126 : b[126]'h126 = b.getD 126 0 := by simp [List.getD_eq_getElem?_getD, h126]
  have hx127 : b[127]'h127 = b.getD 127 0 := by simp [List.getD_eq_getElem?_getD, h127]
  have HPT := Lib.hid (show parseT b = if b.getD 125 0 = 0 ∧ b.getD 126 0 ≠ 0 then ⟨cut0 ((b.drop 3).take 30), cut0 ((b.drop 33).take 30), cut0 ((b.drop 63).take 30), cut0 ((b.drop 93).take 4), cut0 ((b.drop 97).take 28), b.getD 126 0, b.getD 127 0⟩ else ⟨cut0 ((b.drop 3).take 30), cut0 ((b.drop 33).take 30), cut0 ((b.drop 63).take 30), cut0 ((b.drop 93).take 4), cut0 ((b.drop 97).take 30), 0, b.getD 127 0⟩ by
    unfold parseT
    rw [List.take_take]
    rfl)
  generalize b.getD 125 0 = x25 at *
  generalize b.getD 126 0 = x26 at *
  generalize b.getD 127 0 = x27 at *
  have A0 := Lib.hid (fun w => rcut_any ((b.drop 3).take 30) w (by rw [List.length_take]; omega))
  have A1 := Lib.hid (fun w => rcut_any ((b.drop 33).take 30) w (by rw [List.length_take]; omega))
  have A2 := Lib.hid (fun w => rcut_any ((b.drop 63).take 30) w (by rw [List.length_take]; omega))
  have A3 := Lib.hid (fun w => rcut_any ((b.drop 93).take 4) w (by rw [List.length_take]; omega))
  have hb1 := byte_le x26
  have hb2 := byte_le x27
  unfold RParseSays rtV rtR
  go_enter Try.func17, Try.ntmps17
  by_cases hc : x25 = 0 ∧ x26 ≠ 0
  · have hp := HPT.out
    rw [if_pos hc] at hp
    have HP := Lib.hid hp
    have h26 := hc.2
    have H26 := Lib.hid h26
    have u1 : (((x25.toNat : Nat) : Int) == 0) = true := by rw [hc.1]; rfl
    have u2 : (((x26.toNat : Nat) : Int) != 0) = true := by
      simp
      intro e
      apply h26
      rw [u8_eq]
      exact e
    clear hp HPT hc h26
    have W0 : Hid (∀ w, Calls Try.prog 50 #[.int .i64 0, .int .i64 x26.toNat] w fun e w' => e = .returned (.int .i64 30) ∧ w = w') := Lib.hid fun w => rwidth_any 0 (by decide) x26 w
    have W1 : Hid (∀ w, Calls Try.prog 50 #[.int .i64 1, .int .i64 x26.toNat] w fun e w' => e = .returned (.int .i64 30) ∧ w = w') := Lib.hid fun w => rwidth_any 1 (by decide) x26 w
    have W2 : Hid (∀ w, Calls Try.prog 50 #[.int .i64 2, .int .i64 x26.toNat] w fun e w' => e = .returned (.int .i64 30) ∧ w = w') := Lib.hid fun w => rwidth_any 2 (by decide) x26 w
    have W3 : Hid (∀ w, Calls Try.prog 50 #[.int .i64 3, .int .i64 x26.toNat] w fun e w' => e = .returned (.int .i64 4) ∧ w = w') := Lib.hid fun w => rwidth_any 3 (by decide) x26 w
    have W4 : Hid (∀ w, Calls Try.prog 50 #[.int .i64 4, .int .i64 x26.toNat] w fun e w' => e = .returned (.int .i64 28) ∧ w = w') := Lib.hid fun w => by
      have h := rwidth_any 4 (by decide) x26 w
      have e4 : (rooms x26)[4]'(show 4 < 5 by decide) = 28 := by show last4 x26 = 28; unfold last4; rw [if_neg H26.out]
      rw [e4] at h
      exact h
    have A4 := Lib.hid (fun w => rcut_any ((b.drop 97).take 28) w (by rw [List.length_take]; omega))
    go_wp2
    refine wp_loop_rounds 6 ?_
    rw [rounds_succ]
    go_wp2_with (first | (go_at_call 50; first | (with_reducible refine (W0.out _).mono ?_; rintro e w5 ⟨rfl, rfl⟩) | (with_reducible refine (W1.out _).mono ?_; rintro e w5 ⟨rfl, rfl⟩) | (with_reducible refine (W2.out _).mono ?_; rintro e w5 ⟨rfl, rfl⟩) | (with_reducible refine (W3.out _).mono ?_; rintro e w5 ⟨rfl, rfl⟩) | (with_reducible refine (W4.out _).mono ?_; rintro e w5 ⟨rfl, rfl⟩)) | (go_at_call 49; first | (with_reducible refine (A0.out _).mono ?_; rintro e w5 ⟨rfl, rfl⟩) | (with_reducible refine (A1.out _).mono ?_; rintro e w5 ⟨rfl, rfl⟩) | (with_reducible refine (A2.out _).mono ?_; rintro e w5 ⟨rfl, rfl⟩) | (with_reducible refine (A3.out _).mono ?_; rintro e w5 ⟨rfl, rfl⟩) | (with_reducible refine (A4.out _).mono ?_; rintro e w5 ⟨rfl, rfl⟩)))
    rw [rounds_succ]
    go_wp2_with (first | (go_at_call 50; first | (with_reducible refine (W0.out _).mono ?_; rintro e w5 ⟨rfl, rfl⟩) | (with_reducible refine (W1.out _).mono ?_; rintro e w5 ⟨rfl, rfl⟩) | (with_reducible refine (W2.out _).mono ?_; rintro e w5 ⟨rfl, rfl⟩) | (with_reducible refine (W3.out _).mono ?_; rintro e w5 ⟨rfl, rfl⟩) | (with_reducible refine (W4.out _).mono ?_; rintro e w5 ⟨rfl, rfl⟩)) | (go_at_call 49; first | (with_reducible refine (A0.out _).mono ?_; rintro e w5 ⟨rfl, rfl⟩) | (with_reducible refine (A1.out _).mono ?_; rintro e w5 ⟨rfl, rfl⟩) | (with_reducible refine (A2.out _).mono ?_; rintro e w5 ⟨rfl, rfl⟩) | (with_reducible refine (A3.out _).mono ?_; rintro e w5 ⟨rfl, rfl⟩) | (with_reducible refine (A4.out _).mono ?_; rintro e w5 ⟨rfl, rfl⟩)))
    rw [rounds_succ]
    go_wp2_with (first | (go_at_call 50; first | (with_reducible refine (W0.out _).mono ?_; rintro e w5 ⟨rfl, rfl⟩) | (with_reducible refine (W1.out _).mono ?_; rintro e w5 ⟨rfl, rfl⟩) | (with_reducible refine (W2.out _).mono ?_; rintro e w5 ⟨rfl, rfl⟩) | (with_reducible refine (W3.out _).mono ?_; rintro e w5 ⟨rfl, rfl⟩) | (with_reducible refine (W4.out _).mono ?_; rintro e w5 ⟨rfl, rfl⟩)) | (go_at_call 49; first | (with_reducible refine (A0.out _).mono ?_; rintro e w5 ⟨rfl, rfl⟩) | (with_reducible refine (A1.out _).mono ?_; rintro e w5 ⟨rfl, rfl⟩) | (with_reducible refine (A2.out _).mono ?_; rintro e w5 ⟨rfl, rfl⟩) | (with_reducible refine (A3.out _).mono ?_; rintro e w5 ⟨rfl, rfl⟩) | (with_reducible refine (A4.out _).mono ?_; rintro e w5 ⟨rfl, rfl⟩)))
    rw [rounds_succ]
    go_wp2_with (first | (go_at_call 50; first | (with_reducible refine (W0.out _).mono ?_; rintro e w5 ⟨rfl, rfl⟩) | (with_reducible refine (W1.out _).mono ?_; rintro e w5 ⟨rfl, rfl⟩) | (with_reducible refine (W2.out _).mono ?_; rintro e w5 ⟨rfl, rfl⟩) | (with_reducible refine (W3.out _).mono ?_; rintro e w5 ⟨rfl, rfl⟩) | (with_reducible refine (W4.out _).mono ?_; rintro e w5 ⟨rfl, rfl⟩)) | (go_at_call 49; first | (with_reducible refine (A0.out _).mono ?_; rintro e w5 ⟨rfl, rfl⟩) | (with_reducible refine (A1.out _).mono ?_; rintro e w5 ⟨rfl, rfl⟩) | (with_reducible refine (A2.out _).mono ?_; rintro e w5 ⟨rfl, rfl⟩) | (with_reducible refine (A3.out _).mono ?_; rintro e w5 ⟨rfl, rfl⟩) | (with_reducible refine (A4.out _).mono ?_; rintro e w5 ⟨rfl, rfl⟩)))
    rw [rounds_succ]
    go_wp2_with (first | (go_at_call 50; first | (with_reducible refine (W0.out _).mono ?_; rintro e w5 ⟨rfl, rfl⟩) | (with_reducible refine (W1.out _).mono ?_; rintro e w5 ⟨rfl, rfl⟩) | (with_reducible refine (W2.out _).mono ?_; rintro e w5 ⟨rfl, rfl⟩) | (with_reducible refine (W3.out _).mono ?_; rintro e w5 ⟨rfl, rfl⟩) | (with_reducible refine (W4.out _).mono ?_; rintro e w5 ⟨rfl, rfl⟩)) | (go_at_call 49; first | (with_reducible refine (A0.out _).mono ?_; rintro e w5 ⟨rfl, rfl⟩) | (with_reducible refine (A1.out _).mono ?_; rintro e w5 ⟨rfl, rfl⟩) | (with_reducible refine (A2.out _).mono ?_; rintro e w5 ⟨rfl, rfl⟩) | (with_reducible refine (A3.out _).mono ?_; rintro e w5 ⟨rfl, rfl⟩) | (with_reducible refine (A4.out _).mono ?_; rintro e w5 ⟨rfl, rfl⟩)))
    rw [rounds_succ]
    go_wp2
    exact end_cell rfl rfl rfl (at_a1 _ _ _ _) Try.underlying28 rfl (by kernel_rfl) ⟨by rw [HP.out] <;> rfl, ((Below.refl _ _).alloc (Nat.le_refl _) _).alloc (by simp) _⟩
  · have hp := HPT.out
    rw [if_neg hc] at hp
    have HP := Lib.hid hp
    clear hp HPT
    by_cases hc0 : x25 = 0
    · have hc1 : x26 = 0 := Decidable.byContradiction fun h => hc ⟨hc0, h⟩
      have u1 : (((x25.toNat : Nat) : Int) == 0) = true := by rw [hc0]; rfl
      have u2 : (((x26.toNat : Nat) : Int) != 0) = false := by rw [hc1]; rfl
      clear hc hc0 hc1
      have W0 : Hid (∀ w, Calls Try.prog 50 #[.int .i64 0, .int .i64 0] w fun e w' => e = .returned (.int .i64 30) ∧ w = w') := Lib.hid fun w => rwidth_any 0 (by decide) 0 w
      have W1 : Hid (∀ w, Calls Try.prog 50 #[.int .i64 1, .int .i64 0] w fun e w' => e = .returned (.int .i64 30) ∧ w = w') := Lib.hid fun w => rwidth_any 1 (by decide) 0 w
      have W2 : Hid (∀ w, Calls Try.prog 50 #[.int .i64 2, .int .i64 0] w fun e w' => e = .returned (.int .i64 30) ∧ w = w') := Lib.hid fun w => rwidth_any 2 (by decide) 0 w
      have W3 : Hid (∀ w, Calls Try.prog 50 #[.int .i64 3, .int .i64 0] w fun e w' => e = .returned (.int .i64 4) ∧ w = w') := Lib.hid fun w => rwidth_any 3 (by decide) 0 w
      have W4 : Hid (∀ w, Calls Try.prog 50 #[.int .i64 4, .int .i64 0] w fun e w' => e = .returned (.int .i64 30) ∧ w = w') := Lib.hid fun w => by
        have h := rwidth_any 4 (by decide) 0 w
        have e4 : (rooms 0)[4]'(show 4 < 5 by decide) = 30 := by rfl
        rw [e4] at h
        exact h
      have A4 := Lib.hid (fun w => rcut_any ((b.drop 97).take 30) w (by rw [List.length_take]; omega))
      go_wp2
      refine wp_loop_rounds 6 ?_
      rw [rounds_succ]
      go_wp2_with (first | (go_at_call 50; first | (with_reducible refine (W0.out _).mono ?_; rintro e w5 ⟨rfl, rfl⟩) | (with_reducible refine (W1.out _).mono ?_; rintro e w5 ⟨rfl, rfl⟩) | (with_reducible refine (W2.out _).mono ?_; rintro e w5 ⟨rfl, rfl⟩) | (with_reducible refine (W3.out _).mono ?_; rintro e w5 ⟨rfl, rfl⟩) | (with_reducible refine (W4.out _).mono ?_; rintro e w5 ⟨rfl, rfl⟩)) | (go_at_call 49; first | (with_reducible refine (A0.out _).mono ?_; rintro e w5 ⟨rfl, rfl⟩) | (with_reducible refine (A1.out _).mono ?_; rintro e w5 ⟨rfl, rfl⟩) | (with_reducible refine (A2.out _).mono ?_; rintro e w5 ⟨rfl, rfl⟩) | (with_reducible refine (A3.out _).mono ?_; rintro e w5 ⟨rfl, rfl⟩) | (with_reducible refine (A4.out _).mono ?_; rintro e w5 ⟨rfl, rfl⟩)))
      rw [rounds_succ]
      go_wp2_with (first | (go_at_call 50; first | (with_reducible refine (W0.out _).mono ?_; rintro e w5 ⟨rfl, rfl⟩) | (with_reducible refine (W1.out _).mono ?_; rintro e w5 ⟨rfl, rfl⟩) | (with_reducible refine (W2.out _).mono ?_; rintro e w5 ⟨rfl, rfl⟩) | (with_reducible refine (W3.out _).mono ?_; rintro e w5 ⟨rfl, rfl⟩) | (with_reducible refine (W4.out _).mono ?_; rintro e w5 ⟨rfl, rfl⟩)) | (go_at_call 49; first | (with_reducible refine (A0.out _).mono ?_; rintro e w5 ⟨rfl, rfl⟩) | (with_reducible refine (A1.out _).mono ?_; rintro e w5 ⟨rfl, rfl⟩) | (with_reducible refine (A2.out _).mono ?_; rintro e w5 ⟨rfl, rfl⟩) | (with_reducible refine (A3.out _).mono ?_; rintro e w5 ⟨rfl, rfl⟩) | (with_reducible refine (A4.out _).mono ?_; rintro e w5 ⟨rfl, rfl⟩)))
      rw [rounds_succ]
      go_wp2_with (first | (go_at_call 50; first | (with_reducible refine (W0.out _).mono ?_; rintro e w5 ⟨rfl, rfl⟩) | (with_reducible refine (W1.out _).mono ?_; rintro e w5 ⟨rfl, rfl⟩) | (with_reducible refine (W2.out _).mono ?_; rintro e w5 ⟨rfl, rfl⟩) | (with_reducible refine (W3.out _).mono ?_; rintro e w5 ⟨rfl, rfl⟩) | (with_reducible refine (W4.out _).mono ?_; rintro e w5 ⟨rfl, rfl⟩)) | (go_at_call 49; first | (with_reducible refine (A0.out _).mono ?_; rintro e w5 ⟨rfl, rfl⟩) | (with_reducible refine (A1.out _).mono ?_; rintro e w5 ⟨rfl, rfl⟩) | (with_reducible refine (A2.out _).mono ?_; rintro e w5 ⟨rfl, rfl⟩) | (with_reducible refine (A3.out _).mono ?_; rintro e w5 ⟨rfl, rfl⟩) | (with_reducible refine (A4.out _).mono ?_; rintro e w5 ⟨rfl, rfl⟩)))
      rw [rounds_succ]
      go_wp2_with (first | (go_at_call 50; first | (with_reducible refine (W0.out _).mono ?_; rintro e w5 ⟨rfl, rfl⟩) | (with_reducible refine (W1.out _).mono ?_; rintro e w5 ⟨rfl, rfl⟩) | (with_reducible refine (W2.out _).mono ?_; rintro e w5 ⟨rfl, rfl⟩) | (with_reducible refine (W3.out _).mono ?_; rintro e w5 ⟨rfl, rfl⟩) | (with_reducible refine (W4.out _).mono ?_; rintro e w5 ⟨rfl, rfl⟩)) | (go_at_call 49; first | (with_reducible refine (A0.out _).mono ?_; rintro e w5 ⟨rfl, rfl⟩) | (with_reducible refine (A1.out _).mono ?_; rintro e w5 ⟨rfl, rfl⟩) | (with_reducible refine (A2.out _).mono ?_; rintro e w5 ⟨rfl, rfl⟩) | (with_reducible refine (A3.out _).mono ?_; rintro e w5 ⟨rfl, rfl⟩) | (with_reducible refine (A4.out _).mono ?_; rintro e w5 ⟨rfl, rfl⟩)))
      rw [rounds_succ]
      go_wp2_with (first | (go_at_call 50; first | (with_reducible refine (W0.out _).mono ?_; rintro e w5 ⟨rfl, rfl⟩) | (with_reducible refine (W1.out _).mono ?_; rintro e w5 ⟨rfl, rfl⟩) | (with_reducible refine (W2.out _).mono ?_; rintro e w5 ⟨rfl, rfl⟩) | (with_reducible refine (W3.out _).mono ?_; rintro e w5 ⟨rfl, rfl⟩) | (with_reducible refine (W4.out _).mono ?_; rintro e w5 ⟨rfl, rfl⟩)) | (go_at_call 49; first | (with_reducible refine (A0.out _).mono ?_; rintro e w5 ⟨rfl, rfl⟩) | (with_reducible refine (A1.out _).mono ?_; rintro e w5 ⟨rfl, rfl⟩) | (with_reducible refine (A2.out _).mono ?_; rintro e w5 ⟨rfl, rfl⟩) | (with_reducible refine (A3.out _).mono ?_; rintro e w5 ⟨rfl, rfl⟩) | (with_reducible refine (A4.out _).mono ?_; rintro e w5 ⟨rfl, rfl⟩)))
      rw [rounds_succ]
      go_wp2
      exact end_cell rfl rfl rfl (at_a1 _ _ _ _) Try.underlying28 rfl (by kernel_rfl) ⟨by rw [HP.out] <;> rfl, ((Below.refl _ _).alloc (Nat.le_refl _) _).alloc (by simp) _⟩
    · have u1 : (((x25.toNat : Nat) : Int) == 0) = false := by
        simp
        intro e
        apply hc0
        rw [u8_eq]
        exact e
      clear hc hc0
      have W0 : Hid (∀ w, Calls Try.prog 50 #[.int .i64 0, .int .i64 0] w fun e w' => e = .returned (.int .i64 30) ∧ w = w') := Lib.hid fun w => rwidth_any 0 (by decide) 0 w
      have W1 : Hid (∀ w, Calls Try.prog 50 #[.int .i64 1, .int .i64 0] w fun e w' => e = .returned (.int .i64 30) ∧ w = w') := Lib.hid fun w => rwidth_any 1 (by decide) 0 w
      have W2 : Hid (∀ w, Calls Try.prog 50 #[.int .i64 2, .int .i64 0] w fun e w' => e = .returned (.int .i64 30) ∧ w = w') := Lib.hid fun w => rwidth_any 2 (by decide) 0 w
      have W3 : Hid (∀ w, Calls Try.prog 50 #[.int .i64 3, .int .i64 0] w fun e w' => e = .returned (.int .i64 4) ∧ w = w') := Lib.hid fun w => rwidth_any 3 (by decide) 0 w
      have W4 : Hid (∀ w, Calls Try.prog 50 #[.int .i64 4, .int .i64 0] w fun e w' => e = .returned (.int .i64 30) ∧ w = w') := Lib.hid fun w => by
        have h := rwidth_any 4 (by decide) 0 w
        have e4 : (rooms 0)[4]'(show 4 < 5 by decide) = 30 := by rfl
        rw [e4] at h
        exact h
      have A4 := Lib.hid (fun w => rcut_any ((b.drop 97).take 30) w (by rw [List.length_take]; omega))
      go_wp2
      refine wp_loop_rounds 6 ?_
      rw [rounds_succ]
      go_wp2_with (first | (go_at_call 50; first | (with_reducible refine (W0.out _).mono ?_; rintro e w5 ⟨rfl, rfl⟩) | (with_reducible refine (W1.out _).mono ?_; rintro e w5 ⟨rfl, rfl⟩) | (with_reducible refine (W2.out _).mono ?_; rintro e w5 ⟨rfl, rfl⟩) | (with_reducible refine (W3.out _).mono ?_; rintro e w5 ⟨rfl, rfl⟩) | (with_reducible refine (W4.out _).mono ?_; rintro e w5 ⟨rfl, rfl⟩)) | (go_at_call 49; first | (with_reducible refine (A0.out _).mono ?_; rintro e w5 ⟨rfl, rfl⟩) | (with_reducible refine (A1.out _).mono ?_; rintro e w5 ⟨rfl, rfl⟩) | (with_reducible refine (A2.out _).mono ?_; rintro e w5 ⟨rfl, rfl⟩) | (with_reducible refine (A3.out _).mono ?_; rintro e w5 ⟨rfl, rfl⟩) | (with_reducible refine (A4.out _).mono ?_; rintro e w5 ⟨rfl, rfl⟩)))
      rw [rounds_succ]
      go_wp2_with (first | (go_at_call 50; first | (with_reducible refine (W0.out _).mono ?_; rintro e w5 ⟨rfl, rfl⟩) | (with_reducible refine (W1.out _).mono ?_; rintro e w5 ⟨rfl, rfl⟩) | (with_reducible refine (W2.out _).mono ?_; rintro e w5 ⟨rfl, rfl⟩) | (with_reducible refine (W3.out _).mono ?_; rintro e w5 ⟨rfl, rfl⟩) | (with_reducible refine (W4.out _).mono ?_; rintro e w5 ⟨rfl, rfl⟩)) | (go_at_call 49; first | (with_reducible refine (A0.out _).mono ?_; rintro e w5 ⟨rfl, rfl⟩) | (with_reducible refine (A1.out _).mono ?_; rintro e w5 ⟨rfl, rfl⟩) | (with_reducible refine (A2.out _).mono ?_; rintro e w5 ⟨rfl, rfl⟩) | (with_reducible refine (A3.out _).mono ?_; rintro e w5 ⟨rfl, rfl⟩) | (with_reducible refine (A4.out _).mono ?_; rintro e w5 ⟨rfl, rfl⟩)))
      rw [rounds_succ]
      go_wp2_with (first | (go_at_call 50; first | (with_reducible refine (W0.out _).mono ?_; rintro e w5 ⟨rfl, rfl⟩) | (with_reducible refine (W1.out _).mono ?_; rintro e w5 ⟨rfl, rfl⟩) | (with_reducible refine (W2.out _).mono ?_; rintro e w5 ⟨rfl, rfl⟩) | (with_reducible refine (W3.out _).mono ?_; rintro e w5 ⟨rfl, rfl⟩) | (with_reducible refine (W4.out _).mono ?_; rintro e w5 ⟨rfl, rfl⟩)) | (go_at_call 49; first | (with_reducible refine (A0.out _).mono ?_; rintro e w5 ⟨rfl, rfl⟩) | (with_reducible refine (A1.out _).mono ?_; rintro e w5 ⟨rfl, rfl⟩) | (with_reducible refine (A2.out _).mono ?_; rintro e w5 ⟨rfl, rfl⟩) | (with_reducible refine (A3.out _).mono ?_; rintro e w5 ⟨rfl, rfl⟩) | (with_reducible refine (A4.out _).mono ?_; rintro e w5 ⟨rfl, rfl⟩)))
      rw [rounds_succ]
      go_wp2_with (first | (go_at_call 50; first | (with_reducible refine (W0.out _).mono ?_; rintro e w5 ⟨rfl, rfl⟩) | (with_reducible refine (W1.out _).mono ?_; rintro e w5 ⟨rfl, rfl⟩) | (with_reducible refine (W2.out _).mono ?_; rintro e w5 ⟨rfl, rfl⟩) | (with_reducible refine (W3.out _).mono ?_; rintro e w5 ⟨rfl, rfl⟩) | (with_reducible refine (W4.out _).mono ?_; rintro e w5 ⟨rfl, rfl⟩)) | (go_at_call 49; first | (with_reducible refine (A0.out _).mono ?_; rintro e w5 ⟨rfl, rfl⟩) | (with_reducible refine (A1.out _).mono ?_; rintro e w5 ⟨rfl, rfl⟩) | (with_reducible refine (A2.out _).mono ?_; rintro e w5 ⟨rfl, rfl⟩) | (with_reducible refine (A3.out _).mono ?_; rintro e w5 ⟨rfl, rfl⟩) | (with_reducible refine (A4.out _).mono ?_; rintro e w5 ⟨rfl, rfl⟩)))
      rw [rounds_succ]
      go_wp2_with (first | (go_at_call 50; first | (with_reducible refine (W0.out _).mono ?_; rintro e w5 ⟨rfl, rfl⟩) | (with_reducible refine (W1.out _).mono ?_; rintro e w5 ⟨rfl, rfl⟩) | (with_reducible refine (W2.out _).mono ?_; rintro e w5 ⟨rfl, rfl⟩) | (with_reducible refine (W3.out _).mono ?_; rintro e w5 ⟨rfl, rfl⟩) | (with_reducible refine (W4.out _).mono ?_; rintro e w5 ⟨rfl, rfl⟩)) | (go_at_call 49; first | (with_reducible refine (A0.out _).mono ?_; rintro e w5 ⟨rfl, rfl⟩) | (with_reducible refine (A1.out _).mono ?_; rintro e w5 ⟨rfl, rfl⟩) | (with_reducible refine (A2.out _).mono ?_; rintro e w5 ⟨rfl, rfl⟩) | (with_reducible refine (A3.out _).mono ?_; rintro e w5 ⟨rfl, rfl⟩) | (with_reducible refine (A4.out _).mono ?_; rintro e w5 ⟨rfl, rfl⟩)))
      rw [rounds_succ]
      go_wp2
      exact end_cell rfl rfl rfl (at_a1 _ _ _ _) Try.underlying28 rfl (by kernel_rfl) ⟨by rw [HP.out] <;> rfl, ((Below.refl _ _).alloc (Nat.le_refl _) _).alloc (by simp) _⟩
end Go.Proofs.Ytlgkbkbghheokaa
