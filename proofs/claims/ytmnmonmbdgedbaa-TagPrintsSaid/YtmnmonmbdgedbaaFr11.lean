/- Layer 13 (frame): the document's flags and names, walked. -/
import Derived.Test.YtmnmonmbdgedbaaFr10
namespace Go.Proofs.Ytmnmonmbdgedbaa
open Go.RowKit
set_option linter.unusedVariables false
set_option linter.unusedSimpArgs false

def bt (c : UInt8) (k : Nat) : Bool := (((c.toNat / k % 2 : Nat) : Int) == 1)
set_option maxRecDepth 100000 in
theorem bt_nat : ∀ n < 256, ((n &&& 192 != 0) = (n / 128 % 2 == 1 || n / 64 % 2 == 1)) ∧ ((n &&& 12 != 0) = (n / 8 % 2 == 1 || n / 4 % 2 == 1)) ∧ ((n &&& 32 != 0) = (n / 32 % 2 == 1)) ∧ ((n &&& 64 != 0) = (n / 64 % 2 == 1)) ∧ ((n &&& 1 != 0) = (n / 1 % 2 == 1)) ∧ ((n &&& 2 != 0) = (n / 2 % 2 == 1)) := by decide
theorem int_beq (a b : Nat) : (((a : Nat) : Int) == ((b : Nat) : Int)) = (a == b) := by
  rw [Bool.eq_iff_iff, beq_iff_eq, beq_iff_eq]; omega
theorem tb_nat (c : UInt8) (k : Nat) : tb c k = (c.toNat &&& k != 0) := by
  unfold tb
  rw [bne, bne, show ((0 : Int)) = ((0 : Nat) : Int) from rfl, int_beq]
theorem bt_eq (c : UInt8) (k : Nat) : bt c k = (c.toNat / k % 2 == 1) := by
  unfold bt
  rw [show ((1 : Int)) = ((1 : Nat) : Int) from rfl, int_beq]
theorem tb_192 (c : UInt8) : tb c 192 = (bt c 128 || bt c 64) := by rw [tb_nat, bt_eq, bt_eq]; exact (bt_nat c.toNat (UInt8.toNat_lt c)).1
theorem tb_12 (c : UInt8) : tb c 12 = (bt c 8 || bt c 4) := by rw [tb_nat, bt_eq, bt_eq]; exact (bt_nat c.toNat (UInt8.toNat_lt c)).2.1
theorem tb_32 (c : UInt8) : tb c 32 = bt c 32 := by rw [tb_nat, bt_eq]; exact (bt_nat c.toNat (UInt8.toNat_lt c)).2.2.1
theorem tb_64 (c : UInt8) : tb c 64 = bt c 64 := by rw [tb_nat, bt_eq]; exact (bt_nat c.toNat (UInt8.toNat_lt c)).2.2.2.1
theorem tb_1 (c : UInt8) : tb c 1 = bt c 1 := by rw [tb_nat, bt_eq]; exact (bt_nat c.toNat (UInt8.toNat_lt c)).2.2.2.2.1
theorem tb_2 (c : UInt8) : tb c 2 = bt c 2 := by rw [tb_nat, bt_eq]; exact (bt_nat c.toNat (UInt8.toNat_lt c)).2.2.2.2.2
set_option maxRecDepth 100000 in
theorem bit_any (c : UInt8) (k : Nat) (w : World) (hk : 0 < k) (hk2 : k ≤ 200) : Calls Try.prog 28 #[.int .i64 c.toNat, .int .i64 k] w fun e w' => e = .returned (.bool (bt c k)) ∧ w = w' := by
  have hc := byte_le c
  have hd : c.toNat / k ≤ 255 := Nat.le_trans (Nat.div_le_self _ _) (by omega)
  have HD2 := Lib.hid (show (c.toNat : Int) / (k : Int) = ((c.toNat / k : Nat) : Int) by simp)
  have HD := Lib.hid hd
  clear hd
  unfold bt
  go_enter Try.func28, Try.ntmps28
  go_wp2
  go_ret
  refine ⟨?_, rfl⟩
  have e : wrap64 ((c.toNat : Int) / (k : Int)) = ((c.toNat / k : Nat) : Int) := by
    rw [HD2.out]
    have hd := HD.out
    generalize c.toNat / k = z at *
    unfold wrap64; omega
  have e2 : (wrap64 ((c.toNat : Int) / (k : Int))).tmod 2 = ((c.toNat / k % 2 : Nat) : Int) := by
    rw [e]; rfl
  exact congrArg (fun x => Ending.returned (Value.bool (x == 1))) e2

set_option maxRecDepth 100000 in
theorem rlocked_any (v : Int) (fm : UInt8) (w : World) : Calls Try.prog 131 #[.int .i64 v, .int .i64 fm.toNat] w fun e w' => e = .returned (.bool (locked v fm)) ∧ w = w' := by
  have B1 : Hid (∀ w, Calls Try.prog 28 #[.int .i64 fm.toNat, .int .i64 128] w fun e w' => e = .returned (.bool (bt fm 128)) ∧ w = w') := Lib.hid (fun w => bit_any fm 128 w (by decide) (by decide))
  have B2 : Hid (∀ w, Calls Try.prog 28 #[.int .i64 fm.toNat, .int .i64 64] w fun e w' => e = .returned (.bool (bt fm 64)) ∧ w = w') := Lib.hid (fun w => bit_any fm 64 w (by decide) (by decide))
  have B3 : Hid (∀ w, Calls Try.prog 28 #[.int .i64 fm.toNat, .int .i64 8] w fun e w' => e = .returned (.bool (bt fm 8)) ∧ w = w') := Lib.hid (fun w => bit_any fm 8 w (by decide) (by decide))
  have B4 : Hid (∀ w, Calls Try.prog 28 #[.int .i64 fm.toNat, .int .i64 4] w fun e w' => e = .returned (.bool (bt fm 4)) ∧ w = w') := Lib.hid (fun w => bit_any fm 4 w (by decide) (by decide))
  unfold locked
  rw [tb_192, tb_12]
  generalize bt fm 128 = b1 at *
  generalize bt fm 64 = b2 at *
  generalize bt fm 8 = b3 at *
  generalize bt fm 4 = b4 at *
  by_cases h3 : v = 3
  · subst h3
    rw [if_pos rfl]
    rcases b1 with _ | _
    · go_enter Try.func131, Try.ntmps131
      go_wp2_with (first | (go_at_call 28; (with_reducible refine (B1.out _).mono ?_); rintro e w1 ⟨rfl, rfl⟩) | (go_at_call 28; (with_reducible refine (B2.out _).mono ?_); rintro e w1 ⟨rfl, rfl⟩))
      go_ret
      exact ⟨rfl, rfl⟩
    · go_enter Try.func131, Try.ntmps131
      go_wp2_with (first | (go_at_call 28; (with_reducible refine (B1.out _).mono ?_); rintro e w1 ⟨rfl, rfl⟩) | (go_at_call 28; (with_reducible refine (B2.out _).mono ?_); rintro e w1 ⟨rfl, rfl⟩))
      go_ret
      exact ⟨rfl, rfl⟩
  · rw [if_neg h3]
    have t3 := no_case h3
    by_cases h4 : v = 4
    · subst h4
      rw [if_pos rfl]
      rcases b3 with _ | _
      · go_enter Try.func131, Try.ntmps131
        go_wp2_with (first | (go_at_call 28; (with_reducible refine (B3.out _).mono ?_); rintro e w1 ⟨rfl, rfl⟩) | (go_at_call 28; (with_reducible refine (B4.out _).mono ?_); rintro e w1 ⟨rfl, rfl⟩))
        go_ret
        exact ⟨rfl, rfl⟩
      · go_enter Try.func131, Try.ntmps131
        go_wp2_with (first | (go_at_call 28; (with_reducible refine (B3.out _).mono ?_); rintro e w1 ⟨rfl, rfl⟩) | (go_at_call 28; (with_reducible refine (B4.out _).mono ?_); rintro e w1 ⟨rfl, rfl⟩))
        go_ret
        exact ⟨rfl, rfl⟩
    · rw [if_neg h4]
      have t4 := no_case h4
      clear h3 h4
      go_enter Try.func131, Try.ntmps131
      go_wp2
      go_ret
      exact ⟨rfl, rfl⟩
set_option maxRecDepth 100000 in
theorem rgrouped_any (v : Int) (fm : UInt8) (w : World) : Calls Try.prog 107 #[.int .i64 v, .int .i64 fm.toNat] w fun e w' => e = .returned (.bool (grouped v fm)) ∧ w = w' := by
  have B1 : Hid (∀ w, Calls Try.prog 28 #[.int .i64 fm.toNat, .int .i64 32] w fun e w' => e = .returned (.bool (bt fm 32)) ∧ w = w') := Lib.hid (fun w => bit_any fm 32 w (by decide) (by decide))
  have B2 : Hid (∀ w, Calls Try.prog 28 #[.int .i64 fm.toNat, .int .i64 64] w fun e w' => e = .returned (.bool (bt fm 64)) ∧ w = w') := Lib.hid (fun w => bit_any fm 64 w (by decide) (by decide))
  have LK := Lib.hid (fun w => rlocked_any v fm w)
  unfold grouped
  rw [tb_32, tb_64]
  generalize bt fm 32 = b1 at *
  generalize bt fm 64 = b2 at *
  generalize locked v fm = lk at *
  rcases lk with _ | _
  · rw [if_neg (by decide)]
    by_cases h3 : v = 3
    · subst h3
      rw [if_pos rfl]
      rcases b1 with _ | _
      · go_enter Try.func107, Try.ntmps107
        go_wp2_with (first | (go_at_call 131; (with_reducible refine (LK.out _).mono ?_); rintro e w1 ⟨rfl, rfl⟩) | (go_at_call 28; (with_reducible refine (B1.out _).mono ?_); rintro e w1 ⟨rfl, rfl⟩) | (go_at_call 28; (with_reducible refine (B2.out _).mono ?_); rintro e w1 ⟨rfl, rfl⟩))
        go_ret
        exact ⟨rfl, rfl⟩
      · go_enter Try.func107, Try.ntmps107
        go_wp2_with (first | (go_at_call 131; (with_reducible refine (LK.out _).mono ?_); rintro e w1 ⟨rfl, rfl⟩) | (go_at_call 28; (with_reducible refine (B1.out _).mono ?_); rintro e w1 ⟨rfl, rfl⟩) | (go_at_call 28; (with_reducible refine (B2.out _).mono ?_); rintro e w1 ⟨rfl, rfl⟩))
        go_ret
        exact ⟨rfl, rfl⟩
    · rw [if_neg h3]
      have t3 := no_case h3
      by_cases h4 : v = 4
      · subst h4
        rw [if_pos rfl]
        go_enter Try.func107, Try.ntmps107
        go_wp2_with (first | (go_at_call 131; (with_reducible refine (LK.out _).mono ?_); rintro e w1 ⟨rfl, rfl⟩) | (go_at_call 28; (with_reducible refine (B2.out _).mono ?_); rintro e w1 ⟨rfl, rfl⟩))
        go_ret
        exact ⟨rfl, rfl⟩
      · rw [if_neg h4]
        have t4 := no_case h4
        clear h3 h4
        go_enter Try.func107, Try.ntmps107
        go_wp2_with (first | (go_at_call 131; (with_reducible refine (LK.out _).mono ?_); rintro e w1 ⟨rfl, rfl⟩))
        go_ret
        exact ⟨rfl, rfl⟩
  · rw [if_pos rfl]
    go_enter Try.func107, Try.ntmps107
    go_wp2_with (first | (go_at_call 131; (with_reducible refine (LK.out _).mono ?_); rintro e w1 ⟨rfl, rfl⟩))
    go_ret
    exact ⟨rfl, rfl⟩
set_option maxRecDepth 100000 in
theorem rmeasured_any (v : Int) (fm : UInt8) (w : World) : Calls Try.prog 111 #[.int .i64 v, .int .i64 fm.toNat] w fun e w' => e = .returned (.bool (measured v fm)) ∧ w = w' := by
  have B1 : Hid (∀ w, Calls Try.prog 28 #[.int .i64 fm.toNat, .int .i64 1] w fun e w' => e = .returned (.bool (bt fm 1)) ∧ w = w') := Lib.hid (fun w => bit_any fm 1 w (by decide) (by decide))
  have LK := Lib.hid (fun w => rlocked_any v fm w)
  unfold measured
  rw [tb_1]
  generalize bt fm 1 = b1 at *
  generalize locked v fm = lk at *
  by_cases h4 : v = 4
  · subst h4
    rw [if_pos rfl]
    rcases lk with _ | _
    · rw [if_neg (by decide)]
      go_enter Try.func111, Try.ntmps111
      go_wp2_with (first | (go_at_call 131; (with_reducible refine (LK.out _).mono ?_); rintro e w1 ⟨rfl, rfl⟩) | (go_at_call 28; (with_reducible refine (B1.out _).mono ?_); rintro e w1 ⟨rfl, rfl⟩))
      go_ret
      exact ⟨rfl, rfl⟩
    · rw [if_pos rfl]
      go_enter Try.func111, Try.ntmps111
      go_wp2_with (first | (go_at_call 131; (with_reducible refine (LK.out _).mono ?_); rintro e w1 ⟨rfl, rfl⟩) | (go_at_call 28; (with_reducible refine (B1.out _).mono ?_); rintro e w1 ⟨rfl, rfl⟩))
      go_ret
      exact ⟨rfl, rfl⟩
  · rw [if_neg h4]
    have t4 := no_case h4
    clear h4
    go_enter Try.func111, Try.ntmps111
    go_wp2
    go_ret
    exact ⟨rfl, rfl⟩
set_option maxRecDepth 100000 in
theorem rspread_any (v : Int) (fm : UInt8) (w : World) : Calls Try.prog 112 #[.int .i64 v, .int .i64 fm.toNat] w fun e w' => e = .returned (.bool (spreadB v fm)) ∧ w = w' := by
  have B1 : Hid (∀ w, Calls Try.prog 28 #[.int .i64 fm.toNat, .int .i64 2] w fun e w' => e = .returned (.bool (bt fm 2)) ∧ w = w') := Lib.hid (fun w => bit_any fm 2 w (by decide) (by decide))
  have LK := Lib.hid (fun w => rlocked_any v fm w)
  unfold spreadB
  rw [tb_2]
  generalize bt fm 2 = b1 at *
  generalize locked v fm = lk at *
  by_cases h4 : v = 4
  · subst h4
    rw [if_pos rfl]
    rcases lk with _ | _
    · rw [if_neg (by decide)]
      go_enter Try.func112, Try.ntmps112
      go_wp2_with (first | (go_at_call 131; (with_reducible refine (LK.out _).mono ?_); rintro e w1 ⟨rfl, rfl⟩) | (go_at_call 28; (with_reducible refine (B1.out _).mono ?_); rintro e w1 ⟨rfl, rfl⟩))
      go_ret
      exact ⟨rfl, rfl⟩
    · rw [if_pos rfl]
      go_enter Try.func112, Try.ntmps112
      go_wp2_with (first | (go_at_call 131; (with_reducible refine (LK.out _).mono ?_); rintro e w1 ⟨rfl, rfl⟩) | (go_at_call 28; (with_reducible refine (B1.out _).mono ?_); rintro e w1 ⟨rfl, rfl⟩))
      go_ret
      exact ⟨rfl, rfl⟩
  · rw [if_neg h4]
    have t4 := no_case h4
    clear h4
    go_enter Try.func112, Try.ntmps112
    go_wp2
    go_ret
    exact ⟨rfl, rfl⟩
end Go.Proofs.Ytmnmonmbdgedbaa
