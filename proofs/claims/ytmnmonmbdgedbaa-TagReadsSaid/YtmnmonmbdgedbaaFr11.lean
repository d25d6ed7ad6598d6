/- Layer 13 (frame): Print, joined. | Layer 13 (frame): the document's flags and names, walked. -/
import Derived.Test.YtmnmonmbdgedbaaFr9a
import Derived.Test.YtmnmonmbdgedbaaFr9b
import Derived.Test.YtmnmonmbdgedbaaFr9c
import Derived.Test.YtmnmonmbdgedbaaFr9d
import Derived.Test.YtmnmonmbdgedbaaFr9e
import Derived.Test.YtmnmonmbdgedbaaFr9f
import Derived.Test.YtmnmonmbdgedbaaFr9g
import Derived.Test.YtmnmonmbdgedbaaFr9h
import Derived.Test.YtmnmonmbdgedbaaFr9i
import Derived.Test.YtmnmonmbdgedbaaFr9j
import Derived.Test.YtmnmonmbdgedbaaFr9k

namespace Go.Proofs.Ytmnmonmbdgedbaa
open Go.RowKit
set_option linter.unusedVariables false
set_option linter.unusedSimpArgs false

def sizeL (v : Int) (n : Nat) : List UInt8 := if v = 2 then bigL n 3 else if v = 3 then bigL n 4 else safeL n
def dataL (v : Int) (f : Fr) : List UInt8 :=
  (if grouped v f.fm = true then bigL f.gr.toNat 1 else []) ++ ((if measured v f.fm = true then safeL f.bo.length else []) ++ (if spreadB v f.fm = true then sndPut f.bo else f.bo))
def printF (v : Int) (f : Fr) : List UInt8 := f.id ++ (sizeL v (lengthF v f) ++ ((if v = 2 then [] else bigL f.st.toNat 1 ++ bigL f.fm.toNat 1) ++ dataL v f))
theorem safeS_length : ∀ (k n : Nat), (safeS n k).length = k
  | 0, n => rfl
  | k + 1, n => by rw [safeS, List.length_cons, safeS_length k]
theorem safeL_length (n : Nat) : (safeL n).length = 4 := by unfold safeL; rw [List.length_reverse, safeS_length]
theorem lengthF_le (v : Int) (f : Fr) : lengthF v f ≤ 2 * f.bo.length + 5 := by
  have := sndCnt_le f.bo
  unfold lengthF
  split <;> split <;> split <;> omega
theorem letters_of {v : Int} (h : letters v ≠ 0) : v = 2 ∨ v = 3 ∨ v = 4 := by
  unfold letters at h
  by_cases a : v = 2
  · exact .inl a
  · by_cases b : v = 3
    · exact .inr (.inl b)
    · by_cases c : v = 4
      · exact .inr (.inr c)
      · rw [if_neg a, if_neg b, if_neg c] at h
        exact absurd rfl h
theorem checkF_ok {v : Int} {f : Fr} (h : checkF v f = 0) : named v f.id = true ∧ wfB v f.st f.fm = false ∧ wgB v f.gr f.fm = false := by
  unfold checkF at h
  split at h
  · rename_i hk
    unfold okF at hk
    simp only [Bool.and_eq_true, Bool.not_eq_true'] at hk
    exact ⟨hk.1, hk.2.1, hk.2.2⟩
  · exact absurd h (by decide)
theorem named_ok {v : Int} {id : List UInt8} (h : named v id = true) : (v = 2 ∨ v = 3 ∨ v = 4) ∧ id.length = letters v ∧ wrongN id = letters v := by
  unfold named at h
  simp only [Bool.and_eq_true, decide_eq_true_eq] at h
  exact ⟨letters_of (by omega), h.2.1, h.2.2⟩
theorem grouped_two (fm : UInt8) : grouped 2 fm = false := by unfold grouped locked; simp
theorem measured_not {v : Int} (h : v ≠ 4) (fm : UInt8) : measured v fm = false := by unfold measured; rw [if_neg h]
theorem spread_not {v : Int} (h : v ≠ 4) (fm : UInt8) : spreadB v fm = false := by unfold spreadB; rw [if_neg h]
set_option maxHeartbeats 1000000 in
theorem fprint_any (v : Int) (f : Fr) (w : World) (hl : f.bo.length ≤ 8000000) (hid : f.id.length ≤ 8000000) :
    Calls Try.prog 88 #[frV f, .int .i64 v] w (FPrints (if checkF v f = 0 then printF v f else []) (checkF v f) w) := by
  have CK := Lib.hid (fun w => fcheck_any v f w (by omega))
  by_cases hc : checkF v f = 0
  rotate_left
  · rw [if_neg hc]
    exact fprint_bad v f.id f.st f.fm f.gr f.bo f.pl (checkF v f) w hc CK
  rw [if_pos hc]
  rw [hc] at CK ⊢
  have LN := Lib.hid (fun w => flength_any v f w (by omega))
  obtain ⟨hv, hi, hw⟩ := named_ok (checkF_ok hc).1
  have hle := lengthF_le v f
  have hcn := sndCnt_le f.bo
  have hpl := sndPut_len f.bo
  have GR := Lib.hid (fun w => grouped_any v f.id f.st f.fm w)
  have ME := Lib.hid (fun w => measured_any v f.id f.st f.fm w)
  have SP := Lib.hid (fun w => spread_any v f.id f.st f.fm w)
  have b1 := UInt8.toNat_lt f.st
  have b2 := UInt8.toNat_lt f.fm
  have b3 := UInt8.toNat_lt f.gr
  have BS := Lib.hid (fun w => big_any f.st.toNat 1 1 w (Lib.hid (by omega)) (Lib.hid (by decide)))
  have BF := Lib.hid (fun w => big_any f.fm.toNat 1 1 w (Lib.hid (by omega)) (Lib.hid (by decide)))
  have BG := Lib.hid (fun w => big_any f.gr.toNat 1 1 w (Lib.hid (by omega)) (Lib.hid (by decide)))
  have BM := Lib.hid (fun w => safe_yes f.bo.length w (by omega))
  have PU := Lib.hid (fun w => put_any f.bo w (by omega))
  have JF := Lib.hid (fun a w h => octJoin_any a 2 2 [bigL f.st.toNat 1, bigL f.fm.toNat 1] w h (by decide) (by decide) (by simp [bigL_len]))
  unfold printF sizeL dataL
  rw [show frV f = Value.agg (frC f.id f.st f.fm f.gr f.bo f.pl) from rfl] at *
  rcases hv with rfl | rfl | rfl
  · have BL := Lib.hid (fun w => big_any (lengthF 2 f) 3 3 w (Lib.hid (by omega)) (Lib.hid (by decide)))
    rw [grouped_two] at GR ⊢
    rw [measured_not (by decide)] at ME ⊢
    rw [spread_not (by decide)] at SP ⊢
    have k := fprint_2000 f.id f.st f.fm f.gr f.bo f.pl _ _ _ _ _ [] [] f.bo _ w (by omega) (by omega) CK LN GR ME SP BS BF JF BL rfl rfl (by simp [bigL_len, safeL_length, hpl]; omega)
    simpa [List.append_assoc] using k
  · have BL := Lib.hid (fun w => big_any (lengthF 3 f) 4 4 w (Lib.hid (by omega)) (Lib.hid (by decide)))
    rw [measured_not (by decide)] at ME ⊢
    rw [spread_not (by decide)] at SP ⊢
    generalize lengthF 3 f = n at *
    generalize grouped 3 f.fm = gp at *
    rcases gp with _ | _
    · skip
      have k := fprint_3000 f.id f.st f.fm f.gr f.bo f.pl _ _ _ _ _ [] [] f.bo _ w (by omega) (by omega) CK LN GR ME SP BS BF JF BL rfl rfl (by simp [bigL_len, safeL_length, hpl]; omega)
      simpa [List.append_assoc] using k
    · skip
      have k := fprint_3100 f.id f.st f.fm f.gr f.bo f.pl _ _ _ _ _ (bigL f.gr.toNat 1) [] f.bo _ w (by omega) (by omega) CK LN GR ME SP BS BF JF BL BG rfl rfl (by simp [bigL_len, safeL_length, hpl]; omega)
      simpa [List.append_assoc] using k
  · have BL := Lib.hid (fun w => safe_yes (lengthF 4 f) w (by omega))
    generalize lengthF 4 f = n at *
    generalize grouped 4 f.fm = gp at *
    generalize measured 4 f.fm = ms at *
    generalize spreadB 4 f.fm = sp at *
    rcases gp with _ | _
    · rcases ms with _ | _
      · rcases sp with _ | _
        · skip
          have k := fprint_4000 f.id f.st f.fm f.gr f.bo f.pl _ _ _ _ _ [] [] f.bo _ w (by omega) (by omega) CK LN GR ME SP BS BF JF BL rfl rfl (by simp [bigL_len, safeL_length, hpl]; omega)
          simpa [List.append_assoc] using k
        · skip
          have k := fprint_4001 f.id f.st f.fm f.gr f.bo f.pl _ _ _ _ _ [] [] (sndPut f.bo) _ w (by omega) (by omega) CK LN GR ME SP BS BF JF BL PU rfl (by simp [bigL_len, safeL_length, hpl]; omega)
          simpa [List.append_assoc] using k
      · rcases sp with _ | _
        · skip
          have k := fprint_4010 f.id f.st f.fm f.gr f.bo f.pl _ _ _ _ _ [] (safeL f.bo.length) f.bo _ w (by omega) (by omega) CK LN GR ME SP BS BF JF BL BM rfl rfl (by simp [bigL_len, safeL_length, hpl]; omega)
          simpa [List.append_assoc] using k
        · skip
          have k := fprint_4011 f.id f.st f.fm f.gr f.bo f.pl _ _ _ _ _ [] (safeL f.bo.length) (sndPut f.bo) _ w (by omega) (by omega) CK LN GR ME SP BS BF JF BL BM PU rfl (by simp [bigL_len, safeL_length, hpl]; omega)
          simpa [List.append_assoc] using k
    · rcases ms with _ | _
      · rcases sp with _ | _
        · skip
          have k := fprint_4100 f.id f.st f.fm f.gr f.bo f.pl _ _ _ _ _ (bigL f.gr.toNat 1) [] f.bo _ w (by omega) (by omega) CK LN GR ME SP BS BF JF BL BG rfl rfl (by simp [bigL_len, safeL_length, hpl]; omega)
          simpa [List.append_assoc] using k
        · skip
          have k := fprint_4101 f.id f.st f.fm f.gr f.bo f.pl _ _ _ _ _ (bigL f.gr.toNat 1) [] (sndPut f.bo) _ w (by omega) (by omega) CK LN GR ME SP BS BF JF BL BG PU rfl (by simp [bigL_len, safeL_length, hpl]; omega)
          simpa [List.append_assoc] using k
      · rcases sp with _ | _
        · skip
          have k := fprint_4110 f.id f.st f.fm f.gr f.bo f.pl _ _ _ _ _ (bigL f.gr.toNat 1) (safeL f.bo.length) f.bo _ w (by omega) (by omega) CK LN GR ME SP BS BF JF BL BG BM rfl rfl (by simp [bigL_len, safeL_length, hpl]; omega)
          simpa [List.append_assoc] using k
        · skip
          have k := fprint_4111 f.id f.st f.fm f.gr f.bo f.pl _ _ _ _ _ (bigL f.gr.toNat 1) (safeL f.bo.length) (sndPut f.bo) _ w (by omega) (by omega) CK LN GR ME SP BS BF JF BL BG BM PU rfl (by simp [bigL_len, safeL_length, hpl]; omega)
          simpa [List.append_assoc] using k
end Go.Proofs.Ytmnmonmbdgedbaa

namespace Go.Proofs.Ytmnmonmbdgedbaa
open Go.RowKit
set_option linter.unusedVariables false
set_option linter.unusedSimpArgs false

def bt (c : UInt8) (k : Nat) : Bool := (((c.toNat / k % 2 : Nat) : Int) == 1)
set_option maxRecDepth 100000 in
theorem bt_nat : ∀ n < 256, ((n &&& 192 != 0) = (n / 128 % 2 == 1 || n / 64 % 2 == 1)) ∧ ((n &&& 12 != 0) = (n / 8 % 2 == 1 || n / 4 % 2 == 1)) ∧ ((n &&& 32 != 0) = (n / 32 % 2 == 1)) ∧ ((n &&& 64 != 0) = (n / 64 % 2 == 1)) ∧ ((n &&& 1 != 0) = (n / 1 % 2 == 1)) ∧ ((n &&& 2 != 0) = (n / 2 % 2 == 1)) := by decide
theorem int_beq (a b : Nat) : (((a : Nat) : Int) == ((b : Nat) : Int)) = (a == b) := by
  rw [Bool.eq_iff_iff, beq_iff_eq, beq_iff_eq]; omega
theorem tb_nat (c : UInt8) (k : Nat) : tb c k = (c.toNat &&& k != 0) := by
  unfold tb
  rw [bne, bne, show ((0 : Int)) = ((0 : Nat) : Int) from rfl, int_beq]
theorem bt_eq (c : UInt8) (k : Nat) : bt c k = (c.toNat / k % 2 == 1) := by
  unfold bt
  rw [show ((1 : Int)) = ((1 : Nat) : Int) from rfl, int_beq]
theorem tb_192 (c : UInt8) : tb c 192 = (bt c 128 || bt c 64) := by rw [tb_nat, bt_eq, bt_eq]; exact (bt_nat c.toNat (UInt8.toNat_lt c)).1
theorem tb_12 (c : UInt8) : tb c 12 = (bt c 8 || bt c 4) := by rw [tb_nat, bt_eq, bt_eq]; exact (bt_nat c.toNat (UInt8.toNat_lt c)).2.1
theorem tb_32 (c : UInt8) : tb c 32 = bt c 32 := by rw [tb_nat, bt_eq]; exact (bt_nat c.toNat (UInt8.toNat_lt c)).2.2.1
theorem tb_64 (c : UInt8) : tb c 64 = bt c 64 := by rw [tb_nat, bt_eq]; exact (bt_nat c.toNat (UInt8.toNat_lt c)).2.2.2.1
theorem tb_1 (c : UInt8) : tb c 1 = bt c 1 := by rw [tb_nat, bt_eq]; exact (bt_nat c.toNat (UInt8.toNat_lt c)).2.2.2.2.1
theorem tb_2 (c : UInt8) : tb c 2 = bt c 2 := by rw [tb_nat, bt_eq]; exact (bt_nat c.toNat (UInt8.toNat_lt c)).2.2.2.2.2
set_option maxRecDepth 100000 in
theorem bit_any (c : UInt8) (k : Nat) (w : World) (hk : 0 < k) (hk2 : k ≤ 200) : Calls Try.prog 28 #[.int .i64 c.toNat, .int .i64 k] w fun e w' => e = .returned (.bool (bt c k)) ∧ w = w' := by
  have hc := byte_le c
  have hd : c.toNat / k ≤ 255 := Nat.le_trans (Nat.div_le_self _ _) (by omega)
  have HD2 := Lib.hid (show (c.toNat : Int) / (k : Int) = ((c.toNat / k : Nat) : Int) by simp)
  have HD := Lib.hid hd
  clear hd
  unfold bt
  go_enter Try.func28, Try.ntmps28
  go_wp2
  go_ret
  refine ⟨?_, rfl⟩
  have e : wrap64 ((c.toNat : Int) / (k : Int)) = ((c.toNat / k : Nat) : Int) := by
    rw [HD2.out]
    have hd := HD.out
    generalize c.toNat / k = z at *
    unfold wrap64; omega
  have e2 : (wrap64 ((c.toNat : Int) / (k : Int))).tmod 2 = ((c.toNat / k % 2 : Nat) : Int) := by
    rw [e]; rfl
  exact congrArg (fun x => Ending.returned (Value.bool (x == 1))) e2

set_option maxRecDepth 100000 in
theorem rlocked_any (v : Int) (fm : UInt8) (w : World) : Calls Try.prog 131 #[.int .i64 v, .int .i64 fm.toNat] w fun e w' => e = .returned (.bool (locked v fm)) ∧ w = w' := by
  have B1 : Hid (∀ w, Calls Try.prog 28 #[.int .i64 fm.toNat, .int .i64 128] w fun e w' => e = .returned (.bool (bt fm 128)) ∧ w = w') := Lib.hid (fun w => bit_any fm 128 w (by decide) (by decide))
  have B2 : Hid (∀ w, Calls Try.prog 28 #[.int .i64 fm.toNat, .int .i64 64] w fun e w' => e = .returned (.bool (bt fm 64)) ∧ w = w') := Lib.hid (fun w => bit_any fm 64 w (by decide) (by decide))
  have B3 : Hid (∀ w, Calls Try.prog 28 #[.int .i64 fm.toNat, .int .i64 8] w fun e w' => e = .returned (.bool (bt fm 8)) ∧ w = w') := Lib.hid (fun w => bit_any fm 8 w (by decide) (by decide))
  have B4 : Hid (∀ w, Calls Try.prog 28 #[.int .i64 fm.toNat, .int .i64 4] w fun e w' => e = .returned (.bool (bt fm 4)) ∧ w = w') := Lib.hid (fun w => bit_any fm 4 w (by decide) (by decide))
  unfold locked
  rw [tb_192, tb_12]
  generalize bt fm 128 = b1 at *
  generalize bt fm 64 = b2 at *
  generalize bt fm 8 = b3 at *
  generalize bt fm 4 = b4 at *
  by_cases h3 : v = 3
  · subst h3
    rw [if_pos rfl]
    rcases b1 with _ | _
    · go_enter Try.func131, Try.ntmps131
      go_wp2_with (first | (go_at_call 28; (with_reducible refine (B1.out _).mono ?_); rintro e w1 ⟨rfl, rfl⟩) | (go_at_call 28; (with_reducible refine (B2.out _).mono ?_); rintro e w1 ⟨rfl, rfl⟩))
      go_ret
      exact ⟨rfl, rfl⟩
    · go_enter Try.func131, Try.ntmps131
      go_wp2_with (first | (go_at_call 28; (with_reducible refine (B1.out _).mono ?_); rintro e w1 ⟨rfl, rfl⟩) | (go_at_call 28; (with_reducible refine (B2.out _).mono ?_); rintro e w1 ⟨rfl, rfl⟩))
      go_ret
      exact ⟨rfl, rfl⟩
  · rw [if_neg h3]
    have t3 := no_case h3
    by_cases h4 : v = 4
    · subst h4
      rw [if_pos rfl]
      rcases b3 with _ | _
      · go_enter Try.func131, Try.ntmps131
        go_wp2_with (first | (go_at_call 28; (with_reducible refine (B3.out _).mono ?_); rintro e w1 ⟨rfl, rfl⟩) | (go_at_call 28; (with_reducible refine (B4.out _).mono ?_); rintro e w1 ⟨rfl, rfl⟩))
        go_ret
        exact ⟨rfl, rfl⟩
      · go_enter Try.func131, Try.ntmps131
        go_wp2_with (first | (go_at_call 28; (with_reducible refine (B3.out _).mono ?_); rintro e w1 ⟨rfl, rfl⟩) | (go_at_call 28; (with_reducible refine (B4.out _).mono ?_); rintro e w1 ⟨rfl, rfl⟩))
        go_ret
        exact ⟨rfl, rfl⟩
    · rw [if_neg h4]
      have t4 := no_case h4
      clear h3 h4
      go_enter Try.func131, Try.ntmps131
      go_wp2
      go_ret
      exact ⟨rfl, rfl⟩
set_option maxRecDepth 100000 in
theorem rgrouped_any (v : Int) (fm : UInt8) (w : World) : Calls Try.prog 107 #[.int .i64 v, .int .i64 fm.toNat] w fun e w' => e = .returned (.bool (grouped v fm)) ∧ w = w' := by
  have B1 : Hid (∀ w, Calls Try.prog 28 #[.int .i64 fm.toNat, .int .i64 32] w fun e w' => e = .returned (.bool (bt fm 32)) ∧ w = w') := Lib.hid (fun w => bit_any fm 32 w (by decide) (by decide))
  have B2 : Hid (∀ w, Calls Try.prog 28 #[.int .i64 fm.toNat, .int .i64 64] w fun e w' => e = .returned (.bool (bt fm 64)) ∧ w = w') := Lib.hid (fun w => bit_any fm 64 w (by decide) (by decide))
  have LK := Lib.hid (fun w => rlocked_any v fm w)
  unfold grouped
  rw [tb_32, tb_64]
  generalize bt fm 32 = b1 at *
  generalize bt fm 64 = b2 at *
  generalize locked v fm = lk at *
  rcases lk with _ | _
  · rw [if_neg (by decide)]
    by_cases h3 : v = 3
    · subst h3
      rw [if_pos rfl]
      rcases b1 with _ | _
      · go_enter Try.func107, Try.ntmps107
        go_wp2_with (first | (go_at_call 131; (with_reducible refine (LK.out _).mono ?_); rintro e w1 ⟨rfl, rfl⟩) | (go_at_call 28; (with_reducible refine (B1.out _).mono ?_); rintro e w1 ⟨rfl, rfl⟩) | (go_at_call 28; (with_reducible refine (B2.out _).mono ?_); rintro e w1 ⟨rfl, rfl⟩))
        go_ret
        exact ⟨rfl, rfl⟩
      · go_enter Try.func107, Try.ntmps107
        go_wp2_with (first | (go_at_call 131; (with_reducible refine (LK.out _).mono ?_); rintro e w1 ⟨rfl, rfl⟩) | (go_at_call 28; (with_reducible refine (B1.out _).mono ?_); rintro e w1 ⟨rfl, rfl⟩) | (go_at_call 28; (with_reducible refine (B2.out _).mono ?_); rintro e w1 ⟨rfl, rfl⟩))
        go_ret
        exact ⟨rfl, rfl⟩
    · rw [if_neg h3]
      have t3 := no_case h3
      by_cases h4 : v = 4
      · subst h4
        rw [if_pos rfl]
        go_enter Try.func107, Try.ntmps107
        go_wp2_with (first | (go_at_call 131; (with_reducible refine (LK.out _).mono ?_); rintro e w1 ⟨rfl, rfl⟩) | (go_at_call 28; (with_reducible refine (B2.out _).mono ?_); rintro e w1 ⟨rfl, rfl⟩))
        go_ret
        exact ⟨rfl, rfl⟩
      · rw [if_neg h4]
        have t4 := no_case h4
        clear h3 h4
        go_enter Try.func107, Try.ntmps107
        go_wp2_with (first | (go_at_call 131; (with_reducible refine (LK.out _).mono ?_); rintro e w1 ⟨rfl, rfl⟩))
        go_ret
        exact ⟨rfl, rfl⟩
  · rw [if_pos rfl]
    go_enter Try.func107, Try.ntmps107
    go_wp2_with (first | (go_at_call 131; (with_reducible refine (LK.out _).mono ?_); rintro e w1 ⟨rfl, rfl⟩))
    go_ret
    exact ⟨rfl, rfl⟩
set_option maxRecDepth 100000 in
theorem rmeasured_any (v : Int) (fm : UInt8) (w : World) : Calls Try.prog 111 #[.int .i64 v, .int .i64 fm.toNat] w fun e w' => e = .returned (.bool (measured v fm)) ∧ w = w' := by
  have B1 : Hid (∀ w, Calls Try.prog 28 #[.int .i64 fm.toNat, .int .i64 1] w fun e w' => e = .returned (.bool (bt fm 1)) ∧ w = w') := Lib.hid (fun w => bit_any fm 1 w (by decide) (by decide))
  have LK := Lib.hid (fun w => rlocked_any v fm w)
  unfold measured
  rw [tb_1]
  generalize bt fm 1 = b1 at *
  generalize locked v fm = lk at *
  by_cases h4 : v = 4
  · subst h4
    rw [if_pos rfl]
    rcases lk with _ | _
    · rw [if_neg (by decide)]
      go_enter Try.func111, Try.ntmps111
      go_wp2_with (first | (go_at_call 131; (with_reducible refine (LK.out _).mono ?_); rintro e w1 ⟨rfl, rfl⟩) | (go_at_call 28; (with_reducible refine (B1.out _).mono ?_); rintro e w1 ⟨rfl, rfl⟩))
      go_ret
      exact ⟨rfl, rfl⟩
    · rw [if_pos rfl]
      go_enter Try.func111, Try.ntmps111
      go_wp2_with (first | (go_at_call 131; (with_reducible refine (LK.out _).mono ?_); rintro e w1 ⟨rfl, rfl⟩) | (go_at_call 28; (with_reducible refine (B1.out _).mono ?_); rintro e w1 ⟨rfl, rfl⟩))
      go_ret
      exact ⟨rfl, rfl⟩
  · rw [if_neg h4]
    have t4 := no_case h4
    clear h4
    go_enter Try.func111, Try.ntmps111
    go_wp2
    go_ret
    exact ⟨rfl, rfl⟩
set_option maxRecDepth 100000 in
theorem rspread_any (v : Int) (fm : UInt8) (w : World) : Calls Try.prog 112 #[.int .i64 v, .int .i64 fm.toNat] w fun e w' => e = .returned (.bool (spreadB v fm)) ∧ w = w' := by
  have B1 : Hid (∀ w, Calls Try.prog 28 #[.int .i64 fm.toNat, .int .i64 2] w fun e w' => e = .returned (.bool (bt fm 2)) ∧ w = w') := Lib.hid (fun w => bit_any fm 2 w (by decide) (by decide))
  have LK := Lib.hid (fun w => rlocked_any v fm w)
  unfold spreadB
  rw [tb_2]
  generalize bt fm 2 = b1 at *
  generalize locked v fm = lk at *
  by_cases h4 : v = 4
  · subst h4
    rw [if_pos rfl]
    rcases lk with _ | _
    · rw [if_neg (by decide)]
      go_enter Try.func112, Try.ntmps112
      go_wp2_with (first | (go_at_call 131; (with_reducible refine (LK.out _).mono ?_); rintro e w1 ⟨rfl, rfl⟩) | (go_at_call 28; (with_reducible refine (B1.out _).mono ?_); rintro e w1 ⟨rfl, rfl⟩))
      go_ret
      exact ⟨rfl, rfl⟩
    · rw [if_pos rfl]
      go_enter Try.func112, Try.ntmps112
      go_wp2_with (first | (go_at_call 131; (with_reducible refine (LK.out _).mono ?_); rintro e w1 ⟨rfl, rfl⟩) | (go_at_call 28; (with_reducible refine (B1.out _).mono ?_); rintro e w1 ⟨rfl, rfl⟩))
      go_ret
      exact ⟨rfl, rfl⟩
  · rw [if_neg h4]
    have t4 := no_case h4
    clear h4
    go_enter Try.func112, Try.ntmps112
    go_wp2
    go_ret
    exact ⟨rfl, rfl⟩
end Go.Proofs.Ytmnmonmbdgedbaa
