/- Layer 6 (johab): parts and codes, walked. | Layer 6 (johab): Sign and Bytes, walked. | Layer 6 (johab): Bytes, walked. -/
import Derived.Test.YtffhmjlojmoomaaGreatDoorZM1
import Derived.Test.YtffhmjlojmoomaaGreatDoorZH1

namespace Go.Proofs.YtffhmjlojmoomaaGreatDoor
open Go.RowKit
set_option linter.unusedVariables false
set_option linter.unusedSimpArgs false

set_option maxRecDepth 100000 in
theorem jini_any (c : Int) (h0 : 0 ≤ c) (h1 : c < 32) (w : World) : Calls Tryz.prog 76 #[.int .i64 c] w fun e w' => e = .returned (.tuple #[.int .i64 (jIni c).1, .bool (jIni c).2]) ∧ w = w' := by
  unfold jIni
  go_enter Tryz.func76, Tryz.ntmps76
  go_wp2
  all_goals go_ret2
  (all_goals (first | exact ⟨rfl, rfl⟩ | (exfalso; simp at *; omega) | (exfalso; omega)))
set_option maxRecDepth 100000 in
theorem jmed_any (c : Int) (h0 : 0 ≤ c) (h1 : c < 32) (w : World) : Calls Tryz.prog 77 #[.int .i64 c] w fun e w' => e = .returned (.tuple #[.int .i64 (jMed c).1, .bool (jMed c).2]) ∧ w = w' := by
  unfold jMed
  go_enter Tryz.func77, Tryz.ntmps77
  go_wp2
  all_goals go_ret2
  (all_goals (first | exact ⟨rfl, rfl⟩ | (exfalso; simp at *; omega) | (exfalso; omega)))
set_option maxRecDepth 100000 in
theorem jfin_any (c : Int) (h0 : 0 ≤ c) (h1 : c < 32) (w : World) : Calls Tryz.prog 78 #[.int .i64 c] w fun e w' => e = .returned (.tuple #[.int .i64 (jFin c).1, .bool (jFin c).2]) ∧ w = w' := by
  unfold jFin
  go_enter Tryz.func78, Tryz.ntmps78
  go_wp2
  all_goals go_ret2
  (all_goals (first | exact ⟨rfl, rfl⟩ | (exfalso; simp at *; omega) | (exfalso; omega)))
set_option maxRecDepth 100000 in
theorem jmc_any (m : Int) (h0 : -1 ≤ m) (h1 : m ≤ 20) (w : World) : Calls Tryz.prog 117 #[.int .i64 m] w fun e w' => e = .returned (.int .i64 (jMc m)) ∧ w = w' := by
  unfold jMc
  go_enter Tryz.func117, Tryz.ntmps117
  go_wp2
  all_goals go_ret
  (all_goals (first | exact ⟨rfl, rfl⟩ | (exfalso; simp at *; omega) | (exfalso; omega)))
set_option maxRecDepth 100000 in
theorem jfc_any (f : Int) (h0 : 0 ≤ f) (h1 : f ≤ 27) (w : World) : Calls Tryz.prog 118 #[.int .i64 f] w fun e w' => e = .returned (.int .i64 (jFc f)) ∧ w = w' := by
  unfold jFc
  go_enter Tryz.func118, Tryz.ntmps118
  go_wp2
  all_goals go_ret
  (all_goals (first | exact ⟨rfl, rfl⟩ | (exfalso; simp at *; omega) | (exfalso; omega)))
theorem or_join_int (k : Nat) (a b : Int) (ha0 : 0 ≤ a) (hb0 : 0 ≤ b) (ha : a.toNat % 2 ^ k = 0) (hb : b.toNat < 2 ^ k) (ha9 : a < 4611686018427387904) (hb9 : b < 4611686018427387904) : bits BinOp.or IntKind.i64 a b = a + b := by
  have h1 := i64_or_nat a.toNat b.toNat (by omega) (by omega)
  rw [nat_join k a.toNat b.toNat ha hb] at h1
  rw [show ((a.toNat : Nat) : Int) = a by omega, show ((b.toNat : Nat) : Int) = b by omega] at h1
  rw [h1]
  omega
set_option maxRecDepth 100000 in
theorem jcode_any (i m f : Int) (h1 : -1 ≤ i) (h2 : i ≤ 18) (h3 : -1 ≤ m) (h4 : m ≤ 20) (h5 : 0 ≤ f) (h6 : f ≤ 27) (w : World) : Calls Tryz.prog 82 #[.int .i64 i, .int .i64 m, .int .i64 f] w fun e w' => e = .returned (.int .i64 (jCode i m f)) ∧ w = w' := by
  have MC := Lib.hid (fun w => jmc_any m h3 h4 w)
  have FC := Lib.hid (fun w => jfc_any f h5 h6 w)
  obtain ⟨-, a2, a3⟩ := jMed_inv m h3 h4
  obtain ⟨-, b2, b3⟩ := jFin_inv f h5 h6
  have HJ : Hid (jCode i m f = 32768 + (i + 2) * 1024 + jMc m * 32 + jFc f) := Lib.hid rfl
  generalize jMc m = x at *
  generalize jFc f = y at *
  go_enter Tryz.func82, Tryz.ntmps82
  go_wp2_with (first | (go_at_call 117; (with_reducible refine (MC.out _).mono ?_); rintro e wx ⟨rfl, rfl⟩) | (go_at_call 118; (with_reducible refine (FC.out _).mono ?_); rintro e wx ⟨rfl, rfl⟩))
  go_ret
  have e1 := or_join_int 15 32768 ((i + 2) * 1024) (by omega) (by omega) (by decide) (by omega) (by omega) (by omega)
  have e2 := or_join_int 10 (32768 + (i + 2) * 1024) (x * 32) (by omega) (by omega) (by omega) (by omega) (by omega) (by omega)
  have e3 := or_join_int 5 (32768 + (i + 2) * 1024 + x * 32) y (by omega) (by omega) (by omega) (by omega) (by omega) (by omega)
  exact ⟨ret_int (by rw [HJ.out, e1, e2, e3]), rfl⟩
set_option maxRecDepth 100000 in
theorem jsyl_any (i m f : Int) (h1 : 0 ≤ i) (h2 : i ≤ 18) (h3 : 0 ≤ m) (h4 : m ≤ 20) (h5 : 0 ≤ f) (h6 : f ≤ 27) (w : World) : Calls Tryz.prog 79 #[.int .i64 i, .int .i64 m, .int .i64 f] w fun e w' => e = .returned (.tuple #[.int .i32 (jSyl i m f), .bool true]) ∧ w = w' := by
  have d0 : decide (i < 0) = false := decide_eq_false (by omega)
  have d1 : decide ((19 : Int) ≤ i) = false := decide_eq_false (by omega)
  have d2 : decide (m < 0) = false := decide_eq_false (by omega)
  have d3 : decide ((21 : Int) ≤ m) = false := decide_eq_false (by omega)
  have d4 : decide (f < 0) = false := decide_eq_false (by omega)
  have d5 : decide ((28 : Int) ≤ f) = false := decide_eq_false (by omega)
  go_enter Tryz.func79, Tryz.ntmps79
  go_wp2
  all_goals go_ret2
  all_goals (first | exact ⟨rfl, rfl⟩ | done)
set_option maxRecDepth 100000 in
theorem jcon_any (c : Nat) (hc : c < 256) (w : World) : Calls Tryz.prog 80 #[.int .u8 c] w fun e w' => e = .returned (.tuple #[.int .i32 ((jCon c).getD 0 : Nat), .bool (jCon c).isSome]) ∧ w = w' := by
  have IB : Hid (∀ w, Calls Tryz.prog 110 #[.string ⟨#[65, 66, 100, 67, 102, 103, 68, 69, 70, 106, 107, 108, 109, 110, 111, 112, 71, 72, 73, 115, 74, 75, 76, 77, 78, 79, 80, 81, 82, 83]⟩, .int .u8 c] w fun e w' => e = .returned (.int .i64 (Lib.indexByte jAlone (UInt8.ofNat c))) ∧ w = w') := Lib.hid (fun w => (Tryz.strings_IndexByte ⟨jAlone.toArray⟩ c w).mono fun e w' ⟨he, hw⟩ => ⟨he, hw.symm⟩)
  have HI : Hid ((jCon c = none ∧ Lib.indexByte jAlone (UInt8.ofNat c) = -1) ∨ ∃ k : Nat, jCon c = some (12593 + k) ∧ k < 30 ∧ Lib.indexByte jAlone (UInt8.ofNat c) = k) := Lib.hid (by
    have h : ∀ c : Fin 256, (jCon c.val = none ∧ Lib.indexByte jAlone (UInt8.ofNat c.val) = -1) ∨ ∃ k : Fin 30, jCon c.val = some (12593 + k.val) ∧ Lib.indexByte jAlone (UInt8.ofNat c.val) = (k.val : Int) := by decide +kernel
    rcases h ⟨c, hc⟩ with h | ⟨k, h1, h2⟩
    · exact .inl h
    · exact .inr ⟨k.val, h1, k.isLt, h2⟩)
  rcases HI.out with ⟨h1, h2⟩ | ⟨k, h1, h2, h3⟩
  · rw [h1]
    rw [h2] at IB
    clear HI h1 h2
    go_enter Tryz.func80, Tryz.ntmps80
    go_wp2_with (go_at_call 110; (with_reducible refine (IB.out _).mono ?_); rintro e wx ⟨rfl, rfl⟩)
    go_ret2
    exact ⟨rfl, rfl⟩
  · rw [h1]
    rw [h3] at IB
    clear HI h1 h3
    go_enter Tryz.func80, Tryz.ntmps80
    go_wp2_with (go_at_call 110; (with_reducible refine (IB.out _).mono ?_); rintro e wx ⟨rfl, rfl⟩)
    go_ret2
    exact ⟨by simp, rfl⟩
end Go.Proofs.YtffhmjlojmoomaaGreatDoor

namespace Go.Proofs.YtffhmjlojmoomaaGreatDoor
open Go.RowKit
set_option linter.unusedVariables false
set_option linter.unusedSimpArgs false

theorem and31 (x : Int) (h0 : 0 ≤ x) (h1 : x < 4611686018427387904) : bits BinOp.and IntKind.i64 x 31 = x % 32 := by
  have h := i64_and_nat x.toNat 31 (by omega) (by decide)
  rw [show (31 : Nat) = 2 ^ 5 - 1 by rfl, Nat.and_two_pow_sub_one_eq_mod] at h
  rw [show ((x.toNat : Nat) : Int) = x by omega] at h
  have e : ((2 ^ 5 - 1 : Nat) : Int) = 31 := by decide
  rw [e] at h
  rw [h]
  omega
theorem or_byte_int (a b : Int) (ha : 0 ≤ a) (ha9 : a < 256) (hb : 0 ≤ b) (hb9 : b < 256) : bits BinOp.or IntKind.i64 (a * 256) b = a * 256 + b := or_join_int 8 (a * 256) b (by omega) hb (by omega) (by omega) (by omega) (by omega)
set_option maxHeartbeats 4000000 in
set_option maxRecDepth 100000 in
theorem jsign_any (a b : UInt8) (w : World) : Calls Tryz.prog 35 #[.int .u8 a.toNat, .int .u8 b.toNat] w fun e w' => e = .returned (.tuple #[.int .i32 ((jSign ((a.toNat : Int) * 256 + b.toNat)).getD 0 : Nat), .bool (jSign ((a.toNat : Int) * 256 + b.toNat)).isSome]) ∧ w = w' := by
  have ha := UInt8.toNat_lt a
  have hb := UInt8.toNat_lt b
  have hor := or_byte_int a.toNat b.toNat (by omega) (by omega) (by omega) (by omega)
  obtain ⟨n, hn⟩ : ∃ n : Int, n = (a.toNat : Int) * 256 + b.toNat := ⟨_, rfl⟩
  rw [← hn] at hor
  rw [← hn]
  have hn0 : 0 ≤ n := by omega
  have hn9 : n < 65536 := by omega
  clear hn
  obtain ⟨ci, hci⟩ : ∃ c, c = n / 1024 % 32 := ⟨_, rfl⟩
  obtain ⟨cm, hcm⟩ : ∃ c, c = n / 32 % 32 := ⟨_, rfl⟩
  obtain ⟨cf, hcf⟩ : ∃ c, c = n % 32 := ⟨_, rfl⟩
  have a1 : bits BinOp.and IntKind.i64 (n / 1024) 31 = ci := (and31 _ (by omega) (by omega)).trans hci.symm
  have a2 : bits BinOp.and IntKind.i64 (n / 32) 31 = cm := (and31 _ (by omega) (by omega)).trans hcm.symm
  have a3 : bits BinOp.and IntKind.i64 n 31 = cf := (and31 _ (by omega) (by omega)).trans hcf.symm
  have C1 := Lib.hid (fun w => jini_any ci (by omega) (by omega) w)
  have C2 := Lib.hid (fun w => jmed_any cm (by omega) (by omega) w)
  have C3 := Lib.hid (fun w => jfin_any cf (by omega) (by omega) w)
  have HS : Hid (jSign n = if 32768 ≤ n ∧ (jIni ci).2 = true ∧ (jMed cm).2 = true ∧ (jFin cf).2 = true then jOf (jIni ci).1 (jMed cm).1 (jFin cf).1 else none) := Lib.hid (by unfold jSign; rw [← hci, ← hcm, ← hcf])
  have HI := Lib.hid (jIni_of ci (by omega) (by omega))
  have HM := Lib.hid (jMed_of cm (by omega) (by omega))
  have HF := Lib.hid (jFin_of cf (by omega) (by omega))
  clear hci hcm hcf
  generalize jIni ci = xi at *
  generalize jMed cm = xm at *
  generalize jFin cf = xf at *
  obtain ⟨i, gi⟩ := xi
  obtain ⟨m, gm⟩ := xm
  obtain ⟨f, gf⟩ := xf
  simp only at HS C1 C2 C3 HI HM HF
  obtain ⟨js, hjs⟩ : ∃ js, js = jSign n := ⟨_, rfl⟩
  rw [← hjs] at HS
  rw [← hjs]
  clear hjs
  go_enter Tryz.func35, Tryz.ntmps35
  go_upto_region 5 with (first | (go_at_call 76; (with_reducible refine (C1.out _).mono ?_); rintro e wx ⟨rfl, rfl⟩) | (go_at_call 77; (with_reducible refine (C2.out _).mono ?_); rintro e wx ⟨rfl, rfl⟩) | (go_at_call 78; (with_reducible refine (C3.out _).mono ?_); rintro e wx ⟨rfl, rfl⟩))
  by_cases hg : 32768 ≤ n ∧ gi = true ∧ gm = true ∧ gf = true
  · obtain ⟨g1, rfl, rfl, rfl⟩ := hg
    have hq : (n / 32768 == 0) = false := by rw [beq_eq_false_iff_ne]; omega
    obtain ⟨i1, i2, -⟩ := HI.out rfl
    obtain ⟨m1, m2, -⟩ := HM.out rfl
    obtain ⟨f1, f2, -⟩ := HF.out rfl
    have HO : Hid (js = jOf i m f) := Lib.hid (by rw [HS.out, if_pos ⟨g1, rfl, rfl, rfl⟩])
    clear HS HI HM HF
    by_cases hi : i = -1
    · have ti : (i == -1) = true := by rw [hi]; rfl
      have ti2 : (i != -1) = false := by rw [hi]; rfl
      by_cases hm : m = -1
      · have tm : (m == -1) = true := by rw [hm]; rfl
        have tm2 : (m != -1) = false := by rw [hm]; rfl
        by_cases hf : f = 0
        · have tf : (f == 0) = true := by rw [hf]; rfl
          have tf2 : (f != 0) = false := by rw [hf]; rfl
          have HJ : Hid (js = none) := Lib.hid (by rw [HO.out]; unfold jOf; rw [if_neg (by omega), if_neg (by omega), if_neg (by omega), if_neg (by omega)])
          clear HO hi hm hf
          go_wp2
          go_ret2
          exact ⟨by rw [HJ.out]; rfl, rfl⟩
        · have tf : (f == 0) = false := by rw [beq_eq_false_iff_ne]; exact hf
          have tf2 : (f != 0) = true := by rw [bne_iff_ne]; exact hf
          have HJ : Hid (js = jCon (97 + f).toNat) := Lib.hid (by rw [HO.out]; unfold jOf; rw [if_neg (by omega), if_neg (by omega), if_neg (by omega), if_pos (by omega)])
          have hw8 : IntKind.u8.wrap (97 + f) = (((97 + f).toNat : Nat) : Int) := by simp [IntKind.wrap, IntKind.bits, IntKind.signed]; omega
          have CO := Lib.hid (fun w => jcon_any (97 + f).toNat (by omega) w)
          clear HO hi hm hf
          generalize (97 + f).toNat = c at *
          go_wp2_with (go_at_call 80; (with_reducible refine (CO.out _).mono ?_); rintro e wx ⟨rfl, rfl⟩)
          go_ret2
          exact ⟨by rw [HJ.out]; rfl, rfl⟩
      · have tm : (m == -1) = false := by rw [beq_eq_false_iff_ne]; exact hm
        have tm2 : (m != -1) = true := by rw [bne_iff_ne]; exact hm
        by_cases hf : f = 0
        · have tf : (f == 0) = true := by rw [hf]; rfl
          have tf2 : (f != 0) = false := by rw [hf]; rfl
          have HJ : Hid (js = some (12623 + m).toNat) := Lib.hid (by rw [HO.out]; unfold jOf; rw [if_neg (by omega), if_pos (by omega)])
          have hm0 : 0 ≤ m := by omega
          clear HO hi hm hf
          go_wp2
          go_ret2
          refine ⟨?_, rfl⟩
          rw [HJ.out]
          have e1 : (((12623 + m).toNat : Nat) : Int) = 12623 + m := by omega
          show _ = Ending.returned (.tuple #[.int .i32 (((12623 + m).toNat : Nat) : Int), .bool true])
          rw [e1]
          rfl
        · have tf : (f == 0) = false := by rw [beq_eq_false_iff_ne]; exact hf
          have tf2 : (f != 0) = true := by rw [bne_iff_ne]; exact hf
          have HJ : Hid (js = none) := Lib.hid (by rw [HO.out]; unfold jOf; rw [if_neg (by omega), if_neg (by omega), if_neg (by omega), if_neg (by omega)])
          clear HO hi hm hf
          go_wp2
          go_ret2
          exact ⟨by rw [HJ.out]; rfl, rfl⟩
    · have ti : (i == -1) = false := by rw [beq_eq_false_iff_ne]; exact hi
      have ti2 : (i != -1) = true := by rw [bne_iff_ne]; exact hi
      by_cases hm : m = -1
      · have tm : (m == -1) = true := by rw [hm]; rfl
        have tm2 : (m != -1) = false := by rw [hm]; rfl
        by_cases hf : f = 0
        · have tf : (f == 0) = true := by rw [hf]; rfl
          have tf2 : (f != 0) = false := by rw [hf]; rfl
          have HJ : Hid (js = jCon (65 + i).toNat) := Lib.hid (by rw [HO.out]; unfold jOf; rw [if_neg (by omega), if_neg (by omega), if_pos (by omega)])
          have hw8 : IntKind.u8.wrap (65 + i) = (((65 + i).toNat : Nat) : Int) := by simp [IntKind.wrap, IntKind.bits, IntKind.signed]; omega
          have CO := Lib.hid (fun w => jcon_any (65 + i).toNat (by omega) w)
          clear HO hi hm hf
          generalize (65 + i).toNat = c at *
          go_wp2_with (go_at_call 80; (with_reducible refine (CO.out _).mono ?_); rintro e wx ⟨rfl, rfl⟩)
          go_ret2
          exact ⟨by rw [HJ.out]; rfl, rfl⟩
        · have tf : (f == 0) = false := by rw [beq_eq_false_iff_ne]; exact hf
          have tf2 : (f != 0) = true := by rw [bne_iff_ne]; exact hf
          have HJ : Hid (js = none) := Lib.hid (by rw [HO.out]; unfold jOf; rw [if_neg (by omega), if_neg (by omega), if_neg (by omega), if_neg (by omega)])
          clear HO hi hm hf
          go_wp2
          go_ret2
          exact ⟨by rw [HJ.out]; rfl, rfl⟩
      · have tm : (m == -1) = false := by rw [beq_eq_false_iff_ne]; exact hm
        have tm2 : (m != -1) = true := by rw [bne_iff_ne]; exact hm
        have HJ : Hid (js = some (jSyl i m f).toNat) := Lib.hid (by rw [HO.out]; unfold jOf; rw [if_pos ⟨hi, hm⟩])
        have SY := Lib.hid (fun w => jsyl_any i m f (by omega) i2 (by omega) m2 f1 f2 w)
        have hs0 : 0 ≤ jSyl i m f := by unfold jSyl; omega
        clear HO hi hm
        generalize jSyl i m f = s at *
        go_wp2_with (go_at_call 79; (with_reducible refine (SY.out _).mono ?_); rintro e wx ⟨rfl, rfl⟩)
        go_ret2
        refine ⟨?_, rfl⟩
        rw [HJ.out]
        have e1 : ((s.toNat : Nat) : Int) = s := by omega
        show _ = Ending.returned (.tuple #[.int .i32 ((s.toNat : Nat) : Int), .bool true])
        rw [e1]
        rfl
  · have HN : Hid (js = none) := Lib.hid (by rw [HS.out, if_neg hg])
    have HG := Lib.hid hg
    clear HS HI HM HF hg
    by_cases h1 : 32768 ≤ n
    · have hq : (n / 32768 == 0) = false := by rw [beq_eq_false_iff_ne]; omega
      rcases gi with _ | _
      · go_wp2
        go_ret2
        exact ⟨by rw [HN.out]; rfl, rfl⟩
      · rcases gm with _ | _
        · go_wp2
          go_ret2
          exact ⟨by rw [HN.out]; rfl, rfl⟩
        · rcases gf with _ | _
          · go_wp2
            go_ret2
            exact ⟨by rw [HN.out]; rfl, rfl⟩
          · exact absurd ⟨h1, rfl, rfl, rfl⟩ HG.out
    · have hq : (n / 32768 == 0) = true := by rw [beq_iff_eq]; omega
      go_wp2
      go_ret2
      exact ⟨by rw [HN.out]; rfl, rfl⟩
end Go.Proofs.YtffhmjlojmoomaaGreatDoor

namespace Go.Proofs.YtffhmjlojmoomaaGreatDoor
open Go.RowKit
set_option linter.unusedVariables false
set_option linter.unusedSimpArgs false

def jTxt (p : Nat) : List UInt8 := match jBytes p with | some c => bigL c.toNat 2 | none => []
theorem big2_any (c : Int) (h0 : 0 ≤ c) (h1 : c < 65536) (w : World) : Calls Tryz.prog 81 #[.int .u64 c, .int .i64 2] w fun e w' => e = .returned (.string ⟨(bigL c.toNat 2).toArray⟩) ∧ Below w.heap.size w w' := by
  have h := big_any c.toNat 2 2 w (Lib.hid (by omega)) (Lib.hid (by decide))
  rw [show ((c.toNat : Nat) : Int) = c by omega] at h
  exact h
set_option maxHeartbeats 4000000 in
set_option maxRecDepth 100000 in
theorem jbytes_any (p : Nat) (hp : p ≤ 1114111) (w : World) : Calls Tryz.prog 36 #[.int .i32 p] w fun e w' => e = .returned (.tuple #[.string ⟨(jTxt p).toArray⟩, .bool (jBytes p).isSome]) ∧ Below w.heap.size w w' := by
  by_cases h1 : 44032 ≤ p ∧ p < 55204
  · obtain ⟨i, hi⟩ : ∃ i : Int, i = ((p - 44032) / 28 / 21 : Nat) := ⟨_, rfl⟩
    obtain ⟨m, hm⟩ : ∃ m : Int, m = ((p - 44032) / 28 % 21 : Nat) := ⟨_, rfl⟩
    obtain ⟨f, hf⟩ : ∃ f : Int, f = ((p - 44032) % 28 : Nat) := ⟨_, rfl⟩
    have HJ : Hid (jBytes p = some (jCode i m f)) := Lib.hid (by unfold jBytes jParts; rw [if_pos h1, ← hi, ← hm, ← hf]; rfl)
    have CD := Lib.hid (fun w => jcode_any i m f (by omega) (by omega) (by omega) (by omega) (by omega) (by omega) w)
    obtain ⟨k1, k2, -⟩ := jCode_in (i := i) (m := m) (f := f) (by omega) (by omega) (by omega) (by omega) (by omega) (by omega)
    have d1 : decide ((44032 : Int) ≤ (p : Int)) = true := decide_eq_true (by omega)
    have d2 : decide ((p : Int) < 55204) = true := decide_eq_true (by omega)
    have b1 : (44032 : Int) ≤ p := by omega
    have b2 : (p : Int) < 55204 := by omega
    have e1 : ((p : Int) - 44032) / 28 / 21 = i := by omega
    have e2 : ((p : Int) - 44032) / 28 % 21 = m := by omega
    have e3 : ((p : Int) - 44032) % 28 = f := by omega
    have BG := Lib.hid (fun w => big2_any (jCode i m f) (by omega) k2 w)
    have HT : Hid (jTxt p = bigL (jCode i m f).toNat 2) := Lib.hid (by unfold jTxt; rw [HJ.out])
    clear hi hm hf h1
    generalize jCode i m f = c at *
    go_enter Tryz.func36, Tryz.ntmps36
    go_wp2_with (first | (go_at_call 82; (with_reducible refine (CD.out _).mono ?_); rintro e wx ⟨rfl, rfl⟩) | (go_at_call 81; (with_reducible refine (BG.out _).mono ?_); rintro e w1 ⟨rfl, hb1⟩))
    go_ret2
    exact ⟨by rw [HT.out, HJ.out]; rfl, hb1⟩
  · by_cases h2 : 12623 ≤ p ∧ p < 12644
    · obtain ⟨m, hm⟩ : ∃ m : Int, m = (p - 12623 : Nat) := ⟨_, rfl⟩
      have HJ : Hid (jBytes p = some (jCode (-1) m 0)) := Lib.hid (by unfold jBytes jParts; rw [if_neg h1, if_pos h2, ← hm]; rfl)
      have CD := Lib.hid (fun w => jcode_any (-1) m 0 (by omega) (by omega) (by omega) (by omega) (by omega) (by omega) w)
      obtain ⟨k1, k2, -⟩ := jCode_in (i := -1) (m := m) (f := 0) (by omega) (by omega) (by omega) (by omega) (by omega) (by omega)
      have d1 : decide ((44032 : Int) ≤ (p : Int)) = false := decide_eq_false (by omega)
      have d3 : decide ((12623 : Int) ≤ (p : Int)) = true := decide_eq_true (by omega)
      have d4 : decide ((p : Int) < 12644) = true := decide_eq_true (by omega)
      have b1 : (12623 : Int) ≤ p := by omega
      have b2 : (p : Int) < 12644 := by omega
      have e1 : (p : Int) - 12623 = m := by omega
      have BG := Lib.hid (fun w => big2_any (jCode (-1) m 0) (by omega) k2 w)
      have HT : Hid (jTxt p = bigL (jCode (-1) m 0).toNat 2) := Lib.hid (by unfold jTxt; rw [HJ.out])
      clear hm h1 h2
      generalize jCode (-1) m 0 = c at *
      go_enter Tryz.func36, Tryz.ntmps36
      go_wp2_with (first | (go_at_call 82; (with_reducible refine (CD.out _).mono ?_); rintro e wx ⟨rfl, rfl⟩) | (go_at_call 81; (with_reducible refine (BG.out _).mono ?_); rintro e w1 ⟨rfl, hb1⟩))
      go_ret2
      exact ⟨by rw [HT.out, HJ.out]; rfl, hb1⟩
    · by_cases h3 : 12593 ≤ p ∧ p - 12593 < 30
      · have d1 : decide ((44032 : Int) ≤ (p : Int)) = false := decide_eq_false (by omega)
        have d3 : decide ((12623 : Int) ≤ (p : Int)) = false := decide_eq_false (by omega)
        have d5 : decide ((12593 : Int) ≤ (p : Int)) = true := decide_eq_true (by omega)
        have d6 : decide ((p : Int) - 12593 < 30) = true := decide_eq_true (by omega)
        have b1 : (12593 : Int) ≤ p := by omega
        have b2 : (p : Int) < 12623 := by omega
        obtain ⟨k, hk⟩ : ∃ k, k = p - 12593 := ⟨_, rfl⟩
        have e1 : (p : Int) - 12593 = (k : Int) := by omega
        have hk3 : k < 30 := by omega
        have HP : Hid (jParts p = if (jAlone.getD k 0).toNat < 97 then some ((((jAlone.getD k 0).toNat - 65 : Nat) : Int), (-1 : Int), (0 : Int)) else some ((-1 : Int), (-1 : Int), (((jAlone.getD k 0).toNat - 97 : Nat) : Int))) := Lib.hid (by unfold jParts; rw [if_neg h1, if_neg h2, if_pos h3, hk])
        have hin := jAlone_in ⟨k, hk3⟩
        simp only at hin
        clear h1 h2 h3 hk
        have hge : jAlone.getD k 0 = ([65, 66, 100, 67, 102, 103, 68, 69, 70, 106, 107, 108, 109, 110, 111, 112, 71, 72, 73, 115, 74, 75, 76, 77, 78, 79, 80, 81, 82, 83] : List UInt8)[k]'hk3 := by
          rw [List.getD_eq_getElem?_getD, List.getElem?_eq_getElem (show k < jAlone.length from hk3)]
          rfl
        go_enter Tryz.func36, Tryz.ntmps36
        go_upto_region 10 with (fail)
        rw [hge] at hin HP
        clear hge
        generalize (([65, 66, 100, 67, 102, 103, 68, 69, 70, 106, 107, 108, 109, 110, 111, 112, 71, 72, 73, 115, 74, 75, 76, 77, 78, 79, 80, 81, 82, 83] : List UInt8)[k]'hk3).toNat = x at *
        by_cases hx : x < 97
        · have g1 : decide ((x : Int) < 97) = true := decide_eq_true (by omega)
          have g2 : (x : Int) < 97 := by omega
          obtain ⟨i, hi⟩ : ∃ i : Int, i = (x - 65 : Nat) := ⟨_, rfl⟩
          have e2 : IntKind.u8.wrap ((x : Int) - 65) = i := by simp [IntKind.wrap, IntKind.bits, IntKind.signed]; omega
          have HJ : Hid (jBytes p = some (jCode i (-1) 0)) := Lib.hid (by unfold jBytes; rw [HP.out, if_pos hx, ← hi]; rfl)
          have CD := Lib.hid (fun w => jcode_any i (-1) 0 (by omega) (by omega) (by omega) (by omega) (by omega) (by omega) w)
          obtain ⟨k1, k2, -⟩ := jCode_in (i := i) (m := -1) (f := 0) (by omega) (by omega) (by omega) (by omega) (by omega) (by omega)
          have BG := Lib.hid (fun w => big2_any (jCode i (-1) 0) (by omega) k2 w)
          have HT : Hid (jTxt p = bigL (jCode i (-1) 0).toNat 2) := Lib.hid (by unfold jTxt; rw [HJ.out])
          have e3 : (x : Int) - 65 = i := by omega
          clear hi hx
          generalize jCode i (-1) 0 = c at *
          go_wp2_with (first | (go_at_call 82; (with_reducible refine (CD.out _).mono ?_); rintro e wx ⟨rfl, rfl⟩) | (go_at_call 81; (with_reducible refine (BG.out _).mono ?_); rintro e w1 ⟨rfl, hb1⟩))
          go_ret2
          exact ⟨by rw [HT.out, HJ.out]; rfl, hb1⟩
        · have g1 : decide ((x : Int) < 97) = false := decide_eq_false (by omega)
          have g2 : ¬ (x : Int) < 97 := by omega
          obtain ⟨f, hf⟩ : ∃ f : Int, f = (x - 97 : Nat) := ⟨_, rfl⟩
          have e2 : IntKind.u8.wrap ((x : Int) - 97) = f := by simp [IntKind.wrap, IntKind.bits, IntKind.signed]; omega
          have HJ : Hid (jBytes p = some (jCode (-1) (-1) f)) := Lib.hid (by unfold jBytes; rw [HP.out, if_neg hx, ← hf]; rfl)
          have CD := Lib.hid (fun w => jcode_any (-1) (-1) f (by omega) (by omega) (by omega) (by omega) (by omega) (by omega) w)
          obtain ⟨k1, k2, -⟩ := jCode_in (i := -1) (m := -1) (f := f) (by omega) (by omega) (by omega) (by omega) (by omega) (by omega)
          have BG := Lib.hid (fun w => big2_any (jCode (-1) (-1) f) (by omega) k2 w)
          have HT : Hid (jTxt p = bigL (jCode (-1) (-1) f).toNat 2) := Lib.hid (by unfold jTxt; rw [HJ.out])
          have e3 : (x : Int) - 97 = f := by omega
          clear hf hx
          generalize jCode (-1) (-1) f = c at *
          go_wp2_with (first | (go_at_call 82; (with_reducible refine (CD.out _).mono ?_); rintro e wx ⟨rfl, rfl⟩) | (go_at_call 81; (with_reducible refine (BG.out _).mono ?_); rintro e w1 ⟨rfl, hb1⟩))
          go_ret2
          exact ⟨by rw [HT.out, HJ.out]; rfl, hb1⟩
      · have HJ : Hid (jBytes p = none) := Lib.hid (by unfold jBytes jParts; rw [if_neg h1, if_neg h2, if_neg h3]; rfl)
        have HT : Hid (jTxt p = []) := Lib.hid (by unfold jTxt; rw [HJ.out])
        have hr : (p : Int) < 12593 ∨ (12644 ≤ (p : Int) ∧ (p : Int) < 44032) ∨ 55204 ≤ (p : Int) := by omega
        have hw : IntKind.i32.wrap ((p : Int) - 12593) = (p : Int) - 12593 := by simp [IntKind.wrap, IntKind.bits, IntKind.signed]; omega
        rcases hr with hr | hr | hr
        · have d1 : decide ((44032 : Int) ≤ (p : Int)) = false := decide_eq_false (by omega)
          have d3 : decide ((12623 : Int) ≤ (p : Int)) = false := decide_eq_false (by omega)
          have d5 : decide ((12593 : Int) ≤ (p : Int)) = false := decide_eq_false (by omega)
          clear h1 h2 h3
          go_enter Tryz.func36, Tryz.ntmps36
          go_wp2
          go_ret2
          exact ⟨by rw [HT.out, HJ.out]; rfl, Below.refl _ _⟩
        · have d1 : decide ((44032 : Int) ≤ (p : Int)) = false := decide_eq_false (by omega)
          have d3 : decide ((12623 : Int) ≤ (p : Int)) = true := decide_eq_true (by omega)
          have d4 : decide ((p : Int) < 12644) = false := decide_eq_false (by omega)
          have d5 : decide ((12593 : Int) ≤ (p : Int)) = true := decide_eq_true (by omega)
          have d6 : decide ((p : Int) - 12593 < 30) = false := decide_eq_false (by omega)
          clear h1 h2 h3
          go_enter Tryz.func36, Tryz.ntmps36
          go_wp2
          go_ret2
          exact ⟨by rw [HT.out, HJ.out]; rfl, Below.refl _ _⟩
        · have d1 : decide ((44032 : Int) ≤ (p : Int)) = true := decide_eq_true (by omega)
          have d2 : decide ((p : Int) < 55204) = false := decide_eq_false (by omega)
          have d3 : decide ((12623 : Int) ≤ (p : Int)) = true := decide_eq_true (by omega)
          have d4 : decide ((p : Int) < 12644) = false := decide_eq_false (by omega)
          have d5 : decide ((12593 : Int) ≤ (p : Int)) = true := decide_eq_true (by omega)
          have d6 : decide ((p : Int) - 12593 < 30) = false := decide_eq_false (by omega)
          clear h1 h2 h3
          go_enter Tryz.func36, Tryz.ntmps36
          go_wp2
          go_ret2
          exact ⟨by rw [HT.out, HJ.out]; rfl, Below.refl _ _⟩
end Go.Proofs.YtffhmjlojmoomaaGreatDoor
