/- The walks of the statements of layer 1 (octet) on numbers. -/
import Derived.Test.YtfbdgahbhlapmaaOct3
import Derived.OpenShut
namespace Go.Proofs.Ytfbdgahbhlapmaa
open Go.RowKit

theorem safeL_eq (n : Nat) : safeL n = [UInt8.ofNat (n / 2097152 % 128), UInt8.ofNat (n / 16384 % 128), UInt8.ofNat (n / 128 % 128), UInt8.ofNat (n % 128)] := by
  simp [safeL, safeS, Nat.div_div_eq_div_mul]
theorem safeL_len (n : Nat) : (safeL n).length = 4 := by rw [safeL_eq]; rfl
theorem lo_mod (x : Nat) : (UInt8.ofNat (x % 128)).toNat = x % 128 := by rw [UInt8.toNat_ofNat']; omega
theorem hi_mod (x : Nat) : hi (UInt8.ofNat (x % 128)) = false := by unfold hi; rw [lo_mod]; simp; omega
theorem safeL_low (n : Nat) : Low7 (safeL n) := by
  rw [safeL_eq]
  intro c hc
  simp only [List.mem_cons, List.not_mem_nil, or_false] at hc
  rcases hc with rfl | rfl | rfl | rfl <;> exact hi_mod _
theorem num7_safeL (n : Nat) (h : n ≤ 268435455) : num7 (safeL n) = n := by
  rw [safeL_eq]
  simp only [num7, List.foldl_cons, List.foldl_nil, lo_mod]
  omega
theorem new_ok (l : List UInt8) (b : Int) (h : l.length ≤ 1000000000) (hb : b ≤ 3000000000000) : (Rd.new l b).Ok := by
  refine ⟨Nat.zero_le _, h, ?_, ?_⟩
  · show 0 ≤ max b 0
    omega
  · show max b 0 ≤ _
    omega
theorem take_all (m : Rd) (n : Nat) (hc : m.cd = 0) (h : m.nx + n ≤ m.t.length) : m.take n = ({ m with nx := m.nx + n }, (m.t.drop m.nx).take n) := by
  unfold Rd.take
  rw [if_pos hc, if_neg (by omega)]
  simp
theorem safe_back (n : Nat) (h : n ≤ 268435455) : (Rd.new (safeL n) 0).safe = ({ Rd.new (safeL n) 0 with nx := 4 }, (n : Int)) := by
  have e := take_all (Rd.new (safeL n) 0) 4 rfl (by show 0 + 4 ≤ _; rw [show (Rd.new (safeL n) 0).t = safeL n from rfl, safeL_len]; exact Nat.le_refl 4)
  have e2 : ((Rd.new (safeL n) 0).t.drop (Rd.new (safeL n) 0).nx).take 4 = safeL n := by
    show ((safeL n).drop 0).take 4 = _
    rw [List.drop_zero, List.take_of_length_le (by rw [safeL_len]; exact Nat.le_refl _)]
  rw [e2] at e
  have e3 : (safeL n).findIdx? hi = none := by rw [List.findIdx?_eq_none_iff]; exact safeL_low n
  unfold Rd.safe
  rw [show (4 : Int) = ((4 : Nat) : Int) from rfl, e]
  simp only [e3, num7_safeL n h]
  rfl

set_option maxRecDepth 100000 in
theorem safe_no (n : Nat) (w : World) (hn : 268435455 < n) :
    Calls Try.prog 22 #[.int .u64 n] w fun e w' => e = .returned (.tuple #[.string ⟨#[]⟩, .bool false]) ∧ w = w' := by
  go_enter Try.func22, Try.ntmps22
  go_wp2
  go_ret2
  exact ⟨rfl, rfl⟩

set_option maxHeartbeats 1000000 in
set_option maxRecDepth 100000 in
theorem awake01 (w : World) : Calls Try.prog 57 #[] w fun e w' => e = .returned (.bool true) ∧ Below w.heap.size w w' := by
  have c1 := fun W => safe_yes 129 W (by decide)
  have e1 : safeL 129 = [0, 0, 1, 1] := by decide
  rw [e1] at c1
  have C1 := Lib.hid c1
  have hm := new_ok [97, 98] 10 (by decide) (by decide)
  have c2 := fun w b h => take_any b (Rd.new [97, 98] 10) 3 w h hm
  have e2 : (Rd.new [97, 98] 10).take 3 = (⟨[97, 98], 0, 10, 1, 12⟩, []) := by
    rfl
  rw [e2] at c2
  have C2 := Lib.hid c2
  have c3 := fun W => big_any 258 2 2 W (Lib.hid (by decide)) (Lib.hid (by decide))
  have e3 : bigL 258 2 = [1, 2] := by decide
  rw [e3] at c3
  have C3 := Lib.hid c3
  clear c1 c2 c3 e1 e2 e3
  go_enter Try.func57, Try.ntmps57
  go_wp2_with (first | (go_at_call 22; refine (C1.out _).mono ?_; rintro e w1 ⟨rfl, hb1⟩) | (go_at_call 44; refine (inner_any _ _ _).mono ?_; rintro e w2 ⟨rfl, hr2, hb2⟩) | (go_at_call 49; refine (C2.out _ _ hr2).mono ?_; rintro e w3 ⟨rfl, hr3, ho3⟩) | (go_at_call 32; refine (C3.out _).mono ?_; rintro e w4 ⟨rfl, hb4⟩) | (go_at_call 27; refine (fault_any _ _ _ (hr3.below hb4)).mono ?_; rintro e w5 ⟨rfl, hb5⟩))
  go_ret
  refine ⟨rfl, nextB (nextB ?_ hb4) hb5⟩
  exact (nextB hb1 hb2).trans (ho3.below hb1.size (Nat.le_trans hb1.size hb2.size))

theorem awake01' (w : World) : Calls Try.prog 23 #[] w fun e w' => e = .returned (.bool true) ∧ Below w.heap.size w w' := by
  go_enter Try.func23, Try.ntmps23
  go_wp2_with (go_at_call 57; refine (awake01 _).mono ?_; rintro e w1 ⟨rfl, hb1⟩)
  go_ret
  exact ⟨rfl, hb1⟩

set_option maxHeartbeats 1000000 in
set_option maxRecDepth 100000 in
theorem walk_OctetSafe_no (n : Nat) (hn : 268435455 < n) (w : World) :
    Calls Try.prog 6 #[.int .u64 n] w fun e w' => e = .returned (.bool true) ∧ Below w.heap.size w w' := by
  go_enter Try.func6, Try.ntmps6
  go_wp2_with (first | (go_at_call 22; refine (safe_no _ _ hn).mono ?_; rintro e w1 ⟨rfl, rfl⟩) | (go_at_call 23; refine (awake01' _).mono ?_; rintro e w1 ⟨rfl, hb1⟩))
  go_ret
  exact ⟨rfl, hb1⟩

set_option maxHeartbeats 1000000 in
set_option maxRecDepth 100000 in
theorem walk_OctetSafe_yes (n : Nat) (hn : n ≤ 268435455) (w : World) :
    Calls Try.prog 6 #[.int .u64 n] w fun e w' => e = .returned (.bool true) ∧ Below w.heap.size w w' := by
  have HL := Lib.hid (safeL_len n)
  have HLow := Lib.hid (safeL_low n)
  have C1 := Lib.hid (fun w => safe_yes n w hn)
  have C2 := Lib.hid (fun w => rsafe_any n w hn)
  have hm := new_ok (safeL n) 0 (by rw [safeL_len]; decide) (by decide)
  have c3 := fun w b h => insafe_any b (Rd.new (safeL n) 0) w h hm
  rw [safe_back n hn] at c3
  have C3 := Lib.hid c3
  clear c3
  generalize safeL n = s at *
  have hs4 : ((s.length : Int) != 4) = false := by rw [HL.out]; rfl
  have hs5 : s.length ≤ 4 := by rw [HL.out]; exact Nat.le_refl _
  have hs6 : 4 ≤ s.length := by rw [HL.out]; exact Nat.le_refl _
  go_enter Try.func6, Try.ntmps6
  go_wp2_with (first | (go_at_call 22; refine (C1.out _).mono ?_; rintro e w1 ⟨rfl, hb1⟩) | (go_at_call 24; refine (C2.out _).mono ?_; rintro e w2 ⟨rfl, hb2⟩))
  go_loop [36] (fun i => ∃ k : Nat, k ≤ 4 ∧ i = .int .i64 k) (fun i => 4 - (intOf i).toNat)
  case atStart => exact ⟨0, Nat.zero_le _, rfl⟩
  case round =>
    obtain ⟨k, hk, rfl⟩ := hrel
    by_cases hlt : k < 4
    · have hk2 : k < s.length := by omega
      have hlo : ¬ (128 : Int) ≤ ((s[k].toNat : Nat) : Int) := by
        have := HLow.out s[k] (List.getElem_mem _)
        unfold hi at this
        have := of_decide_eq_false this
        omega
      go_wp2
      go_round
      case rel => exact ⟨k + 1, by omega, by go_num⟩
      case measure => simp [intOf]; omega
    · go_wp2_with (first | (go_at_call 25; refine (read_any _ _).mono ?_; rintro e w3 ⟨rfl, hr3, hb3⟩) | (go_at_call 23; refine (awake01' _).mono ?_; rintro e w4 ⟨rfl, hb4⟩) | (go_at_call 26; refine (C3.out _ _ (hr3.below hb4)).mono ?_; rintro e w5 ⟨rfl, hr5, ho5⟩) | (go_at_call 27; refine (fault_any _ _ _ hr5).mono ?_; rintro e w6 ⟨rfl, hb6⟩) | (go_at_call 28; refine (bad_any _ _ _).mono ?_; rintro e w7 ⟨rfl, hb7⟩))
      go_ret
      exact ⟨rfl, nextB (nextB (onlyB (nextB (nextB (nextB hb1 hb2) hb3) hb4) ho5 (nextB hb1 hb2).size) hb6) hb7⟩

theorem walk_OctetSafe (n : Int) (hn : (Lit.int .u64 n).wf = true) (w : World) :
    Calls Try.prog 6 #[.int .u64 n] w fun e w' => e = .returned (.bool true) ∧ Below w.heap.size w w' := by
  obtain ⟨k, rfl⟩ := Int.eq_ofNat_of_zero_le (bounds_u64 hn).1
  by_cases h : k ≤ 268435455
  · exact walk_OctetSafe_yes k h w
  · exact walk_OctetSafe_no k (by omega) w

/-! ### OctetNumbers -/
theorem pow_step (k : Nat) : (256 : Nat) ^ (k + 1) = 256 ^ k * 256 := Nat.pow_succ 256 k
theorem numL_bigL : ∀ (k n : Nat), numL (bigL n k) = n % 256 ^ k
  | 0, n => by simp [bigL, smallL, numL]; omega
  | k + 1, n => by
    have h1 : (UInt8.ofNat n).toNat = n % 256 := UInt8.toNat_ofNat'
    rw [bigL_succ, numL_snoc, numL_bigL k (n / 256), h1, pow_step, Nat.mul_comm (256 ^ k) 256, Nat.mod_mul]
    omega
theorem smallL_len : ∀ (k n : Nat), (smallL n k).length = k
  | 0, _ => rfl
  | k + 1, n => by simp [smallL, smallL_len k]
theorem bigL_len (k n : Nat) : (bigL n k).length = k := by simp [bigL, smallL_len]

set_option maxHeartbeats 400000 in
set_option maxRecDepth 100000 in
theorem power_any (k : Nat) (w : World) (hk : k ≤ 7) :
    Calls Try.prog 38 #[.int .i64 k] w fun e w' => e = .returned (.int .u64 ((256 ^ k : Nat) : Int)) ∧ w = w' := by
  have hp : ∀ j, j ≤ 7 → (256 : Nat) ^ j ≤ 72057594037927936 := fun j hj => Nat.le_trans (Nat.pow_le_pow_right (by decide) hj) (by decide)
  have HP := Lib.hid hp
  clear hp
  go_enter Try.func38, Try.ntmps38
  go_wp2
  go_loop [3, 4] (fun s i => ∃ j x : Nat, j ≤ k ∧ i = .int .i64 j ∧ s = .int .u64 x ∧ Hid (x = 256 ^ j)) (fun _ i => k - (intOf i).toNat)
  case atStart => exact ⟨0, 1, Nat.zero_le _, rfl, rfl, Lib.hid rfl⟩
  case round =>
    obtain ⟨j, x, hj, rfl, rfl, HX⟩ := hrel
    by_cases hlt : j < k
    · have hx : x * 256 ≤ 72057594037927936 := by rw [HX.out, ← pow_step]; exact HP.out (j + 1) (by omega)
      go_wp2
      go_round
      case rel => exact ⟨j + 1, x * 256, by omega, by go_num, by go_num, Lib.hid (by rw [HX.out, pow_step])⟩
      case measure => simp [intOf]; omega
    · have hjk : j = k := by omega
      have HJ := Lib.hid hjk
      clear hjk
      go_wp2
      go_ret
      exact ⟨ret_int (by rw [HX.out, HJ.out]; simp), rfl⟩

set_option maxHeartbeats 2000000 in
set_option maxRecDepth 100000 in
theorem walk_OctetNumbers_in (n k : Nat) (size : Int) (hn : Hid (n < 18446744073709551616)) (hk : Hid (min (max size 0) 8 = (k : Int))) (w : World) :
    Calls Try.prog 8 #[.int .u64 n, .int .i64 size] w fun e w' => e = .returned (.bool true) ∧ Below w.heap.size w w' := by
  have hk8 : k ≤ 8 := by have := hk.out; omega
  have C1 := Lib.hid (fun w => big_any n k size w hn hk)
  have C2 := Lib.hid (fun w => small_any n k size w hn hk)
  have C3 := Lib.hid (fun w => rbig_any n k size w hn hk)
  have C4 := Lib.hid (fun w => rsmall_any n k size w hn hk)
  have c5 := fun w => back_any (smallL n k) w (by rw [smallL_len]; omega)
  rw [show (smallL n k).reverse = bigL n k from rfl] at c5
  have C5 := Lib.hid c5
  have hb := new_ok (bigL n k) 0 (by rw [bigL_len]; omega) (by decide)
  have hs := new_ok (smallL n k) 0 (by rw [smallL_len]; omega) (by decide)
  have t1 : (Rd.new (bigL n k) 0).take k = ({ Rd.new (bigL n k) 0 with nx := 0 + k }, bigL n k) := by
    rw [take_all _ k rfl (by show 0 + k ≤ (bigL n k).length; rw [bigL_len]; omega)]
    exact Prod.ext rfl (List.take_of_length_le (by show (List.drop 0 (bigL n k)).length ≤ k; rw [List.drop_zero, bigL_len]; exact Nat.le_refl _))
  have t2 : (Rd.new (smallL n k) 0).take k = ({ Rd.new (smallL n k) 0 with nx := 0 + k }, smallL n k) := by
    rw [take_all _ k rfl (by show 0 + k ≤ (smallL n k).length; rw [smallL_len]; omega)]
    exact Prod.ext rfl (List.take_of_length_le (by show (List.drop 0 (smallL n k)).length ≤ k; rw [List.drop_zero, smallL_len]; exact Nat.le_refl _))
  have c6 := fun w b h => inbig_any b (Rd.new (bigL n k) 0) size k w h hb hk
  rw [t1] at c6
  simp only [numL_bigL] at c6
  have C6 := Lib.hid c6
  have c7 := fun w b h => insmall_any b (Rd.new (smallL n k) 0) size k w h hs hk
  rw [t2] at c7
  simp only [show (smallL n k).reverse = bigL n k from rfl, numL_bigL] at c7
  have C7 := Lib.hid c7
  have c8 := fun w b h => left_any b ({ Rd.new (bigL n k) 0 with nx := 0 + k }) w h ⟨by show 0 + k ≤ (bigL n k).length; rw [bigL_len]; omega, hb.2.1, hb.2.2.1, hb.2.2.2⟩
  have t3 : Rd.left ({ Rd.new (bigL n k) 0 with nx := 0 + k }) = 0 := by
    show ((bigL n k).length : Int) - ((0 + k : Nat) : Int) = 0
    rw [bigL_len]; omega
  simp only [t3] at c8
  have C8 := Lib.hid c8
  clear c5 c6 c7 c8 hb hs t1 t2 t3
  have hbl : (bigL n k).length ≤ 8 := by rw [bigL_len]; exact hk8
  have C9 := Lib.hid (fun w h => power_any k w h)
  have HW : Hid (k = 8 → n % 256 ^ k = n) := Lib.hid (by intro e; subst e; exact Nat.mod_eq_of_lt (by have := hn.out; simpa using this))
  have hp1 : 0 < 256 ^ k := Nat.pow_pos (by decide)
  generalize hpw : 256 ^ k = pw at *
  have HP := Lib.hid hp1
  clear hpw
  generalize hmd : n % pw = md at *
  have HMD := Lib.hid hmd
  clear hmd
  generalize bigL n k = bl at *
  generalize smallL n k = sl at *
  have R1 := Lib.hid (fun w => read_any bl w)
  have R2 := Lib.hid (fun w => read_any sl w)
  by_cases hk7 : (k : Int) < 8
  · have hmd' : (n : Int) % (pw : Int) = (md : Int) := by rw [← HMD.out]; exact (Int.natCast_emod _ _).symm
    have hp0 : (pw : Int) ≠ 0 := by have := HP.out; omega
    clear hp1
    go_enter Try.func8, Try.ntmps8
    go_wp2_with (first | (go_at_call 32; refine (C1.out _).mono ?_; rintro e w1 ⟨rfl, hb1⟩) | (go_at_call 33; refine (C2.out _).mono ?_; rintro e w2 ⟨rfl, hb2⟩) | (go_at_call 34; refine (C3.out _).mono ?_; rintro e w3 ⟨rfl, hb3⟩) | (go_at_call 35; refine (C4.out _).mono ?_; rintro e w4 ⟨rfl, hb4⟩) | (go_at_call 36; refine (C5.out _).mono ?_; rintro e w' ⟨rfl, rfl⟩) | (go_at_call 37; refine (size_any _ _).mono ?_; rw [hk.out]; rintro e w' ⟨rfl, rfl⟩) | (go_at_call 38; refine (C9.out _ (by omega)).mono ?_; rintro e w' ⟨rfl, rfl⟩) | (go_at_call 25; ((with_reducible refine (R1.out _).mono ?_); rintro e w5 ⟨rfl, hr5, hb5⟩)) | (go_at_call 25; ((with_reducible refine (R2.out _).mono ?_); rintro e w6 ⟨rfl, hr6, hb6⟩)) | (go_at_call 23; refine (awake01' _).mono ?_; rintro e w7 ⟨rfl, hb7⟩) | (go_at_call 39; refine (C6.out _ _ ((hr5.below hb6).below hb7)).mono ?_; rintro e w8 ⟨rfl, hr8, ho8⟩) | (go_at_call 40; refine (C7.out _ _ ((hr6.below hb7).only ho8 (Nat.ne_of_gt hr5.lt))).mono ?_; rintro e w9 ⟨rfl, hr9, ho9⟩) | (go_at_call 41; refine (C8.out _ _ (hr8.only ho9 (Nat.ne_of_lt hr5.lt))).mono ?_; rintro e w10 ⟨rfl, hb10⟩) | (go_at_call 27; refine (fault_any _ _ _ ((hr8.only ho9 (Nat.ne_of_lt hr5.lt)).below hb10)).mono ?_; rintro e w11 ⟨rfl, hb11⟩) | (go_at_call 28; refine (bad_any _ _ _).mono ?_; rintro e w12 ⟨rfl, hb12⟩))
    go_ret
    exact ⟨rfl, nextB (nextB (nextB (onlyB (onlyB (nextB (nextB (nextB (nextB (nextB (nextB (nextB hb1 hb2) hb3) hb4) hb5) hb6) hb7 ) (Below.refl _ _)) ho8 (nextB (nextB (nextB hb1 hb2) hb3) hb4).size) ho9 (nextB (nextB (nextB (nextB hb1 hb2) hb3) hb4) hb5).size) hb10) hb11) hb12⟩
  · obtain rfl : md = n := HW.out (by omega)
    clear hp1
    go_enter Try.func8, Try.ntmps8
    go_wp2_with (first | (go_at_call 32; refine (C1.out _).mono ?_; rintro e w1 ⟨rfl, hb1⟩) | (go_at_call 33; refine (C2.out _).mono ?_; rintro e w2 ⟨rfl, hb2⟩) | (go_at_call 34; refine (C3.out _).mono ?_; rintro e w3 ⟨rfl, hb3⟩) | (go_at_call 35; refine (C4.out _).mono ?_; rintro e w4 ⟨rfl, hb4⟩) | (go_at_call 36; refine (C5.out _).mono ?_; rintro e w' ⟨rfl, rfl⟩) | (go_at_call 37; refine (size_any _ _).mono ?_; rw [hk.out]; rintro e w' ⟨rfl, rfl⟩) | (go_at_call 38; refine (C9.out _ (by omega)).mono ?_; rintro e w' ⟨rfl, rfl⟩) | (go_at_call 25; ((with_reducible refine (R1.out _).mono ?_); rintro e w5 ⟨rfl, hr5, hb5⟩)) | (go_at_call 25; ((with_reducible refine (R2.out _).mono ?_); rintro e w6 ⟨rfl, hr6, hb6⟩)) | (go_at_call 23; refine (awake01' _).mono ?_; rintro e w7 ⟨rfl, hb7⟩) | (go_at_call 39; refine (C6.out _ _ ((hr5.below hb6).below hb7)).mono ?_; rintro e w8 ⟨rfl, hr8, ho8⟩) | (go_at_call 40; refine (C7.out _ _ ((hr6.below hb7).only ho8 (Nat.ne_of_gt hr5.lt))).mono ?_; rintro e w9 ⟨rfl, hr9, ho9⟩) | (go_at_call 41; refine (C8.out _ _ (hr8.only ho9 (Nat.ne_of_lt hr5.lt))).mono ?_; rintro e w10 ⟨rfl, hb10⟩) | (go_at_call 27; refine (fault_any _ _ _ ((hr8.only ho9 (Nat.ne_of_lt hr5.lt)).below hb10)).mono ?_; rintro e w11 ⟨rfl, hb11⟩) | (go_at_call 28; refine (bad_any _ _ _).mono ?_; rintro e w12 ⟨rfl, hb12⟩))
    go_ret
    exact ⟨rfl, nextB (nextB (nextB (onlyB (onlyB (nextB (nextB (nextB (nextB (nextB (nextB (nextB hb1 hb2) hb3) hb4) hb5) hb6) hb7 ) (Below.refl _ _)) ho8 (nextB (nextB (nextB hb1 hb2) hb3) hb4).size) ho9 (nextB (nextB (nextB (nextB hb1 hb2) hb3) hb4) hb5).size) hb10) hb11) hb12⟩

theorem walk_OctetNumbers (n : Int) (hn : (Lit.int .u64 n).wf = true) (size : Int) (_hs : (Lit.int .i64 size).wf = true) (w : World) :
    Calls Try.prog 8 #[.int .u64 n, .int .i64 size] w fun e w' => e = .returned (.bool true) ∧ Below w.heap.size w w' := by
  obtain ⟨m, rfl⟩ := Int.eq_ofNat_of_zero_le (bounds_u64 hn).1
  obtain ⟨k, hk⟩ := Int.eq_ofNat_of_zero_le (show 0 ≤ min (max size 0) 8 by omega)
  exact walk_OctetNumbers_in m k size (Lib.hid (by have := (bounds_u64 hn).2; omega)) (Lib.hid hk) w
end Go.Proofs.Ytfbdgahbhlapmaa
