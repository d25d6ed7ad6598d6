/- The walks of the statements of layer 1 (octet) on numbers. -/
import Derived.Test.YtdoheningeafhaaOct3
import Derived.OpenShut
namespace Go.Proofs.Ytdoheningeafhaa
open Go.RowKit

theorem safeL_eq (n : Nat) : safeL n = [UInt8.ofNat (n / 2097152 % 128), UInt8.ofNat (n / 16384 % 128), UInt8.ofNat (n / 128 % 128), UInt8.ofNat (n % 128)] := by
  simp [safeL, safeS, Nat.div_div_eq_div_mul]
theorem safeL_len (n : Nat) : (safeL n).length = 4 := by rw [safeL_eq]; rfl
theorem lo_mod (x : Nat) : (UInt8.ofNat (x % 128)).toNat = x % 128 := by rw [UInt8.toNat_ofNat']; omega
theorem hi_mod (x : Nat) : hi (UInt8.ofNat (x % 128)) = false := by unfold hi; rw [lo_mod]; simp; omega
theorem safeL_low (n : Nat) : Low7 (safeL n) := by
  rw [safeL_eq]
  intro c hc
  simp only [List.mem_cons, List.not_mem_nil, or_false] at hc
  rcases hc with rfl | rfl | rfl | rfl <;> exact hi_mod _
theorem num7_safeL (n : Nat) (h : n ≤ 268435455) : num7 (safeL n) = n := by
  rw [safeL_eq]
  simp only [num7, List.foldl_cons, List.foldl_nil, lo_mod]
  omega
theorem new_ok (l : List UInt8) (b : Int) (h : l.length ≤ 1000000000) (hb : b ≤ 3000000000000) : (Rd.new l b).Ok := by
  refine ⟨Nat.zero_le _, h, ?_, ?_⟩
  · show 0 ≤ max b 0
    omega
  · show max b 0 ≤ _
    omega
theorem take_all (m : Rd) (n : Nat) (hc : m.cd = 0) (h : m.nx + n ≤ m.t.length) : m.take n = ({ m with nx := m.nx + n }, (m.t.drop m.nx).take n) := by
  unfold Rd.take
  rw [if_pos hc, if_neg (by omega)]
  simp
theorem safe_back (n : Nat) (h : n ≤ 268435455) : (Rd.new (safeL n) 0).safe = ({ Rd.new (safeL n) 0 with nx := 4 }, (n : Int)) := by
  have e := take_all (Rd.new (safeL n) 0) 4 rfl (by show 0 + 4 ≤ _; rw [show (Rd.new (safeL n) 0).t = safeL n from rfl, safeL_len]; exact Nat.le_refl 4)
  have e2 : ((Rd.new (safeL n) 0).t.drop (Rd.new (safeL n) 0).nx).take 4 = safeL n := by
    show ((safeL n).drop 0).take 4 = _
    rw [List.drop_zero, List.take_of_length_le (by rw [safeL_len]; exact Nat.le_refl _)]
  rw [e2] at e
  have e3 : (safeL n).findIdx? hi = none := by rw [List.findIdx?_eq_none_iff]; exact safeL_low n
  unfold Rd.safe
  rw [show (4 : Int) = ((4 : Nat) : Int) from rfl, e]
  simp only [e3, num7_safeL n h]
  rfl

set_option maxRecDepth 100000 in
theorem safe_no (n : Nat) (w : World) (hn : 268435455 < n) :
    Calls Try.prog 76 #[.int .u64 n] w fun e w' => e = .returned (.tuple #[.string ⟨#[]⟩, .bool false]) ∧ w = w' := by
  go_enter Try.func76, Try.ntmps76
  go_wp2
  go_ret2
  exact ⟨rfl, rfl⟩

set_option maxHeartbeats 1000000 in
set_option maxRecDepth 100000 in
theorem awake01 (w : World) : Calls Try.prog 116 #[] w fun e w' => e = .returned (.bool true) ∧ Below w.heap.size w w' := by
  have c1 := fun W => safe_yes 129 W (by decide)
  have e1 : safeL 129 = [0, 0, 1, 1] := by decide
  rw [e1] at c1
  have C1 := Lib.hid c1
  have hm := new_ok [97, 98] 10 (by decide) (by decide)
  have c2 := fun w b h => take_any b (Rd.new [97, 98] 10) 3 w h hm
  have e2 : (Rd.new [97, 98] 10).take 3 = (⟨[97, 98], 0, 10, 1, 12⟩, []) := by
    rfl
  rw [e2] at c2
  have C2 := Lib.hid c2
  have c3 := fun W => big_any 258 2 2 W (Lib.hid (by decide)) (Lib.hid (by decide))
  have e3 : bigL 258 2 = [1, 2] := by decide
  rw [e3] at c3
  have C3 := Lib.hid c3
  clear c1 c2 c3 e1 e2 e3
  go_enter Try.func116, Try.ntmps116
  go_wp2_with (first | (go_at_call 76; refine (C1.out _).mono ?_; rintro e w1 ⟨rfl, hb1⟩) | (go_at_call 47; refine (inner_any _ _ _).mono ?_; rintro e w2 ⟨rfl, hr2, hb2⟩) | (go_at_call 80; refine (C2.out _ _ hr2).mono ?_; rintro e w3 ⟨rfl, hr3, ho3⟩) | (go_at_call 78; refine (C3.out _).mono ?_; rintro e w4 ⟨rfl, hb4⟩) | (go_at_call 48; refine (fault_any _ _ _ (hr3.below hb4)).mono ?_; rintro e w5 ⟨rfl, hb5⟩))
  go_ret
  refine ⟨rfl, nextB (nextB ?_ hb4) hb5⟩
  exact (nextB hb1 hb2).trans (ho3.below hb1.size (Nat.le_trans hb1.size hb2.size))

/-! ### OctetNumbers -/
theorem pow_step (k : Nat) : (256 : Nat) ^ (k + 1) = 256 ^ k * 256 := Nat.pow_succ 256 k
theorem numL_bigL : ∀ (k n : Nat), numL (bigL n k) = n % 256 ^ k
  | 0, n => by simp [bigL, smallL, numL]; omega
  | k + 1, n => by
    have h1 : (UInt8.ofNat n).toNat = n % 256 := UInt8.toNat_ofNat'
    rw [bigL_succ, numL_snoc, numL_bigL k (n / 256), h1, pow_step, Nat.mul_comm (256 ^ k) 256, Nat.mod_mul]
    omega
theorem smallL_len : ∀ (k n : Nat), (smallL n k).length = k
  | 0, _ => rfl
  | k + 1, n => by simp [smallL, smallL_len k]
theorem bigL_len (k n : Nat) : (bigL n k).length = k := by simp [bigL, smallL_len]

end Go.Proofs.Ytdoheningeafhaa
