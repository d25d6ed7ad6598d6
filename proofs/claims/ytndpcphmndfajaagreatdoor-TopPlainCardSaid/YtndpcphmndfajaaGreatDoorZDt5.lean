/- Plain texts: the mask of eight bytes. | Plain texts: utf8.word as a call that only computes, with its mask. | Plain texts: utf8.ValidString, walked. -/
import Derived.Test.YtndpcphmndfajaaGreatDoorZDt1

namespace Go.Proofs.YtndpcphmndfajaaGreatDoor
open Go.RowKit
set_option linter.unusedVariables false
set_option linter.unusedSimpArgs false

def mskN : Nat := 9259542123273814144
theorem wofInt (a : Nat) (ha : a < 18446744073709551616) : (BitVec.ofInt 64 (a : Int)).toNat = a := by
  simp only [BitVec.toNat_ofInt]
  omega
theorem wu_wrap (a : Nat) (ha : a < 18446744073709551616) : IntKind.u64.wrap (a : Int) = (a : Int) := by
  simp only [IntKind.wrap, IntKind.bits, IntKind.signed]
  simp
  omega
theorem wu_or (a b : Nat) (ha : a < 18446744073709551616) (hb : b < 18446744073709551616) : bits .or .u64 (a : Int) (b : Int) = ((a ||| b : Nat) : Int) := by
  have h : a ||| b < 2 ^ 64 := Nat.or_lt_two_pow (by simpa using ha) (by simpa using hb)
  have e : (BitVec.ofInt IntKind.u64.bits (a : Int) ||| BitVec.ofInt IntKind.u64.bits (b : Int)).toNat = a ||| b := by
    rw [BitVec.toNat_or]
    show (BitVec.ofInt 64 (a : Int)).toNat ||| (BitVec.ofInt 64 (b : Int)).toNat = a ||| b
    rw [wofInt a ha, wofInt b hb]
  simp only [bits, e]
  exact wu_wrap _ (by simpa using h)
theorem wu_and (a b : Nat) (ha : a < 18446744073709551616) (hb : b < 18446744073709551616) : bits .and .u64 (a : Int) (b : Int) = ((a &&& b : Nat) : Int) := by
  have h : a &&& b < 2 ^ 64 := Nat.and_lt_two_pow a (by simpa using hb)
  have e : (BitVec.ofInt IntKind.u64.bits (a : Int) &&& BitVec.ofInt IntKind.u64.bits (b : Int)).toNat = a &&& b := by
    rw [BitVec.toNat_and]
    show (BitVec.ofInt 64 (a : Int)).toNat &&& (BitVec.ofInt 64 (b : Int)).toNat = a &&& b
    rw [wofInt a ha, wofInt b hb]
  simp only [bits, e]
  exact wu_wrap _ (by simpa using h)
def wvN (b0 b1 b2 b3 b4 b5 b6 b7 : UInt8) : Nat := (((((((b0.toNat ||| (b1.toNat * 256)) ||| (b2.toNat * 65536)) ||| (b3.toNat * 16777216)) ||| (b4.toNat * 4294967296)) ||| (b5.toNat * 1099511627776)) ||| (b6.toNat * 281474976710656)) ||| (b7.toNat * 72057594037927936))
theorem mz0 : ∀ n : Fin 128, (n.val * 1) &&& mskN = 0 := by decide +kernel
theorem mz1 : ∀ n : Fin 128, (n.val * 256) &&& mskN = 0 := by decide +kernel
theorem mz2 : ∀ n : Fin 128, (n.val * 65536) &&& mskN = 0 := by decide +kernel
theorem mz3 : ∀ n : Fin 128, (n.val * 16777216) &&& mskN = 0 := by decide +kernel
theorem mz4 : ∀ n : Fin 128, (n.val * 4294967296) &&& mskN = 0 := by decide +kernel
theorem mz5 : ∀ n : Fin 128, (n.val * 1099511627776) &&& mskN = 0 := by decide +kernel
theorem mz6 : ∀ n : Fin 128, (n.val * 281474976710656) &&& mskN = 0 := by decide +kernel
theorem mz7 : ∀ n : Fin 128, (n.val * 72057594037927936) &&& mskN = 0 := by decide +kernel
theorem wv_nat (b0 b1 b2 b3 b4 b5 b6 b7 : UInt8) (       h0 : b0.toNat < 128) (h1 : b1.toNat < 128) (h2 : b2.toNat < 128) (h3 : b3.toNat < 128) (h4 : b4.toNat < 128) (h5 : b5.toNat < 128) (h6 : b6.toNat < 128) (h7 : b7.toNat < 128) : wv b0 b1 b2 b3 b4 b5 b6 b7 = ((wvN b0 b1 b2 b3 b4 b5 b6 b7 : Nat) : Int) ∧ wvN b0 b1 b2 b3 b4 b5 b6 b7 < 18446744073709551616 ∧ wvN b0 b1 b2 b3 b4 b5 b6 b7 &&& mskN = 0 := by
  have e0 : IntKind.u64.wrap (b0.toNat : Int) = (b0.toNat : Int) := wu_wrap _ (by omega)
  have l0 : b0.toNat < 2 ^ 64 := by omega
  have m0 : b0.toNat &&& mskN = 0 := by simpa using mz0 ⟨b0.toNat, h0⟩
  have w1 : IntKind.u64.wrap (IntKind.u64.wrap (b1.toNat : Int) * 256) = ((b1.toNat * 256 : Nat) : Int) := by
    rw [wu_wrap b1.toNat (by omega)]
    rw [show (b1.toNat : Int) * 256 = ((b1.toNat * 256 : Nat) : Int) by omega]
    exact wu_wrap _ (by omega)
  have e1 : bits BinOp.or IntKind.u64 (IntKind.u64.wrap (b0.toNat : Int)) (IntKind.u64.wrap (IntKind.u64.wrap (b1.toNat : Int) * 256)) = (((b0.toNat ||| (b1.toNat * 256)) : Nat) : Int) := by
    rw [e0, w1]
    exact wu_or _ _ (by simpa using l0) (by omega)
  have l1 : (b0.toNat ||| (b1.toNat * 256)) < 2 ^ 64 := Nat.or_lt_two_pow l0 (by omega)
  have m1 : (b0.toNat ||| (b1.toNat * 256)) &&& mskN = 0 := by rw [Nat.and_or_distrib_right, m0, mz1 ⟨b1.toNat, h1⟩]; rfl
  have w2 : IntKind.u64.wrap (IntKind.u64.wrap (b2.toNat : Int) * 65536) = ((b2.toNat * 65536 : Nat) : Int) := by
    rw [wu_wrap b2.toNat (by omega)]
    rw [show (b2.toNat : Int) * 65536 = ((b2.toNat * 65536 : Nat) : Int) by omega]
    exact wu_wrap _ (by omega)
  have e2 : bits BinOp.or IntKind.u64 (bits BinOp.or IntKind.u64 (IntKind.u64.wrap (b0.toNat : Int)) (IntKind.u64.wrap (IntKind.u64.wrap (b1.toNat : Int) * 256))) (IntKind.u64.wrap (IntKind.u64.wrap (b2.toNat : Int) * 65536)) = ((((b0.toNat ||| (b1.toNat * 256)) ||| (b2.toNat * 65536)) : Nat) : Int) := by
    rw [e1, w2]
    exact wu_or _ _ (by simpa using l1) (by omega)
  have l2 : ((b0.toNat ||| (b1.toNat * 256)) ||| (b2.toNat * 65536)) < 2 ^ 64 := Nat.or_lt_two_pow l1 (by omega)
  have m2 : ((b0.toNat ||| (b1.toNat * 256)) ||| (b2.toNat * 65536)) &&& mskN = 0 := by rw [Nat.and_or_distrib_right, m1, mz2 ⟨b2.toNat, h2⟩]; rfl
  have w3 : IntKind.u64.wrap (IntKind.u64.wrap (b3.toNat : Int) * 16777216) = ((b3.toNat * 16777216 : Nat) : Int) := by
    rw [wu_wrap b3.toNat (by omega)]
    rw [show (b3.toNat : Int) * 16777216 = ((b3.toNat * 16777216 : Nat) : Int) by omega]
    exact wu_wrap _ (by omega)
  have e3 : bits BinOp.or IntKind.u64 (bits BinOp.or IntKind.u64 (bits BinOp.or IntKind.u64 (IntKind.u64.wrap (b0.toNat : Int)) (IntKind.u64.wrap (IntKind.u64.wrap (b1.toNat : Int) * 256))) (IntKind.u64.wrap (IntKind.u64.wrap (b2.toNat : Int) * 65536))) (IntKind.u64.wrap (IntKind.u64.wrap (b3.toNat : Int) * 16777216)) = (((((b0.toNat ||| (b1.toNat * 256)) ||| (b2.toNat * 65536)) ||| (b3.toNat * 16777216)) : Nat) : Int) := by
    rw [e2, w3]
    exact wu_or _ _ (by simpa using l2) (by omega)
  have l3 : (((b0.toNat ||| (b1.toNat * 256)) ||| (b2.toNat * 65536)) ||| (b3.toNat * 16777216)) < 2 ^ 64 := Nat.or_lt_two_pow l2 (by omega)
  have m3 : (((b0.toNat ||| (b1.toNat * 256)) ||| (b2.toNat * 65536)) ||| (b3.toNat * 16777216)) &&& mskN = 0 := by rw [Nat.and_or_distrib_right, m2, mz3 ⟨b3.toNat, h3⟩]; rfl
  have w4 : IntKind.u64.wrap (IntKind.u64.wrap (b4.toNat : Int) * 4294967296) = ((b4.toNat * 4294967296 : Nat) : Int) := by
    rw [wu_wrap b4.toNat (by omega)]
    rw [show (b4.toNat : Int) * 4294967296 = ((b4.toNat * 4294967296 : Nat) : Int) by omega]
    exact wu_wrap _ (by omega)
  have e4 : bits BinOp.or IntKind.u64 (bits BinOp.or IntKind.u64 (bits BinOp.or IntKind.u64 (bits BinOp.or IntKind.u64 (IntKind.u64.wrap (b0.toNat : Int)) (IntKind.u64.wrap (IntKind.u64.wrap (b1.toNat : Int) * 256))) (IntKind.u64.wrap (IntKind.u64.wrap (b2.toNat : Int) * 65536))) (IntKind.u64.wrap (IntKind.u64.wrap (b3.toNat : Int) * 16777216))) (IntKind.u64.wrap (IntKind.u64.wrap (b4.toNat : Int) * 4294967296)) = ((((((b0.toNat ||| (b1.toNat * 256)) ||| (b2.toNat * 65536)) ||| (b3.toNat * 16777216)) ||| (b4.toNat * 4294967296)) : Nat) : Int) := by
    rw [e3, w4]
    exact wu_or _ _ (by simpa using l3) (by omega)
  have l4 : ((((b0.toNat ||| (b1.toNat * 256)) ||| (b2.toNat * 65536)) ||| (b3.toNat * 16777216)) ||| (b4.toNat * 4294967296)) < 2 ^ 64 := Nat.or_lt_two_pow l3 (by omega)
  have m4 : ((((b0.toNat ||| (b1.toNat * 256)) ||| (b2.toNat * 65536)) ||| (b3.toNat * 16777216)) ||| (b4.toNat * 4294967296)) &&& mskN = 0 := by rw [Nat.and_or_distrib_right, m3, mz4 ⟨b4.toNat, h4⟩]; rfl
  have w5 : IntKind.u64.wrap (IntKind.u64.wrap (b5.toNat : Int) * 1099511627776) = ((b5.toNat * 1099511627776 : Nat) : Int) := by
    rw [wu_wrap b5.toNat (by omega)]
    rw [show (b5.toNat : Int) * 1099511627776 = ((b5.toNat * 1099511627776 : Nat) : Int) by omega]
    exact wu_wrap _ (by omega)
  have e5 : bits BinOp.or IntKind.u64 (bits BinOp.or IntKind.u64 (bits BinOp.or IntKind.u64 (bits BinOp.or IntKind.u64 (bits BinOp.or IntKind.u64 (IntKind.u64.wrap (b0.toNat : Int)) (IntKind.u64.wrap (IntKind.u64.wrap (b1.toNat : Int) * 256))) (IntKind.u64.wrap (IntKind.u64.wrap (b2.toNat : Int) * 65536))) (IntKind.u64.wrap (IntKind.u64.wrap (b3.toNat : Int) * 16777216))) (IntKind.u64.wrap (IntKind.u64.wrap (b4.toNat : Int) * 4294967296))) (IntKind.u64.wrap (IntKind.u64.wrap (b5.toNat : Int) * 1099511627776)) = (((((((b0.toNat ||| (b1.toNat * 256)) ||| (b2.toNat * 65536)) ||| (b3.toNat * 16777216)) ||| (b4.toNat * 4294967296)) ||| (b5.toNat * 1099511627776)) : Nat) : Int) := by
    rw [e4, w5]
    exact wu_or _ _ (by simpa using l4) (by omega)
  have l5 : (((((b0.toNat ||| (b1.toNat * 256)) ||| (b2.toNat * 65536)) ||| (b3.toNat * 16777216)) ||| (b4.toNat * 4294967296)) ||| (b5.toNat * 1099511627776)) < 2 ^ 64 := Nat.or_lt_two_pow l4 (by omega)
  have m5 : (((((b0.toNat ||| (b1.toNat * 256)) ||| (b2.toNat * 65536)) ||| (b3.toNat * 16777216)) ||| (b4.toNat * 4294967296)) ||| (b5.toNat * 1099511627776)) &&& mskN = 0 := by rw [Nat.and_or_distrib_right, m4, mz5 ⟨b5.toNat, h5⟩]; rfl
  have w6 : IntKind.u64.wrap (IntKind.u64.wrap (b6.toNat : Int) * 281474976710656) = ((b6.toNat * 281474976710656 : Nat) : Int) := by
    rw [wu_wrap b6.toNat (by omega)]
    rw [show (b6.toNat : Int) * 281474976710656 = ((b6.toNat * 281474976710656 : Nat) : Int) by omega]
    exact wu_wrap _ (by omega)
  have e6 : bits BinOp.or IntKind.u64 (bits BinOp.or IntKind.u64 (bits BinOp.or IntKind.u64 (bits BinOp.or IntKind.u64 (bits BinOp.or IntKind.u64 (bits BinOp.or IntKind.u64 (IntKind.u64.wrap (b0.toNat : Int)) (IntKind.u64.wrap (IntKind.u64.wrap (b1.toNat : Int) * 256))) (IntKind.u64.wrap (IntKind.u64.wrap (b2.toNat : Int) * 65536))) (IntKind.u64.wrap (IntKind.u64.wrap (b3.toNat : Int) * 16777216))) (IntKind.u64.wrap (IntKind.u64.wrap (b4.toNat : Int) * 4294967296))) (IntKind.u64.wrap (IntKind.u64.wrap (b5.toNat : Int) * 1099511627776))) (IntKind.u64.wrap (IntKind.u64.wrap (b6.toNat : Int) * 281474976710656)) = ((((((((b0.toNat ||| (b1.toNat * 256)) ||| (b2.toNat * 65536)) ||| (b3.toNat * 16777216)) ||| (b4.toNat * 4294967296)) ||| (b5.toNat * 1099511627776)) ||| (b6.toNat * 281474976710656)) : Nat) : Int) := by
    rw [e5, w6]
    exact wu_or _ _ (by simpa using l5) (by omega)
  have l6 : ((((((b0.toNat ||| (b1.toNat * 256)) ||| (b2.toNat * 65536)) ||| (b3.toNat * 16777216)) ||| (b4.toNat * 4294967296)) ||| (b5.toNat * 1099511627776)) ||| (b6.toNat * 281474976710656)) < 2 ^ 64 := Nat.or_lt_two_pow l5 (by omega)
  have m6 : ((((((b0.toNat ||| (b1.toNat * 256)) ||| (b2.toNat * 65536)) ||| (b3.toNat * 16777216)) ||| (b4.toNat * 4294967296)) ||| (b5.toNat * 1099511627776)) ||| (b6.toNat * 281474976710656)) &&& mskN = 0 := by rw [Nat.and_or_distrib_right, m5, mz6 ⟨b6.toNat, h6⟩]; rfl
  have w7 : IntKind.u64.wrap (IntKind.u64.wrap (b7.toNat : Int) * 72057594037927936) = ((b7.toNat * 72057594037927936 : Nat) : Int) := by
    rw [wu_wrap b7.toNat (by omega)]
    rw [show (b7.toNat : Int) * 72057594037927936 = ((b7.toNat * 72057594037927936 : Nat) : Int) by omega]
    exact wu_wrap _ (by omega)
  have e7 : bits BinOp.or IntKind.u64 (bits BinOp.or IntKind.u64 (bits BinOp.or IntKind.u64 (bits BinOp.or IntKind.u64 (bits BinOp.or IntKind.u64 (bits BinOp.or IntKind.u64 (bits BinOp.or IntKind.u64 (IntKind.u64.wrap (b0.toNat : Int)) (IntKind.u64.wrap (IntKind.u64.wrap (b1.toNat : Int) * 256))) (IntKind.u64.wrap (IntKind.u64.wrap (b2.toNat : Int) * 65536))) (IntKind.u64.wrap (IntKind.u64.wrap (b3.toNat : Int) * 16777216))) (IntKind.u64.wrap (IntKind.u64.wrap (b4.toNat : Int) * 4294967296))) (IntKind.u64.wrap (IntKind.u64.wrap (b5.toNat : Int) * 1099511627776))) (IntKind.u64.wrap (IntKind.u64.wrap (b6.toNat : Int) * 281474976710656))) (IntKind.u64.wrap (IntKind.u64.wrap (b7.toNat : Int) * 72057594037927936)) = (((((((((b0.toNat ||| (b1.toNat * 256)) ||| (b2.toNat * 65536)) ||| (b3.toNat * 16777216)) ||| (b4.toNat * 4294967296)) ||| (b5.toNat * 1099511627776)) ||| (b6.toNat * 281474976710656)) ||| (b7.toNat * 72057594037927936)) : Nat) : Int) := by
    rw [e6, w7]
    exact wu_or _ _ (by simpa using l6) (by omega)
  have l7 : (((((((b0.toNat ||| (b1.toNat * 256)) ||| (b2.toNat * 65536)) ||| (b3.toNat * 16777216)) ||| (b4.toNat * 4294967296)) ||| (b5.toNat * 1099511627776)) ||| (b6.toNat * 281474976710656)) ||| (b7.toNat * 72057594037927936)) < 2 ^ 64 := Nat.or_lt_two_pow l6 (by omega)
  have m7 : (((((((b0.toNat ||| (b1.toNat * 256)) ||| (b2.toNat * 65536)) ||| (b3.toNat * 16777216)) ||| (b4.toNat * 4294967296)) ||| (b5.toNat * 1099511627776)) ||| (b6.toNat * 281474976710656)) ||| (b7.toNat * 72057594037927936)) &&& mskN = 0 := by rw [Nat.and_or_distrib_right, m6, mz7 ⟨b7.toNat, h7⟩]; rfl
  exact ⟨e7, (by show _ < 18446744073709551616; exact Nat.lt_of_lt_of_eq l7 (by decide)), m7⟩
end Go.Proofs.YtndpcphmndfajaaGreatDoor

namespace Go.Proofs.YtndpcphmndfajaaGreatDoor
open Go.RowKit
set_option linter.unusedVariables false
set_option linter.unusedSimpArgs false

set_option maxHeartbeats 2000000 in
set_option maxRecDepth 100000 in
theorem word_drew (s : List UInt8) (h8 : 8 ≤ s.length) (w : World) : Calls Tryz.prog 220 #[.string ⟨s.toArray⟩] w fun e w' => e = .returned (.int .u64 (wv s[0] s[1] s[2] s[3] s[4] s[5] s[6] s[7])) ∧ ∃ n, w' = w.drewN n := by
  have i0 : (0 : Int) < (s.length : Int) := by omega
  have i1 : (1 : Int) < (s.length : Int) := by omega
  have i2 : (2 : Int) < (s.length : Int) := by omega
  have i3 : (3 : Int) < (s.length : Int) := by omega
  have i4 : (4 : Int) < (s.length : Int) := by omega
  have i5 : (5 : Int) < (s.length : Int) := by omega
  have i6 : (6 : Int) < (s.length : Int) := by omega
  have i7 : (7 : Int) < (s.length : Int) := by omega
  have n0 : 0 < s.length := by omega
  have n1 : 1 < s.length := by omega
  have n2 : 2 < s.length := by omega
  have n3 : 3 < s.length := by omega
  have n4 : 4 < s.length := by omega
  have n5 : 5 < s.length := by omega
  have n6 : 6 < s.length := by omega
  have n7 : 7 < s.length := by omega
  go_enter Tryz.func220, Tryz.ntmps220
  go_upto_region 2 with (fail)
  go_quiet (fail)
  go_wp2
  go_ret
  exact ⟨rfl, _, rfl⟩
/-- eight plain bytes as a number: its mask is nought -/
theorem word_zero (s : List UInt8) (ht : Asc s) (h8 : 8 ≤ s.length) : ∃ x : Nat, x < 18446744073709551616 ∧ x &&& mskN = 0 ∧ ∀ w, Calls Tryz.prog 220 #[.string ⟨s.toArray⟩] w fun e w' => e = .returned (.int .u64 (x : Int)) ∧ ∃ n, w' = w.drewN n := by
  have hb : ∀ i (h : i < s.length), s[i].toNat < 128 := fun i h => ht _ (List.getElem_mem h)
  obtain ⟨h1, h2, h3⟩ := wv_nat s[0] s[1] s[2] s[3] s[4] s[5] s[6] s[7] (hb _ _) (hb _ _) (hb _ _) (hb _ _) (hb _ _) (hb _ _) (hb _ _) (hb _ _)
  refine ⟨_, h2, h3, fun w => ?_⟩
  rw [← h1]
  exact word_drew s h8 w
theorem asc_drop {t : List UInt8} (h : Asc t) (n : Nat) : Asc (t.drop n) := fun c hc => h c (List.mem_of_mem_drop hc)
theorem msk_or {x y : Nat} (hx : x &&& mskN = 0) (hy : y &&& mskN = 0) : (x ||| y) &&& mskN = 0 := by rw [Nat.and_or_distrib_right, hx, hy]; rfl
theorem msk_int {x : Nat} (h : x < 18446744073709551616) (hx : x &&& mskN = 0) : bits BinOp.and IntKind.u64 (x : Int) 9259542123273814144 = 0 := by
  have := wu_and x 9259542123273814144 h (by decide)
  rw [show ((9259542123273814144 : Nat) : Int) = 9259542123273814144 from rfl] at this
  rw [this, show x &&& 9259542123273814144 = 0 from hx]
  rfl
end Go.Proofs.YtndpcphmndfajaaGreatDoor

namespace Go.Proofs.YtndpcphmndfajaaGreatDoor
open Go.RowKit
set_option linter.unusedVariables false
set_option linter.unusedSimpArgs false

set_option maxHeartbeats 4000000 in
set_option maxRecDepth 100000 in
theorem validstr_any (t : List UInt8) (w : World) (ht : Asc t) (hl : t.length ≤ 1000000) : Calls Tryz.prog 141 #[.string ⟨t.toArray⟩] w fun e w' => e = .returned (.bool true) ∧ Below w.heap.size w w' := by
  have HT := Lib.hid ht
  clear ht
  go_enter Tryz.func141, Tryz.ntmps141
  go_wp2
  go_loopw [0] (fun sv wr => ∃ r : List UInt8, r.length ≤ 1000000 ∧ sv = .string ⟨r.toArray⟩ ∧ Hid (Asc r) ∧ Hid (Below w.heap.size w wr)) (fun sv _ => (match sv with | .string b => b.size | _ => 0))
  case atStart => exact ⟨t, hl, rfl, HT, Lib.hid (Below.refl _ _)⟩
  case round =>
    obtain ⟨r, hrl, rfl, HA, HB⟩ := hrel
    by_cases hp : 0 < r.length
    · have q0 : (0 : Int) < (r.length : Int) := by omega
      have q1 : (1 : Int) ≤ (r.length : Int) := by omega
      have hx : r[0].toNat < 128 := HA.out _ (List.getElem_mem hp)
      have j0 : (r[0].toNat : Int) < 128 := by omega
      clear hx
      go_upto_region 5 with (fail)
      have hl1 : (List.take (r.length - 1) r.tail).length = r.length - 1 := by rw [List.length_take, List.length_tail]; omega
      have HA1 : Hid (Asc (List.take (r.length - 1) r.tail)) := Lib.hid (fun c hc => HA.out c (List.mem_of_mem_tail (List.mem_of_mem_take hc)))
      generalize List.take (r.length - 1) r.tail = r1 at *
      have hl1b : r1.length < r.length := by omega
      clear hl1
      by_cases h8 : 8 < r1.length
      · have q2 : (8 : Int) < (r1.length : Int) := by omega
        obtain ⟨x, hx1, hx2, HX⟩ := word_zero r1 HA1.out (by omega)
        have hz := msk_int hx1 hx2
        have HXW := Lib.hid HX
        clear HX hx1 hx2
        go_upto_region 7 with (go_at_call 220; refine (HXW.out _).mono ?_; rintro e w1 ⟨rfl, n1, rfl⟩)
        clear hz HXW
        rw [drop_all]
        have HA2 := Lib.hid (asc_drop HA1.out 8)
        have hl2 : (r1.drop 8).length = r1.length - 8 := List.length_drop
        have HB2 := Lib.hid (below_drewN HB.out n1)
        generalize wr.drewN n1 = wx at *
        generalize r1.drop 8 = r2 at *
        have hl2b : r2.length < r.length := by omega
        clear hl2
        by_cases h16 : 16 < r2.length
        · have q3 : (16 : Int) < (r2.length : Int) := by omega
          have q4 : decide ((16 : Int) < (r2.length : Int)) = true := decide_eq_true q3
          obtain ⟨x, hx1, hx2, HX⟩ := word_zero r2 HA2.out (by omega)
          obtain ⟨y, hy1, hy2, HY⟩ := word_zero (r2.drop 8) (asc_drop HA2.out 8) (by rw [List.length_drop]; omega)
          rw [← drop_all] at HY
          have hxy : x ||| y < 18446744073709551616 := Nat.lt_of_lt_of_eq (Nat.or_lt_two_pow (n := 64) (by simpa using hx1) (by simpa using hy1)) (by decide)
          have ho := wu_or x y hx1 hy1
          have hz := msk_int hxy (msk_or hx2 hy2)
          rw [← ho] at hz
          have HXW := Lib.hid HX
          have HYW := Lib.hid HY
          clear HX HY hx1 hx2 hy1 hy2 hxy ho
          have q8 : (8 : Int) ≤ (r2.length : Int) := by omega
          have HZ9 := Lib.hid hz
          clear hz
          go_quiet (first | (go_at_call 220; with_reducible exact Calls.quiet_of (HXW.out _)) | (go_at_call 220; with_reducible exact Calls.quiet_of (HYW.out _)))
          have hz := HZ9.out
          go_upto_region 9 with (fail)
          clear hz HZ9 HXW HYW
          rw [drop_all]
          have HA3 := Lib.hid (asc_drop HA2.out 16)
          have hl3 : (r2.drop 16).length = r2.length - 16 := List.length_drop
          have HB3 := Lib.hid (below_drewN HB2.out nq)
          generalize wx.drewN nq = w3 at *
          generalize r2.drop 16 = r3 at *
          have hl3b : r3.length < r.length := by omega
          clear hl3
          go_loopw [0] (fun sv w9 => ∃ s : List UInt8, s.length < r.length ∧ sv = .string ⟨s.toArray⟩ ∧ Hid (Asc s) ∧ Hid (Below w.heap.size w w9)) (fun sv _ => (match sv with | .string b => b.size | _ => 0))
          case atStart => exact ⟨r3, hl3b, rfl, HA3, HB3⟩
          case round =>
            obtain ⟨s, hsl, rfl, HAs, HBs⟩ := hrel
            by_cases h32 : 32 < s.length
            · have q5 : (32 : Int) < (s.length : Int) := by omega
              have q6 : decide ((32 : Int) < (s.length : Int)) = true := decide_eq_true q5
              obtain ⟨a1, ha1, ha2, HW1⟩ := word_zero s HAs.out (by omega)
              obtain ⟨a2, hb1, hb2, HW2⟩ := word_zero (s.drop 8) (asc_drop HAs.out 8) (by rw [List.length_drop]; omega)
              obtain ⟨a3, hc1, hc2, HW3⟩ := word_zero (s.drop 16) (asc_drop HAs.out 16) (by rw [List.length_drop]; omega)
              obtain ⟨a4, hd1, hd2, HW4⟩ := word_zero (s.drop 24) (asc_drop HAs.out 24) (by rw [List.length_drop]; omega)
              rw [← drop_all] at HW2 HW3 HW4
              have hab : a1 ||| a2 < 18446744073709551616 := Nat.lt_of_lt_of_eq (Nat.or_lt_two_pow (n := 64) (by simpa using ha1) (by simpa using hb1)) (by decide)
              have hcd : a3 ||| a4 < 18446744073709551616 := Nat.lt_of_lt_of_eq (Nat.or_lt_two_pow (n := 64) (by simpa using hc1) (by simpa using hd1)) (by decide)
              have hall : (a1 ||| a2) ||| (a3 ||| a4) < 18446744073709551616 := Nat.lt_of_lt_of_eq (Nat.or_lt_two_pow (n := 64) (by simpa using hab) (by simpa using hcd)) (by decide)
              have hz := msk_int hall (msk_or (msk_or ha2 hb2) (msk_or hc2 hd2))
              rw [← wu_or _ _ hab hcd, ← wu_or a1 a2 ha1 hb1, ← wu_or a3 a4 hc1 hd1] at hz
              have HWA := Lib.hid HW1
              have HWB := Lib.hid HW2
              have HWC := Lib.hid HW3
              have HWD := Lib.hid HW4
              have HZ := Lib.hid hz
              clear HW1 HW2 HW3 HW4 hz hab hcd hall ha1 ha2 hb1 hb2 hc1 hc2 hd1 hd2
              have q8 : (8 : Int) ≤ (s.length : Int) := by omega
              have q16 : (16 : Int) ≤ (s.length : Int) := by omega
              have q24 : (24 : Int) ≤ (s.length : Int) := by omega
              have q32 : (32 : Int) ≤ (s.length : Int) := by omega
              go_upto_region 9 with (fail)
              go_quiet (first | (go_at_call 220; with_reducible exact Calls.quiet_of (HWA.out _)) | (go_at_call 220; with_reducible exact Calls.quiet_of (HWB.out _)) | (go_at_call 220; with_reducible exact Calls.quiet_of (HWC.out _)) | (go_at_call 220; with_reducible exact Calls.quiet_of (HWD.out _)))
              have hz := HZ.out
              go_wp2
              rw [drop_all]
              have hl4 : (s.drop 32).length = s.length - 32 := List.length_drop
              refine ⟨⟨s.drop 32, by omega, rfl, Lib.hid (asc_drop HAs.out 32), Lib.hid (below_drewN HBs.out _)⟩, ?_⟩
              simp [ByteArray.size]
              omega
            · have q5 : ¬ (32 : Int) < (s.length : Int) := by omega
              have q6 : decide ((32 : Int) < (s.length : Int)) = false := decide_eq_false q5
              go_upto_region 9 with (fail)
              go_quiet (fail)
              go_wp2
              refine ⟨⟨s, by omega, rfl, HAs, Lib.hid (below_drewN HBs.out _)⟩, ?_⟩
              simp [ByteArray.size]
              omega
        · have q3 : ¬ (16 : Int) < (r2.length : Int) := by omega
          have q4 : decide ((16 : Int) < (r2.length : Int)) = false := decide_eq_false q3
          go_quiet (fail)
          go_wp2
          refine ⟨⟨r2, by omega, rfl, HA2, Lib.hid (below_drewN HB2.out _)⟩, ?_⟩
          simp [ByteArray.size]
          omega
      · have q2 : ¬ (8 : Int) < (r1.length : Int) := by omega
        go_wp2
        refine ⟨⟨r1, by omega, rfl, HA1, HB⟩, ?_⟩
        simp [ByteArray.size]
        omega
    · have q0 : ¬ (0 : Int) < (r.length : Int) := by omega
      go_wp2
      go_ret
      exact ⟨rfl, HB.out⟩
theorem valid_asc : ValidAsc := fun t w ht hl => validstr_any t w ht hl
end Go.Proofs.YtndpcphmndfajaaGreatDoor
