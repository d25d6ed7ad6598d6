/- The document's check sum of layer 16, walked. -/
import Derived.Test.YtmnmonmbdgedbaaSum1
import Derived.Test.YtmnmonmbdgedbaaOcx
namespace Go.Proofs.Ytmnmonmbdgedbaa
open Go.RowKit

def gs (s : BitVec 32) (c : Nat) : Nat → BitVec 32
  | 0 => s
  | k + 1 => g1 (gs s c k) (c.testBit (7 - k))
theorem gs_eight (s : BitVec 32) (c : Nat) : gs s c 8 = g8 s c := rfl
theorem bit_mod (c k : Nat) : c / 2 ^ k % 2 = if c.testBit k then 1 else 0 := by
  rw [Nat.testBit_eq_decide_div_mod_eq]
  by_cases h : c / 2 ^ k % 2 = 1
  · simp [h]
  · have : c / 2 ^ k % 2 = 0 := by omega
    simp [this]
theorem msb_div (s : BitVec 32) : s.toNat / 2147483648 = if s.msb then 1 else 0 := by
  have := s.isLt
  rw [BitVec.msb_eq_decide]
  by_cases h : 2 ^ 31 ≤ s.toNat
  · simp [h]; omega
  · simp [h]; omega
theorem g1_top (s : BitVec 32) (c k : Nat) (h : (s.toNat / 2147483648 + c / 2 ^ k) % 2 = 1) : g1 s (c.testBit k) = (s <<< 1) ^^^ 79764919#32 := by
  have h1 := bit_mod c k
  have h2 := msb_div s
  rw [Nat.add_mod, h1, h2] at h
  unfold g1 st
  cases hm : s.msb <;> cases hb : c.testBit k <;> simp_all
theorem g1_low (s : BitVec 32) (c k : Nat) (h : (s.toNat / 2147483648 + c / 2 ^ k) % 2 ≠ 1) : g1 s (c.testBit k) = s <<< 1 := by
  have h1 := bit_mod c k
  have h2 := msb_div s
  rw [Nat.add_mod, h1, h2] at h
  unfold g1 st
  cases hm : s.msb <;> cases hb : c.testBit k <;> simp_all
  rw [BitVec.xor_assoc, BitVec.xor_self, BitVec.xor_zero]
theorem shl1 (s : BitVec 32) : (s <<< 1).toNat = s.toNat * 2 % 4294967296 := by rw [BitVec.toNat_shiftLeft, Nat.shiftLeft_eq]
theorem u64_xor32 (a b : BitVec 32) : bits .xor .u64 (a.toNat : Int) (b.toNat : Int) = ((a ^^^ b).toNat : Int) := by
  have ha := a.isLt
  have hb := b.isLt
  have h := (a ^^^ b).isLt
  have e : (BitVec.ofInt IntKind.u64.bits (a.toNat : Int) ^^^ BitVec.ofInt IntKind.u64.bits (b.toNat : Int)).toNat = (a ^^^ b).toNat := by
    rw [BitVec.toNat_xor, BitVec.toNat_xor]
    show (BitVec.ofInt 64 (a.toNat : Int)).toNat ^^^ (BitVec.ofInt 64 (b.toNat : Int)).toNat = _
    rw [ofInt_u64 _ (by omega), ofInt_u64 _ (by omega)]
  simp only [bits, e]
  generalize (a ^^^ b).toNat = z at *
  simp only [IntKind.wrap, IntKind.bits, IntKind.signed]
  simp
  omega
theorem u32_xor (a b : BitVec 32) : bits .xor .u32 (a.toNat : Int) (b.toNat : Int) = ((a ^^^ b).toNat : Int) := by
  have h := (a ^^^ b).isLt
  have e : (BitVec.ofInt IntKind.u32.bits (a.toNat : Int) ^^^ BitVec.ofInt IntKind.u32.bits (b.toNat : Int)).toNat = (a ^^^ b).toNat := by
    show (BitVec.ofInt 32 (a.toNat : Int) ^^^ BitVec.ofInt 32 (b.toNat : Int)).toNat = _
    rw [BitVec.ofInt_natCast, BitVec.ofInt_natCast, BitVec.ofNat_toNat, BitVec.ofNat_toNat]
    simp
  simp only [bits, e]
  generalize (a ^^^ b).toNat = z at *
  simp only [IntKind.wrap, IntKind.bits, IntKind.signed]
  simp
  omega

theorem add_nil (s : BitVec 32) : add s [] = s := rfl
end Go.Proofs.Ytmnmonmbdgedbaa
