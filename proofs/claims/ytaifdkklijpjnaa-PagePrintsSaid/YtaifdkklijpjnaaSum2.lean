/- The document's check sum of layer 16, walked. -/
import Derived.Test.YtaifdkklijpjnaaSum1
import Derived.Test.YtaifdkklijpjnaaOctLaw
namespace Go.Proofs.Ytaifdkklijpjnaa
open Go.RowKit

def gs (s : BitVec 32) (c : Nat) : Nat → BitVec 32
  | 0 => s
  | k + 1 => g1 (gs s c k) (c.testBit (7 - k))
theorem gs_eight (s : BitVec 32) (c : Nat) : gs s c 8 = g8 s c := rfl
theorem bit_mod (c k : Nat) : c / 2 ^ k % 2 = if c.testBit k then 1 else 0 := by
  rw [Nat.testBit_eq_decide_div_mod_eq]
  by_cases h : c / 2 ^ k % 2 = 1
  · simp [h]
  · have : c / 2 ^ k % 2 = 0 := by omega
    simp [this]
theorem msb_div (s : BitVec 32) : s.toNat / 2147483648 = if s.msb then 1 else 0 := by
  have := s.isLt
  rw [BitVec.msb_eq_decide]
  by_cases h : 2 ^ 31 ≤ s.toNat
  · simp [h]; omega
  · simp [h]; omega
theorem g1_top (s : BitVec 32) (c k : Nat) (h : (s.toNat / 2147483648 + c / 2 ^ k) % 2 = 1) : g1 s (c.testBit k) = (s <<< 1) ^^^ 79764919#32 := by
  have h1 := bit_mod c k
  have h2 := msb_div s
  rw [Nat.add_mod, h1, h2] at h
  unfold g1 st
  cases hm : s.msb <;> cases hb : c.testBit k <;> simp_all
theorem g1_low (s : BitVec 32) (c k : Nat) (h : (s.toNat / 2147483648 + c / 2 ^ k) % 2 ≠ 1) : g1 s (c.testBit k) = s <<< 1 := by
  have h1 := bit_mod c k
  have h2 := msb_div s
  rw [Nat.add_mod, h1, h2] at h
  unfold g1 st
  cases hm : s.msb <;> cases hb : c.testBit k <;> simp_all
  rw [BitVec.xor_assoc, BitVec.xor_self, BitVec.xor_zero]
theorem shl1 (s : BitVec 32) : (s <<< 1).toNat = s.toNat * 2 % 4294967296 := by rw [BitVec.toNat_shiftLeft, Nat.shiftLeft_eq]
theorem u64_xor32 (a b : BitVec 32) : bits .xor .u64 (a.toNat : Int) (b.toNat : Int) = ((a ^^^ b).toNat : Int) := by
  have ha := a.isLt
  have hb := b.isLt
  have h := (a ^^^ b).isLt
  have e : (BitVec.ofInt IntKind.u64.bits (a.toNat : Int) ^^^ BitVec.ofInt IntKind.u64.bits (b.toNat : Int)).toNat = (a ^^^ b).toNat := by
    rw [BitVec.toNat_xor, BitVec.toNat_xor]
    show (BitVec.ofInt 64 (a.toNat : Int)).toNat ^^^ (BitVec.ofInt 64 (b.toNat : Int)).toNat = _
    rw [ofInt_u64 _ (by omega), ofInt_u64 _ (by omega)]
  simp only [bits, e]
  generalize (a ^^^ b).toNat = z at *
  simp only [IntKind.wrap, IntKind.bits, IntKind.signed]
  simp
  omega
theorem u32_xor (a b : BitVec 32) : bits .xor .u32 (a.toNat : Int) (b.toNat : Int) = ((a ^^^ b).toNat : Int) := by
  have h := (a ^^^ b).isLt
  have e : (BitVec.ofInt IntKind.u32.bits (a.toNat : Int) ^^^ BitVec.ofInt IntKind.u32.bits (b.toNat : Int)).toNat = (a ^^^ b).toNat := by
    show (BitVec.ofInt 32 (a.toNat : Int) ^^^ BitVec.ofInt 32 (b.toNat : Int)).toNat = _
    rw [BitVec.ofInt_natCast, BitVec.ofInt_natCast, BitVec.ofNat_toNat, BitVec.ofNat_toNat]
    simp
  simp only [bits, e]
  generalize (a ^^^ b).toNat = z at *
  simp only [IntKind.wrap, IntKind.bits, IntKind.signed]
  simp
  omega

set_option maxHeartbeats 2000000 in
set_option maxRecDepth 100000 in
theorem step_any (s : BitVec 32) (c : UInt8) (w : World) :
    Calls Try.prog 65 #[.int .u64 s.toNat, .int .u8 c.toNat] w fun e w' => e = .returned (.int .u64 (add1 s c).toNat) ∧ w = w' := by
  rw [← g8_eq, ← gs_eight]
  have hc := UInt8.toNat_lt c
  generalize c.toNat = n at *
  go_enter Try.func65, Try.ntmps65
  go_wp2
  go_loopw [0, 5] (fun z i wr => ∃ (k : Nat), k ≤ 8 ∧ i = .int .i64 (7 - (k : Int)) ∧ z = .int .u64 (gs s n k).toNat ∧ wr = w) (fun _ i _ => (intOf i + 1).toNat)
  case atStart => exact ⟨0, by omega, rfl, rfl, rfl⟩
  case round =>
    obtain ⟨k, hk, rfl, rfl, rfl⟩ := hrel
    by_cases hlt : k < 8
    · have h0 : (0 : Int) ≤ 7 - (k : Int) := by omega
      generalize hw0 : wr = wr0
      go_wp2
      go_loopw [6, 7] (fun b j wr => ∃ (m : Nat), m ≤ 7 - k ∧ j = .int .i64 m ∧ b = .int .u64 ((n / 2 ^ m : Nat) : Int) ∧ wr = wr0) (fun _ j _ => (8 - intOf j).toNat)
      case atStart => exact ⟨0, by omega, rfl, by simp, rfl⟩
      case round =>
        obtain ⟨m, hm, rfl, rfl, rfl⟩ := hrel
        generalize hx : gs s n k = x at *
        have hq9 : n / 2 ^ m ≤ n := Nat.div_le_self _ _
        have hx9 := x.isLt
        have h2 : n / 2 ^ (m + 1) = n / 2 ^ m / 2 := by rw [Nat.pow_succ, Nat.div_div_eq_div_mul]
        generalize hq : n / 2 ^ m = q at *
        by_cases hml : m < 7 - k
        · have h1 : (m : Int) < 7 - (k : Int) := by omega
          go_wp2
          exact ⟨⟨m + 1, by omega, by simp, by rw [h2]; simp, trivial⟩, by simp [intOf]; omega⟩
        · have h1 : ¬ (m : Int) < 7 - (k : Int) := by omega
          have hm7 : m = 7 - k := by omega
          have hn1 : gs s n (k + 1) = g1 x (n.testBit m) := by rw [hm7, ← hx]; rfl
          rcases ht : (((x.toNat : Int) / 2147483648 + q) % 2 == 1) with _ | _
          · go_wp2
            refine ⟨⟨k + 1, by omega, by simp; omega, ?_, trivial⟩, by simp [intOf]; omega⟩
            rw [hn1, g1_low _ _ _ (by rw [hq]; simp at ht; omega), shl1]
            simp
          · go_wp2
            refine ⟨⟨k + 1, by omega, by simp; omega, ?_, trivial⟩, by simp [intOf]; omega⟩
            rw [hn1, g1_top _ _ _ (by rw [hq]; simp at ht; omega), ← u64_xor32, shl1]
            simp
    · have h0 : ¬ (0 : Int) ≤ 7 - (k : Int) := by omega
      go_wp2
      go_ret
      obtain rfl : k = 8 := by omega
      exact ⟨rfl, rfl⟩

theorem add_nil (s : BitVec 32) : add s [] = s := rfl
set_option maxHeartbeats 2000000 in
set_option maxRecDepth 100000 in
theorem refOf_any (s : BitVec 32) (l : List UInt8) (w : World) (hl : l.length ≤ 1000000000) :
    Calls Try.prog 49 #[.int .u64 s.toNat, .string ⟨l.toArray⟩] w fun e w' => e = .returned (.int .u64 (add s l).toNat) ∧ w = w' := by
  go_enter Try.func49, Try.ntmps49
  go_wp2
  go_loopw [0, 5] (fun z i wr => ∃ (k : Nat), k ≤ l.length ∧ i = .int .i64 k ∧ z = .int .u64 (add s (l.take k)).toNat ∧ wr = w) (fun _ i _ => l.length - (intOf i).toNat)
  case atStart => exact ⟨0, by omega, rfl, by rw [List.take_zero, add_nil], rfl⟩
  case round =>
    obtain ⟨k, hk, rfl, rfl, rfl⟩ := hrel
    by_cases hlt : k < l.length
    · have h0 : (k : Int) < l.length := by omega
      have hs : add s (l.take (k + 1)) = add1 (add s (l.take k)) l[k] := by rw [List.take_succ_eq_append_getElem hlt, add_snoc]
      go_wp2_with (go_at_call 65; refine (step_any _ _ _).mono ?_; rintro e w1 ⟨rfl, rfl⟩)
      exact ⟨⟨k + 1, by omega, by simp, by rw [hs], trivial⟩, by simp [intOf]; omega⟩
    · have h0 : ¬ (k : Int) < l.length := by omega
      go_wp2
      go_ret
      rw [List.take_of_length_le (by omega)]
      exact ⟨rfl, rfl⟩
end Go.Proofs.Ytaifdkklijpjnaa
