/- The check sum of layer 16 as plain data: bits, no program in sight. -/
import Derived.Test.YtmnmonmbdgedbaaRd
namespace Go.Proofs.Ytmnmonmbdgedbaa
open Go.RowKit

/-- one bit's step -/
def st (s : BitVec 32) : BitVec 32 := if s.msb then (s <<< 1) ^^^ 79764919#32 else s <<< 1
theorem st_xor (a b : BitVec 32) : st (a ^^^ b) = st a ^^^ st b := by
  unfold st
  rw [BitVec.msb_xor, BitVec.shiftLeft_xor_distrib]
  generalize a <<< 1 = x
  generalize b <<< 1 = y
  generalize 79764919#32 = p
  cases a.msb <;> cases b.msb <;> simp
  all_goals (ext i hi; simp only [BitVec.getElem_xor]; generalize x[i] = u; generalize y[i] = v; generalize p[i] = q; revert u v q; decide)
def st4 (s : BitVec 32) : BitVec 32 := st (st (st (st s)))
def st8 (s : BitVec 32) : BitVec 32 := st4 (st4 s)
theorem st4_xor (a b : BitVec 32) : st4 (a ^^^ b) = st4 a ^^^ st4 b := by simp [st4, st_xor]
theorem st8_xor (a b : BitVec 32) : st8 (a ^^^ b) = st8 a ^^^ st8 b := by simp [st8, st4_xor]
theorem st_low (s : BitVec 32) (h : s.toNat < 2147483648) : (st s).toNat = 2 * s.toNat := by
  have : s.msb = false := by rw [BitVec.msb_eq_decide]; simp; omega
  simp [st, this, BitVec.toNat_shiftLeft, Nat.shiftLeft_eq]
  omega
theorem st4_low (s : BitVec 32) (h : s.toNat < 268435456) : (st4 s).toNat = 16 * s.toNat := by
  have h1 := st_low s (by omega)
  have h2 := st_low (st s) (by omega)
  have h3 := st_low (st (st s)) (by omega)
  have h4 := st_low (st (st (st s))) (by omega)
  unfold st4; omega
theorem st8_low (s : BitVec 32) (h : s.toNat < 16777216) : (st8 s).toNat = 256 * s.toNat := by
  have h1 := st4_low s (by omega)
  have h2 := st4_low (st4 s) (by omega)
  unfold st8; omega
/-- what four bits come to -/
def tab (i : Nat) : BitVec 32 := st4 (BitVec.ofNat 32 i <<< 28)
theorem st4_split (s : BitVec 32) : st4 s = (s <<< 4) ^^^ tab (s.toNat / 268435456) := by
  have hs := s.isLt
  have e : s = BitVec.ofNat 32 (s.toNat % 268435456) ^^^ (BitVec.ofNat 32 (s.toNat / 268435456) <<< 28) := by
    apply BitVec.eq_of_toNat_eq
    rw [BitVec.toNat_xor, BitVec.toNat_shiftLeft, BitVec.toNat_ofNat, BitVec.toNat_ofNat]
    have a1 : s.toNat / 268435456 % 2 ^ 32 = s.toNat / 268435456 := by omega
    have a2 : s.toNat % 268435456 % 2 ^ 32 = s.toNat % 268435456 := by omega
    have a3 : (s.toNat / 268435456) <<< 28 % 2 ^ 32 = 2 ^ 28 * (s.toNat / 268435456) := by rw [Nat.shiftLeft_eq]; omega
    rw [a1, a2, a3]
    have a4 : s.toNat % 268435456 ^^^ 2 ^ 28 * (s.toNat / 268435456) = s.toNat % 268435456 ||| 2 ^ 28 * (s.toNat / 268435456) := by
      apply Nat.eq_of_testBit_eq
      intro i
      rw [Nat.testBit_xor, Nat.testBit_or]
      by_cases hi : i < 28
      · have : (2 ^ 28 * (s.toNat / 268435456)).testBit i = false := by rw [Nat.testBit_two_pow_mul]; simp; omega
        rw [this]; simp
      · have : (s.toNat % 268435456).testBit i = false := Nat.testBit_lt_two_pow (Nat.lt_of_lt_of_le (show s.toNat % 268435456 < 2 ^ 28 by omega) (Nat.pow_le_pow_right (by decide) (show 28 ≤ i by omega)))
        rw [this]; simp
    rw [a4, Nat.or_comm, ← Nat.two_pow_add_eq_or_of_lt (show s.toNat % 268435456 < 2 ^ 28 by omega)]
    omega
  have e1 : s <<< 4 = st4 (BitVec.ofNat 32 (s.toNat % 268435456)) := by
    apply BitVec.eq_of_toNat_eq
    have : (BitVec.ofNat 32 (s.toNat % 268435456)).toNat = s.toNat % 268435456 := by rw [BitVec.toNat_ofNat]; omega
    rw [st4_low _ (by rw [this]; omega), this, BitVec.toNat_shiftLeft, Nat.shiftLeft_eq]
    omega
  rw [e1]
  unfold tab
  rw [← st4_xor, ← e]

/-- a sum with one byte more -/
def add1 (s : BitVec 32) (c : UInt8) : BitVec 32 := st8 (s ^^^ (BitVec.ofNat 32 c.toNat <<< 24))
def add (s : BitVec 32) (l : List UInt8) : BitVec 32 := l.foldl add1 s
def adds (s : BitVec 32) (ps : List (List UInt8)) : BitVec 32 := ps.foldl add s
theorem add_append (s : BitVec 32) (a b : List UInt8) : add s (a ++ b) = add (add s a) b := List.foldl_append
theorem adds_snoc (s : BitVec 32) (a : List (List UInt8)) (b : List UInt8) : adds s (a ++ [b]) = add (adds s a) b := by simp [adds]
theorem add_snoc (s : BitVec 32) (a : List UInt8) (c : UInt8) : add s (a ++ [c]) = add1 (add s a) c := by simp [add]
theorem add_flatten (s : BitVec 32) (ps : List (List UInt8)) : add s ps.flatten = adds s ps := by
  induction ps generalizing s with
  | nil => rfl
  | cons p ps ih => rw [List.flatten_cons, add_append, ih]; rfl

/-- the document's step -/
def g1 (s : BitVec 32) (b : Bool) : BitVec 32 := st s ^^^ (if b then 79764919#32 else 0)
theorem g1_xor (a b : BitVec 32) (x : Bool) : g1 (a ^^^ b) x = st a ^^^ g1 b x := by simp [g1, st_xor, BitVec.xor_assoc]
def g8 (s : BitVec 32) (c : Nat) : BitVec 32 := g1 (g1 (g1 (g1 (g1 (g1 (g1 (g1 s (c.testBit 7)) (c.testBit 6)) (c.testBit 5)) (c.testBit 4)) (c.testBit 3)) (c.testBit 2)) (c.testBit 1)) (c.testBit 0)
theorem g8_zero : ∀ c : Fin 256, g8 0 c.val = st8 (BitVec.ofNat 32 c.val <<< 24) := by decide +kernel
theorem g8_eq (s : BitVec 32) (c : UInt8) : g8 s c.toNat = add1 s c := by
  have h := g8_zero ⟨c.toNat, UInt8.toNat_lt c⟩
  have : g8 s c.toNat = st8 s ^^^ g8 0 c.toNat := by
    have e : s = s ^^^ 0 := by simp
    rw [e]
    unfold g8
    simp only [g1_xor]
    simp [st8, st4]
  rw [this, add1, st8_xor]
  simp only at h
  rw [h]

theorem st_zero (s : BitVec 32) (h : st s = 0) : s = 0 := by
  apply BitVec.eq_of_toNat_eq
  have h2 := congrArg BitVec.toNat h
  have hs := s.isLt
  unfold st at h2
  by_cases hm : s.msb = true
  · exfalso
    have h3 := congrArg (fun x : BitVec 32 => x.getLsbD 0) h
    simp [st, hm] at h3
  · have hm' : s.msb = false := by simpa using hm
    rw [hm'] at h2
    rw [BitVec.msb_eq_decide] at hm'
    simp [BitVec.toNat_shiftLeft, Nat.shiftLeft_eq] at h2 hm'
    simp
    omega
theorem xor_zero_eq (a b : BitVec 32) (h : a ^^^ b = 0) : a = b := by
  have : a ^^^ b ^^^ b = b := by rw [h]; simp
  rwa [BitVec.xor_assoc, BitVec.xor_self, BitVec.xor_zero] at this
theorem st_inj (a b : BitVec 32) (h : st a = st b) : a = b := by
  apply xor_zero_eq
  apply st_zero
  rw [st_xor, h, BitVec.xor_self]; rfl
theorem st8_inj (a b : BitVec 32) (h : st8 a = st8 b) : a = b := by
  unfold st8 st4 at h
  exact st_inj _ _ (st_inj _ _ (st_inj _ _ (st_inj _ _ (st_inj _ _ (st_inj _ _ (st_inj _ _ (st_inj _ _ h)))))))
theorem xor_right (a b c : BitVec 32) (h : a ^^^ c = b ^^^ c) : a = b := by
  have := congrArg (· ^^^ c) h
  simpa [BitVec.xor_assoc] using this
theorem add1_inj (a b : BitVec 32) (c : UInt8) (h : add1 a c = add1 b c) : a = b := xor_right _ _ _ (st8_inj _ _ h)
theorem add_inj (a b : BitVec 32) (l : List UInt8) (h : add a l = add b l) : a = b := by
  induction l generalizing a b with
  | nil => exact h
  | cons c l ih => exact add1_inj _ _ c (ih _ _ h)
theorem add1_byte (a : BitVec 32) (c d : UInt8) (h : add1 a c = add1 a d) : c = d := by
  have h1 := st8_inj _ _ h
  rw [BitVec.xor_comm a, BitVec.xor_comm a] at h1
  have h2 := congrArg BitVec.toNat (xor_right _ _ _ h1)
  have hc := UInt8.toNat_lt c
  have hd := UInt8.toNat_lt d
  simp [BitVec.toNat_shiftLeft, Nat.shiftLeft_eq] at h2
  rw [u8_eq]
  omega
/-- one byte is another one: another sum -/
theorem add_set (s : BitVec 32) (l : List UInt8) (i : Nat) (h : i < l.length) (c : UInt8) (hc : c ≠ l[i]) : add s (l.set i c) ≠ add s l := by
  intro e
  have e1 : l.set i c = l.take i ++ c :: l.drop (i + 1) := List.set_eq_take_append_cons_drop .. |>.trans (by rw [if_pos h])
  have e2 : l = l.take i ++ l[i] :: l.drop (i + 1) := by rw [← List.drop_eq_getElem_cons h, List.take_append_drop]
  rw [e1, add_append] at e
  have e3 : add s l = add (add s (l.take i)) (l[i] :: l.drop (i + 1)) := by rw [← add_append, ← e2]
  rw [e3] at e
  exact hc (add1_byte _ _ _ (add_inj _ _ _ e))
set_option maxRecDepth 100000 in
theorem add1_top (s : BitVec 32) : add1 s (UInt8.ofNat (s.toNat / 16777216)) = s <<< 8 := by
  have hs := s.isLt
  have hc : (UInt8.ofNat (s.toNat / 16777216)).toNat = s.toNat / 16777216 := by rw [UInt8.toNat_ofNat']; omega
  have e : s ^^^ (BitVec.ofNat 32 (UInt8.ofNat (s.toNat / 16777216)).toNat <<< 24) = BitVec.ofNat 32 (s.toNat % 16777216) := by
    rw [hc]
    apply BitVec.eq_of_toNat_eq
    rw [BitVec.toNat_xor, BitVec.toNat_shiftLeft, BitVec.toNat_ofNat, BitVec.toNat_ofNat]
    have a1 : s.toNat / 16777216 % 2 ^ 32 = s.toNat / 16777216 := by omega
    have a2 : s.toNat % 16777216 % 2 ^ 32 = s.toNat % 16777216 := by omega
    have a3 : (s.toNat / 16777216) <<< 24 % 2 ^ 32 = 2 ^ 24 * (s.toNat / 16777216) := by rw [Nat.shiftLeft_eq]; omega
    rw [a1, a2, a3]
    apply Nat.eq_of_testBit_eq
    intro i
    rw [Nat.testBit_xor, Nat.testBit_two_pow_mul, show (16777216 : Nat) = 2 ^ 24 from rfl, Nat.testBit_mod_two_pow, Nat.testBit_div_two_pow]
    by_cases hi : i < 24
    · have : ¬ (24 ≤ i) := by omega
      simp [hi, this]
    · have h2 : 24 ≤ i := by omega
      simp [hi, h2]
  unfold add1
  rw [e]
  apply BitVec.eq_of_toNat_eq
  have hm : (BitVec.ofNat 32 (s.toNat % 16777216)).toNat = s.toNat % 16777216 := by rw [BitVec.toNat_ofNat]; omega
  rw [st8_low _ (by rw [hm]; omega), hm, BitVec.toNat_shiftLeft, Nat.shiftLeft_eq]
  omega
set_option maxRecDepth 100000 in
/-- a sum's own four bytes, the highest first, behind it -/
theorem add_self (s : BitVec 32) : add s [UInt8.ofNat (s.toNat / 16777216), UInt8.ofNat (s.toNat / 65536 % 256), UInt8.ofNat (s.toNat / 256 % 256), UInt8.ofNat (s.toNat % 256)] = 0 := by
  have hs := s.isLt
  have n1 : (s <<< 8).toNat = s.toNat % 16777216 * 256 := by rw [BitVec.toNat_shiftLeft, Nat.shiftLeft_eq]; omega
  have n2 : (s <<< 8 <<< 8).toNat = s.toNat % 65536 * 65536 := by rw [BitVec.toNat_shiftLeft, Nat.shiftLeft_eq, n1]; omega
  have n3 : (s <<< 8 <<< 8 <<< 8).toNat = s.toNat % 256 * 16777216 := by rw [BitVec.toNat_shiftLeft, Nat.shiftLeft_eq, n2]; omega
  have n4 : (s <<< 8 <<< 8 <<< 8 <<< 8).toNat = 0 := by rw [BitVec.toNat_shiftLeft, Nat.shiftLeft_eq, n3]; omega
  have t1 := add1_top s
  have t2 := add1_top (s <<< 8)
  have t3 := add1_top (s <<< 8 <<< 8)
  have t4 := add1_top (s <<< 8 <<< 8 <<< 8)
  rw [n1] at t2
  rw [n2] at t3
  rw [n3] at t4
  have m2 : s.toNat % 16777216 * 256 / 16777216 = s.toNat / 65536 % 256 := by omega
  have m3 : s.toNat % 65536 * 65536 / 16777216 = s.toNat / 256 % 256 := by omega
  have m4 : s.toNat % 256 * 16777216 / 16777216 = s.toNat % 256 := Nat.mul_div_cancel _ (by decide)
  rw [m2] at t2
  rw [m3] at t3
  rw [m4] at t4
  simp only [add, List.foldl_cons, List.foldl_nil, t1, t2, t3, t4]
  exact BitVec.eq_of_toNat_eq (by rw [n4]; rfl)

/-- the sum as the program's number -/
def sv (s : BitVec 32) : Value := .int .u32 (s.toNat : Int)
theorem bv_ofInt (n : Nat) : BitVec.ofInt 32 (n : Int) = BitVec.ofNat 32 n := BitVec.ofInt_natCast ..
end Go.Proofs.Ytmnmonmbdgedbaa
