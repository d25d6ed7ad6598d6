/- Layer 13 (frame): the walk of the statement FrameCuts. | Layer 13 (frame): the walk of the statement FrameSizes. -/
import Derived.Test.YtmnmonmbdgedbaaFrQ
import Derived.Deep.QuietTactic
import Derived.BigQuiet

namespace Go.Proofs.Ytmnmonmbdgedbaa
open Go.RowKit
set_option linter.unusedVariables false
set_option linter.unusedSimpArgs false

theorem wf_u16 {k : Int} (h : (Lit.int .u16 k).wf = true) : ∃ c : Nat, k = c ∧ c < 65536 := by
  have h2 : 0 ≤ k ∧ k < 65536 := by
    simp [Lit.wf, IntKind.bits, IntKind.signed, IntKind.min, IntKind.max] at h
    omega
  exact ⟨k.toNat, by omega, by omega⟩
theorem frParse_none (v : Int) (sp : Bool) (m : Rd) (h : m.left = 0) : frParse v sp m = (m, zeroF, false) := by
  unfold frParse
  rw [if_pos (.inr (.inr (.inl h)))]
end Go.Proofs.Ytmnmonmbdgedbaa

namespace Go.Proofs.Ytmnmonmbdgedbaa
open Go.RowKit
set_option linter.unusedVariables false
set_option linter.unusedSimpArgs false

theorem fr_belowN {B : Nat} {w w' : World} (h : Below B w w') (n : Nat) : Below B w (w'.drewN n) := ⟨h.os, h.tape, h.output, h.size, h.block⟩
theorem or3 (a b c : UInt8) : bits BinOp.or IntKind.i64 (bits BinOp.or IntKind.i64 ((a.toNat : Int) * 65536) ((b.toNat : Int) * 256)) (c.toNat : Int) = (((a.toNat * 256 + b.toNat) * 256 + c.toNat : Nat) : Int) := by
  have ha := UInt8.toNat_lt a
  have hb := UInt8.toNat_lt b
  have hc := UInt8.toNat_lt c
  have h1 := i64_or_nat (a.toNat * 65536) (b.toNat * 256) (by omega) (by omega)
  rw [nat_join 16 (a.toNat * 65536) (b.toNat * 256) (by omega) (by omega)] at h1
  have h2 := i64_or_nat (a.toNat * 65536 + b.toNat * 256) c.toNat (by omega) (by omega)
  rw [nat_join 8 (a.toNat * 65536 + b.toNat * 256) c.toNat (by omega) (by omega)] at h2
  rw [show ((a.toNat : Int) * 65536) = ((a.toNat * 65536 : Nat) : Int) by simp, show ((b.toNat : Int) * 256) = ((b.toNat * 256 : Nat) : Int) by simp, h1, h2]
  omega
theorem or4 (a b c d : UInt8) : bits BinOp.or IntKind.i64 (bits BinOp.or IntKind.i64 (bits BinOp.or IntKind.i64 ((a.toNat : Int) * 16777216) ((b.toNat : Int) * 65536)) ((c.toNat : Int) * 256)) (d.toNat : Int) = ((((a.toNat * 256 + b.toNat) * 256 + c.toNat) * 256 + d.toNat : Nat) : Int) := by
  have ha := UInt8.toNat_lt a
  have hb := UInt8.toNat_lt b
  have hc := UInt8.toNat_lt c
  have hd := UInt8.toNat_lt d
  have h1 := i64_or_nat (a.toNat * 16777216) (b.toNat * 65536) (by omega) (by omega)
  rw [nat_join 24 (a.toNat * 16777216) (b.toNat * 65536) (by omega) (by omega)] at h1
  have h2 := i64_or_nat (a.toNat * 16777216 + b.toNat * 65536) (c.toNat * 256) (by omega) (by omega)
  rw [nat_join 16 (a.toNat * 16777216 + b.toNat * 65536) (c.toNat * 256) (by omega) (by omega)] at h2
  have h3 := i64_or_nat (a.toNat * 16777216 + b.toNat * 65536 + c.toNat * 256) d.toNat (by omega) (by omega)
  rw [nat_join 8 (a.toNat * 16777216 + b.toNat * 65536 + c.toNat * 256) d.toNat (by omega) (by omega)] at h3
  rw [show ((a.toNat : Int) * 16777216) = ((a.toNat * 16777216 : Nat) : Int) by simp, show ((b.toNat : Int) * 65536) = ((b.toNat * 65536 : Nat) : Int) by simp, show ((c.toNat : Int) * 256) = ((c.toNat * 256 : Nat) : Int) by simp, h1, h2, h3]
  omega
theorem or7 (a b c d : UInt8) (ha : a.toNat < 128) (hb : b.toNat < 128) (hc : c.toNat < 128) (hd : d.toNat < 128) : bits BinOp.or IntKind.i64 (bits BinOp.or IntKind.i64 (bits BinOp.or IntKind.i64 ((a.toNat : Int) * 2097152) ((b.toNat : Int) * 16384)) ((c.toNat : Int) * 128)) (d.toNat : Int) = ((((a.toNat * 128 + b.toNat) * 128 + c.toNat) * 128 + d.toNat : Nat) : Int) := by
  have h1 := i64_or_nat (a.toNat * 2097152) (b.toNat * 16384) (by omega) (by omega)
  rw [nat_join 21 (a.toNat * 2097152) (b.toNat * 16384) (by omega) (by omega)] at h1
  have h2 := i64_or_nat (a.toNat * 2097152 + b.toNat * 16384) (c.toNat * 128) (by omega) (by omega)
  rw [nat_join 14 (a.toNat * 2097152 + b.toNat * 16384) (c.toNat * 128) (by omega) (by omega)] at h2
  have h3 := i64_or_nat (a.toNat * 2097152 + b.toNat * 16384 + c.toNat * 128) d.toNat (by omega) (by omega)
  rw [nat_join 7 (a.toNat * 2097152 + b.toNat * 16384 + c.toNat * 128) d.toNat (by omega) (by omega)] at h3
  rw [show ((a.toNat : Int) * 2097152) = ((a.toNat * 2097152 : Nat) : Int) by simp, show ((b.toNat : Int) * 16384) = ((b.toNat * 16384 : Nat) : Int) by simp, show ((c.toNat : Int) * 128) = ((c.toNat * 128 : Nat) : Int) by simp, h1, h2, h3]
  omega
theorem orB (a b : UInt8) : bits .or .u8 (a.toNat : Int) (b.toNat : Int) = ((a ||| b).toNat : Int) := by
  have ha := UInt8.toNat_lt a
  have hb := UInt8.toNat_lt b
  have h := UInt8.toNat_lt (a ||| b)
  have e : (BitVec.ofInt IntKind.u8.bits (a.toNat : Int) ||| BitVec.ofInt IntKind.u8.bits (b.toNat : Int)).toNat = (a ||| b).toNat := by
    rw [BitVec.toNat_or, UInt8.toNat_or]
    show (BitVec.ofInt 8 (a.toNat : Int)).toNat ||| (BitVec.ofInt 8 (b.toNat : Int)).toNat = _
    rw [BitVec.ofInt_natCast, BitVec.ofInt_natCast, BitVec.toNat_ofNat, BitVec.toNat_ofNat, Nat.mod_eq_of_lt ha, Nat.mod_eq_of_lt hb]
  simp only [bits, e]
  generalize (a ||| b).toNat = z at *
  simp only [IntKind.wrap, IntKind.bits, IntKind.signed]
  simp
  omega
theorem or_low (a b : UInt8) (ha : a.toNat < 128) (hb : b.toNat < 128) : (a ||| b).toNat < 128 := by
  rw [UInt8.toNat_or]
  exact Nat.or_lt_two_pow (n := 7) ha hb

theorem put_sound (pre l : List UInt8) (s : List UInt8) (hs : s = pre ++ sndPut l) (j : Nat) (hj : pre.length ≤ j) (h : j + 1 < s.length) (h255 : s[j].toNat = 255) : s[j + 1].toNat < 224 := by
  subst hs
  have e1 : (pre ++ sndPut l)[j]? = some ((pre ++ sndPut l)[j]) := List.getElem?_eq_getElem (by omega)
  have e2 : (pre ++ sndPut l)[j + 1]? = some ((pre ++ sndPut l)[j + 1]) := List.getElem?_eq_getElem h
  have c255 : (pre ++ sndPut l)[j] = 255 := by rw [u8_eq]; exact h255
  rw [c255, List.getElem?_append_right hj] at e1
  rw [List.getElem?_append_right (by omega), show j + 1 - pre.length = j - pre.length + 1 by omega] at e2
  obtain ⟨d, hd, hlt⟩ := put_at l _ e1
  rw [hd] at e2
  simp only [Option.some.injEq] at e2
  rw [← e2]
  exact hlt
end Go.Proofs.Ytmnmonmbdgedbaa
