/- Layer 15 (tag): a tag's head: its flags. -/
import Derived.Test.YtmnmonmbdgedbaaFrQ
namespace Go.Proofs.Ytmnmonmbdgedbaa
open Go.RowKit
set_option linter.unusedVariables false
set_option linter.unusedSimpArgs false

/-- a tag's head -/
structure Hd where
  v : Int
  rv : UInt8
  fl : UInt8
/-- a tag -/
structure Tg where
  v : Int
  rv : UInt8
  fl : UInt8
  fs : List Fr
def footB (v : Int) (fl : UInt8) : Bool := if v = 4 then tb fl 16 else false
def wholeB (v : Int) (fl : UInt8) : Bool := if v = 4 then false else tb fl 128
def allowN (v : Int) : Nat := if v = 2 then 192 else if v = 3 then 224 else if v = 4 then 240 else 0
set_option maxRecDepth 100000 in
theorem tspread_any (v : Int) (rv fl : UInt8) (w : World) : Calls Try.prog 23 #[.agg #[.int .i64 v, .int .u8 rv.toNat, .int .u8 fl.toNat]] w fun e w' => e = .returned (.bool (tb fl 128)) ∧ Below w.heap.size w w' := by
  go_enter Try.func23, Try.ntmps23
  go_wp2
  go_ret
  exact ⟨tb_ret fl 128 (by decide), (Below.refl _ _).alloc (Nat.le_refl _) _⟩
set_option maxRecDepth 100000 in
theorem foot_any (v : Int) (rv fl : UInt8) (w : World) : Calls Try.prog 22 #[.agg #[.int .i64 v, .int .u8 rv.toNat, .int .u8 fl.toNat]] w fun e w' => e = .returned (.bool (footB v fl)) ∧ Below w.heap.size w w' := by
  unfold footB
  by_cases h4 : v = 4
  · subst h4
    rw [if_pos rfl]
    go_enter Try.func22, Try.ntmps22
    go_wp2
    go_ret
    exact ⟨tb_ret fl 16 (by decide), (Below.refl _ _).alloc (Nat.le_refl _) _⟩
  · rw [if_neg h4]
    have t4 := no_case h4
    clear h4
    go_enter Try.func22, Try.ntmps22
    go_wp2
    go_ret
    exact ⟨rfl, (Below.refl _ _).alloc (Nat.le_refl _) _⟩
set_option maxRecDepth 100000 in
theorem whole_any (v : Int) (rv fl : UInt8) (w : World) : Calls Try.prog 57 #[.agg #[.int .i64 v, .int .u8 rv.toNat, .int .u8 fl.toNat]] w fun e w' => e = .returned (.bool (wholeB v fl)) ∧ Below w.heap.size w w' := by
  have SP := Lib.hid (fun w => tspread_any v rv fl w)
  unfold wholeB
  by_cases h4 : v = 4
  · subst h4
    rw [if_pos rfl]
    go_enter Try.func57, Try.ntmps57
    go_wp2
    go_ret
    exact ⟨rfl, (Below.refl _ _).alloc (Nat.le_refl _) _⟩
  · rw [if_neg h4]
    have t4 : (v != 4) = true := by simpa using h4
    clear h4
    go_enter Try.func57, Try.ntmps57
    go_wp2_with (go_at_call 23; (with_reducible refine (SP.out _).mono ?_); rintro e w1 ⟨rfl, hb1⟩)
    go_ret
    exact ⟨rfl, below_a1 hb1⟩
set_option maxRecDepth 100000 in
theorem allow_any (v : Int) (w : World) : Calls Try.prog 74 #[.int .i64 v] w fun e w' => e = .returned (.int .u8 (allowN v)) ∧ w = w' := by
  unfold allowN
  by_cases h2 : v = 2
  · subst h2
    rw [if_pos rfl]
    go_enter Try.func74, Try.ntmps74
    go_wp2
    go_ret
    exact ⟨rfl, rfl⟩
  · rw [if_neg h2]
    have t2 := no_case h2
    by_cases h3 : v = 3
    · subst h3
      rw [if_pos rfl]
      clear h2
      go_enter Try.func74, Try.ntmps74
      go_wp2
      go_ret
      exact ⟨rfl, rfl⟩
    · rw [if_neg h3]
      have t3 := no_case h3
      by_cases h4 : v = 4
      · subst h4
        rw [if_pos rfl]
        clear h2 h3
        go_enter Try.func74, Try.ntmps74
        go_wp2
        go_ret
        exact ⟨rfl, rfl⟩
      · rw [if_neg h4]
        have t4 := no_case h4
        clear h2 h3 h4
        go_enter Try.func74, Try.ntmps74
        go_wp2
        go_ret
        exact ⟨rfl, rfl⟩
/-- has a number a bit that isn't among some? -/
def anB (c : UInt8) (k : Nat) : Bool := (((c.toNat &&& (255 - k) : Nat) : Int) != 0)
theorem an_bits (c : UInt8) (k : Nat) (hk : k < 256) : bits .andNot .u8 (c.toNat : Int) (k : Int) = ((c.toNat &&& (255 - k) : Nat) : Int) := by
  have hc := UInt8.toNat_lt c
  have hle : c.toNat &&& (255 - k) ≤ 255 - k := Nat.and_le_right
  have e : (BitVec.ofInt IntKind.u8.bits (c.toNat : Int) &&& ~~~ (BitVec.ofInt IntKind.u8.bits (k : Int))).toNat = c.toNat &&& (255 - k) := by
    rw [BitVec.toNat_and, BitVec.toNat_not]
    show (BitVec.ofInt 8 (c.toNat : Int)).toNat &&& (2 ^ 8 - 1 - (BitVec.ofInt 8 (k : Int)).toNat) = _
    rw [BitVec.ofInt_natCast, BitVec.ofInt_natCast, BitVec.toNat_ofNat, BitVec.toNat_ofNat, Nat.mod_eq_of_lt hc, Nat.mod_eq_of_lt hk]
  simp only [bits, e]
  generalize c.toNat &&& (255 - k) = z at *
  simp only [IntKind.wrap, IntKind.bits, IntKind.signed]
  simp
  omega
theorem allowN_lt (v : Int) : allowN v < 256 := by unfold allowN; split; decide; split; decide; split <;> decide
end Go.Proofs.Ytmnmonmbdgedbaa
