/- Layer 15 (tag): skip, walked. -/
import Derived.Test.YtmnmonmbdgedbaaTg5
namespace Go.Proofs.Ytmnmonmbdgedbaa
open Go.RowKit
set_option linter.unusedVariables false
set_option linter.unusedSimpArgs false

/-- what an extended tag tells of itself is passed by -/
def skM (v : Int) (fl : UInt8) (m : Rd) : Rd :=
  if tb fl 64 = false then m
  else if v = 3 then ((m.take ((4 : Nat) : Int)).1.take ((numL (m.take ((4 : Nat) : Int)).2 : Nat) : Int)).1
  else ((if m.safe.2 < 6 then m.safe.1.fail 1 (m.bs + m.nx) else m.safe.1).take (m.safe.2 - 4)).1
def TSkip (b : Nat) (m' : Rd) (w : World) (e : Ending) (w' : World) : Prop := e = .returned (.tuple #[]) ∧ RdAt w' b m' ∧ Only b w w'
set_option maxHeartbeats 2000000 in
set_option maxRecDepth 100000 in
theorem skip_no (v : Int) (rv fl : UInt8) (b : Nat) (m : Rd) (w : World) (h : RdAt w b m) (hf : (bits .and .u8 (fl.toNat : Int) 64 == 0) = true) :
    Calls Try.prog 59 #[.agg #[.int .i64 v, .int .u8 rv.toNat, .int .u8 fl.toNat], .pointer (some ⟨b, 0, none⟩)] w (TSkip b m w) := by
  have R := Lib.hid (h.alloc (.cells #[.int .i64 v, .int .u8 rv.toNat, .int .u8 fl.toNat] 23))
  clear h
  unfold TSkip
  go_enter Try.func59, Try.ntmps59
  go_wp2
  (try simp only [Exit.inBlock, Exit.then])
  refine bodyPost_ret (results_none rfl _ _ _) rfl ?_
  exact ⟨rfl, R.out, Only.of_below ((Below.refl _ _).alloc (Nat.le_refl _) _)⟩
set_option maxHeartbeats 2000000 in
set_option maxRecDepth 100000 in
theorem skip_3 (rv fl : UInt8) (b n : Nat) (m m1 m2 : Rd) (s : List UInt8) (w : World) (h : RdAt w b m) (hf : (bits .and .u8 (fl.toNat : Int) 64 == 0) = false) (hn : n < 4294967296)
    (T1 : Hid (∀ w, RdAt w b m → Calls Try.prog 93 #[.pointer (some ⟨b, 0, none⟩), .int .i64 4] w fun e w' => e = .returned (.int .u64 n) ∧ RdAt w' b m1 ∧ Only b w w'))
    (T2 : Hid (∀ w, RdAt w b m1 → Calls Try.prog 54 #[.pointer (some ⟨b, 0, none⟩), .int .i64 n] w fun e w' => e = .returned (.string ⟨s.toArray⟩) ∧ RdAt w' b m2 ∧ Only b w w')) :
    Calls Try.prog 59 #[.agg #[.int .i64 3, .int .u8 rv.toNat, .int .u8 fl.toNat], .pointer (some ⟨b, 0, none⟩)] w (TSkip b m2 w) := by
  have R := Lib.hid (h.alloc (.cells #[.int .i64 3, .int .u8 rv.toNat, .int .u8 fl.toNat] 23))
  have O : Hid (Only b w (w.alloc (.cells #[.int .i64 3, .int .u8 rv.toNat, .int .u8 fl.toNat] 23))) := Lib.hid (Only.of_below ((Below.refl _ _).alloc (Nat.le_refl _) _))
  have hn' : (n : Int) ≤ 4294967295 := by omega
  clear h hn
  unfold TSkip
  go_enter Try.func59, Try.ntmps59
  go_wp2_with (first | (go_at_call 93; (with_reducible refine (T1.out _ R.out).mono ?_); rintro e w1 ⟨rfl, r1, o1⟩; replace O := Lib.hid (O.out.trans o1); replace R := Lib.hid r1; clear r1 o1) | (go_at_call 54; (with_reducible refine (T2.out _ R.out).mono ?_); rintro e w2 ⟨rfl, r1, o1⟩; replace O := Lib.hid (O.out.trans o1); replace R := Lib.hid r1; clear r1 o1))
  (try simp only [Exit.inBlock, Exit.then])
  refine bodyPost_ret (results_none rfl _ _ _) rfl ?_
  exact ⟨rfl, R.out, O.out⟩
set_option maxHeartbeats 2000000 in
set_option maxRecDepth 100000 in
theorem skip_4 (v : Int) (rv fl : UInt8) (b : Nat) (m m1 m2 m3 : Rd) (n at0 : Int) (s : List UInt8) (w : World) (h : RdAt w b m) (hf : (bits .and .u8 (fl.toNat : Int) 64 == 0) = false) (h3 : (v == 3) = false) (hn0 : 0 ≤ n) (hn : n ≤ 8589934592)
    (AT : Hid (∀ w, RdAt w b m → Calls Try.prog 98 #[.pointer (some ⟨b, 0, none⟩)] w fun e w' => e = .returned (.int .i64 at0) ∧ w = w'))
    (T1 : Hid (∀ w, RdAt w b m → Calls Try.prog 55 #[.pointer (some ⟨b, 0, none⟩)] w fun e w' => e = .returned (.int .i64 n) ∧ RdAt w' b m1 ∧ Only b w w'))
    (FL : Hid (n < 6 → ∀ w, RdAt w b m1 → Calls Try.prog 94 #[.pointer (some ⟨b, 0, none⟩), .int .i64 1, .int .i64 at0] w fun e w' => e = .returned (.tuple #[]) ∧ RdAt w' b m2 ∧ Only b w w')) (HM : Hid (¬ n < 6 → m1 = m2))
    (T2 : Hid (∀ w, RdAt w b m2 → Calls Try.prog 54 #[.pointer (some ⟨b, 0, none⟩), .int .i64 (n - 4)] w fun e w' => e = .returned (.string ⟨s.toArray⟩) ∧ RdAt w' b m3 ∧ Only b w w')) :
    Calls Try.prog 59 #[.agg #[.int .i64 v, .int .u8 rv.toNat, .int .u8 fl.toNat], .pointer (some ⟨b, 0, none⟩)] w (TSkip b m3 w) := by
  have R := Lib.hid (h.alloc (.cells #[.int .i64 v, .int .u8 rv.toNat, .int .u8 fl.toNat] 23))
  have O : Hid (Only b w (w.alloc (.cells #[.int .i64 v, .int .u8 rv.toNat, .int .u8 fl.toNat] 23))) := Lib.hid (Only.of_below ((Below.refl _ _).alloc (Nat.le_refl _) _))
  clear h
  unfold TSkip
  by_cases h6 : n < 6
  · have FL2 := Lib.hid (FL.out h6)
    clear FL HM
    go_enter Try.func59, Try.ntmps59
    go_wp2_with (first | (go_at_call 98; (with_reducible refine (AT.out _ R.out).mono ?_); rintro e wx ⟨rfl, rfl⟩) | (go_at_call 55; (with_reducible refine (T1.out _ R.out).mono ?_); rintro e w1 ⟨rfl, r1, o1⟩; replace O := Lib.hid (O.out.trans o1); replace R := Lib.hid r1; clear r1 o1) | (go_at_call 94; (with_reducible refine (FL2.out _ R.out).mono ?_); rintro e w2 ⟨rfl, r1, o1⟩; replace O := Lib.hid (O.out.trans o1); replace R := Lib.hid r1; clear r1 o1) | (go_at_call 54; (with_reducible refine (T2.out _ R.out).mono ?_); rintro e w3 ⟨rfl, r1, o1⟩; replace O := Lib.hid (O.out.trans o1); replace R := Lib.hid r1; clear r1 o1))
    go_end0
    exact ⟨rfl, R.out, O.out⟩
  · have hm := HM.out h6
    subst hm
    clear FL HM
    go_enter Try.func59, Try.ntmps59
    go_wp2_with (first | (go_at_call 98; (with_reducible refine (AT.out _ R.out).mono ?_); rintro e wx ⟨rfl, rfl⟩) | (go_at_call 55; (with_reducible refine (T1.out _ R.out).mono ?_); rintro e w1 ⟨rfl, r1, o1⟩; replace O := Lib.hid (O.out.trans o1); replace R := Lib.hid r1; clear r1 o1) | (go_at_call 54; (with_reducible refine (T2.out _ R.out).mono ?_); rintro e w3 ⟨rfl, r1, o1⟩; replace O := Lib.hid (O.out.trans o1); replace R := Lib.hid r1; clear r1 o1))
    go_end0
    exact ⟨rfl, R.out, O.out⟩
theorem tb64 (fl : UInt8) : (bits .and .u8 (fl.toNat : Int) 64 == 0) = !tb fl 64 := by
  have h := and_bits fl 64 (by decide)
  rw [show ((64 : Nat) : Int) = 64 from rfl] at h
  rw [h]
  unfold tb
  rw [bne, Bool.not_not]
theorem skM_ok (v : Int) (fl : UInt8) {m : Rd} (h : m.Ok) : (skM v fl m).Ok := by
  unfold skM
  split
  · exact h
  · split
    · exact take_ok _ (take_ok _ h)
    · refine take_ok _ ?_
      split
      · exact (fr_safe_ok h).fail _ _
      · exact fr_safe_ok h
theorem skip_any (v : Int) (rv fl : UInt8) (b : Nat) (m : Rd) (w : World) (h : RdAt w b m) (hm : m.Ok) :
    Calls Try.prog 59 #[.agg #[.int .i64 v, .int .u8 rv.toNat, .int .u8 fl.toNat], .pointer (some ⟨b, 0, none⟩)] w (TSkip b (skM v fl m) w) := by
  have t := tb64 fl
  unfold skM
  by_cases h1 : tb fl 64 = false
  · rw [if_pos h1]
    rw [h1] at t
    exact skip_no v rv fl b m w h t
  · rw [if_neg h1]
    have h1' : tb fl 64 = true := by simpa using h1
    rw [h1'] at t
    by_cases h3 : v = 3
    · rw [if_pos h3]
      subst h3
      have l4 := take_len m ((4 : Nat) : Int)
      have hb := numL_bound (m.take ((4 : Nat) : Int)).2
      have hp : (256 : Nat) ^ (m.take ((4 : Nat) : Int)).2.length ≤ 256 ^ 4 := Nat.pow_le_pow_right (by decide) (by simpa using l4)
      exact skip_3 rv fl b _ m _ _ _ w h t (by omega) (Lib.hid fun w h => inbig_any b m 4 4 w h hm (Lib.hid (by decide))) (Lib.hid fun w h => take_any b _ _ w h (take_ok _ hm))
    · rw [if_neg h3]
      have hs0 := safe_nonneg m
      have hs1 := safe_top m
      have ok2 := fr_safe_ok hm
      refine skip_4 v rv fl b m _ (if m.safe.2 < 6 then m.safe.1.fail 1 (m.bs + m.nx) else m.safe.1) _ m.safe.2 (m.bs + m.nx) _ w h t (no_case h3) hs0 (by omega) (Lib.hid fun w h => at_any b m w h hm) (Lib.hid fun w h => insafe_any b m w h hm) (Lib.hid ?_) (Lib.hid ?_) (Lib.hid fun w h => take_any b _ _ w h ?_)
      · intro h6 w h
        rw [if_pos h6]
        exact fail_any b _ 1 _ w h
      · intro h6
        rw [if_neg h6]
      · split
        · exact ok2.fail _ _
        · exact ok2
end Go.Proofs.Ytmnmonmbdgedbaa
