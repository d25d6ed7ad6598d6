/- Layer 18 (packet): Lace and the document's Lace, Long, walked. -/
import Derived.Test.YtmnmonmbdgedbaaLow
import Derived.Test.YtmnmonmbdgedbaaOcx
import Derived.Test.YtmnmonmbdgedbaaShelf
namespace Go.Proofs.Ytmnmonmbdgedbaa
open Go.RowKit
set_option linter.unusedVariables false
set_option linter.unusedSimpArgs false

/-- the laces of so many bytes -/
def laceL (n : Nat) : List UInt8 := List.replicate (n / 255) 255 ++ [UInt8.ofNat (n % 255)]
theorem laceL_length (n : Nat) : (laceL n).length = n / 255 + 1 := by simp [laceL]
theorem laceL_step (n : Nat) (h : 255 ≤ n) : laceL n = 255 :: laceL (n - 255) := by
  unfold laceL
  have e1 : n / 255 = (n - 255) / 255 + 1 := by omega
  have e2 : n % 255 = (n - 255) % 255 := by omega
  rw [e1, e2, List.replicate_succ]
  rfl
theorem laceL_last (n : Nat) (h : n < 255) : laceL n = [UInt8.ofNat n] := by
  unfold laceL
  rw [show n / 255 = 0 by omega, show n % 255 = n by omega]
  rfl
theorem rep_255 : ∀ q : Nat, Lib.repeatL [(255 : UInt8)] q = List.replicate q 255
  | 0 => rfl
  | q + 1 => by rw [Lib.repeatL, rep_255 q]; rfl
theorem rep_any (q : Nat) (w : World) (hq : q ≤ 100000000) : Calls Try.prog 81 #[.string ⟨#[255]⟩, .int .i64 (q : Nat)] w fun e w' => e = .returned (.string ⟨(List.replicate q (255 : UInt8)).toArray⟩) ∧ Below w.heap.size w w' := by
  have h := Try.strings_Repeat ⟨#[255]⟩ q w (by omega) (by show 1 * q ≤ _; omega)
  have e : Lib.repeatL (ByteArray.mk #[255]).data.toList q = List.replicate q 255 := rep_255 q
  rw [e] at h
  exact h
set_option maxRecDepth 100000 in
theorem lace_any (n : Int) (w : World) (hn : n ≤ 1073741824) (hn0 : -9223372036854775808 ≤ n) : Calls Try.prog 33 #[.int .i64 n] w fun e w' => e = .returned (.string ⟨(laceL n.toNat).toArray⟩) ∧ Below w.heap.size w w' := by
  obtain ⟨k, hk⟩ : ∃ k : Nat, (k : Int) = max n 0 := ⟨(max n 0).toNat, by omega⟩
  have hk2 : n.toNat = k := by omega
  rw [hk2]
  clear hk2
  have hkb : (k : Int) ≤ 1073741824 := by omega
  have e1 : ((k / 255 : Nat) : Int) = (k : Int) / 255 := by omega
  have e2 : ((k % 255 : Nat) : Int) = (k : Int) % 255 := by omega
  have RP := Lib.hid (fun w => rep_any (k / 255) w (by omega))
  have BG := Lib.hid (fun w => big_any (k % 255) 1 1 w (Lib.hid (by omega)) (Lib.hid (by decide)))
  rw [e1] at RP
  rw [e2] at BG
  clear e1 e2
  have hm : max n 0 = (k : Int) := hk.symm
  have hd : decide ((2147483647 : Int) ≤ (k : Int) / 255) = false := decide_eq_false (by omega)
  have hl1 : (List.replicate (k / 255) (255 : UInt8)).length ≤ 10000000 := by rw [List.length_replicate]; omega
  have hl2 : (bigL (k % 255) 1).length ≤ 1 := by rw [bigL_len]; exact Nat.le_refl _
  have HE : Hid (laceL k = List.replicate (k / 255) 255 ++ bigL (k % 255) 1) := Lib.hid (by unfold laceL; congr 1)
  generalize List.replicate (k / 255) (255 : UInt8) = A at *
  generalize bigL (k % 255) 1 = B at *
  have hcat : ¬ 9223372036854775807 < A.length + B.length := by omega
  clear hk
  go_enter Try.func33, Try.ntmps33
  go_upto_region 4 with (fail)
  go_wp2_with (first | (go_at_call 81; (with_reducible refine (RP.out _).mono ?_); rintro e w1 ⟨rfl, hb1⟩; have K1 := Lib.hid hb1; clear hb1) | (go_at_call 51; (with_reducible refine (BG.out _).mono ?_); rintro e w2 ⟨rfl, hb2⟩; have K2 := Lib.hid (nextB K1.out hb2); clear hb2))
  go_ret
  exact ⟨ret_str HE.out.symm, K2.out⟩
set_option maxRecDepth 100000 in
theorem rlace_any (n : Int) (w : World) (hn : n ≤ 1073741824) (hn0 : -9223372036854775808 ≤ n) : Calls Try.prog 34 #[.int .i64 n] w fun e w' => e = .returned (.string ⟨(laceL n.toNat).toArray⟩) ∧ Below w.heap.size w w' := by
  have HE := Lib.hid (show ∀ (a : List UInt8) (j : Nat), a ++ laceL (j + 255) = (a ++ [255]) ++ laceL j from fun a j => by rw [laceL_step (j + 255) (by omega)]; simp)
  obtain ⟨T, hT⟩ : ∃ T, T = laceL n.toNat := ⟨_, rfl⟩
  rw [← hT]
  have HT := Lib.hid hT
  clear hT
  go_enter Try.func34, Try.ntmps34
  go_wp2
  go_loop [0, 3] (fun i u => ∃ (m : Int) (a : List UInt8), m ≤ 1073741824 ∧ -9223372036854775808 ≤ m ∧ i = .int .i64 m ∧ u = .string ⟨a.toArray⟩ ∧ (a.length : Int) * 255 + m ≤ 1073741824 + 255 ∧ Hid (a ++ laceL m.toNat = T)) (fun i _ => (intOf i).toNat)
  case atStart => exact ⟨n, [], hn, hn0, rfl, rfl, by simp; omega, Lib.hid (by rw [HT.out]; rfl)⟩
  case round =>
    obtain ⟨m, a, hm1, hm0, rfl, rfl, hal, HA⟩ := hrel
    by_cases h : (255 : Int) ≤ m
    · have hcat : ¬ 9223372036854775807 < a.length + 1 := by omega
      go_wp2
      go_round
      case rel =>
        refine ⟨m - 255, a ++ [255], by omega, by omega, ?_, by simp, by simp; omega, Lib.hid ?_⟩
        · go_num
        · rw [← HA.out, show m.toNat = (m - 255).toNat + 255 by omega]
          exact (HE.out a _).symm
      case measure => simp [intOf]; omega
    · have hcat : ¬ 9223372036854775807 < a.length + 1 := by omega
      by_cases h0 : m < 0
      · have hz : m.toNat = 0 := by omega
        rw [hz] at HA
        go_wp2
        go_ret
        exact ⟨ret_str (by rw [← HA.out]; rfl), (Below.refl _ _).alloc (Nat.le_refl _) _⟩
      · obtain ⟨j, rfl⟩ : ∃ j : Nat, m = (j : Int) := ⟨m.toNat, by omega⟩
        have wj : IntKind.u8.wrap (j : Int) = (j : Int) := by simp [IntKind.wrap, IntKind.bits, IntKind.signed]; omega
        have hj : j < 255 := by omega
        go_wp2
        go_ret
        exact ⟨ret_str (by rw [← HA.out, Int.toNat_natCast, laceL_last j hj]), (Below.refl _ _).alloc (Nat.le_refl _) _⟩
end Go.Proofs.Ytmnmonmbdgedbaa
