/- Layer 13 (frame): the walk of the statement FrameFlags. -/
import Derived.Test.YtdoheningeafhaaFr16
namespace Go.Proofs.Ytdoheningeafhaa
open Go.RowKit
set_option linter.unusedVariables false
set_option linter.unusedSimpArgs false

theorem wf_u8 {n : Int} (h : (Lit.int .u8 n).wf = true) : ∃ c : UInt8, n = c.toNat := by
  have h2 : 0 ≤ n ∧ n < 256 := by
    simp [Lit.wf, IntKind.bits, IntKind.signed, IntKind.min, IntKind.max] at h
    omega
  exact ⟨UInt8.ofNat n.toNat, by rw [UInt8.toNat_ofNat']; omega⟩
set_option maxHeartbeats 4000000 in
set_option maxRecDepth 100000 in
theorem fflags_in (v : Int) (fm : UInt8) (id : List UInt8) (b1 b2 b3 b4 b5 : Bool) (n : Nat) (w : World) (hl : ¬ (100 : Int) < id.length)
    (LK : Hid (∀ w, Calls Try.prog 27 #[.agg #[.string ⟨id.toArray⟩, .int .u8 0, .int .u8 fm.toNat], .int .i64 v] w fun e w' => e = .returned (.bool b1) ∧ Below w.heap.size w w'))
    (GR : Hid (∀ w, Calls Try.prog 29 #[.agg #[.string ⟨id.toArray⟩, .int .u8 0, .int .u8 fm.toNat], .int .i64 v] w fun e w' => e = .returned (.bool b2) ∧ Below w.heap.size w w'))
    (ME : Hid (∀ w, Calls Try.prog 31 #[.agg #[.string ⟨id.toArray⟩, .int .u8 0, .int .u8 fm.toNat], .int .i64 v] w fun e w' => e = .returned (.bool b3) ∧ Below w.heap.size w w'))
    (SP : Hid (∀ w, Calls Try.prog 33 #[.agg #[.string ⟨id.toArray⟩, .int .u8 0, .int .u8 fm.toNat], .int .i64 v] w fun e w' => e = .returned (.bool b4) ∧ Below w.heap.size w w'))
    (LT : Hid (∀ w, Calls Try.prog 35 #[.int .i64 v] w fun e w' => e = .returned (.int .i64 n) ∧ w = w'))
    (NM : Hid (∀ w, Calls Try.prog 37 #[.int .i64 v, .string ⟨id.toArray⟩] w fun e w' => e = .returned (.bool b5) ∧ w = w'))
    (RLK : Hid (∀ w, Calls Try.prog 28 #[.int .i64 v, .int .i64 fm.toNat] w fun e w' => e = .returned (.bool b1) ∧ w = w'))
    (RGR : Hid (∀ w, Calls Try.prog 30 #[.int .i64 v, .int .i64 fm.toNat] w fun e w' => e = .returned (.bool b2) ∧ w = w'))
    (RME : Hid (∀ w, Calls Try.prog 32 #[.int .i64 v, .int .i64 fm.toNat] w fun e w' => e = .returned (.bool b3) ∧ w = w'))
    (RSP : Hid (∀ w, Calls Try.prog 34 #[.int .i64 v, .int .i64 fm.toNat] w fun e w' => e = .returned (.bool b4) ∧ w = w'))
    (RLT : Hid (∀ w, Calls Try.prog 36 #[.int .i64 v] w fun e w' => e = .returned (.int .i64 n) ∧ w = w'))
    (RNM : Hid (∀ w, Calls Try.prog 38 #[.int .i64 v, .string ⟨id.toArray⟩] w fun e w' => e = .returned (.bool b5) ∧ w = w')) :
    Calls Try.prog 4 #[.int .i64 v, .int .u8 fm.toNat, .string ⟨id.toArray⟩] w fun e w' => e = .returned (.bool true) ∧ Below w.heap.size w w' := by
  have hfm := byte_le fm

  go_enter Try.func4, Try.ntmps4
  go_wp2_with (first | (go_at_call 26; (with_reducible refine (awake13' _).mono ?_); rintro e w1 ⟨rfl, hb1⟩; have X := Lib.hid (block_below (at_a0 w _ _) hb1); have K := Lib.hid (below_a1 hb1); clear hb1; have a0 := cell_at (j := 0) X.out; have a1 := cell_at (j := 1) X.out; have a2 := cell_at (j := 2) X.out; simp only [List.getElem?_toArray, List.getElem?_cons_zero, List.getElem?_cons_succ] at a0 a1 a2) | (go_at_call 27; (with_reducible refine (LK.out _).mono ?_); rintro e w2 ⟨rfl, hb2⟩; replace X := Lib.hid (block_below X.out (hb2)); replace K := Lib.hid (nextB K.out (hb2)); clear hb2; have b0 := cell_at (j := 0) X.out; have b1 := cell_at (j := 1) X.out; have b2 := cell_at (j := 2) X.out; simp only [List.getElem?_toArray, List.getElem?_cons_zero, List.getElem?_cons_succ] at b0 b1 b2) | (go_at_call 28; (with_reducible refine (RLK.out _).mono ?_); rintro e wx ⟨rfl, rfl⟩) | (go_at_call 29; (with_reducible refine (GR.out _).mono ?_); rintro e w3 ⟨rfl, hb3⟩; replace X := Lib.hid (block_below X.out (hb3)); replace K := Lib.hid (nextB K.out (hb3)); clear hb3; have c0 := cell_at (j := 0) X.out; have c1 := cell_at (j := 1) X.out; have c2 := cell_at (j := 2) X.out; simp only [List.getElem?_toArray, List.getElem?_cons_zero, List.getElem?_cons_succ] at c0 c1 c2) | (go_at_call 30; (with_reducible refine (RGR.out _).mono ?_); rintro e wx ⟨rfl, rfl⟩) | (go_at_call 31; (with_reducible refine (ME.out _).mono ?_); rintro e w4 ⟨rfl, hb4⟩; replace X := Lib.hid (block_below X.out (hb4)); replace K := Lib.hid (nextB K.out (hb4)); clear hb4; have d0 := cell_at (j := 0) X.out; have d1 := cell_at (j := 1) X.out; have d2 := cell_at (j := 2) X.out; simp only [List.getElem?_toArray, List.getElem?_cons_zero, List.getElem?_cons_succ] at d0 d1 d2) | (go_at_call 32; (with_reducible refine (RME.out _).mono ?_); rintro e wx ⟨rfl, rfl⟩) | (go_at_call 33; (with_reducible refine (SP.out _).mono ?_); rintro e w5 ⟨rfl, hb5⟩; replace X := Lib.hid (block_below X.out (hb5)); replace K := Lib.hid (nextB K.out (hb5)); clear hb5) | (go_at_call 34; (with_reducible refine (RSP.out _).mono ?_); rintro e wx ⟨rfl, rfl⟩) | (go_at_call 35; (with_reducible refine (LT.out _).mono ?_); rintro e wx ⟨rfl, rfl⟩) | (go_at_call 36; (with_reducible refine (RLT.out _).mono ?_); rintro e wx ⟨rfl, rfl⟩) | (go_at_call 37; (with_reducible refine (NM.out _).mono ?_); rintro e wx ⟨rfl, rfl⟩) | (go_at_call 38; (with_reducible refine (RNM.out _).mono ?_); rintro e wx ⟨rfl, rfl⟩))
  go_ret
  exact ⟨rfl, K.out⟩
set_option maxRecDepth 100000 in
theorem walk_FrameFlags (v : Int) (hv : (Lit.int .i64 v).wf = true) (bt : Int) (hbt : (Lit.int .u8 bt).wf = true) (id : List UInt8) (hid : id.length ≤ maxLen) (w : World) :
    Calls Try.prog 4 #[.int .i64 v, .int .u8 bt, .string ⟨id.toArray⟩] w fun e w' => e = .returned (.bool true) ∧ Below w.heap.size w w' := by
  obtain ⟨fm, rfl⟩ := wf_u8 hbt
  by_cases hl : (100 : Int) < id.length
  · go_enter Try.func4, Try.ntmps4
    go_wp2_with (go_at_call 26; (with_reducible refine (awake13' _).mono ?_); rintro e w1 ⟨rfl, hb1⟩)
    go_ret
    exact ⟨rfl, hb1⟩
  · have hl2 : id.length ≤ 1000000000 := by omega
    exact fflags_in v fm id _ _ _ _ _ _ w hl (Lib.hid fun w => locked_any v id 0 fm w) (Lib.hid fun w => grouped_any v id 0 fm w) (Lib.hid fun w => measured_any v id 0 fm w) (Lib.hid fun w => spread_any v id 0 fm w) (Lib.hid fun w => letters_any v w) (Lib.hid fun w => named_any v id w hl2)
      (Lib.hid fun w => rlocked_any v fm w) (Lib.hid fun w => rgrouped_any v fm w) (Lib.hid fun w => rmeasured_any v fm w) (Lib.hid fun w => rspread_any v fm w) (Lib.hid fun w => rletters_any v w) (Lib.hid fun w => rnamed_any v id w hl2)
end Go.Proofs.Ytdoheningeafhaa
