/- Layer 9 (charset): the document's example. -/
import Derived.Test.YtffhmjlojmoomaaGreatDoorZA5
import Derived.Test.YtffhmjlojmoomaaGreatDoorZA3
import Derived.Test.YtffhmjlojmoomaaGreatDoorZN1

namespace Go.Proofs.YtffhmjlojmoomaaGreatDoor
open Go.RowKit
set_option linter.unusedVariables false
set_option linter.unusedSimpArgs false

theorem aw_tx {C : Cst} (hC : CstOk C) : txC C 4 176 161 = [234, 176, 128] := by
  have h : sgC C 4 176 161 = some [44032] := by
    unfold sgC
    rw [if_pos rfl, aw_s1 hC]
    rfl
  unfold txC
  rw [show (176 : UInt8).toNat = 176 by rfl, show (161 : UInt8).toNat = 161 by rfl, h]
  decide +kernel
theorem aw_dec1 {C : Cst} (hC : CstOk C) {t : List UInt8} {cd pl : Int} (h : DecSays C 4 [97, 176, 161] t cd pl) : t = [97, 234, 176, 128] ∧ cd = 0 ∧ pl = 0 := by
  have hd : decT (txC C 4) [97, 176, 161] = some [97, 234, 176, 128] := by
    rw [decT_one (by decide), decT_two (by decide), aw_tx hC]
    rfl
  rcases h with ⟨h1, h2, h3⟩ | ⟨h1, -⟩
  · rw [decR_two (by decide) (by decide), hd] at h1
    exact ⟨(Option.some.inj h1).symm, h2, h3⟩
  · exact absurd (by rw [decR_two (by decide) (by decide)]; exact hd) (h1 [97, 234, 176, 128])
theorem aw_dec2 {C : Cst} {t : List UInt8} {cd pl : Int} (h : DecSays C 4 [97, 176] t cd pl) : cd = 2 ∧ pl = 1 := by
  have hd : decT (txC C 4) [97, 176] = none := by
    rw [decT_one (by decide), decT_short (by decide)]
    rfl
  rcases h with ⟨h1, -⟩ | ⟨-, h2, h3⟩
  · rw [decR_two (by decide) (by decide), hd] at h1
    cases h1
  · refine ⟨h2, ?_⟩
    rw [h3 rfl, plT_one (by decide), plT_short (by decide)]
    rfl
set_option maxHeartbeats 4000000 in
set_option maxRecDepth 100000 in
theorem awake09 (C : Cst) (hC : Hid (CstOk C)) (w : World) (hT : Hid (Tabs w)) (hD : Hid (DeB w)) (m : Int) (hm : Hid (Mx m w)) : Calls Tryz.prog 5 #[] w fun e w' => e = .returned (.bool true) ∧ Below w.heap.size w w' := by
  have D1 : Hid (∀ w, Tabs w → DeB w → Calls Tryz.prog 8 #[.int .i64 4, .string ⟨([97, 176, 161] : List UInt8).toArray⟩] w fun e w' => e = .returned (.tuple #[.string ⟨([97, 234, 176, 128] : List UInt8).toArray⟩, .agg #[.int .i64 0, .int .i64 0]]) ∧ Below w.heap.size w w') := Lib.hid (fun w h1 h2 => (cdec_any C hC 4 (by decide) [97, 176, 161] (by decide) w (Lib.hid h1) (Lib.hid h2)).mono fun e w' ⟨t, cd, pl, he, hs, hb⟩ => by
    obtain ⟨rfl, rfl, rfl⟩ := aw_dec1 hC.out hs
    exact ⟨he, hb⟩)
  have D2 : Hid (∀ w, Tabs w → DeB w → Calls Tryz.prog 8 #[.int .i64 4, .string ⟨([97, 176] : List UInt8).toArray⟩] w fun e w' => ∃ t : List UInt8, e = .returned (.tuple #[.string ⟨t.toArray⟩, .agg #[.int .i64 2, .int .i64 1]]) ∧ Below w.heap.size w w') := Lib.hid (fun w h1 h2 => (cdec_any C hC 4 (by decide) [97, 176] (by decide) w (Lib.hid h1) (Lib.hid h2)).mono fun e w' ⟨t, cd, pl, he, hs, hb⟩ => by
    obtain ⟨rfl, rfl⟩ := aw_dec2 hs
    exact ⟨t, he, hb⟩)
  have NM := Lib.hid (fun w => cnamed_utf w)
  have A2 := Lib.hid (fun w h => awake02 w h)
  have A5 := Lib.hid (fun w h => awake05 C hC w h)
  have A6 := Lib.hid (fun w => awake06 w)
  have A7 := Lib.hid (fun w h1 h2 => awake07 C hC w h1 m h2)
  have A8 := Lib.hid (fun w h2 => awake08 C hC w m h2)
  have BD := Lib.hid (fun w => bad_any 0 0 w)
  rw [show ((0 : Int) != 0) = false by rfl] at BD
  have K := Lib.hid (Below.refl w.heap.size w)
  clear hC
  go_enter Tryz.func5, Tryz.ntmps5
  go_upto_region 2 with (go_at_call 8; (with_reducible refine (D1.out _ (hT.out.below K.out) (hD.out.below K.out)).mono ?_); rintro e w1 ⟨rfl, hb1⟩; replace K := Lib.hid (nextB K.out hb1); clear hb1)
  have G2 := Lib.hid (at_a0 w1 #[.int .i64 0, .int .i64 0] 26)
  have hb1 := (Below.refl w1.heap.size w1).alloc (Nat.le_refl _) (.cells #[.int .i64 0, .int .i64 0] 26)
  replace K := Lib.hid (nextB K.out hb1); clear hb1
  generalize w1.alloc (.cells #[.int .i64 0, .int .i64 0] 26) = w2 at *
  generalize w1.heap.size = gb at *
  go_upto_region 3 with (go_at_call 8; (with_reducible refine (D2.out _ (hT.out.below K.out) (hD.out.below K.out)).mono ?_); rintro e w3 ⟨t, rfl, hb1⟩; replace G2 := Lib.hid (block_below G2.out hb1); replace K := Lib.hid (nextB K.out hb1); clear hb1)
  have G4 := Lib.hid (at_a0 w3 #[.int .i64 2, .int .i64 1] 26)
  have hb1 := (Below.refl w3.heap.size w3).alloc (Nat.le_refl _) (.cells #[.int .i64 2, .int .i64 1] 26)
  replace G2 := Lib.hid (block_below G2.out hb1)
  replace K := Lib.hid (nextB K.out hb1); clear hb1
  generalize w3.alloc (.cells #[.int .i64 2, .int .i64 1] 26) = w4 at *
  generalize w3.heap.size = hb at *
  go_upto_region 4 with (go_at_call 11; (with_reducible refine (NM.out _).mono ?_); rintro e w5 ⟨rfl, hb1⟩; replace G2 := Lib.hid (block_below G2.out hb1); replace G4 := Lib.hid (block_below G4.out hb1); replace K := Lib.hid (nextB K.out hb1); clear hb1)
  go_wp2_with (first | (go_at_call 12; (with_reducible refine (A2.out _ (Lib.hid (hT.out.below K.out))).mono ?_); rintro e w6 ⟨rfl, hb1⟩; replace G2 := Lib.hid (block_below G2.out hb1); replace G4 := Lib.hid (block_below G4.out hb1); replace K := Lib.hid (nextB K.out hb1); clear hb1) | (go_at_call 13; (with_reducible refine (A5.out _ (Lib.hid (hT.out.below K.out))).mono ?_); rintro e w7 ⟨rfl, hb1⟩; replace G2 := Lib.hid (block_below G2.out hb1); replace G4 := Lib.hid (block_below G4.out hb1); replace K := Lib.hid (nextB K.out hb1); clear hb1) | (go_at_call 14; (with_reducible refine (A6.out _).mono ?_); rintro e w8 ⟨rfl, hb1⟩; replace G2 := Lib.hid (block_below G2.out hb1); replace G4 := Lib.hid (block_below G4.out hb1); replace K := Lib.hid (nextB K.out hb1); clear hb1) | (go_at_call 15; (with_reducible refine (A7.out _ (Lib.hid (hD.out.below K.out)) (Lib.hid (hm.out.below K.out))).mono ?_); rintro e w9 ⟨rfl, hb1⟩; replace G2 := Lib.hid (block_below G2.out hb1); replace G4 := Lib.hid (block_below G4.out hb1); replace K := Lib.hid (nextB K.out hb1); clear hb1) | (go_at_call 16; (with_reducible refine (A8.out _ (Lib.hid (hm.out.below K.out))).mono ?_); rintro e w10 ⟨rfl, hb1⟩; replace G2 := Lib.hid (block_below G2.out hb1); replace G4 := Lib.hid (block_below G4.out hb1); replace K := Lib.hid (nextB K.out hb1); clear hb1; obtain ⟨g0, g1⟩ := cells2 (G2.out)) | (go_at_call 7; (with_reducible refine (BD.out _).mono ?_); rintro e w11 ⟨rfl, hb1⟩; replace G2 := Lib.hid (block_below G2.out hb1); replace G4 := Lib.hid (block_below G4.out hb1); replace K := Lib.hid (nextB K.out hb1); clear hb1; clear g0 g1; obtain ⟨h0, h1⟩ := cells2 (G4.out)))
  go_ret
  exact ⟨rfl, K.out⟩
end Go.Proofs.YtffhmjlojmoomaaGreatDoor
