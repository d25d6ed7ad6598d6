/- Layer 5 (single): the document's example. -/
import Derived.Test.YtffhmjlojmoomaaGreatDoorZA2
import Derived.Test.YtffhmjlojmoomaaGreatDoorZA3
import Derived.Test.YtffhmjlojmoomaaGreatDoorZC8

namespace Go.Proofs.YtffhmjlojmoomaaGreatDoor
open Go.RowKit
set_option linter.unusedVariables false
set_option linter.unusedSimpArgs false

theorem koi_f {C : Cst} (hC : CstOk C) (k : Nat) (hk : k < 128) : pieF (koiP C) (128 + k) = C.koi[k]? := by
  have hl := hC.koiL.1
  have hne := ne_nil_of hl (by decide)
  unfold pieF koiP
  rw [List.findSome?_cons, List.findSome?_cons]
  rw [if_neg (by simp [pieN])]
  rw [if_pos (by simp [pieN, hne, hl]; omega)]
  unfold pieS
  rw [if_neg hne]
  simp only [Nat.add_sub_cancel_left]
  rw [List.getElem?_eq_getElem (by omega)]
theorem koi_dec {C : Cst} (hC : CstOk C) : decS (chF C 1) [193, 194] = some [1072, 1073] := by
  obtain ⟨h1, h2⟩ := koi_two hC
  have e1 : chF C 1 ((193 : UInt8).toNat) = some 1072 := (koi_f hC 65 (by decide)).trans h1
  have e2 : chF C 1 ((194 : UInt8).toNat) = some 1073 := (koi_f hC 66 (by decide)).trans h2
  unfold decS
  rw [e1]
  unfold decS
  rw [e2]
  rfl
theorem lat_none (C : Cst) : rev (chF C 0) 256 1028 = none := by
  show rev (pieF latP) 256 1028 = none
  decide +kernel
theorem lat_enc {C : Cst} {b : List UInt8} {cd pl : Int} (h : EncSays (chF C 0) [208, 132] b cd pl) : b = [] ∧ cd = 6 ∧ pl = 0 := by
  have hs : ∀ p ∈ ([1028] : List Nat), Sc p := fun p hp => by obtain rfl := List.mem_singleton.1 hp; unfold Sc; omega
  have he : ([208, 132] : List UInt8) = encs [1028] := by decide +kernel
  rcases h with ⟨h1, -, -⟩ | ⟨ps, h1, h2, ⟨h3, -, -⟩ | ⟨h3, h4, h5, qs, p, rs, h6, h7, h8⟩⟩
  · exact absurd ⟨[1028], hs, he⟩ h1
  · obtain rfl := encs_inj hs h1 (he.symm.trans h2)
    unfold encS at h3
    rw [lat_none C] at h3
    cases h3
  · obtain rfl := encs_inj hs h1 (he.symm.trans h2)
    rcases qs with _ | ⟨q, qs⟩
    · exact ⟨h4, h5, h8⟩
    · have := congrArg List.length h6
      simp at this
set_option maxHeartbeats 4000000 in
set_option maxRecDepth 100000 in
theorem awake05 (C : Cst) (hC : Hid (CstOk C)) (w : World) (hT : Hid (Tabs w)) : Calls Tryz.prog 13 #[] w fun e w' => e = .returned (.bool true) ∧ Below w.heap.size w w' := by
  have O1 : Hid (∀ w, Tabs w → Calls Tryz.prog 17 #[.int .i64 1] w fun e w' => ∃ v, e = .returned (.tuple #[.agg #[v, .int .i64 1], .bool true]) ∧ TabF w' 0 v (chF C 1) ∧ Below w.heap.size w w') := Lib.hid (fun w h => (sof_F C hC 1 (by decide) w (Lib.hid h)).mono fun e w' ⟨v, h1, h2, h3⟩ => ⟨v, h1, h2.base (Nat.zero_le _), h3⟩)
  have O0 : Hid (∀ w, Tabs w → Calls Tryz.prog 17 #[.int .i64 0] w fun e w' => ∃ v, e = .returned (.tuple #[.agg #[v, .int .i64 0], .bool true]) ∧ TabF w' 0 v (chF C 0) ∧ Below w.heap.size w w') := Lib.hid (fun w h => (sof_F C hC 0 (by decide) w (Lib.hid h)).mono fun e w' ⟨v, h1, h2, h3⟩ => ⟨v, h1, h2.base (Nat.zero_le _), h3⟩)
  have DE : Hid (∀ v w, TabF w 0 v (chF C 1) → Calls Tryz.prog 23 #[.agg #[v, .int .i64 1], .string ⟨([193, 194] : List UInt8).toArray⟩] w fun e w' => e = .returned (.tuple #[.string ⟨([208, 176, 208, 177] : List UInt8).toArray⟩, .agg #[.int .i64 0, .int .i64 0]]) ∧ Below w.heap.size w w') := Lib.hid (fun v w h => (sdec_any (chF C 1) v 1 [193, 194] w 0 (Lib.hid h) (Lib.hid (fun k hk => chF_none hC.out 1 k hk)) (Lib.hid (fun k p h => chF_sc hC.out 1 k p h)) (by decide)).mono fun e w' ⟨t, cd, pl, h1, h2, h3⟩ => by
    rcases h2 with ⟨ps, h4, rfl, rfl, rfl⟩ | ⟨h4, -, -⟩
    · rw [koi_dec hC.out] at h4
      obtain rfl := Option.some.inj h4
      rw [show encs [1072, 1073] = [208, 176, 208, 177] by decide +kernel] at h1
      exact ⟨h1, h3⟩
    · rw [koi_dec hC.out] at h4
      cases h4)
  have EN : Hid (∀ v w, TabF w 0 v (chF C 0) → Tabs w → Calls Tryz.prog 18 #[.agg #[v, .int .i64 0], .string ⟨([208, 132] : List UInt8).toArray⟩] w fun e w' => e = .returned (.tuple #[.string ⟨([] : List UInt8).toArray⟩, .agg #[.int .i64 6, .int .i64 0]]) ∧ Below w.heap.size w w') := Lib.hid (fun v w h hT => (senc_any (chF C 0) v 0 [208, 132] w 0 (Lib.hid h) (Lib.hid (fun k hk => chF_none hC.out 0 k hk)) (Lib.hid (fun k p h => chF_sc hC.out 0 k p h)) (by decide) (Lib.hid hT)).mono fun e w' ⟨b, cd, pl, h1, h2, h3⟩ => by
    obtain ⟨rfl, rfl, rfl⟩ := lat_enc h2
    exact ⟨h1, h3⟩)
  have A2 := Lib.hid (fun w h => awake02 w h)
  have A4 := Lib.hid (fun w h => awake04 w h)
  have BD := Lib.hid (fun w => bad_any 0 0 w)
  rw [show ((0 : Int) != 0) = false by rfl] at BD
  have K := Lib.hid (Below.refl w.heap.size w)
  generalize chF C 1 = f1 at *
  generalize chF C 0 = f0 at *
  clear hC
  go_enter Tryz.func13, Tryz.ntmps13
  go_upto_region 2 with (go_at_call 17; (with_reducible refine (O1.out _ (hT.out.below K.out)).mono ?_); rintro e w1 ⟨v, rfl, hv, hb1⟩; obtain ⟨vb, vo, vn, vc, rfl, -⟩ := hv.view; have V := Lib.hid hv; clear hv; replace K := Lib.hid (nextB K.out hb1); clear hb1)
  have T1 := Lib.hid (at_a0 w1 #[.slice (some ⟨vb, vo, none⟩) vn vc, .int .i64 1] 45)
  have hb1 := (Below.refl w1.heap.size w1).alloc (Nat.le_refl _) (.cells #[.slice (some ⟨vb, vo, none⟩) vn vc, .int .i64 1] 45)
  replace V := Lib.hid (V.out.below hb1)
  replace K := Lib.hid (nextB K.out hb1); clear hb1
  generalize w1.alloc (.cells #[.slice (some ⟨vb, vo, none⟩) vn vc, .int .i64 1] 45) = w2 at *
  generalize w1.heap.size = tb at *
  obtain ⟨a0, a1⟩ := cells2 (T1.out)
  go_upto_region 3 with (go_at_call 23; (with_reducible refine (DE.out _ _ V.out).mono ?_); rintro e w3 ⟨rfl, hb1⟩; replace K := Lib.hid (nextB K.out hb1); clear hb1)
  clear V T1 a0 a1
  have G4 := Lib.hid (at_a0 w3 #[.int .i64 0, .int .i64 0] 26)
  have hb1 := (Below.refl w3.heap.size w3).alloc (Nat.le_refl _) (.cells #[.int .i64 0, .int .i64 0] 26)
  replace K := Lib.hid (nextB K.out hb1); clear hb1
  generalize w3.alloc (.cells #[.int .i64 0, .int .i64 0] 26) = w4 at *
  generalize w3.heap.size = gb at *
  go_upto_region 4 with (go_at_call 17; (with_reducible refine (O0.out _ (hT.out.below K.out)).mono ?_); rintro e w5 ⟨v, rfl, hv, hb1⟩; obtain ⟨ub, uo, un, uc, rfl, -⟩ := hv.view; have V := Lib.hid hv; clear hv; replace G4 := Lib.hid (block_below G4.out hb1); replace K := Lib.hid (nextB K.out hb1); clear hb1)
  have T1 := Lib.hid (at_a0 w5 #[.slice (some ⟨ub, uo, none⟩) un uc, .int .i64 0] 45)
  have hb1 := (Below.refl w5.heap.size w5).alloc (Nat.le_refl _) (.cells #[.slice (some ⟨ub, uo, none⟩) un uc, .int .i64 0] 45)
  replace V := Lib.hid (V.out.below hb1)
  replace G4 := Lib.hid (block_below G4.out hb1)
  replace K := Lib.hid (nextB K.out hb1); clear hb1
  generalize w5.alloc (.cells #[.slice (some ⟨ub, uo, none⟩) un uc, .int .i64 0] 45) = w6 at *
  generalize w5.heap.size = sb at *
  obtain ⟨a0, a1⟩ := cells2 (T1.out)
  go_upto_region 5 with (go_at_call 18; (with_reducible refine (EN.out _ _ V.out (hT.out.below K.out)).mono ?_); rintro e w7 ⟨rfl, hb1⟩; replace G4 := Lib.hid (block_below G4.out hb1); replace K := Lib.hid (nextB K.out hb1); clear hb1)
  clear V T1 a0 a1
  have G8 := Lib.hid (at_a0 w7 #[.int .i64 6, .int .i64 0] 26)
  have hb1 := (Below.refl w7.heap.size w7).alloc (Nat.le_refl _) (.cells #[.int .i64 6, .int .i64 0] 26)
  replace G4 := Lib.hid (block_below G4.out hb1)
  replace K := Lib.hid (nextB K.out hb1); clear hb1
  generalize w7.alloc (.cells #[.int .i64 6, .int .i64 0] 26) = w8 at *
  generalize w7.heap.size = hb at *
  go_wp2_with (first | (go_at_call 12; (with_reducible refine (A2.out _ (Lib.hid (hT.out.below K.out))).mono ?_); rintro e w9 ⟨rfl, hb1⟩; replace G4 := Lib.hid (block_below G4.out hb1); replace G8 := Lib.hid (block_below G8.out hb1); replace K := Lib.hid (nextB K.out hb1); clear hb1) | (go_at_call 34; (with_reducible refine (A4.out _ (Lib.hid (hT.out.below K.out))).mono ?_); rintro e w10 ⟨rfl, hb1⟩; replace G4 := Lib.hid (block_below G4.out hb1); replace G8 := Lib.hid (block_below G8.out hb1); replace K := Lib.hid (nextB K.out hb1); clear hb1; obtain ⟨g0, g1⟩ := cells2 (G4.out)) | (go_at_call 7; (with_reducible refine (BD.out _).mono ?_); rintro e w11 ⟨rfl, hb1⟩; replace G8 := Lib.hid (block_below G8.out hb1); replace K := Lib.hid (nextB K.out hb1); clear hb1; obtain ⟨h0, h1⟩ := cells2 (G8.out)))
  go_ret
  exact ⟨rfl, K.out⟩
end Go.Proofs.YtffhmjlojmoomaaGreatDoor
