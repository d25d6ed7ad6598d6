/- Layer 13 (frame): Print, walked: a case (printed by fr9.py; a file each: in one file the second walk goes astray, see LESSONS). -/
import Derived.Test.YtmnmonmbdgedbaaFr9
namespace Go.Proofs.Ytmnmonmbdgedbaa
open Go.RowKit
set_option linter.unusedVariables false

set_option maxHeartbeats 4000000 in
set_option maxRecDepth 100000 in
theorem fprint_2000 (id : List UInt8) (st fm gr : UInt8) (bo0 : List UInt8) (pl : Int) (n0 : Nat) (qs qf fl q1 qg qm bd : List UInt8) (PS : List (List UInt8)) (w : World) (hn : n0 ≤ 16777215) (hbo : bo0.length ≤ 16777215)
    (CK : Hid (∀ w, Calls Try.prog 76 #[.agg (frC id st fm gr bo0 pl), .int .i64 2] w (CheckF 0 w)))
    (LN : Hid (∀ w, Calls Try.prog 121 #[.agg (frC id st fm gr bo0 pl), .int .i64 2] w (LengthF n0 w)))
    (GR : Hid (∀ w, Calls Try.prog 108 #[hdV id st fm, .int .i64 2] w fun e w' => e = .returned (.bool false) ∧ Below w.heap.size w w'))
    (ME : Hid (∀ w, Calls Try.prog 122 #[hdV id st fm, .int .i64 2] w fun e w' => e = .returned (.bool false) ∧ Below w.heap.size w w'))
    (SP : Hid (∀ w, Calls Try.prog 24 #[hdV id st fm, .int .i64 2] w fun e w' => e = .returned (.bool false) ∧ Below w.heap.size w w'))
    (BS : Hid (∀ w, Calls Try.prog 51 #[.int .u64 st.toNat, .int .i64 1] w fun e w' => e = .returned (.string ⟨qs.toArray⟩) ∧ Below w.heap.size w w'))
    (BF : Hid (∀ w, Calls Try.prog 51 #[.int .u64 fm.toNat, .int .i64 1] w fun e w' => e = .returned (.string ⟨qf.toArray⟩) ∧ Below w.heap.size w w'))
    (JF : Hid (∀ a w, StrsAt w a 2 [qs, qf] → Calls Try.prog 50 #[.slice a 2 2] w fun e w' => e = .returned (.string ⟨fl.toArray⟩) ∧ Below w.heap.size w w'))
    (BL : Hid (∀ w, Calls Try.prog 51 #[.int .u64 n0, .int .i64 3] w fun e w' => e = .returned (.string ⟨q1.toArray⟩) ∧ Below w.heap.size w w'))
    (EB : bo0 = bd)
    (EP : PS = (([id] ++ [q1]) ++ [bo0])) (hlen : PS.flatten.length ≤ 1000000000)
    : Calls Try.prog 88 #[.agg (frC id st fm gr bo0 pl), .int .i64 2] w (FPrints PS.flatten 0 w) := by
  obtain ⟨n, hn2⟩ : ∃ n, n = n0 := ⟨n0, rfl⟩
  subst hn2
  obtain ⟨bo, hbo2⟩ : ∃ x, x = bo0 := ⟨bo0, rfl⟩
  subst hbo2
  subst EB
  have JO := Lib.hid (fun base v w h => join_recs base v PS w h (by rw [EP]; simp) hlen)
  have HEP := Lib.hid EP
  clear hlen EP
  have BD := Lib.hid (fun w => bad_any 0 0 w)
  rw [show ((0 : Int) != 0) = false by rfl] at BD
  have hn' : (n : Int) ≤ 16777215 := by omega
  have hbo' : (bo.length : Int) ≤ 16777215 := by omega
  have g1 : ¬ (16777215 : Int) < n := by omega
  have g2 : ¬ (268435455 : Int) < n := by omega
  have e1 := wrapu64 n (by omega)
  have e2 := wrapu64 bo.length (by omega)
  have e3 := wrapu64 st.toNat (by have := UInt8.toNat_lt st; omega)
  have e4 := wrapu64 fm.toNat (by have := UInt8.toNat_lt fm; omega)
  have e5 := wrapu64 gr.toNat (by have := UInt8.toNat_lt gr; omega)
  have hst := byte_le st
  have hfm := byte_le fm
  have hgr := byte_le gr
  clear hn hbo
  unfold CheckF LengthF frC hdV at *
  go_enter Try.func88, Try.ntmps88
  go_upto_region 7 with (first | (go_at_call 76; (with_reducible refine (CK.out _).mono ?_); rintro e w1 ⟨rfl, hb1⟩; have K1 := Lib.hid (below_a2 hb1); have X1 := Lib.hid (block_below (block_below (at_a1 w _ _ _) hb1) ((Below.refl _ _).alloc (Nat.le_refl _) _ : Below _ w1 (w1.alloc (.cells #[.int .i64 0, .int .i64 0] 31)))); have F1 := Lib.hid (block_below (block_below (at_a2 w _ _ _) hb1) ((Below.refl _ _).alloc (Nat.le_refl _) _ : Below _ w1 (w1.alloc (.cells #[.int .i64 0, .int .i64 0] 31)))); clear hb1) | (go_at_call 16; (with_reducible refine (BD.out _).mono ?_); rintro e w2 ⟨rfl, hb2⟩; have X2 := Lib.hid (block_below X1.out hb2); have F2 := Lib.hid (block_below F1.out hb2); have K2 := Lib.hid (nextB K1.out (below_a1 hb2)); obtain ⟨a20, a21, a22, a23, a24, a25⟩ := cells6 (X2.out); clear hb2) | (go_at_call 121; (with_reducible refine (LN.out _).mono ?_); rintro e w3 ⟨rfl, hb3⟩; have X3 := Lib.hid (block_below X2.out hb3); have F3 := Lib.hid (block_below F2.out hb3); have K3 := Lib.hid (nextB K2.out hb3); obtain ⟨a30, a31, a32, a33, a34, a35⟩ := cells6 (X3.out); clear hb3))
  have hX3 := (Array.getElem?_eq_some_iff.1 X3.out).1
  have hF3 := (Array.getElem?_eq_some_iff.1 F3.out).1
  have hK3 := K3.out.size
  go_upto_region 8 with fail
  have P4 : Hid (PT w (w3.alloc (.cells #[.string ⟨id.toArray⟩] 9)) w.heap.size #[.string ⟨id.toArray⟩, .int .u8 st.toNat, .int .u8 fm.toNat, .int .u8 gr.toNat, .string ⟨bo.toArray⟩, .int .i64 pl] 47 (w.heap.size + 1) #[.int .i64 0, .int .i64 0] 31 w3.heap.size (.slice (some ⟨w3.heap.size, 0, none⟩) 1 1) [id]) := Lib.hid ⟨block_below X3.out ((Below.refl _ _).alloc (Nat.le_refl _) _), block_below F3.out ((Below.refl _ _).alloc (Nat.le_refl _) _), K3.out.alloc K3.out.size _, by simp, Recs.lit w3 w3.heap.size 9 (.string ⟨id.toArray⟩) (Nat.le_refl _)⟩
  generalize (w3.alloc (.cells #[.string ⟨id.toArray⟩] 9)) = V at *
  generalize w3.heap.size = R at *
  generalize hxe : w.heap.size = xb at *
  generalize hfe : xb + 1 = fb at *
  have HX := Lib.hid hxe
  have HFE := Lib.hid hfe
  have h0 : w.heap.size ≤ R := by omega
  have hxb := (Array.getElem?_eq_some_iff.1 P4.out.xr).1
  clear hxe hfe X1 F1 K1 X2 F2 K2 X3 F3 K3 CK BD LN hK3
  have cc : V.cell? ⟨xb, 1, none⟩ = some (.int .u8 st.toNat) ∧ V.cell? ⟨xb, 2, none⟩ = some (.int .u8 fm.toNat) := ⟨cell_at (j := 1) P4.out.xr, cell_at (j := 2) P4.out.xr⟩
  go_region_held3 (fun w' => w'.cell? ⟨xb, 1, none⟩ = some (.int .u8 st.toNat) ∧ w'.cell? ⟨xb, 2, none⟩ = some (.int .u8 fm.toNat)) (first | exact cc | exact keep2 k6.out ((Below.refl _ _).alloc (Nat.le_refl _) _) hxb cc | exact x7 | exact x6 | exact x5 | fail)
    (first | (go_at_call 50; (with_reducible refine (JF.out _ _ (strs2 _ _ _)).mono ?_); rintro e w7 ⟨rfl, hb7⟩; have k7 := Lib.hid (nextB (k6.out.alloc k6.out.size _) hb7); have x7 := keep2 k7.out (Below.refl _ _) hxb cc; clear hb7 x6) | (go_at_call 51; have _chk := k5; (with_reducible refine (BF.out _).mono ?_); rintro e w6 ⟨rfl, hb6⟩; have k6 := Lib.hid (nextB k5.out hb6); have x6 := keep2 k6.out (Below.refl _ _) hxb cc; clear hb6 x5) | (go_at_call 51; (with_reducible refine (BS.out _).mono ?_); rintro e w5 ⟨rfl, hb5⟩; have k5 := Lib.hid (fr_drewB hb5); have x5 := keep2 k5.out (Below.refl _ _) hxb cc; clear hb5))
  have P8 := Lib.hid (P4.out.below k7.out)
  have hxR : xb < R := by omega
  have hfR : fb < R := by omega
  obtain ⟨a80, a81, a82, a83, a84, a85⟩ := cells6 (P8.out.xr)
  clear cc x7 P4 k7 k6 k5 JF BS BF
  go_wp2_with (first | (go_at_call 51; have _chk := P8; (with_reducible refine (BL.out _).mono ?_); rintro e w9 ⟨rfl, hb9⟩; have P9 := Lib.hid (P8.out.below hb9); obtain ⟨a90, a91, a92, a93, a94, a95⟩ := cells6 (P9.out.xr); clear hb9 P8) | (at_builtin; refine wpList_pushR w9 rfl (.tmp 65) (.tmp 69) 67 rfl R 9 1 16 _ Try.underlying67 info_str1 rfl (by decide) (by decide) _ ([id].map strR) (strR q1) _ (by rfl) rfl (one_strR _) (by rfl) P9.out.rc (by rfl) (by simp) P9.out.le _ ?_; intro v10 w10 hr10 hg10; have P10 := Lib.hid (P9.out.push (PS' := ([id] ++ [q1])) (by rw [List.map_append]; exact hr10) hg10 hxR hfR h0); obtain ⟨a100, a101, a102, a103, a104, a105⟩ := cells6 (P10.out.xr); clear hr10 hg10 P9) | (go_at_call 108; have _chk := P10; (with_reducible refine (GR.out _).mono ?_); rintro e w11 ⟨rfl, hb11⟩; have P11 := Lib.hid (P10.out.below hb11); obtain ⟨a110, a111, a112, a113, a114, a115⟩ := cells6 (P11.out.xr); clear hb11 P10) | (go_at_call 122; have _chk := P11; (with_reducible refine (ME.out _).mono ?_); rintro e w12 ⟨rfl, hb12⟩; have P12 := Lib.hid (P11.out.below hb12); obtain ⟨a120, a121, a122, a123, a124, a125⟩ := cells6 (P12.out.xr); clear hb12 P11) | (go_at_call 24; have _chk := P12; (with_reducible refine (SP.out _).mono ?_); rintro e w13 ⟨rfl, hb13⟩; have P13 := Lib.hid (P12.out.below hb13); obtain ⟨a130, a131, a132, a133, a134, a135⟩ := cells6 (P13.out.xr); clear hb13 P12) | (at_builtin; refine wpList_pushR w13 rfl (.tmp 115) (.tmp 117) 67 rfl R 9 1 16 _ Try.underlying67 info_str1 rfl (by decide) (by decide) _ (([id] ++ [q1]).map strR) (strR bo) _ (by rfl) rfl (one_strR _) (by rfl) P13.out.rc (by rfl) (by simp) P13.out.le _ ?_; intro v14 w14 hr14 hg14; have P14 := Lib.hid (P13.out.push (PS' := (([id] ++ [q1]) ++ [bo])) (by rw [List.map_append]; exact hr14) hg14 hxR hfR h0); obtain ⟨a140, a141, a142, a143, a144, a145⟩ := cells6 (P14.out.xr); have LJ : Hid (Recs w14 R 9 1 v14 (PS.map strR)) := Lib.hid (by rw [HEP.out]; exact P14.out.rc); clear hr14 hg14 P13) | (go_at_call 50; (with_reducible refine (JO.out R _ _ LJ.out).mono ?_); rintro e w99 ⟨rfl, hb99⟩; have P99 := Lib.hid (P14.out.below hb99); obtain ⟨z0, z1⟩ := cells2 (P99.out.zr); obtain ⟨zf0, zf1⟩ := frees2 (P99.out.zr); clear hb99))
  have hx := HX.out
  have hf := HFE.out
  subst hx
  subst hf
  refine end_tmp_cell rfl rfl rfl (store2 P99.out.zr rfl) Try.underlying31 rfl (by kernel_rfl) ⟨rfl, ?_⟩
  exact Below.setCell (Below.setCell P99.out.be (by simp) _) (by simp) _
end Go.Proofs.Ytmnmonmbdgedbaa
