/- Layer 13 (frame): the document's Print, walked: a case (printed by fr14.py; a file each). -/
import Derived.Test.YtdoheningeafhaaFr14
import Derived.Deep.RegionHeld3
namespace Go.Proofs.Ytdoheningeafhaa
open Go.RowKit
set_option linter.unusedVariables false

set_option maxHeartbeats 4000000 in
set_option maxRecDepth 100000 in
theorem rfprint_2000 (id : List UInt8) (st fm gr : UInt8) (bo : List UInt8) (pl : Int) (n : Nat) (qs qf q1 qx qg qm bd D P : List UInt8) (w : World) (hid : id.length ≤ 1000) (hbo : bo.length ≤ 1000000) (hbd : bd.length ≤ 2000000)
    (GR : Hid (∀ w, Calls Try.prog 30 #[.int .i64 2, .int .i64 fm.toNat] w fun e w' => e = .returned (.bool false) ∧ w = w'))
    (ME : Hid (∀ w, Calls Try.prog 32 #[.int .i64 2, .int .i64 fm.toNat] w fun e w' => e = .returned (.bool false) ∧ w = w'))
    (SP : Hid (∀ w, Calls Try.prog 34 #[.int .i64 2, .int .i64 fm.toNat] w fun e w' => e = .returned (.bool false) ∧ w = w'))
    (BL : Hid (∀ w, Calls Try.prog 98 #[.int .u64 n, .int .i64 3] w fun e w' => e = .returned (.string ⟨q1.toArray⟩) ∧ Below w.heap.size w w'))
    (hn : bo.length = n) (l1 : q1.length ≤ 4) (l2 : qs.length ≤ 1) (l3 : qf.length ≤ 1) (l4 : qg.length ≤ 1) (l5 : qm.length ≤ 4)
    (EP : P = (id ++ (q1 ++ bo)))
    : Calls Try.prog 45 #[.int .i64 2, .agg #[.string ⟨id.toArray⟩, .int .i64 st.toNat, .int .i64 fm.toNat, .int .i64 gr.toNat, .string ⟨bo.toArray⟩, .int .i64 pl]] w (RPrint P w) := by
  have hst := byte_le st
  have hfm := byte_le fm
  have hgr := byte_le gr
  have e2 := wrapu64 bo.length (by omega)
  have e3 := wrapu64 st.toNat (by have := UInt8.toNat_lt st; omega)
  have e4 := wrapu64 fm.toNat (by have := UInt8.toNat_lt fm; omega)
  have e5 := wrapu64 gr.toNat (by have := UInt8.toNat_lt gr; omega)
  subst hn
  have HEP := Lib.hid EP
  have e1 := wrapu64 bo.length (by omega)
  obtain ⟨L1, n1, A1⟩ := fr_add_run id q1 (by omega)
  obtain ⟨L2, n2, A2⟩ := fr_add_run L1 bo (by rw [n1]; simp; omega)
  have HL := Lib.hid (show L2 = P by rw [EP, n2, n1]; simp)
  clear EP n1 n2
  go_enter Try.func45, Try.ntmps45
  go_upto_region 9 with (first | (go_at_call 30; (with_reducible refine (GR.out _).mono ?_); rintro e wx ⟨rfl, rfl⟩) | (go_at_call 32; (with_reducible refine (ME.out _).mono ?_); rintro e wx ⟨rfl, rfl⟩) | (go_at_call 34; (with_reducible refine (SP.out _).mono ?_); rintro e wx ⟨rfl, rfl⟩))
  have X0 := Lib.hid (at_a0 w #[.string ⟨id.toArray⟩, .int .i64 st.toNat, .int .i64 fm.toNat, .int .i64 gr.toNat, .string ⟨bo.toArray⟩, .int .i64 pl] 55)
  have K0 := Lib.hid (show Below w.heap.size w (w.alloc (.cells #[.string ⟨id.toArray⟩, .int .i64 st.toNat, .int .i64 fm.toNat, .int .i64 gr.toNat, .string ⟨bo.toArray⟩, .int .i64 pl] 55)) from (Below.refl _ _).alloc (Nat.le_refl _) _)
  generalize w.alloc (.cells #[.string ⟨id.toArray⟩, .int .i64 st.toNat, .int .i64 fm.toNat, .int .i64 gr.toNat, .string ⟨bo.toArray⟩, .int .i64 pl] 55) = w0 at *
  have a00 := cell_at (j := 0) X0.out; have a01 := cell_at (j := 1) X0.out; have a02 := cell_at (j := 2) X0.out; have a03 := cell_at (j := 3) X0.out; have a04 := cell_at (j := 4) X0.out; have a05 := cell_at (j := 5) X0.out; simp only [List.getElem?_toArray, List.getElem?_cons_zero, List.getElem?_cons_succ] at a00 a01 a02 a03 a04 a05
  go_upto_region 11 with fail
  have hxb := (Array.getElem?_eq_some_iff.1 X0.out).1
  have cc : w0.cell? ⟨w.heap.size, 0, none⟩ = some (.string ⟨id.toArray⟩) ∧ w0.cell? ⟨w.heap.size, 1, none⟩ = some (.int .i64 st.toNat) ∧ w0.cell? ⟨w.heap.size, 2, none⟩ = some (.int .i64 fm.toNat) := ⟨cell_at (j := 0) X0.out, cell_at (j := 1) X0.out, cell_at (j := 2) X0.out⟩
  generalize w0 = V at *
  generalize hxe : w.heap.size = xb at *
  have HX := Lib.hid hxe
  clear hxe
  go_region_held3 (fun w' => w'.cell? ⟨xb, 0, none⟩ = some (.string ⟨id.toArray⟩) ∧ w'.cell? ⟨xb, 1, none⟩ = some (.int .i64 st.toNat) ∧ w'.cell? ⟨xb, 2, none⟩ = some (.int .i64 fm.toNat)) (first | exact cc | exact x21 | fail)
    (first | (go_at_call 98; (with_reducible refine (BL.out _).mono ?_); rintro e w21 ⟨rfl, hb21⟩; have k21 := Lib.hid (fr_drewB hb21); have x21 := keep3 k21.out (Below.refl _ _) hxb cc; clear hb21))
  go_wp2
  go_ret
  have hz := HX.out
  subst hz
  exact ⟨by rw [← HL.out]; rfl, nextB K0.out k21.out⟩
end Go.Proofs.Ytdoheningeafhaa
