/- Layer 13 (frame): the document's Print, walked: lemmas (printed by fr14.py). | Layer 13 (frame): the document's Print, walked: a case (printed by fr14.py; a file each). | Layer 13 (frame): the document's Print, walked: a case (printed by fr14.py; a file each). | Layer 13 (frame): the document's Print, walked: a case (printed by fr14.py; a file each). | Layer 13 (frame): the document's Print, walked: a case (printed by fr14.py; a file each). | Layer 13 (frame): the document's Print, walked: a case (printed by fr14.py; a file each). | Layer 13 (frame): the document's Print, walked: a case (printed by fr14.py; a file each). | Layer 13 (frame): the document's Print, walked: a case (printed by fr14.py; a file each). | Layer 13 (frame): the document's Print, walked: a case (printed by fr14.py; a file each). | Layer 13 (frame): the document's Print, walked: a case (printed by fr14.py; a file each). | Layer 13 (frame): the document's Print, walked: a case (printed by fr14.py; a file each). | Layer 13 (frame): the document's Print, walked: a case (printed by fr14.py; a file each). -/
import Derived.Test.YtmnmonmbdgedbaaFr13
import Derived.Deep.RegionHeld3

namespace Go.Proofs.Ytmnmonmbdgedbaa
open Go.RowKit
set_option linter.unusedVariables false

theorem fr_add_run (x y : List UInt8) (h : x.length + y.length ≤ 8388608) : ∃ z, z = x ++ y ∧ ∀ w : World, (Op.stringOp .add ⟨x.toArray⟩ ⟨y.toArray⟩).run Try.prog w = .ok (.string ⟨z.toArray⟩) w :=
  ⟨_, rfl, fun w => run_string_add_lists w x y (by omega) (by omega)⟩
theorem keep3 {V W w : World} {b : Nat} {v0 v1 v2 : Value} (hb : Below V.heap.size V W) (k : Below W.heap.size W w) (hx : b < V.heap.size)
    (h : V.cell? ⟨b, 0, none⟩ = some v0 ∧ V.cell? ⟨b, 1, none⟩ = some v1 ∧ V.cell? ⟨b, 2, none⟩ = some v2) : w.cell? ⟨b, 0, none⟩ = some v0 ∧ w.cell? ⟨b, 1, none⟩ = some v1 ∧ w.cell? ⟨b, 2, none⟩ = some v2 := by
  have hb2 := nextB hb k
  have e : ∀ j, w.cell? ⟨b, j, none⟩ = V.cell? ⟨b, j, none⟩ := fun j => hb2.cell (p := ⟨b, j, none⟩) hx
  rw [e, e, e]
  exact h
def RPrint (s : List UInt8) (w : World) (e : Ending) (w' : World) : Prop := e = .returned (.string ⟨s.toArray⟩) ∧ Below w.heap.size w w'
end Go.Proofs.Ytmnmonmbdgedbaa

namespace Go.Proofs.Ytmnmonmbdgedbaa
open Go.RowKit
set_option linter.unusedVariables false

set_option maxHeartbeats 4000000 in
set_option maxRecDepth 100000 in
theorem rfprint_2000 (id : List UInt8) (st fm gr : UInt8) (bo : List UInt8) (pl : Int) (n : Nat) (qs qf q1 qx qg qm bd D P : List UInt8) (w : World) (hid : id.length ≤ 1000) (hbo : bo.length ≤ 1000000) (hbd : bd.length ≤ 2000000)
    (GR : Hid (∀ w, Calls Try.prog 107 #[.int .i64 2, .int .i64 fm.toNat] w fun e w' => e = .returned (.bool false) ∧ w = w'))
    (ME : Hid (∀ w, Calls Try.prog 111 #[.int .i64 2, .int .i64 fm.toNat] w fun e w' => e = .returned (.bool false) ∧ w = w'))
    (SP : Hid (∀ w, Calls Try.prog 112 #[.int .i64 2, .int .i64 fm.toNat] w fun e w' => e = .returned (.bool false) ∧ w = w'))
    (BL : Hid (∀ w, Calls Try.prog 110 #[.int .u64 n, .int .i64 3] w fun e w' => e = .returned (.string ⟨q1.toArray⟩) ∧ Below w.heap.size w w'))
    (hn : bo.length = n) (l1 : q1.length ≤ 4) (l2 : qs.length ≤ 1) (l3 : qf.length ≤ 1) (l4 : qg.length ≤ 1) (l5 : qm.length ≤ 4)
    (EP : P = (id ++ (q1 ++ bo)))
    : Calls Try.prog 77 #[.int .i64 2, .agg #[.string ⟨id.toArray⟩, .int .i64 st.toNat, .int .i64 fm.toNat, .int .i64 gr.toNat, .string ⟨bo.toArray⟩, .int .i64 pl]] w (RPrint P w) := by
  have hst := byte_le st
  have hfm := byte_le fm
  have hgr := byte_le gr
  have e2 := wrapu64 bo.length (by omega)
  have e3 := wrapu64 st.toNat (by have := UInt8.toNat_lt st; omega)
  have e4 := wrapu64 fm.toNat (by have := UInt8.toNat_lt fm; omega)
  have e5 := wrapu64 gr.toNat (by have := UInt8.toNat_lt gr; omega)
  subst hn
  have HEP := Lib.hid EP
  have e1 := wrapu64 bo.length (by omega)
  obtain ⟨L1, n1, A1⟩ := fr_add_run id q1 (by omega)
  obtain ⟨L2, n2, A2⟩ := fr_add_run L1 bo (by rw [n1]; simp; omega)
  have HL := Lib.hid (show L2 = P by rw [EP, n2, n1]; simp)
  clear EP n1 n2
  go_enter Try.func77, Try.ntmps77
  go_upto_region 9 with (first | (go_at_call 107; (with_reducible refine (GR.out _).mono ?_); rintro e wx ⟨rfl, rfl⟩) | (go_at_call 111; (with_reducible refine (ME.out _).mono ?_); rintro e wx ⟨rfl, rfl⟩) | (go_at_call 112; (with_reducible refine (SP.out _).mono ?_); rintro e wx ⟨rfl, rfl⟩))
  have X0 := Lib.hid (at_a0 w #[.string ⟨id.toArray⟩, .int .i64 st.toNat, .int .i64 fm.toNat, .int .i64 gr.toNat, .string ⟨bo.toArray⟩, .int .i64 pl] 100)
  have K0 := Lib.hid (show Below w.heap.size w (w.alloc (.cells #[.string ⟨id.toArray⟩, .int .i64 st.toNat, .int .i64 fm.toNat, .int .i64 gr.toNat, .string ⟨bo.toArray⟩, .int .i64 pl] 100)) from (Below.refl _ _).alloc (Nat.le_refl _) _)
  generalize w.alloc (.cells #[.string ⟨id.toArray⟩, .int .i64 st.toNat, .int .i64 fm.toNat, .int .i64 gr.toNat, .string ⟨bo.toArray⟩, .int .i64 pl] 100) = w0 at *
  obtain ⟨a00, a01, a02, a03, a04, a05⟩ := cells6 (X0.out)
  go_upto_region 11 with fail
  have hxb := (Array.getElem?_eq_some_iff.1 X0.out).1
  have cc : w0.cell? ⟨w.heap.size, 0, none⟩ = some (.string ⟨id.toArray⟩) ∧ w0.cell? ⟨w.heap.size, 1, none⟩ = some (.int .i64 st.toNat) ∧ w0.cell? ⟨w.heap.size, 2, none⟩ = some (.int .i64 fm.toNat) := ⟨cell_at (j := 0) X0.out, cell_at (j := 1) X0.out, cell_at (j := 2) X0.out⟩
  generalize w0 = V at *
  generalize hxe : w.heap.size = xb at *
  have HX := Lib.hid hxe
  clear hxe
  go_region_held3 (fun w' => w'.cell? ⟨xb, 0, none⟩ = some (.string ⟨id.toArray⟩) ∧ w'.cell? ⟨xb, 1, none⟩ = some (.int .i64 st.toNat) ∧ w'.cell? ⟨xb, 2, none⟩ = some (.int .i64 fm.toNat)) (first | exact cc | exact x21 | fail)
    (first | (go_at_call 110; (with_reducible refine (BL.out _).mono ?_); rintro e w21 ⟨rfl, hb21⟩; have k21 := Lib.hid (fr_drewB hb21); have x21 := keep3 k21.out (Below.refl _ _) hxb cc; clear hb21))
  go_wp2
  go_ret
  have hz := HX.out
  subst hz
  exact ⟨by rw [← HL.out]; rfl, nextB K0.out k21.out⟩
end Go.Proofs.Ytmnmonmbdgedbaa

namespace Go.Proofs.Ytmnmonmbdgedbaa
open Go.RowKit
set_option linter.unusedVariables false

set_option maxHeartbeats 4000000 in
set_option maxRecDepth 100000 in
theorem rfprint_3000 (id : List UInt8) (st fm gr : UInt8) (bo : List UInt8) (pl : Int) (n : Nat) (qs qf q1 qx qg qm bd D P : List UInt8) (w : World) (hid : id.length ≤ 1000) (hbo : bo.length ≤ 1000000) (hbd : bd.length ≤ 2000000)
    (GR : Hid (∀ w, Calls Try.prog 107 #[.int .i64 3, .int .i64 fm.toNat] w fun e w' => e = .returned (.bool false) ∧ w = w'))
    (ME : Hid (∀ w, Calls Try.prog 111 #[.int .i64 3, .int .i64 fm.toNat] w fun e w' => e = .returned (.bool false) ∧ w = w'))
    (SP : Hid (∀ w, Calls Try.prog 112 #[.int .i64 3, .int .i64 fm.toNat] w fun e w' => e = .returned (.bool false) ∧ w = w'))
    (BS : Hid (∀ w, Calls Try.prog 110 #[.int .u64 st.toNat, .int .i64 1] w fun e w' => e = .returned (.string ⟨qs.toArray⟩) ∧ Below w.heap.size w w'))
    (BF : Hid (∀ w, Calls Try.prog 110 #[.int .u64 fm.toNat, .int .i64 1] w fun e w' => e = .returned (.string ⟨qf.toArray⟩) ∧ Below w.heap.size w w'))
    (BL : Hid (∀ w, Calls Try.prog 110 #[.int .u64 n, .int .i64 4] w fun e w' => e = .returned (.string ⟨q1.toArray⟩) ∧ Below w.heap.size w w'))
    (hn : bo.length = n) (l1 : q1.length ≤ 4) (l2 : qs.length ≤ 1) (l3 : qf.length ≤ 1) (l4 : qg.length ≤ 1) (l5 : qm.length ≤ 4)
    (EP : P = (id ++ (q1 ++ (qs ++ (qf ++ bo)))))
    : Calls Try.prog 77 #[.int .i64 3, .agg #[.string ⟨id.toArray⟩, .int .i64 st.toNat, .int .i64 fm.toNat, .int .i64 gr.toNat, .string ⟨bo.toArray⟩, .int .i64 pl]] w (RPrint P w) := by
  have hst := byte_le st
  have hfm := byte_le fm
  have hgr := byte_le gr
  have e2 := wrapu64 bo.length (by omega)
  have e3 := wrapu64 st.toNat (by have := UInt8.toNat_lt st; omega)
  have e4 := wrapu64 fm.toNat (by have := UInt8.toNat_lt fm; omega)
  have e5 := wrapu64 gr.toNat (by have := UInt8.toNat_lt gr; omega)
  subst hn
  have HEP := Lib.hid EP
  have e1 := wrapu64 bo.length (by omega)
  obtain ⟨L1, n1, A1⟩ := fr_add_run id q1 (by omega)
  obtain ⟨L2, n2, A2⟩ := fr_add_run L1 qs (by rw [n1]; simp; omega)
  obtain ⟨L3, n3, A3⟩ := fr_add_run L2 qf (by rw [n2, n1]; simp; omega)
  obtain ⟨L4, n4, A4⟩ := fr_add_run L3 bo (by rw [n3, n2, n1]; simp; omega)
  have HL := Lib.hid (show L4 = P by rw [EP, n4, n3, n2, n1]; simp)
  clear EP n1 n2 n3 n4
  go_enter Try.func77, Try.ntmps77
  go_upto_region 9 with (first | (go_at_call 107; (with_reducible refine (GR.out _).mono ?_); rintro e wx ⟨rfl, rfl⟩) | (go_at_call 111; (with_reducible refine (ME.out _).mono ?_); rintro e wx ⟨rfl, rfl⟩) | (go_at_call 112; (with_reducible refine (SP.out _).mono ?_); rintro e wx ⟨rfl, rfl⟩))
  have X0 := Lib.hid (at_a0 w #[.string ⟨id.toArray⟩, .int .i64 st.toNat, .int .i64 fm.toNat, .int .i64 gr.toNat, .string ⟨bo.toArray⟩, .int .i64 pl] 100)
  have K0 := Lib.hid (show Below w.heap.size w (w.alloc (.cells #[.string ⟨id.toArray⟩, .int .i64 st.toNat, .int .i64 fm.toNat, .int .i64 gr.toNat, .string ⟨bo.toArray⟩, .int .i64 pl] 100)) from (Below.refl _ _).alloc (Nat.le_refl _) _)
  generalize w.alloc (.cells #[.string ⟨id.toArray⟩, .int .i64 st.toNat, .int .i64 fm.toNat, .int .i64 gr.toNat, .string ⟨bo.toArray⟩, .int .i64 pl] 100) = w0 at *
  obtain ⟨a00, a01, a02, a03, a04, a05⟩ := cells6 (X0.out)
  go_upto_region 15 with (go_at_call 110; (with_reducible refine (BL.out _).mono ?_); rintro e w1 ⟨rfl, hb1⟩; have X1 := Lib.hid (block_below X0.out hb1); have K1 := Lib.hid (nextB K0.out hb1); obtain ⟨a10, a11, a12, a13, a14, a15⟩ := cells6 (X1.out); clear hb1)
  have hxb := (Array.getElem?_eq_some_iff.1 X1.out).1
  have cc : w1.cell? ⟨w.heap.size, 0, none⟩ = some (.string ⟨id.toArray⟩) ∧ w1.cell? ⟨w.heap.size, 1, none⟩ = some (.int .i64 st.toNat) ∧ w1.cell? ⟨w.heap.size, 2, none⟩ = some (.int .i64 fm.toNat) := ⟨cell_at (j := 0) X1.out, cell_at (j := 1) X1.out, cell_at (j := 2) X1.out⟩
  generalize w1 = V at *
  generalize hxe : w.heap.size = xb at *
  have HX := Lib.hid hxe
  clear hxe
  go_region_held3 (fun w' => w'.cell? ⟨xb, 0, none⟩ = some (.string ⟨id.toArray⟩) ∧ w'.cell? ⟨xb, 1, none⟩ = some (.int .i64 st.toNat) ∧ w'.cell? ⟨xb, 2, none⟩ = some (.int .i64 fm.toNat)) (first | exact cc | exact x22 | exact x21 | fail)
    (first | (go_at_call 110; have _chk := k21; (with_reducible refine (BF.out _).mono ?_); rintro e w22 ⟨rfl, hb22⟩; have k22 := Lib.hid (nextB k21.out hb22); have x22 := keep3 k22.out (Below.refl _ _) hxb cc; clear hb22 x21) | (go_at_call 110; (with_reducible refine (BS.out _).mono ?_); rintro e w21 ⟨rfl, hb21⟩; have k21 := Lib.hid (fr_drewB hb21); have x21 := keep3 k21.out (Below.refl _ _) hxb cc; clear hb21))
  go_wp2
  go_ret
  have hz := HX.out
  subst hz
  exact ⟨by rw [← HL.out]; rfl, nextB K1.out k22.out⟩
end Go.Proofs.Ytmnmonmbdgedbaa

namespace Go.Proofs.Ytmnmonmbdgedbaa
open Go.RowKit
set_option linter.unusedVariables false

set_option maxHeartbeats 4000000 in
set_option maxRecDepth 100000 in
theorem rfprint_3100 (id : List UInt8) (st fm gr : UInt8) (bo : List UInt8) (pl : Int) (n : Nat) (qs qf q1 qx qg qm bd D P : List UInt8) (w : World) (hid : id.length ≤ 1000) (hbo : bo.length ≤ 1000000) (hbd : bd.length ≤ 2000000)
    (GR : Hid (∀ w, Calls Try.prog 107 #[.int .i64 3, .int .i64 fm.toNat] w fun e w' => e = .returned (.bool true) ∧ w = w'))
    (ME : Hid (∀ w, Calls Try.prog 111 #[.int .i64 3, .int .i64 fm.toNat] w fun e w' => e = .returned (.bool false) ∧ w = w'))
    (SP : Hid (∀ w, Calls Try.prog 112 #[.int .i64 3, .int .i64 fm.toNat] w fun e w' => e = .returned (.bool false) ∧ w = w'))
    (BS : Hid (∀ w, Calls Try.prog 110 #[.int .u64 st.toNat, .int .i64 1] w fun e w' => e = .returned (.string ⟨qs.toArray⟩) ∧ Below w.heap.size w w'))
    (BF : Hid (∀ w, Calls Try.prog 110 #[.int .u64 fm.toNat, .int .i64 1] w fun e w' => e = .returned (.string ⟨qf.toArray⟩) ∧ Below w.heap.size w w'))
    (BL : Hid (∀ w, Calls Try.prog 110 #[.int .u64 n, .int .i64 4] w fun e w' => e = .returned (.string ⟨q1.toArray⟩) ∧ Below w.heap.size w w'))
    (BG : Hid (∀ w, Calls Try.prog 110 #[.int .u64 gr.toNat, .int .i64 1] w fun e w' => e = .returned (.string ⟨qg.toArray⟩) ∧ Below w.heap.size w w'))
    (ED : D = (qg ++ bo))    (hn : D.length = n) (l1 : q1.length ≤ 4) (l2 : qs.length ≤ 1) (l3 : qf.length ≤ 1) (l4 : qg.length ≤ 1) (l5 : qm.length ≤ 4)
    (EP : P = (id ++ (q1 ++ (qs ++ (qf ++ D)))))
    : Calls Try.prog 77 #[.int .i64 3, .agg #[.string ⟨id.toArray⟩, .int .i64 st.toNat, .int .i64 fm.toNat, .int .i64 gr.toNat, .string ⟨bo.toArray⟩, .int .i64 pl]] w (RPrint P w) := by
  have hst := byte_le st
  have hfm := byte_le fm
  have hgr := byte_le gr
  have e2 := wrapu64 bo.length (by omega)
  have e3 := wrapu64 st.toNat (by have := UInt8.toNat_lt st; omega)
  have e4 := wrapu64 fm.toNat (by have := UInt8.toNat_lt fm; omega)
  have e5 := wrapu64 gr.toNat (by have := UInt8.toNat_lt gr; omega)
  have hD : D.length ≤ 2000005 := by rw [ED]; simp; omega
  subst hn
  have HEP := Lib.hid EP
  have HED := Lib.hid ED
  clear ED
  have e1 := wrapu64 D.length (by omega)
  obtain ⟨L1, n1, A1⟩ := fr_add_run id q1 (by omega)
  obtain ⟨L2, n2, A2⟩ := fr_add_run L1 qs (by rw [n1]; simp; omega)
  obtain ⟨L3, n3, A3⟩ := fr_add_run L2 qf (by rw [n2, n1]; simp; omega)
  obtain ⟨L4, n4, A4⟩ := fr_add_run L3 D (by rw [n3, n2, n1]; simp; omega)
  have HL := Lib.hid (show L4 = P by rw [EP, n4, n3, n2, n1]; simp)
  clear EP n1 n2 n3 n4
  go_enter Try.func77, Try.ntmps77
  go_upto_region 9 with (first | (go_at_call 107; (with_reducible refine (GR.out _).mono ?_); rintro e wx ⟨rfl, rfl⟩) | (go_at_call 111; (with_reducible refine (ME.out _).mono ?_); rintro e wx ⟨rfl, rfl⟩) | (go_at_call 112; (with_reducible refine (SP.out _).mono ?_); rintro e wx ⟨rfl, rfl⟩) | (go_at_call 110; (with_reducible refine (BG.out _).mono ?_); rintro e w1 ⟨rfl, hb1⟩; have X1 := Lib.hid (block_below (at_a0 w _ _) hb1); have K1 := Lib.hid (below_a1 hb1); obtain ⟨a10, a11, a12, a13, a14, a15⟩ := cells6 (X1.out); clear hb1))
  rw [← HED.out]
  go_upto_region 15 with (go_at_call 110; (with_reducible refine (BL.out _).mono ?_); rintro e w2 ⟨rfl, hb2⟩; have X2 := Lib.hid (block_below X1.out hb2); have K2 := Lib.hid (nextB K1.out hb2); obtain ⟨a20, a21, a22, a23, a24, a25⟩ := cells6 (X2.out); clear hb2)
  have hxb := (Array.getElem?_eq_some_iff.1 X2.out).1
  have cc : w2.cell? ⟨w.heap.size, 0, none⟩ = some (.string ⟨id.toArray⟩) ∧ w2.cell? ⟨w.heap.size, 1, none⟩ = some (.int .i64 st.toNat) ∧ w2.cell? ⟨w.heap.size, 2, none⟩ = some (.int .i64 fm.toNat) := ⟨cell_at (j := 0) X2.out, cell_at (j := 1) X2.out, cell_at (j := 2) X2.out⟩
  generalize w2 = V at *
  generalize hxe : w.heap.size = xb at *
  have HX := Lib.hid hxe
  clear hxe
  go_region_held3 (fun w' => w'.cell? ⟨xb, 0, none⟩ = some (.string ⟨id.toArray⟩) ∧ w'.cell? ⟨xb, 1, none⟩ = some (.int .i64 st.toNat) ∧ w'.cell? ⟨xb, 2, none⟩ = some (.int .i64 fm.toNat)) (first | exact cc | exact x22 | exact x21 | fail)
    (first | (go_at_call 110; have _chk := k21; (with_reducible refine (BF.out _).mono ?_); rintro e w22 ⟨rfl, hb22⟩; have k22 := Lib.hid (nextB k21.out hb22); have x22 := keep3 k22.out (Below.refl _ _) hxb cc; clear hb22 x21) | (go_at_call 110; (with_reducible refine (BS.out _).mono ?_); rintro e w21 ⟨rfl, hb21⟩; have k21 := Lib.hid (fr_drewB hb21); have x21 := keep3 k21.out (Below.refl _ _) hxb cc; clear hb21))
  go_wp2
  go_ret
  have hz := HX.out
  subst hz
  exact ⟨by rw [← HL.out]; rfl, nextB K2.out k22.out⟩
end Go.Proofs.Ytmnmonmbdgedbaa

namespace Go.Proofs.Ytmnmonmbdgedbaa
open Go.RowKit
set_option linter.unusedVariables false

set_option maxHeartbeats 4000000 in
set_option maxRecDepth 100000 in
theorem rfprint_4000 (id : List UInt8) (st fm gr : UInt8) (bo : List UInt8) (pl : Int) (n : Nat) (qs qf q1 qx qg qm bd D P : List UInt8) (w : World) (hid : id.length ≤ 1000) (hbo : bo.length ≤ 1000000) (hbd : bd.length ≤ 2000000)
    (GR : Hid (∀ w, Calls Try.prog 107 #[.int .i64 4, .int .i64 fm.toNat] w fun e w' => e = .returned (.bool false) ∧ w = w'))
    (ME : Hid (∀ w, Calls Try.prog 111 #[.int .i64 4, .int .i64 fm.toNat] w fun e w' => e = .returned (.bool false) ∧ w = w'))
    (SP : Hid (∀ w, Calls Try.prog 112 #[.int .i64 4, .int .i64 fm.toNat] w fun e w' => e = .returned (.bool false) ∧ w = w'))
    (BS : Hid (∀ w, Calls Try.prog 110 #[.int .u64 st.toNat, .int .i64 1] w fun e w' => e = .returned (.string ⟨qs.toArray⟩) ∧ Below w.heap.size w w'))
    (BF : Hid (∀ w, Calls Try.prog 110 #[.int .u64 fm.toNat, .int .i64 1] w fun e w' => e = .returned (.string ⟨qf.toArray⟩) ∧ Below w.heap.size w w'))
    (BX : Hid (∀ w, Calls Try.prog 110 #[.int .u64 n, .int .i64 4] w fun e w' => e = .returned (.string ⟨qx.toArray⟩) ∧ Below w.heap.size w w'))
    (BL : Hid (∀ w, Calls Try.prog 79 #[.int .u64 n] w fun e w' => e = .returned (.string ⟨q1.toArray⟩) ∧ Below w.heap.size w w'))
    (hn : bo.length = n) (l1 : q1.length ≤ 4) (l2 : qs.length ≤ 1) (l3 : qf.length ≤ 1) (l4 : qg.length ≤ 1) (l5 : qm.length ≤ 4)
    (EP : P = (id ++ (q1 ++ (qs ++ (qf ++ bo)))))
    : Calls Try.prog 77 #[.int .i64 4, .agg #[.string ⟨id.toArray⟩, .int .i64 st.toNat, .int .i64 fm.toNat, .int .i64 gr.toNat, .string ⟨bo.toArray⟩, .int .i64 pl]] w (RPrint P w) := by
  have hst := byte_le st
  have hfm := byte_le fm
  have hgr := byte_le gr
  have e2 := wrapu64 bo.length (by omega)
  have e3 := wrapu64 st.toNat (by have := UInt8.toNat_lt st; omega)
  have e4 := wrapu64 fm.toNat (by have := UInt8.toNat_lt fm; omega)
  have e5 := wrapu64 gr.toNat (by have := UInt8.toNat_lt gr; omega)
  subst hn
  have HEP := Lib.hid EP
  have e1 := wrapu64 bo.length (by omega)
  obtain ⟨L1, n1, A1⟩ := fr_add_run id q1 (by omega)
  obtain ⟨L2, n2, A2⟩ := fr_add_run L1 qs (by rw [n1]; simp; omega)
  obtain ⟨L3, n3, A3⟩ := fr_add_run L2 qf (by rw [n2, n1]; simp; omega)
  obtain ⟨L4, n4, A4⟩ := fr_add_run L3 bo (by rw [n3, n2, n1]; simp; omega)
  have HL := Lib.hid (show L4 = P by rw [EP, n4, n3, n2, n1]; simp)
  clear EP n1 n2 n3 n4
  go_enter Try.func77, Try.ntmps77
  go_upto_region 9 with (first | (go_at_call 107; (with_reducible refine (GR.out _).mono ?_); rintro e wx ⟨rfl, rfl⟩) | (go_at_call 111; (with_reducible refine (ME.out _).mono ?_); rintro e wx ⟨rfl, rfl⟩) | (go_at_call 112; (with_reducible refine (SP.out _).mono ?_); rintro e wx ⟨rfl, rfl⟩))
  have X0 := Lib.hid (at_a0 w #[.string ⟨id.toArray⟩, .int .i64 st.toNat, .int .i64 fm.toNat, .int .i64 gr.toNat, .string ⟨bo.toArray⟩, .int .i64 pl] 100)
  have K0 := Lib.hid (show Below w.heap.size w (w.alloc (.cells #[.string ⟨id.toArray⟩, .int .i64 st.toNat, .int .i64 fm.toNat, .int .i64 gr.toNat, .string ⟨bo.toArray⟩, .int .i64 pl] 100)) from (Below.refl _ _).alloc (Nat.le_refl _) _)
  generalize w.alloc (.cells #[.string ⟨id.toArray⟩, .int .i64 st.toNat, .int .i64 fm.toNat, .int .i64 gr.toNat, .string ⟨bo.toArray⟩, .int .i64 pl] 100) = w0 at *
  obtain ⟨a00, a01, a02, a03, a04, a05⟩ := cells6 (X0.out)
  go_upto_region 15 with (first | (go_at_call 110; (with_reducible refine (BX.out _).mono ?_); rintro e w1 ⟨rfl, hb1⟩; have X1 := Lib.hid (block_below X0.out hb1); have K1 := Lib.hid (nextB K0.out hb1); obtain ⟨a10, a11, a12, a13, a14, a15⟩ := cells6 (X1.out); clear hb1) | (go_at_call 79; (with_reducible refine (BL.out _).mono ?_); rintro e w2 ⟨rfl, hb2⟩; have X2 := Lib.hid (block_below X1.out hb2); have K2 := Lib.hid (nextB K1.out hb2); obtain ⟨a20, a21, a22, a23, a24, a25⟩ := cells6 (X2.out); clear hb2))
  have hxb := (Array.getElem?_eq_some_iff.1 X2.out).1
  have cc : w2.cell? ⟨w.heap.size, 0, none⟩ = some (.string ⟨id.toArray⟩) ∧ w2.cell? ⟨w.heap.size, 1, none⟩ = some (.int .i64 st.toNat) ∧ w2.cell? ⟨w.heap.size, 2, none⟩ = some (.int .i64 fm.toNat) := ⟨cell_at (j := 0) X2.out, cell_at (j := 1) X2.out, cell_at (j := 2) X2.out⟩
  generalize w2 = V at *
  generalize hxe : w.heap.size = xb at *
  have HX := Lib.hid hxe
  clear hxe
  go_region_held3 (fun w' => w'.cell? ⟨xb, 0, none⟩ = some (.string ⟨id.toArray⟩) ∧ w'.cell? ⟨xb, 1, none⟩ = some (.int .i64 st.toNat) ∧ w'.cell? ⟨xb, 2, none⟩ = some (.int .i64 fm.toNat)) (first | exact cc | exact x22 | exact x21 | fail)
    (first | (go_at_call 110; have _chk := k21; (with_reducible refine (BF.out _).mono ?_); rintro e w22 ⟨rfl, hb22⟩; have k22 := Lib.hid (nextB k21.out hb22); have x22 := keep3 k22.out (Below.refl _ _) hxb cc; clear hb22 x21) | (go_at_call 110; (with_reducible refine (BS.out _).mono ?_); rintro e w21 ⟨rfl, hb21⟩; have k21 := Lib.hid (fr_drewB hb21); have x21 := keep3 k21.out (Below.refl _ _) hxb cc; clear hb21))
  go_wp2
  go_ret
  have hz := HX.out
  subst hz
  exact ⟨by rw [← HL.out]; rfl, nextB K2.out k22.out⟩
end Go.Proofs.Ytmnmonmbdgedbaa

namespace Go.Proofs.Ytmnmonmbdgedbaa
open Go.RowKit
set_option linter.unusedVariables false

set_option maxHeartbeats 4000000 in
set_option maxRecDepth 100000 in
theorem rfprint_4001 (id : List UInt8) (st fm gr : UInt8) (bo : List UInt8) (pl : Int) (n : Nat) (qs qf q1 qx qg qm bd D P : List UInt8) (w : World) (hid : id.length ≤ 1000) (hbo : bo.length ≤ 1000000) (hbd : bd.length ≤ 2000000)
    (GR : Hid (∀ w, Calls Try.prog 107 #[.int .i64 4, .int .i64 fm.toNat] w fun e w' => e = .returned (.bool false) ∧ w = w'))
    (ME : Hid (∀ w, Calls Try.prog 111 #[.int .i64 4, .int .i64 fm.toNat] w fun e w' => e = .returned (.bool false) ∧ w = w'))
    (SP : Hid (∀ w, Calls Try.prog 112 #[.int .i64 4, .int .i64 fm.toNat] w fun e w' => e = .returned (.bool true) ∧ w = w'))
    (BS : Hid (∀ w, Calls Try.prog 110 #[.int .u64 st.toNat, .int .i64 1] w fun e w' => e = .returned (.string ⟨qs.toArray⟩) ∧ Below w.heap.size w w'))
    (BF : Hid (∀ w, Calls Try.prog 110 #[.int .u64 fm.toNat, .int .i64 1] w fun e w' => e = .returned (.string ⟨qf.toArray⟩) ∧ Below w.heap.size w w'))
    (BX : Hid (∀ w, Calls Try.prog 110 #[.int .u64 n, .int .i64 4] w fun e w' => e = .returned (.string ⟨qx.toArray⟩) ∧ Below w.heap.size w w'))
    (BL : Hid (∀ w, Calls Try.prog 79 #[.int .u64 n] w fun e w' => e = .returned (.string ⟨q1.toArray⟩) ∧ Below w.heap.size w w'))
    (PU : Hid (∀ w, Calls Try.prog 78 #[.string ⟨bo.toArray⟩] w fun e w' => e = .returned (.string ⟨bd.toArray⟩) ∧ Below w.heap.size w w'))
    (hn : bd.length = n) (l1 : q1.length ≤ 4) (l2 : qs.length ≤ 1) (l3 : qf.length ≤ 1) (l4 : qg.length ≤ 1) (l5 : qm.length ≤ 4)
    (EP : P = (id ++ (q1 ++ (qs ++ (qf ++ bd)))))
    : Calls Try.prog 77 #[.int .i64 4, .agg #[.string ⟨id.toArray⟩, .int .i64 st.toNat, .int .i64 fm.toNat, .int .i64 gr.toNat, .string ⟨bo.toArray⟩, .int .i64 pl]] w (RPrint P w) := by
  have hst := byte_le st
  have hfm := byte_le fm
  have hgr := byte_le gr
  have e2 := wrapu64 bo.length (by omega)
  have e3 := wrapu64 st.toNat (by have := UInt8.toNat_lt st; omega)
  have e4 := wrapu64 fm.toNat (by have := UInt8.toNat_lt fm; omega)
  have e5 := wrapu64 gr.toNat (by have := UInt8.toNat_lt gr; omega)
  subst hn
  have HEP := Lib.hid EP
  have e1 := wrapu64 bd.length (by omega)
  obtain ⟨L1, n1, A1⟩ := fr_add_run id q1 (by omega)
  obtain ⟨L2, n2, A2⟩ := fr_add_run L1 qs (by rw [n1]; simp; omega)
  obtain ⟨L3, n3, A3⟩ := fr_add_run L2 qf (by rw [n2, n1]; simp; omega)
  obtain ⟨L4, n4, A4⟩ := fr_add_run L3 bd (by rw [n3, n2, n1]; simp; omega)
  have HL := Lib.hid (show L4 = P by rw [EP, n4, n3, n2, n1]; simp)
  clear EP n1 n2 n3 n4
  go_enter Try.func77, Try.ntmps77
  go_upto_region 9 with (first | (go_at_call 107; (with_reducible refine (GR.out _).mono ?_); rintro e wx ⟨rfl, rfl⟩) | (go_at_call 111; (with_reducible refine (ME.out _).mono ?_); rintro e wx ⟨rfl, rfl⟩) | (go_at_call 112; (with_reducible refine (SP.out _).mono ?_); rintro e wx ⟨rfl, rfl⟩) | (go_at_call 78; (with_reducible refine (PU.out _).mono ?_); rintro e w1 ⟨rfl, hb1⟩; have X1 := Lib.hid (block_below (at_a0 w _ _) hb1); have K1 := Lib.hid (below_a1 hb1); obtain ⟨a10, a11, a12, a13, a14, a15⟩ := cells6 (X1.out); clear hb1))
  go_upto_region 15 with (first | (go_at_call 110; (with_reducible refine (BX.out _).mono ?_); rintro e w2 ⟨rfl, hb2⟩; have X2 := Lib.hid (block_below X1.out hb2); have K2 := Lib.hid (nextB K1.out hb2); obtain ⟨a20, a21, a22, a23, a24, a25⟩ := cells6 (X2.out); clear hb2) | (go_at_call 79; (with_reducible refine (BL.out _).mono ?_); rintro e w3 ⟨rfl, hb3⟩; have X3 := Lib.hid (block_below X2.out hb3); have K3 := Lib.hid (nextB K2.out hb3); obtain ⟨a30, a31, a32, a33, a34, a35⟩ := cells6 (X3.out); clear hb3))
  have hxb := (Array.getElem?_eq_some_iff.1 X3.out).1
  have cc : w3.cell? ⟨w.heap.size, 0, none⟩ = some (.string ⟨id.toArray⟩) ∧ w3.cell? ⟨w.heap.size, 1, none⟩ = some (.int .i64 st.toNat) ∧ w3.cell? ⟨w.heap.size, 2, none⟩ = some (.int .i64 fm.toNat) := ⟨cell_at (j := 0) X3.out, cell_at (j := 1) X3.out, cell_at (j := 2) X3.out⟩
  generalize w3 = V at *
  generalize hxe : w.heap.size = xb at *
  have HX := Lib.hid hxe
  clear hxe
  go_region_held3 (fun w' => w'.cell? ⟨xb, 0, none⟩ = some (.string ⟨id.toArray⟩) ∧ w'.cell? ⟨xb, 1, none⟩ = some (.int .i64 st.toNat) ∧ w'.cell? ⟨xb, 2, none⟩ = some (.int .i64 fm.toNat)) (first | exact cc | exact x22 | exact x21 | fail)
    (first | (go_at_call 110; have _chk := k21; (with_reducible refine (BF.out _).mono ?_); rintro e w22 ⟨rfl, hb22⟩; have k22 := Lib.hid (nextB k21.out hb22); have x22 := keep3 k22.out (Below.refl _ _) hxb cc; clear hb22 x21) | (go_at_call 110; (with_reducible refine (BS.out _).mono ?_); rintro e w21 ⟨rfl, hb21⟩; have k21 := Lib.hid (fr_drewB hb21); have x21 := keep3 k21.out (Below.refl _ _) hxb cc; clear hb21))
  go_wp2
  go_ret
  have hz := HX.out
  subst hz
  exact ⟨by rw [← HL.out]; rfl, nextB K3.out k22.out⟩
end Go.Proofs.Ytmnmonmbdgedbaa

namespace Go.Proofs.Ytmnmonmbdgedbaa
open Go.RowKit
set_option linter.unusedVariables false

set_option maxHeartbeats 4000000 in
set_option maxRecDepth 100000 in
theorem rfprint_4010 (id : List UInt8) (st fm gr : UInt8) (bo : List UInt8) (pl : Int) (n : Nat) (qs qf q1 qx qg qm bd D P : List UInt8) (w : World) (hid : id.length ≤ 1000) (hbo : bo.length ≤ 1000000) (hbd : bd.length ≤ 2000000)
    (GR : Hid (∀ w, Calls Try.prog 107 #[.int .i64 4, .int .i64 fm.toNat] w fun e w' => e = .returned (.bool false) ∧ w = w'))
    (ME : Hid (∀ w, Calls Try.prog 111 #[.int .i64 4, .int .i64 fm.toNat] w fun e w' => e = .returned (.bool true) ∧ w = w'))
    (SP : Hid (∀ w, Calls Try.prog 112 #[.int .i64 4, .int .i64 fm.toNat] w fun e w' => e = .returned (.bool false) ∧ w = w'))
    (BS : Hid (∀ w, Calls Try.prog 110 #[.int .u64 st.toNat, .int .i64 1] w fun e w' => e = .returned (.string ⟨qs.toArray⟩) ∧ Below w.heap.size w w'))
    (BF : Hid (∀ w, Calls Try.prog 110 #[.int .u64 fm.toNat, .int .i64 1] w fun e w' => e = .returned (.string ⟨qf.toArray⟩) ∧ Below w.heap.size w w'))
    (BX : Hid (∀ w, Calls Try.prog 110 #[.int .u64 n, .int .i64 4] w fun e w' => e = .returned (.string ⟨qx.toArray⟩) ∧ Below w.heap.size w w'))
    (BL : Hid (∀ w, Calls Try.prog 79 #[.int .u64 n] w fun e w' => e = .returned (.string ⟨q1.toArray⟩) ∧ Below w.heap.size w w'))
    (BM : Hid (∀ w, Calls Try.prog 79 #[.int .u64 bo.length] w fun e w' => e = .returned (.string ⟨qm.toArray⟩) ∧ Below w.heap.size w w'))
    (ED : D = (qm ++ bo))    (hn : D.length = n) (l1 : q1.length ≤ 4) (l2 : qs.length ≤ 1) (l3 : qf.length ≤ 1) (l4 : qg.length ≤ 1) (l5 : qm.length ≤ 4)
    (EP : P = (id ++ (q1 ++ (qs ++ (qf ++ D)))))
    : Calls Try.prog 77 #[.int .i64 4, .agg #[.string ⟨id.toArray⟩, .int .i64 st.toNat, .int .i64 fm.toNat, .int .i64 gr.toNat, .string ⟨bo.toArray⟩, .int .i64 pl]] w (RPrint P w) := by
  have hst := byte_le st
  have hfm := byte_le fm
  have hgr := byte_le gr
  have e2 := wrapu64 bo.length (by omega)
  have e3 := wrapu64 st.toNat (by have := UInt8.toNat_lt st; omega)
  have e4 := wrapu64 fm.toNat (by have := UInt8.toNat_lt fm; omega)
  have e5 := wrapu64 gr.toNat (by have := UInt8.toNat_lt gr; omega)
  have hD : D.length ≤ 2000005 := by rw [ED]; simp; omega
  subst hn
  have HEP := Lib.hid EP
  have HED := Lib.hid ED
  clear ED
  have e1 := wrapu64 D.length (by omega)
  obtain ⟨L1, n1, A1⟩ := fr_add_run id q1 (by omega)
  obtain ⟨L2, n2, A2⟩ := fr_add_run L1 qs (by rw [n1]; simp; omega)
  obtain ⟨L3, n3, A3⟩ := fr_add_run L2 qf (by rw [n2, n1]; simp; omega)
  obtain ⟨L4, n4, A4⟩ := fr_add_run L3 D (by rw [n3, n2, n1]; simp; omega)
  have HL := Lib.hid (show L4 = P by rw [EP, n4, n3, n2, n1]; simp)
  clear EP n1 n2 n3 n4
  go_enter Try.func77, Try.ntmps77
  go_upto_region 9 with (first | (go_at_call 107; (with_reducible refine (GR.out _).mono ?_); rintro e wx ⟨rfl, rfl⟩) | (go_at_call 111; (with_reducible refine (ME.out _).mono ?_); rintro e wx ⟨rfl, rfl⟩) | (go_at_call 112; (with_reducible refine (SP.out _).mono ?_); rintro e wx ⟨rfl, rfl⟩) | (go_at_call 79; (with_reducible refine (BM.out _).mono ?_); rintro e w1 ⟨rfl, hb1⟩; have X1 := Lib.hid (block_below (at_a0 w _ _) hb1); have K1 := Lib.hid (below_a1 hb1); obtain ⟨a10, a11, a12, a13, a14, a15⟩ := cells6 (X1.out); clear hb1))
  rw [← HED.out]
  go_upto_region 15 with (first | (go_at_call 110; (with_reducible refine (BX.out _).mono ?_); rintro e w2 ⟨rfl, hb2⟩; have X2 := Lib.hid (block_below X1.out hb2); have K2 := Lib.hid (nextB K1.out hb2); obtain ⟨a20, a21, a22, a23, a24, a25⟩ := cells6 (X2.out); clear hb2) | (go_at_call 79; (with_reducible refine (BL.out _).mono ?_); rintro e w3 ⟨rfl, hb3⟩; have X3 := Lib.hid (block_below X2.out hb3); have K3 := Lib.hid (nextB K2.out hb3); obtain ⟨a30, a31, a32, a33, a34, a35⟩ := cells6 (X3.out); clear hb3))
  have hxb := (Array.getElem?_eq_some_iff.1 X3.out).1
  have cc : w3.cell? ⟨w.heap.size, 0, none⟩ = some (.string ⟨id.toArray⟩) ∧ w3.cell? ⟨w.heap.size, 1, none⟩ = some (.int .i64 st.toNat) ∧ w3.cell? ⟨w.heap.size, 2, none⟩ = some (.int .i64 fm.toNat) := ⟨cell_at (j := 0) X3.out, cell_at (j := 1) X3.out, cell_at (j := 2) X3.out⟩
  generalize w3 = V at *
  generalize hxe : w.heap.size = xb at *
  have HX := Lib.hid hxe
  clear hxe
  go_region_held3 (fun w' => w'.cell? ⟨xb, 0, none⟩ = some (.string ⟨id.toArray⟩) ∧ w'.cell? ⟨xb, 1, none⟩ = some (.int .i64 st.toNat) ∧ w'.cell? ⟨xb, 2, none⟩ = some (.int .i64 fm.toNat)) (first | exact cc | exact x22 | exact x21 | fail)
    (first | (go_at_call 110; have _chk := k21; (with_reducible refine (BF.out _).mono ?_); rintro e w22 ⟨rfl, hb22⟩; have k22 := Lib.hid (nextB k21.out hb22); have x22 := keep3 k22.out (Below.refl _ _) hxb cc; clear hb22 x21) | (go_at_call 110; (with_reducible refine (BS.out _).mono ?_); rintro e w21 ⟨rfl, hb21⟩; have k21 := Lib.hid (fr_drewB hb21); have x21 := keep3 k21.out (Below.refl _ _) hxb cc; clear hb21))
  go_wp2
  go_ret
  have hz := HX.out
  subst hz
  exact ⟨by rw [← HL.out]; rfl, nextB K3.out k22.out⟩
end Go.Proofs.Ytmnmonmbdgedbaa

namespace Go.Proofs.Ytmnmonmbdgedbaa
open Go.RowKit
set_option linter.unusedVariables false

set_option maxHeartbeats 4000000 in
set_option maxRecDepth 100000 in
theorem rfprint_4011 (id : List UInt8) (st fm gr : UInt8) (bo : List UInt8) (pl : Int) (n : Nat) (qs qf q1 qx qg qm bd D P : List UInt8) (w : World) (hid : id.length ≤ 1000) (hbo : bo.length ≤ 1000000) (hbd : bd.length ≤ 2000000)
    (GR : Hid (∀ w, Calls Try.prog 107 #[.int .i64 4, .int .i64 fm.toNat] w fun e w' => e = .returned (.bool false) ∧ w = w'))
    (ME : Hid (∀ w, Calls Try.prog 111 #[.int .i64 4, .int .i64 fm.toNat] w fun e w' => e = .returned (.bool true) ∧ w = w'))
    (SP : Hid (∀ w, Calls Try.prog 112 #[.int .i64 4, .int .i64 fm.toNat] w fun e w' => e = .returned (.bool true) ∧ w = w'))
    (BS : Hid (∀ w, Calls Try.prog 110 #[.int .u64 st.toNat, .int .i64 1] w fun e w' => e = .returned (.string ⟨qs.toArray⟩) ∧ Below w.heap.size w w'))
    (BF : Hid (∀ w, Calls Try.prog 110 #[.int .u64 fm.toNat, .int .i64 1] w fun e w' => e = .returned (.string ⟨qf.toArray⟩) ∧ Below w.heap.size w w'))
    (BX : Hid (∀ w, Calls Try.prog 110 #[.int .u64 n, .int .i64 4] w fun e w' => e = .returned (.string ⟨qx.toArray⟩) ∧ Below w.heap.size w w'))
    (BL : Hid (∀ w, Calls Try.prog 79 #[.int .u64 n] w fun e w' => e = .returned (.string ⟨q1.toArray⟩) ∧ Below w.heap.size w w'))
    (BM : Hid (∀ w, Calls Try.prog 79 #[.int .u64 bo.length] w fun e w' => e = .returned (.string ⟨qm.toArray⟩) ∧ Below w.heap.size w w'))
    (PU : Hid (∀ w, Calls Try.prog 78 #[.string ⟨bo.toArray⟩] w fun e w' => e = .returned (.string ⟨bd.toArray⟩) ∧ Below w.heap.size w w'))
    (ED : D = (qm ++ bd))    (hn : D.length = n) (l1 : q1.length ≤ 4) (l2 : qs.length ≤ 1) (l3 : qf.length ≤ 1) (l4 : qg.length ≤ 1) (l5 : qm.length ≤ 4)
    (EP : P = (id ++ (q1 ++ (qs ++ (qf ++ D)))))
    : Calls Try.prog 77 #[.int .i64 4, .agg #[.string ⟨id.toArray⟩, .int .i64 st.toNat, .int .i64 fm.toNat, .int .i64 gr.toNat, .string ⟨bo.toArray⟩, .int .i64 pl]] w (RPrint P w) := by
  have hst := byte_le st
  have hfm := byte_le fm
  have hgr := byte_le gr
  have e2 := wrapu64 bo.length (by omega)
  have e3 := wrapu64 st.toNat (by have := UInt8.toNat_lt st; omega)
  have e4 := wrapu64 fm.toNat (by have := UInt8.toNat_lt fm; omega)
  have e5 := wrapu64 gr.toNat (by have := UInt8.toNat_lt gr; omega)
  have hD : D.length ≤ 2000005 := by rw [ED]; simp; omega
  subst hn
  have HEP := Lib.hid EP
  have HED := Lib.hid ED
  clear ED
  have e1 := wrapu64 D.length (by omega)
  obtain ⟨L1, n1, A1⟩ := fr_add_run id q1 (by omega)
  obtain ⟨L2, n2, A2⟩ := fr_add_run L1 qs (by rw [n1]; simp; omega)
  obtain ⟨L3, n3, A3⟩ := fr_add_run L2 qf (by rw [n2, n1]; simp; omega)
  obtain ⟨L4, n4, A4⟩ := fr_add_run L3 D (by rw [n3, n2, n1]; simp; omega)
  have HL := Lib.hid (show L4 = P by rw [EP, n4, n3, n2, n1]; simp)
  clear EP n1 n2 n3 n4
  go_enter Try.func77, Try.ntmps77
  go_upto_region 9 with (first | (go_at_call 107; (with_reducible refine (GR.out _).mono ?_); rintro e wx ⟨rfl, rfl⟩) | (go_at_call 111; (with_reducible refine (ME.out _).mono ?_); rintro e wx ⟨rfl, rfl⟩) | (go_at_call 112; (with_reducible refine (SP.out _).mono ?_); rintro e wx ⟨rfl, rfl⟩) | (go_at_call 79; (with_reducible refine (BM.out _).mono ?_); rintro e w1 ⟨rfl, hb1⟩; have X1 := Lib.hid (block_below (at_a0 w _ _) hb1); have K1 := Lib.hid (below_a1 hb1); obtain ⟨a10, a11, a12, a13, a14, a15⟩ := cells6 (X1.out); clear hb1) | (go_at_call 78; (with_reducible refine (PU.out _).mono ?_); rintro e w2 ⟨rfl, hb2⟩; have X2 := Lib.hid (block_below X1.out hb2); have K2 := Lib.hid (nextB K1.out hb2); obtain ⟨a20, a21, a22, a23, a24, a25⟩ := cells6 (X2.out); clear hb2))
  rw [← HED.out]
  go_upto_region 15 with (first | (go_at_call 110; (with_reducible refine (BX.out _).mono ?_); rintro e w3 ⟨rfl, hb3⟩; have X3 := Lib.hid (block_below X2.out hb3); have K3 := Lib.hid (nextB K2.out hb3); obtain ⟨a30, a31, a32, a33, a34, a35⟩ := cells6 (X3.out); clear hb3) | (go_at_call 79; (with_reducible refine (BL.out _).mono ?_); rintro e w4 ⟨rfl, hb4⟩; have X4 := Lib.hid (block_below X3.out hb4); have K4 := Lib.hid (nextB K3.out hb4); obtain ⟨a40, a41, a42, a43, a44, a45⟩ := cells6 (X4.out); clear hb4))
  have hxb := (Array.getElem?_eq_some_iff.1 X4.out).1
  have cc : w4.cell? ⟨w.heap.size, 0, none⟩ = some (.string ⟨id.toArray⟩) ∧ w4.cell? ⟨w.heap.size, 1, none⟩ = some (.int .i64 st.toNat) ∧ w4.cell? ⟨w.heap.size, 2, none⟩ = some (.int .i64 fm.toNat) := ⟨cell_at (j := 0) X4.out, cell_at (j := 1) X4.out, cell_at (j := 2) X4.out⟩
  generalize w4 = V at *
  generalize hxe : w.heap.size = xb at *
  have HX := Lib.hid hxe
  clear hxe
  go_region_held3 (fun w' => w'.cell? ⟨xb, 0, none⟩ = some (.string ⟨id.toArray⟩) ∧ w'.cell? ⟨xb, 1, none⟩ = some (.int .i64 st.toNat) ∧ w'.cell? ⟨xb, 2, none⟩ = some (.int .i64 fm.toNat)) (first | exact cc | exact x22 | exact x21 | fail)
    (first | (go_at_call 110; have _chk := k21; (with_reducible refine (BF.out _).mono ?_); rintro e w22 ⟨rfl, hb22⟩; have k22 := Lib.hid (nextB k21.out hb22); have x22 := keep3 k22.out (Below.refl _ _) hxb cc; clear hb22 x21) | (go_at_call 110; (with_reducible refine (BS.out _).mono ?_); rintro e w21 ⟨rfl, hb21⟩; have k21 := Lib.hid (fr_drewB hb21); have x21 := keep3 k21.out (Below.refl _ _) hxb cc; clear hb21))
  go_wp2
  go_ret
  have hz := HX.out
  subst hz
  exact ⟨by rw [← HL.out]; rfl, nextB K4.out k22.out⟩
end Go.Proofs.Ytmnmonmbdgedbaa

namespace Go.Proofs.Ytmnmonmbdgedbaa
open Go.RowKit
set_option linter.unusedVariables false

set_option maxHeartbeats 4000000 in
set_option maxRecDepth 100000 in
theorem rfprint_4100 (id : List UInt8) (st fm gr : UInt8) (bo : List UInt8) (pl : Int) (n : Nat) (qs qf q1 qx qg qm bd D P : List UInt8) (w : World) (hid : id.length ≤ 1000) (hbo : bo.length ≤ 1000000) (hbd : bd.length ≤ 2000000)
    (GR : Hid (∀ w, Calls Try.prog 107 #[.int .i64 4, .int .i64 fm.toNat] w fun e w' => e = .returned (.bool true) ∧ w = w'))
    (ME : Hid (∀ w, Calls Try.prog 111 #[.int .i64 4, .int .i64 fm.toNat] w fun e w' => e = .returned (.bool false) ∧ w = w'))
    (SP : Hid (∀ w, Calls Try.prog 112 #[.int .i64 4, .int .i64 fm.toNat] w fun e w' => e = .returned (.bool false) ∧ w = w'))
    (BS : Hid (∀ w, Calls Try.prog 110 #[.int .u64 st.toNat, .int .i64 1] w fun e w' => e = .returned (.string ⟨qs.toArray⟩) ∧ Below w.heap.size w w'))
    (BF : Hid (∀ w, Calls Try.prog 110 #[.int .u64 fm.toNat, .int .i64 1] w fun e w' => e = .returned (.string ⟨qf.toArray⟩) ∧ Below w.heap.size w w'))
    (BX : Hid (∀ w, Calls Try.prog 110 #[.int .u64 n, .int .i64 4] w fun e w' => e = .returned (.string ⟨qx.toArray⟩) ∧ Below w.heap.size w w'))
    (BL : Hid (∀ w, Calls Try.prog 79 #[.int .u64 n] w fun e w' => e = .returned (.string ⟨q1.toArray⟩) ∧ Below w.heap.size w w'))
    (BG : Hid (∀ w, Calls Try.prog 110 #[.int .u64 gr.toNat, .int .i64 1] w fun e w' => e = .returned (.string ⟨qg.toArray⟩) ∧ Below w.heap.size w w'))
    (ED : D = (qg ++ bo))    (hn : D.length = n) (l1 : q1.length ≤ 4) (l2 : qs.length ≤ 1) (l3 : qf.length ≤ 1) (l4 : qg.length ≤ 1) (l5 : qm.length ≤ 4)
    (EP : P = (id ++ (q1 ++ (qs ++ (qf ++ D)))))
    : Calls Try.prog 77 #[.int .i64 4, .agg #[.string ⟨id.toArray⟩, .int .i64 st.toNat, .int .i64 fm.toNat, .int .i64 gr.toNat, .string ⟨bo.toArray⟩, .int .i64 pl]] w (RPrint P w) := by
  have hst := byte_le st
  have hfm := byte_le fm
  have hgr := byte_le gr
  have e2 := wrapu64 bo.length (by omega)
  have e3 := wrapu64 st.toNat (by have := UInt8.toNat_lt st; omega)
  have e4 := wrapu64 fm.toNat (by have := UInt8.toNat_lt fm; omega)
  have e5 := wrapu64 gr.toNat (by have := UInt8.toNat_lt gr; omega)
  have hD : D.length ≤ 2000005 := by rw [ED]; simp; omega
  subst hn
  have HEP := Lib.hid EP
  have HED := Lib.hid ED
  clear ED
  have e1 := wrapu64 D.length (by omega)
  obtain ⟨L1, n1, A1⟩ := fr_add_run id q1 (by omega)
  obtain ⟨L2, n2, A2⟩ := fr_add_run L1 qs (by rw [n1]; simp; omega)
  obtain ⟨L3, n3, A3⟩ := fr_add_run L2 qf (by rw [n2, n1]; simp; omega)
  obtain ⟨L4, n4, A4⟩ := fr_add_run L3 D (by rw [n3, n2, n1]; simp; omega)
  have HL := Lib.hid (show L4 = P by rw [EP, n4, n3, n2, n1]; simp)
  clear EP n1 n2 n3 n4
  go_enter Try.func77, Try.ntmps77
  go_upto_region 9 with (first | (go_at_call 107; (with_reducible refine (GR.out _).mono ?_); rintro e wx ⟨rfl, rfl⟩) | (go_at_call 111; (with_reducible refine (ME.out _).mono ?_); rintro e wx ⟨rfl, rfl⟩) | (go_at_call 112; (with_reducible refine (SP.out _).mono ?_); rintro e wx ⟨rfl, rfl⟩) | (go_at_call 110; (with_reducible refine (BG.out _).mono ?_); rintro e w1 ⟨rfl, hb1⟩; have X1 := Lib.hid (block_below (at_a0 w _ _) hb1); have K1 := Lib.hid (below_a1 hb1); obtain ⟨a10, a11, a12, a13, a14, a15⟩ := cells6 (X1.out); clear hb1))
  rw [← HED.out]
  go_upto_region 15 with (first | (go_at_call 110; (with_reducible refine (BX.out _).mono ?_); rintro e w2 ⟨rfl, hb2⟩; have X2 := Lib.hid (block_below X1.out hb2); have K2 := Lib.hid (nextB K1.out hb2); obtain ⟨a20, a21, a22, a23, a24, a25⟩ := cells6 (X2.out); clear hb2) | (go_at_call 79; (with_reducible refine (BL.out _).mono ?_); rintro e w3 ⟨rfl, hb3⟩; have X3 := Lib.hid (block_below X2.out hb3); have K3 := Lib.hid (nextB K2.out hb3); obtain ⟨a30, a31, a32, a33, a34, a35⟩ := cells6 (X3.out); clear hb3))
  have hxb := (Array.getElem?_eq_some_iff.1 X3.out).1
  have cc : w3.cell? ⟨w.heap.size, 0, none⟩ = some (.string ⟨id.toArray⟩) ∧ w3.cell? ⟨w.heap.size, 1, none⟩ = some (.int .i64 st.toNat) ∧ w3.cell? ⟨w.heap.size, 2, none⟩ = some (.int .i64 fm.toNat) := ⟨cell_at (j := 0) X3.out, cell_at (j := 1) X3.out, cell_at (j := 2) X3.out⟩
  generalize w3 = V at *
  generalize hxe : w.heap.size = xb at *
  have HX := Lib.hid hxe
  clear hxe
  go_region_held3 (fun w' => w'.cell? ⟨xb, 0, none⟩ = some (.string ⟨id.toArray⟩) ∧ w'.cell? ⟨xb, 1, none⟩ = some (.int .i64 st.toNat) ∧ w'.cell? ⟨xb, 2, none⟩ = some (.int .i64 fm.toNat)) (first | exact cc | exact x22 | exact x21 | fail)
    (first | (go_at_call 110; have _chk := k21; (with_reducible refine (BF.out _).mono ?_); rintro e w22 ⟨rfl, hb22⟩; have k22 := Lib.hid (nextB k21.out hb22); have x22 := keep3 k22.out (Below.refl _ _) hxb cc; clear hb22 x21) | (go_at_call 110; (with_reducible refine (BS.out _).mono ?_); rintro e w21 ⟨rfl, hb21⟩; have k21 := Lib.hid (fr_drewB hb21); have x21 := keep3 k21.out (Below.refl _ _) hxb cc; clear hb21))
  go_wp2
  go_ret
  have hz := HX.out
  subst hz
  exact ⟨by rw [← HL.out]; rfl, nextB K3.out k22.out⟩
end Go.Proofs.Ytmnmonmbdgedbaa

namespace Go.Proofs.Ytmnmonmbdgedbaa
open Go.RowKit
set_option linter.unusedVariables false

set_option maxHeartbeats 4000000 in
set_option maxRecDepth 100000 in
theorem rfprint_4101 (id : List UInt8) (st fm gr : UInt8) (bo : List UInt8) (pl : Int) (n : Nat) (qs qf q1 qx qg qm bd D P : List UInt8) (w : World) (hid : id.length ≤ 1000) (hbo : bo.length ≤ 1000000) (hbd : bd.length ≤ 2000000)
    (GR : Hid (∀ w, Calls Try.prog 107 #[.int .i64 4, .int .i64 fm.toNat] w fun e w' => e = .returned (.bool true) ∧ w = w'))
    (ME : Hid (∀ w, Calls Try.prog 111 #[.int .i64 4, .int .i64 fm.toNat] w fun e w' => e = .returned (.bool false) ∧ w = w'))
    (SP : Hid (∀ w, Calls Try.prog 112 #[.int .i64 4, .int .i64 fm.toNat] w fun e w' => e = .returned (.bool true) ∧ w = w'))
    (BS : Hid (∀ w, Calls Try.prog 110 #[.int .u64 st.toNat, .int .i64 1] w fun e w' => e = .returned (.string ⟨qs.toArray⟩) ∧ Below w.heap.size w w'))
    (BF : Hid (∀ w, Calls Try.prog 110 #[.int .u64 fm.toNat, .int .i64 1] w fun e w' => e = .returned (.string ⟨qf.toArray⟩) ∧ Below w.heap.size w w'))
    (BX : Hid (∀ w, Calls Try.prog 110 #[.int .u64 n, .int .i64 4] w fun e w' => e = .returned (.string ⟨qx.toArray⟩) ∧ Below w.heap.size w w'))
    (BL : Hid (∀ w, Calls Try.prog 79 #[.int .u64 n] w fun e w' => e = .returned (.string ⟨q1.toArray⟩) ∧ Below w.heap.size w w'))
    (BG : Hid (∀ w, Calls Try.prog 110 #[.int .u64 gr.toNat, .int .i64 1] w fun e w' => e = .returned (.string ⟨qg.toArray⟩) ∧ Below w.heap.size w w'))
    (PU : Hid (∀ w, Calls Try.prog 78 #[.string ⟨bo.toArray⟩] w fun e w' => e = .returned (.string ⟨bd.toArray⟩) ∧ Below w.heap.size w w'))
    (ED : D = (qg ++ bd))    (hn : D.length = n) (l1 : q1.length ≤ 4) (l2 : qs.length ≤ 1) (l3 : qf.length ≤ 1) (l4 : qg.length ≤ 1) (l5 : qm.length ≤ 4)
    (EP : P = (id ++ (q1 ++ (qs ++ (qf ++ D)))))
    : Calls Try.prog 77 #[.int .i64 4, .agg #[.string ⟨id.toArray⟩, .int .i64 st.toNat, .int .i64 fm.toNat, .int .i64 gr.toNat, .string ⟨bo.toArray⟩, .int .i64 pl]] w (RPrint P w) := by
  have hst := byte_le st
  have hfm := byte_le fm
  have hgr := byte_le gr
  have e2 := wrapu64 bo.length (by omega)
  have e3 := wrapu64 st.toNat (by have := UInt8.toNat_lt st; omega)
  have e4 := wrapu64 fm.toNat (by have := UInt8.toNat_lt fm; omega)
  have e5 := wrapu64 gr.toNat (by have := UInt8.toNat_lt gr; omega)
  have hD : D.length ≤ 2000005 := by rw [ED]; simp; omega
  subst hn
  have HEP := Lib.hid EP
  have HED := Lib.hid ED
  clear ED
  have e1 := wrapu64 D.length (by omega)
  obtain ⟨L1, n1, A1⟩ := fr_add_run id q1 (by omega)
  obtain ⟨L2, n2, A2⟩ := fr_add_run L1 qs (by rw [n1]; simp; omega)
  obtain ⟨L3, n3, A3⟩ := fr_add_run L2 qf (by rw [n2, n1]; simp; omega)
  obtain ⟨L4, n4, A4⟩ := fr_add_run L3 D (by rw [n3, n2, n1]; simp; omega)
  have HL := Lib.hid (show L4 = P by rw [EP, n4, n3, n2, n1]; simp)
  clear EP n1 n2 n3 n4
  go_enter Try.func77, Try.ntmps77
  go_upto_region 9 with (first | (go_at_call 107; (with_reducible refine (GR.out _).mono ?_); rintro e wx ⟨rfl, rfl⟩) | (go_at_call 111; (with_reducible refine (ME.out _).mono ?_); rintro e wx ⟨rfl, rfl⟩) | (go_at_call 112; (with_reducible refine (SP.out _).mono ?_); rintro e wx ⟨rfl, rfl⟩) | (go_at_call 110; (with_reducible refine (BG.out _).mono ?_); rintro e w1 ⟨rfl, hb1⟩; have X1 := Lib.hid (block_below (at_a0 w _ _) hb1); have K1 := Lib.hid (below_a1 hb1); obtain ⟨a10, a11, a12, a13, a14, a15⟩ := cells6 (X1.out); clear hb1) | (go_at_call 78; (with_reducible refine (PU.out _).mono ?_); rintro e w2 ⟨rfl, hb2⟩; have X2 := Lib.hid (block_below X1.out hb2); have K2 := Lib.hid (nextB K1.out hb2); obtain ⟨a20, a21, a22, a23, a24, a25⟩ := cells6 (X2.out); clear hb2))
  rw [← HED.out]
  go_upto_region 15 with (first | (go_at_call 110; (with_reducible refine (BX.out _).mono ?_); rintro e w3 ⟨rfl, hb3⟩; have X3 := Lib.hid (block_below X2.out hb3); have K3 := Lib.hid (nextB K2.out hb3); obtain ⟨a30, a31, a32, a33, a34, a35⟩ := cells6 (X3.out); clear hb3) | (go_at_call 79; (with_reducible refine (BL.out _).mono ?_); rintro e w4 ⟨rfl, hb4⟩; have X4 := Lib.hid (block_below X3.out hb4); have K4 := Lib.hid (nextB K3.out hb4); obtain ⟨a40, a41, a42, a43, a44, a45⟩ := cells6 (X4.out); clear hb4))
  have hxb := (Array.getElem?_eq_some_iff.1 X4.out).1
  have cc : w4.cell? ⟨w.heap.size, 0, none⟩ = some (.string ⟨id.toArray⟩) ∧ w4.cell? ⟨w.heap.size, 1, none⟩ = some (.int .i64 st.toNat) ∧ w4.cell? ⟨w.heap.size, 2, none⟩ = some (.int .i64 fm.toNat) := ⟨cell_at (j := 0) X4.out, cell_at (j := 1) X4.out, cell_at (j := 2) X4.out⟩
  generalize w4 = V at *
  generalize hxe : w.heap.size = xb at *
  have HX := Lib.hid hxe
  clear hxe
  go_region_held3 (fun w' => w'.cell? ⟨xb, 0, none⟩ = some (.string ⟨id.toArray⟩) ∧ w'.cell? ⟨xb, 1, none⟩ = some (.int .i64 st.toNat) ∧ w'.cell? ⟨xb, 2, none⟩ = some (.int .i64 fm.toNat)) (first | exact cc | exact x22 | exact x21 | fail)
    (first | (go_at_call 110; have _chk := k21; (with_reducible refine (BF.out _).mono ?_); rintro e w22 ⟨rfl, hb22⟩; have k22 := Lib.hid (nextB k21.out hb22); have x22 := keep3 k22.out (Below.refl _ _) hxb cc; clear hb22 x21) | (go_at_call 110; (with_reducible refine (BS.out _).mono ?_); rintro e w21 ⟨rfl, hb21⟩; have k21 := Lib.hid (fr_drewB hb21); have x21 := keep3 k21.out (Below.refl _ _) hxb cc; clear hb21))
  go_wp2
  go_ret
  have hz := HX.out
  subst hz
  exact ⟨by rw [← HL.out]; rfl, nextB K4.out k22.out⟩
end Go.Proofs.Ytmnmonmbdgedbaa

namespace Go.Proofs.Ytmnmonmbdgedbaa
open Go.RowKit
set_option linter.unusedVariables false

set_option maxHeartbeats 4000000 in
set_option maxRecDepth 100000 in
theorem rfprint_4110 (id : List UInt8) (st fm gr : UInt8) (bo : List UInt8) (pl : Int) (n : Nat) (qs qf q1 qx qg qm bd D P : List UInt8) (w : World) (hid : id.length ≤ 1000) (hbo : bo.length ≤ 1000000) (hbd : bd.length ≤ 2000000)
    (GR : Hid (∀ w, Calls Try.prog 107 #[.int .i64 4, .int .i64 fm.toNat] w fun e w' => e = .returned (.bool true) ∧ w = w'))
    (ME : Hid (∀ w, Calls Try.prog 111 #[.int .i64 4, .int .i64 fm.toNat] w fun e w' => e = .returned (.bool true) ∧ w = w'))
    (SP : Hid (∀ w, Calls Try.prog 112 #[.int .i64 4, .int .i64 fm.toNat] w fun e w' => e = .returned (.bool false) ∧ w = w'))
    (BS : Hid (∀ w, Calls Try.prog 110 #[.int .u64 st.toNat, .int .i64 1] w fun e w' => e = .returned (.string ⟨qs.toArray⟩) ∧ Below w.heap.size w w'))
    (BF : Hid (∀ w, Calls Try.prog 110 #[.int .u64 fm.toNat, .int .i64 1] w fun e w' => e = .returned (.string ⟨qf.toArray⟩) ∧ Below w.heap.size w w'))
    (BX : Hid (∀ w, Calls Try.prog 110 #[.int .u64 n, .int .i64 4] w fun e w' => e = .returned (.string ⟨qx.toArray⟩) ∧ Below w.heap.size w w'))
    (BL : Hid (∀ w, Calls Try.prog 79 #[.int .u64 n] w fun e w' => e = .returned (.string ⟨q1.toArray⟩) ∧ Below w.heap.size w w'))
    (BG : Hid (∀ w, Calls Try.prog 110 #[.int .u64 gr.toNat, .int .i64 1] w fun e w' => e = .returned (.string ⟨qg.toArray⟩) ∧ Below w.heap.size w w'))
    (BM : Hid (∀ w, Calls Try.prog 79 #[.int .u64 bo.length] w fun e w' => e = .returned (.string ⟨qm.toArray⟩) ∧ Below w.heap.size w w'))
    (ED : D = (qg ++ (qm ++ bo)))    (hn : D.length = n) (l1 : q1.length ≤ 4) (l2 : qs.length ≤ 1) (l3 : qf.length ≤ 1) (l4 : qg.length ≤ 1) (l5 : qm.length ≤ 4)
    (EP : P = (id ++ (q1 ++ (qs ++ (qf ++ D)))))
    : Calls Try.prog 77 #[.int .i64 4, .agg #[.string ⟨id.toArray⟩, .int .i64 st.toNat, .int .i64 fm.toNat, .int .i64 gr.toNat, .string ⟨bo.toArray⟩, .int .i64 pl]] w (RPrint P w) := by
  have hst := byte_le st
  have hfm := byte_le fm
  have hgr := byte_le gr
  have e2 := wrapu64 bo.length (by omega)
  have e3 := wrapu64 st.toNat (by have := UInt8.toNat_lt st; omega)
  have e4 := wrapu64 fm.toNat (by have := UInt8.toNat_lt fm; omega)
  have e5 := wrapu64 gr.toNat (by have := UInt8.toNat_lt gr; omega)
  have hD : D.length ≤ 2000005 := by rw [ED]; simp; omega
  subst hn
  have HEP := Lib.hid EP
  have HED := Lib.hid ED
  clear ED
  have e1 := wrapu64 D.length (by omega)
  obtain ⟨L1, n1, A1⟩ := fr_add_run id q1 (by omega)
  obtain ⟨L2, n2, A2⟩ := fr_add_run L1 qs (by rw [n1]; simp; omega)
  obtain ⟨L3, n3, A3⟩ := fr_add_run L2 qf (by rw [n2, n1]; simp; omega)
  obtain ⟨L4, n4, A4⟩ := fr_add_run L3 D (by rw [n3, n2, n1]; simp; omega)
  have HL := Lib.hid (show L4 = P by rw [EP, n4, n3, n2, n1]; simp)
  clear EP n1 n2 n3 n4
  go_enter Try.func77, Try.ntmps77
  go_upto_region 9 with (first | (go_at_call 107; (with_reducible refine (GR.out _).mono ?_); rintro e wx ⟨rfl, rfl⟩) | (go_at_call 111; (with_reducible refine (ME.out _).mono ?_); rintro e wx ⟨rfl, rfl⟩) | (go_at_call 112; (with_reducible refine (SP.out _).mono ?_); rintro e wx ⟨rfl, rfl⟩) | (go_at_call 110; (with_reducible refine (BG.out _).mono ?_); rintro e w1 ⟨rfl, hb1⟩; have X1 := Lib.hid (block_below (at_a0 w _ _) hb1); have K1 := Lib.hid (below_a1 hb1); obtain ⟨a10, a11, a12, a13, a14, a15⟩ := cells6 (X1.out); clear hb1) | (go_at_call 79; (with_reducible refine (BM.out _).mono ?_); rintro e w2 ⟨rfl, hb2⟩; have X2 := Lib.hid (block_below X1.out hb2); have K2 := Lib.hid (nextB K1.out hb2); obtain ⟨a20, a21, a22, a23, a24, a25⟩ := cells6 (X2.out); clear hb2))
  rw [← HED.out]
  go_upto_region 15 with (first | (go_at_call 110; (with_reducible refine (BX.out _).mono ?_); rintro e w3 ⟨rfl, hb3⟩; have X3 := Lib.hid (block_below X2.out hb3); have K3 := Lib.hid (nextB K2.out hb3); obtain ⟨a30, a31, a32, a33, a34, a35⟩ := cells6 (X3.out); clear hb3) | (go_at_call 79; (with_reducible refine (BL.out _).mono ?_); rintro e w4 ⟨rfl, hb4⟩; have X4 := Lib.hid (block_below X3.out hb4); have K4 := Lib.hid (nextB K3.out hb4); obtain ⟨a40, a41, a42, a43, a44, a45⟩ := cells6 (X4.out); clear hb4))
  have hxb := (Array.getElem?_eq_some_iff.1 X4.out).1
  have cc : w4.cell? ⟨w.heap.size, 0, none⟩ = some (.string ⟨id.toArray⟩) ∧ w4.cell? ⟨w.heap.size, 1, none⟩ = some (.int .i64 st.toNat) ∧ w4.cell? ⟨w.heap.size, 2, none⟩ = some (.int .i64 fm.toNat) := ⟨cell_at (j := 0) X4.out, cell_at (j := 1) X4.out, cell_at (j := 2) X4.out⟩
  generalize w4 = V at *
  generalize hxe : w.heap.size = xb at *
  have HX := Lib.hid hxe
  clear hxe
  go_region_held3 (fun w' => w'.cell? ⟨xb, 0, none⟩ = some (.string ⟨id.toArray⟩) ∧ w'.cell? ⟨xb, 1, none⟩ = some (.int .i64 st.toNat) ∧ w'.cell? ⟨xb, 2, none⟩ = some (.int .i64 fm.toNat)) (first | exact cc | exact x22 | exact x21 | fail)
    (first | (go_at_call 110; have _chk := k21; (with_reducible refine (BF.out _).mono ?_); rintro e w22 ⟨rfl, hb22⟩; have k22 := Lib.hid (nextB k21.out hb22); have x22 := keep3 k22.out (Below.refl _ _) hxb cc; clear hb22 x21) | (go_at_call 110; (with_reducible refine (BS.out _).mono ?_); rintro e w21 ⟨rfl, hb21⟩; have k21 := Lib.hid (fr_drewB hb21); have x21 := keep3 k21.out (Below.refl _ _) hxb cc; clear hb21))
  go_wp2
  go_ret
  have hz := HX.out
  subst hz
  exact ⟨by rw [← HL.out]; rfl, nextB K4.out k22.out⟩
end Go.Proofs.Ytmnmonmbdgedbaa

namespace Go.Proofs.Ytmnmonmbdgedbaa
open Go.RowKit
set_option linter.unusedVariables false

set_option maxHeartbeats 4000000 in
set_option maxRecDepth 100000 in
theorem rfprint_4111 (id : List UInt8) (st fm gr : UInt8) (bo : List UInt8) (pl : Int) (n : Nat) (qs qf q1 qx qg qm bd D P : List UInt8) (w : World) (hid : id.length ≤ 1000) (hbo : bo.length ≤ 1000000) (hbd : bd.length ≤ 2000000)
    (GR : Hid (∀ w, Calls Try.prog 107 #[.int .i64 4, .int .i64 fm.toNat] w fun e w' => e = .returned (.bool true) ∧ w = w'))
    (ME : Hid (∀ w, Calls Try.prog 111 #[.int .i64 4, .int .i64 fm.toNat] w fun e w' => e = .returned (.bool true) ∧ w = w'))
    (SP : Hid (∀ w, Calls Try.prog 112 #[.int .i64 4, .int .i64 fm.toNat] w fun e w' => e = .returned (.bool true) ∧ w = w'))
    (BS : Hid (∀ w, Calls Try.prog 110 #[.int .u64 st.toNat, .int .i64 1] w fun e w' => e = .returned (.string ⟨qs.toArray⟩) ∧ Below w.heap.size w w'))
    (BF : Hid (∀ w, Calls Try.prog 110 #[.int .u64 fm.toNat, .int .i64 1] w fun e w' => e = .returned (.string ⟨qf.toArray⟩) ∧ Below w.heap.size w w'))
    (BX : Hid (∀ w, Calls Try.prog 110 #[.int .u64 n, .int .i64 4] w fun e w' => e = .returned (.string ⟨qx.toArray⟩) ∧ Below w.heap.size w w'))
    (BL : Hid (∀ w, Calls Try.prog 79 #[.int .u64 n] w fun e w' => e = .returned (.string ⟨q1.toArray⟩) ∧ Below w.heap.size w w'))
    (BG : Hid (∀ w, Calls Try.prog 110 #[.int .u64 gr.toNat, .int .i64 1] w fun e w' => e = .returned (.string ⟨qg.toArray⟩) ∧ Below w.heap.size w w'))
    (BM : Hid (∀ w, Calls Try.prog 79 #[.int .u64 bo.length] w fun e w' => e = .returned (.string ⟨qm.toArray⟩) ∧ Below w.heap.size w w'))
    (PU : Hid (∀ w, Calls Try.prog 78 #[.string ⟨bo.toArray⟩] w fun e w' => e = .returned (.string ⟨bd.toArray⟩) ∧ Below w.heap.size w w'))
    (ED : D = (qg ++ (qm ++ bd)))    (hn : D.length = n) (l1 : q1.length ≤ 4) (l2 : qs.length ≤ 1) (l3 : qf.length ≤ 1) (l4 : qg.length ≤ 1) (l5 : qm.length ≤ 4)
    (EP : P = (id ++ (q1 ++ (qs ++ (qf ++ D)))))
    : Calls Try.prog 77 #[.int .i64 4, .agg #[.string ⟨id.toArray⟩, .int .i64 st.toNat, .int .i64 fm.toNat, .int .i64 gr.toNat, .string ⟨bo.toArray⟩, .int .i64 pl]] w (RPrint P w) := by
  have hst := byte_le st
  have hfm := byte_le fm
  have hgr := byte_le gr
  have e2 := wrapu64 bo.length (by omega)
  have e3 := wrapu64 st.toNat (by have := UInt8.toNat_lt st; omega)
  have e4 := wrapu64 fm.toNat (by have := UInt8.toNat_lt fm; omega)
  have e5 := wrapu64 gr.toNat (by have := UInt8.toNat_lt gr; omega)
  have hD : D.length ≤ 2000005 := by rw [ED]; simp; omega
  subst hn
  have HEP := Lib.hid EP
  have HED := Lib.hid ED
  clear ED
  have e1 := wrapu64 D.length (by omega)
  obtain ⟨L1, n1, A1⟩ := fr_add_run id q1 (by omega)
  obtain ⟨L2, n2, A2⟩ := fr_add_run L1 qs (by rw [n1]; simp; omega)
  obtain ⟨L3, n3, A3⟩ := fr_add_run L2 qf (by rw [n2, n1]; simp; omega)
  obtain ⟨L4, n4, A4⟩ := fr_add_run L3 D (by rw [n3, n2, n1]; simp; omega)
  have HL := Lib.hid (show L4 = P by rw [EP, n4, n3, n2, n1]; simp)
  clear EP n1 n2 n3 n4
  go_enter Try.func77, Try.ntmps77
  go_upto_region 9 with (first | (go_at_call 107; (with_reducible refine (GR.out _).mono ?_); rintro e wx ⟨rfl, rfl⟩) | (go_at_call 111; (with_reducible refine (ME.out _).mono ?_); rintro e wx ⟨rfl, rfl⟩) | (go_at_call 112; (with_reducible refine (SP.out _).mono ?_); rintro e wx ⟨rfl, rfl⟩) | (go_at_call 110; (with_reducible refine (BG.out _).mono ?_); rintro e w1 ⟨rfl, hb1⟩; have X1 := Lib.hid (block_below (at_a0 w _ _) hb1); have K1 := Lib.hid (below_a1 hb1); obtain ⟨a10, a11, a12, a13, a14, a15⟩ := cells6 (X1.out); clear hb1) | (go_at_call 79; (with_reducible refine (BM.out _).mono ?_); rintro e w2 ⟨rfl, hb2⟩; have X2 := Lib.hid (block_below X1.out hb2); have K2 := Lib.hid (nextB K1.out hb2); obtain ⟨a20, a21, a22, a23, a24, a25⟩ := cells6 (X2.out); clear hb2) | (go_at_call 78; (with_reducible refine (PU.out _).mono ?_); rintro e w3 ⟨rfl, hb3⟩; have X3 := Lib.hid (block_below X2.out hb3); have K3 := Lib.hid (nextB K2.out hb3); obtain ⟨a30, a31, a32, a33, a34, a35⟩ := cells6 (X3.out); clear hb3))
  rw [← HED.out]
  go_upto_region 15 with (first | (go_at_call 110; (with_reducible refine (BX.out _).mono ?_); rintro e w4 ⟨rfl, hb4⟩; have X4 := Lib.hid (block_below X3.out hb4); have K4 := Lib.hid (nextB K3.out hb4); obtain ⟨a40, a41, a42, a43, a44, a45⟩ := cells6 (X4.out); clear hb4) | (go_at_call 79; (with_reducible refine (BL.out _).mono ?_); rintro e w5 ⟨rfl, hb5⟩; have X5 := Lib.hid (block_below X4.out hb5); have K5 := Lib.hid (nextB K4.out hb5); obtain ⟨a50, a51, a52, a53, a54, a55⟩ := cells6 (X5.out); clear hb5))
  have hxb := (Array.getElem?_eq_some_iff.1 X5.out).1
  have cc : w5.cell? ⟨w.heap.size, 0, none⟩ = some (.string ⟨id.toArray⟩) ∧ w5.cell? ⟨w.heap.size, 1, none⟩ = some (.int .i64 st.toNat) ∧ w5.cell? ⟨w.heap.size, 2, none⟩ = some (.int .i64 fm.toNat) := ⟨cell_at (j := 0) X5.out, cell_at (j := 1) X5.out, cell_at (j := 2) X5.out⟩
  generalize w5 = V at *
  generalize hxe : w.heap.size = xb at *
  have HX := Lib.hid hxe
  clear hxe
  go_region_held3 (fun w' => w'.cell? ⟨xb, 0, none⟩ = some (.string ⟨id.toArray⟩) ∧ w'.cell? ⟨xb, 1, none⟩ = some (.int .i64 st.toNat) ∧ w'.cell? ⟨xb, 2, none⟩ = some (.int .i64 fm.toNat)) (first | exact cc | exact x22 | exact x21 | fail)
    (first | (go_at_call 110; have _chk := k21; (with_reducible refine (BF.out _).mono ?_); rintro e w22 ⟨rfl, hb22⟩; have k22 := Lib.hid (nextB k21.out hb22); have x22 := keep3 k22.out (Below.refl _ _) hxb cc; clear hb22 x21) | (go_at_call 110; (with_reducible refine (BS.out _).mono ?_); rintro e w21 ⟨rfl, hb21⟩; have k21 := Lib.hid (fr_drewB hb21); have x21 := keep3 k21.out (Below.refl _ _) hxb cc; clear hb21))
  go_wp2
  go_ret
  have hz := HX.out
  subst hz
  exact ⟨by rw [← HL.out]; rfl, nextB K5.out k22.out⟩
end Go.Proofs.Ytmnmonmbdgedbaa
