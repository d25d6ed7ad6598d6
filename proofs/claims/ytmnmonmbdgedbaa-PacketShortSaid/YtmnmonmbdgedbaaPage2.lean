/- Layer 17 (page): a page's parts, walked. -/
import Derived.Test.YtmnmonmbdgedbaaPage1
import Derived.Deep.RegionHeld3
import Derived.Deep.DeepCutAuto
namespace Go.Proofs.Ytmnmonmbdgedbaa
open Go.RowKit
set_option linter.unusedVariables false

def partsL (p : Pg) (four : List UInt8) : List (List UInt8) := [[79, 103, 103, 83], [0], bigL p.fl.toNat 1, smallL p.po 8, smallL p.se 4, smallL p.nu 4, four, bigL p.la.length 1, p.la, p.bo]
theorem wrap_u64 (n : Nat) (h : n < 18446744073709551616) : IntKind.u64.wrap (n : Int) = n := by simp only [IntKind.wrap, IntKind.bits, IntKind.signed]; simp; omega
/-- six cells of block b, kept behind new memory -/
theorem keep6 {V W w : World} {b : Nat} {v0 v1 v2 v3 v4 v5 : Value} (hb : Below V.heap.size V W) (k : Below W.heap.size W w) (hx : b < V.heap.size)
    (h : V.cell? ⟨b, 0, none⟩ = some v0 ∧ V.cell? ⟨b, 1, none⟩ = some v1 ∧ V.cell? ⟨b, 2, none⟩ = some v2 ∧ V.cell? ⟨b, 3, none⟩ = some v3 ∧ V.cell? ⟨b, 4, none⟩ = some v4 ∧ V.cell? ⟨b, 5, none⟩ = some v5) :
    w.cell? ⟨b, 0, none⟩ = some v0 ∧ w.cell? ⟨b, 1, none⟩ = some v1 ∧ w.cell? ⟨b, 2, none⟩ = some v2 ∧ w.cell? ⟨b, 3, none⟩ = some v3 ∧ w.cell? ⟨b, 4, none⟩ = some v4 ∧ w.cell? ⟨b, 5, none⟩ = some v5 := by
  have hb2 := nextB hb k
  have e : ∀ j, w.cell? ⟨b, j, none⟩ = V.cell? ⟨b, j, none⟩ := fun j => hb2.cell (p := ⟨b, j, none⟩) hx
  rw [e, e, e, e, e, e]
  exact h
theorem drewB {V w : World} (hb : Below V.drew.heap.size V.drew w) : Below V.heap.size V w := ⟨hb.os, hb.tape, hb.output, hb.size, hb.block⟩
theorem strs10 {w : World} (a0 a1 a2 a3 a4 a5 a6 a7 a8 a9 : List UInt8) (T : TypeId) :
    StrsAt (w.alloc (.cells #[.string ⟨a0.toArray⟩, .string ⟨a1.toArray⟩, .string ⟨a2.toArray⟩, .string ⟨a3.toArray⟩, .string ⟨a4.toArray⟩, .string ⟨a5.toArray⟩, .string ⟨a6.toArray⟩, .string ⟨a7.toArray⟩, .string ⟨a8.toArray⟩, .string ⟨a9.toArray⟩] T)) (some ⟨w.heap.size, 0, none⟩) 10 [a0, a1, a2, a3, a4, a5, a6, a7, a8, a9] := by
  refine ⟨rfl, .inr ⟨_, _, rfl, by simp, ?_⟩⟩
  intro i h
  match i, h with
  | 0, _ => exact cell_at (at_a0 _ _ _)
  | 1, _ => exact cell_at (at_a0 _ _ _)
  | 2, _ => exact cell_at (at_a0 _ _ _)
  | 3, _ => exact cell_at (at_a0 _ _ _)
  | 4, _ => exact cell_at (at_a0 _ _ _)
  | 5, _ => exact cell_at (at_a0 _ _ _)
  | 6, _ => exact cell_at (at_a0 _ _ _)
  | 7, _ => exact cell_at (at_a0 _ _ _)
  | 8, _ => exact cell_at (at_a0 _ _ _)
  | 9, _ => exact cell_at (at_a0 _ _ _)

set_option maxHeartbeats 4000000 in
set_option maxRecDepth 100000 in
theorem parts_any (p : Pg) (four : List UInt8) (w : World) (hp : p.Ok) (hl : p.la.length ≤ 1000000000) :
    Calls Try.prog 142 #[pgV p, .string ⟨four.toArray⟩] w fun e w' => ∃ g, e = .returned (.slice (some ⟨g, 0, none⟩) 10 10) ∧ StrsAt w' (some ⟨g, 0, none⟩) 10 (partsL p four) ∧ Below w.heap.size w w' := by
  have hf := UInt8.toNat_lt p.fl
  have B1 := Lib.hid (fun w => big_any p.fl.toNat 1 1 w (Lib.hid (by omega)) (Lib.hid (by decide)))
  have S1 := Lib.hid (fun w => small_any p.po 8 8 w (Lib.hid hp.1) (Lib.hid (by decide)))
  have S2 := Lib.hid (fun w => small_any p.se 4 4 w (Lib.hid (by have := hp.2.1; omega)) (Lib.hid (by decide)))
  have S3 := Lib.hid (fun w => small_any p.nu 4 4 w (Lib.hid (by have := hp.2.2; omega)) (Lib.hid (by decide)))
  have B2 := Lib.hid (fun w => big_any p.la.length 1 1 w (Lib.hid (by omega)) (Lib.hid (by decide)))
  unfold pgV pgR partsL
  have e1 := wrap_u64 p.la.length (by omega)
  have e2 := wrap_u64 p.fl.toNat (by omega)
  have e3 := wrap_u64 p.se (by have := hp.2.1; omega)
  have e4 := wrap_u64 p.nu (by have := hp.2.2; omega)
  clear hp hf
  generalize bigL p.fl.toNat 1 = q1 at *
  generalize smallL p.po 8 = q2 at *
  generalize smallL p.se 4 = q3 at *
  generalize smallL p.nu 4 = q4 at *
  generalize bigL p.la.length 1 = q5 at *
  go_enter Try.func142, Try.ntmps142
  go_upto_region 1 with (fail)
  have hbx := at_a0 w #[.int .u8 p.fl.toNat, .int .u64 p.po, .int .u32 p.se, .int .u32 p.nu, .string ⟨p.la.toArray⟩, .string ⟨p.bo.toArray⟩] 66
  have HB0 := Lib.hid (show Below w.heap.size w (w.alloc (.cells #[.int .u8 p.fl.toNat, .int .u64 p.po, .int .u32 p.se, .int .u32 p.nu, .string ⟨p.la.toArray⟩, .string ⟨p.bo.toArray⟩] 66)) from (Below.refl _ _).alloc (Nat.le_refl _) _)
  have hxb : w.heap.size < (w.alloc (.cells #[.int .u8 p.fl.toNat, .int .u64 p.po, .int .u32 p.se, .int .u32 p.nu, .string ⟨p.la.toArray⟩, .string ⟨p.bo.toArray⟩] 66)).heap.size := by simp
  have cc : _ ∧ _ ∧ _ ∧ _ ∧ _ ∧ _ := ⟨cell_at (j := 0) hbx, cell_at (j := 1) hbx, cell_at (j := 2) hbx, cell_at (j := 3) hbx, cell_at (j := 4) hbx, cell_at (j := 5) hbx⟩
  simp only [List.getElem?_toArray, List.getElem?_cons_zero, List.getElem?_cons_succ] at cc
  generalize w.alloc (.cells #[.int .u8 p.fl.toNat, .int .u64 p.po, .int .u32 p.se, .int .u32 p.nu, .string ⟨p.la.toArray⟩, .string ⟨p.bo.toArray⟩] 66) = V at *
  generalize hxe : w.heap.size = xb at *
  have HX := Lib.hid hxe
  clear hbx hxe
  go_region_held3 (fun w' => w'.cell? ⟨xb, 0, none⟩ = some (.int .u8 p.fl.toNat) ∧ w'.cell? ⟨xb, 1, none⟩ = some (.int .u64 p.po) ∧ w'.cell? ⟨xb, 2, none⟩ = some (.int .u32 p.se) ∧ w'.cell? ⟨xb, 3, none⟩ = some (.int .u32 p.nu) ∧ w'.cell? ⟨xb, 4, none⟩ = some (.string ⟨p.la.toArray⟩) ∧ w'.cell? ⟨xb, 5, none⟩ = some (.string ⟨p.bo.toArray⟩)) (first | exact cc | exact keep6 k5.out ((Below.refl _ _).alloc (Nat.le_refl _) _) hxb cc | exact x5 | exact x4 | exact x3 | exact x2 | exact x1 | fail)
    (first | (go_at_call 51; have _chk := k4; (with_reducible refine (B2.out _).mono ?_); rintro e w5 ⟨rfl, hb5⟩; have k5 := Lib.hid (nextB k4.out hb5); have x5 := keep6 k5.out (Below.refl _ _) hxb cc; clear hb5 x4) | (go_at_call 149; have _chk := k3; (with_reducible refine (S3.out _).mono ?_); rintro e w4 ⟨rfl, hb4⟩; have k4 := Lib.hid (nextB k3.out hb4); have x4 := keep6 k4.out (Below.refl _ _) hxb cc; clear hb4 x3) | (go_at_call 149; have _chk := k2; (with_reducible refine (S2.out _).mono ?_); rintro e w3 ⟨rfl, hb3⟩; have k3 := Lib.hid (nextB k2.out hb3); have x3 := keep6 k3.out (Below.refl _ _) hxb cc; clear hb3 x2) | (go_at_call 149; have _chk := k1; (with_reducible refine (S1.out _).mono ?_); rintro e w2 ⟨rfl, hb2⟩; have k2 := Lib.hid (nextB k1.out hb2); have x2 := keep6 k2.out (Below.refl _ _) hxb cc; clear hb2 x1) | (go_at_call 51; (with_reducible refine (B1.out _).mono ?_); rintro e w1 ⟨rfl, hb1⟩; have k1 := Lib.hid (drewB hb1); have x1 := keep6 k1.out (Below.refl _ _) hxb cc; clear hb1))
  go_wp2
  go_ret
  refine ⟨_, rfl, strs10 _ _ _ _ _ _ _ _ _ _ _, ?_⟩
  have hz := HX.out
  subst hz
  exact (nextB HB0.out k5.out).alloc (nextB HB0.out k5.out).size _
end Go.Proofs.Ytmnmonmbdgedbaa
