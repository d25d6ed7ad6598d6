/- Layer 13 (frame): Print, walked (printed by fr9.py). -/
import Derived.Test.YtmnmonmbdgedbaaFr8
import Derived.Test.YtmnmonmbdgedbaaParts
import Derived.Deep.RegionHeld3
namespace Go.Proofs.Ytmnmonmbdgedbaa
open Go.RowKit
set_option linter.unusedVariables false

theorem wrapu64 (n : Nat) (h : n < 18446744073709551616) : IntKind.u64.wrap (n : Int) = n := by simp only [IntKind.wrap, IntKind.bits, IntKind.signed]; simp; omega
theorem fr_drewB {V w : World} (hb : Below V.drew.heap.size V.drew w) : Below V.heap.size V w := ⟨hb.os, hb.tape, hb.output, hb.size, hb.block⟩
theorem keep2 {V W w : World} {b : Nat} {v1 v2 : Value} (hb : Below V.heap.size V W) (k : Below W.heap.size W w) (hx : b < V.heap.size)
    (h : V.cell? ⟨b, 1, none⟩ = some v1 ∧ V.cell? ⟨b, 2, none⟩ = some v2) : w.cell? ⟨b, 1, none⟩ = some v1 ∧ w.cell? ⟨b, 2, none⟩ = some v2 := by
  have hb2 := nextB hb k
  have e : ∀ j, w.cell? ⟨b, j, none⟩ = V.cell? ⟨b, j, none⟩ := fun j => hb2.cell (p := ⟨b, j, none⟩) hx
  rw [e, e]
  exact h
def FPrints (s : List UInt8) (c : Int) (w : World) (e : Ending) (w' : World) : Prop := e = .returned (.tuple #[.string ⟨s.toArray⟩, .agg #[.int .i64 c, .int .i64 0]]) ∧ Below w.heap.size w w'
set_option maxHeartbeats 1000000 in
set_option maxRecDepth 100000 in
theorem fprint_bad (v : Int) (id : List UInt8) (st fm gr : UInt8) (bo : List UInt8) (pl c : Int) (w : World) (hc : c ≠ 0)
    (CK : Hid (∀ w, Calls Try.prog 76 #[.agg (frC id st fm gr bo pl), .int .i64 v] w (CheckF c w))) :
    Calls Try.prog 88 #[.agg (frC id st fm gr bo pl), .int .i64 v] w (FPrints [] c w) := by
  have BD := Lib.hid (fun w => bad_any c 0 w)
  rw [show (c != 0) = true by simpa using hc] at BD
  unfold frC CheckF at *
  clear hc
  go_enter Try.func88, Try.ntmps88
  go_upto_region 3 with (first | (go_at_call 76; (with_reducible refine (CK.out _).mono ?_); rintro e w1 ⟨rfl, hb1⟩; have K1 := Lib.hid hb1; have HF1 := Lib.hid (block_below (at_a2 w _ _ _) hb1); clear hb1) | (go_at_call 16; (with_reducible refine (BD.out _).mono ?_); rintro e w2 ⟨rfl, hb2⟩; have K2 := Lib.hid hb2; clear hb2))
  have hF2 := block_below ((heap_alloc_old w1 (.cells #[.int .i64 c, .int .i64 0] 31) (Array.getElem?_eq_some_iff.1 HF1.out).1).trans HF1.out) K2.out
  have hT2 := block_below (at_a0 w1 #[.int .i64 c, .int .i64 0] 31) K2.out
  obtain ⟨c0, c1⟩ := cells2 (hT2)
  obtain ⟨d0, d1⟩ := cells2 (hF2); obtain ⟨df0, df1⟩ := frees2 (hF2)
  have K := Lib.hid (nextB (nextB (((Below.refl _ _).alloc (Nat.le_refl _) _).alloc (by simp) _) K1.out) (below_a1 K2.out))
  have HF := Lib.hid hF2
  have hne : w.heap.size + 1 ≠ w1.heap.size := by have := K1.out.size; simp at this; omega
  clear hT2 hF2 HF1 K1 K2
  go_region
  go_wp2
  refine end_tmp_cell rfl rfl rfl (store2 (show (World.drew w2).heap[w.heap.size + 1]? = _ from HF.out) rfl) Try.underlying31 rfl (by kernel_rfl) ⟨rfl, ?_⟩
  exact Below.setCell (Below.setCell K.out.drew (by simp) _) (by simp) _
end Go.Proofs.Ytmnmonmbdgedbaa
