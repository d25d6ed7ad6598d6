/- The statement TopSync: its walk. | The statement TopSync: its walk, where a tag is printed or refused. -/
import Derived.Test.YtmnmonmbdgedbaaTgU
import Derived.Test.YtmnmonmbdgedbaaTgA
import Derived.Test.YtmnmonmbdgedbaaTgP
import Derived.Deep.RegionHeld3

namespace Go.Proofs.Ytmnmonmbdgedbaa
open Go.RowKit
set_option linter.unusedVariables false
set_option linter.unusedSimpArgs false

set_option maxHeartbeats 4000000 in
set_option maxRecDepth 100000 in
theorem tsync_over (v : Int) (rv fl : UInt8) (a : Option Addr) (n cap : Nat) (sd : List UInt8) (lt : Bool) {HS : World → Prop} (w : World) (hs : Hid (∀ w', Below w.heap.size w w' → HS w'))
    (LG : Hid (∀ w, HS w → Calls Try.prog 14 #[.agg #[.int .i64 v, .int .u8 rv.toNat, .int .u8 fl.toNat, .slice a n cap]] w (SaysB lt w)))
    (h : lt = false ∨ (lt = true ∧ (200 : Int) < sd.length) ∨ (lt = true ∧ ¬ (200 : Int) < sd.length ∧ (v != 2) = true ∧ (v != 3) = true)) :
    Calls Try.prog 3 #[.agg #[.int .i64 v, .int .u8 rv.toNat, .int .u8 fl.toNat, .slice a n cap], .string ⟨sd.toArray⟩] w fun e w' => e = .returned (.bool true) ∧ Below w.heap.size w w' := by
  unfold SaysB at LG
  rcases h with rfl | ⟨rfl, g1⟩ | ⟨rfl, g1, g2, g3⟩
  all_goals (
    go_enter Try.func3, Try.ntmps3
    go_wp2_with (first | (go_at_call 12; (with_reducible refine (awake11 _).mono ?_); rintro e w1 ⟨rfl, hb1⟩; have X := Lib.hid (block_below (at_a0 w #[.int .i64 v, .int .u8 rv.toNat, .int .u8 fl.toNat, .slice a n cap] 26) hb1); have K := Lib.hid (below_a1 hb1); clear hb1) | (go_at_call 13; (with_reducible refine (awake15 _).mono ?_); rintro e w2 ⟨rfl, hb2⟩; replace X := Lib.hid (block_below X.out (hb2)); replace K := Lib.hid (nextB K.out (hb2)); clear hb2; obtain ⟨x0, x1, x2, x3⟩ := cells4 (X.out)) | (go_at_call 14; (with_reducible refine (LG.out _ (hs.out _ K.out)).mono ?_); rintro e w3 ⟨rfl, hb3⟩; replace X := Lib.hid (block_below X.out (hb3)); replace K := Lib.hid (nextB K.out (hb3)); clear hb3; obtain ⟨y0, y1, y2, y3⟩ := cells4 (X.out)))
    go_ret
    exact ⟨rfl, K.out⟩)
end Go.Proofs.Ytmnmonmbdgedbaa

namespace Go.Proofs.Ytmnmonmbdgedbaa
open Go.RowKit
set_option linter.unusedVariables false
set_option linter.unusedSimpArgs false

set_option maxHeartbeats 8000000 in
set_option maxRecDepth 100000 in
theorem tsync_bad (v : Int) (rv fl f0 f1 : UInt8) (a : Option Addr) (n cap : Nat) (sd : List UInt8) (c q : Int) {HS : World → Prop} (w : World) (hs : Hid (∀ w', Below w.heap.size w w' → HS w')) (hv : v = 2 ∨ v = 3) (hsd : ¬ (200 : Int) < sd.length)
    (e0 : bits .andNot .u8 (fl.toNat : Int) 128 = (f0.toNat : Int)) (e1 : bits .or .u8 (f0.toNat : Int) 128 = (f1.toNat : Int))
    (LG : Hid (∀ w, HS w → Calls Try.prog 14 #[.agg #[.int .i64 v, .int .u8 rv.toNat, .int .u8 fl.toNat, .slice a n cap]] w (SaysB true w))) (hc : c ≠ 0)
    (PR0 : Hid (∀ w, HS w → Calls Try.prog 15 #[.agg #[.int .i64 v, .int .u8 rv.toNat, .int .u8 f0.toNat, .slice a n cap]] w (TPrints [] (c, q) w)))
    (PR1 : Hid (∀ w, HS w → Calls Try.prog 15 #[.agg #[.int .i64 v, .int .u8 rv.toNat, .int .u8 f1.toNat, .slice a n cap]] w (TPrints [] (c, q) w))) :
    Calls Try.prog 3 #[.agg #[.int .i64 v, .int .u8 rv.toNat, .int .u8 fl.toNat, .slice a n cap], .string ⟨sd.toArray⟩] w fun e w' => e = .returned (.bool true) ∧ Below w.heap.size w w' := by
  have BD := Lib.hid (fun w => bad_any c q w)
  rw [show (c != 0) = true by simpa using hc] at BD
  have hv2 : (v != 2) = false ∨ ((v != 2) = true ∧ (v != 3) = false) := by rcases hv with rfl | rfl; exact .inl rfl; exact .inr ⟨rfl, rfl⟩
  clear hc hv
  rcases hv2 with g2 | ⟨g2, g3⟩
  all_goals (
    unfold SaysB TPrints at *
    go_enter Try.func3, Try.ntmps3
    go_upto_region 5 with (first | (go_at_call 12; (with_reducible refine (awake11 _).mono ?_); rintro e w1 ⟨rfl, hb1⟩; have X := Lib.hid (block_below (at_a0 w #[.int .i64 v, .int .u8 rv.toNat, .int .u8 fl.toNat, .slice a n cap] 26) hb1); have K := Lib.hid (below_a1 hb1); clear hb1) | (go_at_call 13; (with_reducible refine (awake15 _).mono ?_); rintro e w2 ⟨rfl, hb2⟩; replace X := Lib.hid (block_below X.out (hb2)); replace K := Lib.hid (nextB K.out (hb2)); clear hb2; obtain ⟨x0, x1, x2, x3⟩ := cells4 (X.out)) | (go_at_call 14; (with_reducible refine (LG.out _ (hs.out _ K.out)).mono ?_); rintro e w3 ⟨rfl, hb3⟩; replace X := Lib.hid (block_below X.out (hb3)); replace K := Lib.hid (nextB K.out (hb3)); clear hb3; obtain ⟨y0, y1, y2, y3⟩ := cells4 (X.out)))
    clear x0 x1 x2 x3 y0 y1 y2 y3
    obtain ⟨xb, hxb⟩ : ∃ xb, xb = w.heap.size := ⟨_, rfl⟩
    rw [← hxb]
    replace X : Hid (w3.heap[xb]? = some (.cells #[.int .i64 v, .int .u8 rv.toNat, .int .u8 fl.toNat, .slice a n cap] 26 (0, 0))) := Lib.hid (by rw [hxb]; exact X.out)
    have hxw : w.heap.size ≤ xb := by omega
    clear hxb
    obtain ⟨x0, x1, x2, x3⟩ := cells4 (X.out); obtain ⟨xf0, xf1, xf2, xf3⟩ := frees4 (X.out)
    go_upto_region 6 with (fail)
    have X2 : Hid ((w3.setCell ⟨xb, 2, none⟩ (.int .u8 f0.toNat)).heap[xb]? = some (.cells #[.int .i64 v, .int .u8 rv.toNat, .int .u8 f0.toNat, .slice a n cap] 26 (0, 0))) := Lib.hid (setCell_at X.out)
    replace K : Hid (Below w.heap.size w (w3.setCell ⟨xb, 2, none⟩ (.int .u8 f0.toNat))) := Lib.hid (Below.setCell (p := ⟨xb, 2, none⟩) K.out hxw _)
    clear x0 x1 x2 x3 xf0 xf1 xf2 xf3 X
    generalize w3.setCell ⟨xb, 2, none⟩ (.int .u8 f0.toNat) = v1 at *
    obtain ⟨x0, x1, x2, x3⟩ := cells4 (X2.out)
    go_upto_region 7 with (go_at_call 15; (with_reducible refine (PR0.out _ (hs.out _ K.out)).mono ?_); rintro e w4 ⟨rfl, hb4⟩; replace X2 := Lib.hid (block_below X2.out (hb4)); replace K := Lib.hid (nextB K.out (hb4)); clear hb4)
    clear x0 x1 x2 x3
    have G := Lib.hid (at_a0 w4 #[.int .i64 c, .int .i64 q] 31)
    have hB := ((Below.refl w4.heap.size w4).alloc (Nat.le_refl _) (.cells #[.int .i64 c, .int .i64 q] 31))
    replace X2 := Lib.hid (block_below X2.out hB)
    replace K := Lib.hid (nextB K.out hB)
    have hgx : xb ≠ w4.heap.size := by have := (Array.getElem?_eq_some_iff.1 X2.out).1; intro e; have h := X2.out; rw [e, at_a0] at h; simp at h
    clear hB
    generalize w4.alloc (.cells #[.int .i64 c, .int .i64 q] 31) = v2 at *
    generalize w4.heap.size = gb at *
    obtain ⟨x0, x1, x2, x3⟩ := cells4 (X2.out); obtain ⟨xf0, xf1, xf2, xf3⟩ := frees4 (X2.out)
    go_upto_region 8 with (fail)
    have X3 : Hid ((v2.setCell ⟨xb, 2, none⟩ (.int .u8 f1.toNat)).heap[xb]? = some (.cells #[.int .i64 v, .int .u8 rv.toNat, .int .u8 f1.toNat, .slice a n cap] 26 (0, 0))) := Lib.hid (setCell_at X2.out)
    replace K : Hid (Below w.heap.size w (v2.setCell ⟨xb, 2, none⟩ (.int .u8 f1.toNat))) := Lib.hid (Below.setCell (p := ⟨xb, 2, none⟩) K.out hxw _)
    replace G : Hid ((v2.setCell ⟨xb, 2, none⟩ (.int .u8 f1.toNat)).heap[gb]? = some (.cells #[.int .i64 c, .int .i64 q] 31 (0, 0))) := Lib.hid ((heap_set_other _ (Ne.symm hgx)).trans G.out)
    clear x0 x1 x2 x3 xf0 xf1 xf2 xf3 X2
    generalize v2.setCell ⟨xb, 2, none⟩ (.int .u8 f1.toNat) = v3 at *
    obtain ⟨x0, x1, x2, x3⟩ := cells4 (X3.out)
    go_upto_region 9 with (go_at_call 15; (with_reducible refine (PR1.out _ (hs.out _ K.out)).mono ?_); rintro e w5 ⟨rfl, hb5⟩; replace X3 := Lib.hid (block_below X3.out (hb5)); replace G := Lib.hid (block_below G.out (hb5)); replace K := Lib.hid (nextB K.out (hb5)); clear hb5)
    clear x0 x1 x2 x3
    have F := Lib.hid (at_a0 w5 #[.int .i64 c, .int .i64 q] 31)
    have hB := ((Below.refl w5.heap.size w5).alloc (Nat.le_refl _) (.cells #[.int .i64 c, .int .i64 q] 31))
    replace G := Lib.hid (block_below G.out hB)
    replace K := Lib.hid (nextB K.out hB)
    clear hB X3
    generalize w5.alloc (.cells #[.int .i64 c, .int .i64 q] 31) = v4 at *
    generalize w5.heap.size = fb at *
    obtain ⟨g0, g1⟩ := cells2 (G.out)
    obtain ⟨f0, f1⟩ := cells2 (F.out)
    go_wp2_with (go_at_call 16; (with_reducible refine (BD.out _).mono ?_); rintro e w6 ⟨rfl, hb6⟩; replace G := Lib.hid (block_below G.out (hb6)); replace F := Lib.hid (block_below F.out (hb6)); replace K := Lib.hid (nextB K.out (hb6)); clear hb6; obtain ⟨h0, h1⟩ := cells2 (G.out); obtain ⟨k0, k1⟩ := cells2 (F.out))
    go_ret
    exact ⟨rfl, K.out⟩)
end Go.Proofs.Ytmnmonmbdgedbaa
