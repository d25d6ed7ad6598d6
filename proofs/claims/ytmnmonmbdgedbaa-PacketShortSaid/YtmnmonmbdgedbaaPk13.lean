/- Layer 18 (packet): the document's example. -/
import Derived.Test.YtmnmonmbdgedbaaPk10
import Derived.Test.YtmnmonmbdgedbaaPk5
import Derived.Test.YtmnmonmbdgedbaaPage7
namespace Go.Proofs.Ytmnmonmbdgedbaa
open Go.RowKit
set_option linter.unusedVariables false
set_option linter.unusedSimpArgs false

def p18 : Pg := ⟨0, 0, 0, 0, [2, 1], [97, 98, 99]⟩
theorem pages18 : pagesP zeroP [[97, 98], [99]] = [p18] := by kernel_rfl
theorem join18 : joinS [p18] 0 [] [] false = ([[97, 98], [99]], 0, 0) := by decide +kernel
theorem pg18 (w : World) : Calls Try.prog 41 #[.agg #[.int .u8 0, .int .u64 0, .int .u32 0, .int .u32 0], .slice (some ⟨w.heap.size, 0, none⟩) 2 2] (w.alloc (.cells #[.string ⟨#[97, 98]⟩, .string ⟨#[99]⟩] 9)) fun e w' => ∃ g cap, e = .returned (.slice (some ⟨g, 0, none⟩) 1 cap) ∧ g < w'.heap.size ∧ w'.cell? ⟨g, 4, none⟩ = some (.string ⟨#[2, 1]⟩) ∧ RecsAt w' (some ⟨g, 0, none⟩) 1 6 [pgR p18] ∧ Below w.heap.size w w' := by
  have h := ppages_any zeroP zero_ok (some ⟨w.heap.size, 0, none⟩) 2 2 [[97, 98], [99]] (w.alloc (.cells #[.string ⟨#[97, 98]⟩, .string ⟨#[99]⟩] 9)) (Lib.hid (StrsAt.two w [97, 98] [99] 9)) (Nat.le_refl _) (by decide) (by decide)
  rw [pages18] at h
  refine h.mono fun e w' ⟨u, he, hr, hb⟩ => ?_
  obtain ⟨a, cap, hu, hc, hv⟩ := hr.view
  obtain ⟨a2, cap2, hu2, hc2, hat⟩ := hr.at
  subst hu
  obtain ⟨rfl, rfl⟩ : a = a2 ∧ cap = cap2 := by simpa using hu2
  rcases hv with h0 | ⟨g, rfl, hg1, hg2, hcell⟩
  · cases h0
  · exact ⟨g, cap, he, hg2, hcell 0 (by decide) 4 (by decide), hat, below_a1 hb⟩
theorem jn18 (a : Option Addr) (cap : Nat) (w : World) (h : RecsAt w a 1 6 [pgR p18]) : Calls Try.prog 36 #[.slice a 1 cap] w fun e w' => ∃ g cap, e = .returned (.tuple #[.slice (some ⟨g, 0, none⟩) 2 cap, .agg #[.int .i64 0, .int .i64 0]]) ∧ g < w'.heap.size ∧ w'.cell? ⟨g, 1, none⟩ = some (.string ⟨#[99]⟩) ∧ Below w.heap.size w w' := by
  have k := pjoin_any a 1 cap [p18] w (Lib.hid h) (by decide) (Lib.hid (by intro p hp; rw [List.mem_singleton] at hp; rw [hp]; exact ⟨by decide, by decide⟩))
  rw [join18] at k
  refine k.mono fun e w' ⟨u, he, hr, hb⟩ => ?_
  obtain ⟨a, cap, hu, hc, hv⟩ := hr.view
  subst hu
  rcases hv with h0 | ⟨g, rfl, hg1, hg2, hcell⟩
  · cases h0
  · exact ⟨g, cap, he, hg2, hcell 1 (by decide) 0 (by decide), hb⟩
theorem lc18 (w : World) : Calls Try.prog 33 #[.int .i64 255] w fun e w' => e = .returned (.string ⟨#[255, 0]⟩) ∧ Below w.heap.size w w' := lace_any 255 w (by decide) (by decide)
set_option maxHeartbeats 1000000 in
set_option maxRecDepth 100000 in
theorem awake18 (w : World) : Calls Try.prog 80 #[] w fun e w' => e = .returned (.bool true) ∧ Below w.heap.size w w' := by
  have PG := Lib.hid pg18
  have JN := Lib.hid jn18
  have LC := Lib.hid lc18
  have BD := Lib.hid (fun w => bad_any 0 0 w)
  rw [show ((0 : Int) != 0) = false by rfl] at BD
  go_enter Try.func80, Try.ntmps80
  go_upto_region 2 with (go_at_call 41; (with_reducible refine (PG.out _).mono ?_); rintro e w1 ⟨g1, cp1, rfl, hg1, c1, hr1, hb1⟩; have K := Lib.hid hb1; clear hb1)
  go_upto_region 3 with (go_at_call 36; (with_reducible refine (JN.out _ _ _ hr1).mono ?_); rintro e w2 ⟨g2, cp2, rfl, hg2, d2, hb2⟩; have c2 := (hb2.cell (p := ⟨g1, 4, none⟩) hg1).trans c1; have hg12 := Nat.lt_of_lt_of_le hg1 hb2.size; replace K := Lib.hid (nextB K.out hb2); clear hb2 c1)
  have F := Lib.hid (at_a0 w2 #[.int .i64 0, .int .i64 0] 31)
  have hB := (Below.refl w2.heap.size w2).alloc (Nat.le_refl _) (.cells #[.int .i64 0, .int .i64 0] 31)
  replace c2 := (hB.cell (p := ⟨g1, 4, none⟩) hg12).trans c2
  replace d2 := (hB.cell (p := ⟨g2, 1, none⟩) hg2).trans d2
  replace K := Lib.hid (nextB K.out hB)
  have h1 := Nat.lt_of_lt_of_le hg12 hB.size
  have h2 := Nat.lt_of_lt_of_le hg2 hB.size
  clear hB hr1
  generalize w2.alloc (.cells #[.int .i64 0, .int .i64 0] 31) = w3 at *
  generalize w2.heap.size = fb at *
  go_wp2_with (first | (go_at_call 114; (with_reducible refine (awake17 _).mono ?_); rintro e w4 ⟨rfl, hb4⟩; have c4 := (hb4.cell (p := ⟨g1, 4, none⟩) h1).trans c2; have d4 := (hb4.cell (p := ⟨g2, 1, none⟩) h2).trans d2; have F4 := Lib.hid (block_below F.out hb4); have h14 := Nat.lt_of_lt_of_le h1 hb4.size; have h24 := Nat.lt_of_lt_of_le h2 hb4.size; have K4 := Lib.hid (nextB K.out hb4); clear hb4) | (go_at_call 33; (with_reducible refine (LC.out _).mono ?_); rintro e w5 ⟨rfl, hb5⟩; have c5 := (hb5.cell (p := ⟨g1, 4, none⟩) h14).trans c4; have d5 := (hb5.cell (p := ⟨g2, 1, none⟩) h24).trans d4; have F5 := Lib.hid (block_below F4.out hb5); obtain ⟨f0, f1⟩ := cells2 (F5.out); have K5 := Lib.hid (nextB K4.out hb5); clear hb5) | (go_at_call 16; (with_reducible refine (BD.out _).mono ?_); rintro e w6 ⟨rfl, hb6⟩; have K6 := Lib.hid (nextB K5.out hb6); clear hb6))
  go_ret
  exact ⟨rfl, K6.out⟩
set_option maxRecDepth 100000 in
theorem awake18' (w : World) : Calls Try.prog 32 #[] w fun e w' => e = .returned (.bool true) ∧ Below w.heap.size w w' := by
  go_enter Try.func32, Try.ntmps32
  go_wp2_with (go_at_call 80; refine (awake18 _).mono ?_; rintro e w1 ⟨rfl, hb1⟩)
  go_ret
  exact ⟨rfl, hb1⟩
end Go.Proofs.Ytmnmonmbdgedbaa
