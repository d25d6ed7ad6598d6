/- Layer 13 (frame): the document's example. -/
import Derived.Test.YtdoheningeafhaaFrP
import Derived.Test.YtdoheningeafhaaFr15
import Derived.Laws.StructEq
namespace Go.Proofs.Ytdoheningeafhaa
open Go.RowKit
set_option linter.unusedVariables false
set_option linter.unusedSimpArgs false

def f13 : Fr := ⟨[84, 73, 84, 50], 0, 67, 5, [255, 224], 0⟩
def s13 : List UInt8 := [84, 73, 84, 50, 0, 0, 0, 8, 0, 67, 5, 0, 0, 0, 2, 255, 0, 224]
theorem check13 : checkF 4 f13 = 0 := by decide
theorem print13 : printF 4 f13 = s13 := by decide
theorem parse13 : frParse 4 false (Rd.new s13 0) = (adv (Rd.new s13 0) 18, f13, true) := by
  have h := frParse_run 4 false f13 (Rd.new s13 0) [] check13 (by decide) (fun _ h => by cases h) (by rw [print13, List.append_nil]; exact Run.new _ _)
  rw [print13] at h
  exact h
set_option maxHeartbeats 4000000 in
set_option maxRecDepth 100000 in
theorem awake13 (w : World) : Calls Try.prog 74 #[] w fun e w' => e = .returned (.bool true) ∧ Below w.heap.size w w' := by
  have PR : Hid (∀ w, Calls Try.prog 39 #[.agg #[.string ⟨#[84, 73, 84, 50]⟩, .int .u8 0, .int .u8 67, .int .u8 5, .string ⟨#[255, 224]⟩, .int .i64 0], .int .i64 4] w fun e w' => e = .returned (.tuple #[.string ⟨#[84, 73, 84, 50, 0, 0, 0, 8, 0, 67, 5, 0, 0, 0, 2, 255, 0, 224]⟩, .agg #[.int .i64 0, .int .i64 0]]) ∧ Below w.heap.size w w') :=
    Lib.hid fun w => by
      have h := fprint_any 4 f13 w (by decide) (by decide)
      rw [check13, if_pos rfl, print13] at h
      exact h
  have RD : Hid (∀ w, Calls Try.prog 43 #[.string ⟨#[84, 73, 84, 50, 0, 0, 0, 8, 0, 67, 5, 0, 0, 0, 2, 255, 0, 224]⟩] w fun e w' => e = .returned (.pointer (some ⟨w.heap.size, 0, none⟩)) ∧ RdAt w' w.heap.size (Rd.new s13 0) ∧ Below w.heap.size w w') := Lib.hid fun w => read_any s13 w
  have PP : Hid (∀ b w, RdAt w b (Rd.new s13 0) → Calls Try.prog 44 #[.int .i64 4, .pointer (some ⟨b, 0, none⟩), .bool false] w fun e w' => e = .returned (.tuple #[.agg #[.string ⟨#[84, 73, 84, 50]⟩, .int .u8 0, .int .u8 67, .int .u8 5, .string ⟨#[255, 224]⟩, .int .i64 0], .bool true]) ∧ Only b w w') :=
    Lib.hid fun b w h => by
      have h1 := fparse_any 4 false b _ w h (new_ok _ 0 (by decide) (by decide)) (by decide)
      rw [parse13] at h1
      exact h1.mono fun e w' ⟨h2, _, h3⟩ => ⟨h2, h3⟩
  have BD := Lib.hid (fun w => bad_any 0 0 w)
  rw [show ((0 : Int) != 0) = false by rfl] at BD
  go_enter Try.func74, Try.ntmps74
  go_wp2_with (first | (go_at_call 39; (with_reducible refine (PR.out _).mono ?_); rintro e w1 ⟨rfl, hb1⟩; have X := Lib.hid (block_below (at_a0 w _ _) hb1); have K := Lib.hid (below_a1 hb1); clear hb1) | (go_at_call 43; (with_reducible refine (RD.out _).mono ?_); rintro e w2 ⟨rfl, hr2, hb2⟩; have R : Hid (RdAt w2 (w1.heap.size + 1) (Rd.new s13 0)) := Lib.hid (by simpa using hr2); have F := Lib.hid (block_below (at_a0 w1 _ _) hb2); have hx1 := (Array.getElem?_eq_some_iff.1 X.out).1; have hz1 := K.out.size; replace X := Lib.hid (block_below X.out (below_a1 hb2)); replace K := Lib.hid (nextB K.out (below_a1 hb2)); clear hb2 hr2) | (go_at_call 44; (with_reducible refine (PP.out _ _ R.out).mono ?_); rintro e w3 ⟨rfl, ho3⟩; replace X := Lib.hid (block_only X.out ho3 (by omega)); replace F := Lib.hid (block_only F.out ho3 (by omega)); replace K := Lib.hid (onlyB K.out ho3 (by omega)); clear ho3; clear R) | (go_at_call 116; (with_reducible refine (awake01 _).mono ?_); rintro e w4 ⟨rfl, hb4⟩; have G := Lib.hid (block_below (at_a0 w3 _ _) hb4); replace X := Lib.hid (block_below X.out (below_a1 hb4)); replace F := Lib.hid (block_below F.out (below_a1 hb4)); replace K := Lib.hid (nextB K.out (below_a1 hb4)); clear hb4) | (go_at_call 17; (with_reducible refine (awake11 _).mono ?_); rintro e w5 ⟨rfl, hb5⟩; replace X := Lib.hid (block_below X.out (hb5)); replace F := Lib.hid (block_below F.out (hb5)); replace G := Lib.hid (block_below G.out (hb5)); replace K := Lib.hid (nextB K.out (hb5)); clear hb5; have c0 := cell_at (j := 0) F.out; have c1 := cell_at (j := 1) F.out; simp only [List.getElem?_toArray, List.getElem?_cons_zero, List.getElem?_cons_succ] at c0 c1) | (go_at_call 21; (with_reducible refine (BD.out _).mono ?_); rintro e w6 ⟨rfl, hb6⟩; replace X := Lib.hid (block_below X.out (hb6)); replace F := Lib.hid (block_below F.out (hb6)); replace G := Lib.hid (block_below G.out (hb6)); replace K := Lib.hid (nextB K.out (hb6)); clear hb6; have d0 := cell_at (j := 0) X.out; have d1 := cell_at (j := 1) X.out; have d2 := cell_at (j := 2) X.out; have d3 := cell_at (j := 3) X.out; have d4 := cell_at (j := 4) X.out; have d5 := cell_at (j := 5) X.out; simp only [List.getElem?_toArray, List.getElem?_cons_zero, List.getElem?_cons_succ] at d0 d1 d2 d3 d4 d5; have g0 := cell_at (j := 0) G.out; have g1 := cell_at (j := 1) G.out; have g2 := cell_at (j := 2) G.out; have g3 := cell_at (j := 3) G.out; have g4 := cell_at (j := 4) G.out; have g5 := cell_at (j := 5) G.out; simp only [List.getElem?_toArray, List.getElem?_cons_zero, List.getElem?_cons_succ] at g0 g1 g2 g3 g4 g5))
  go_ret
  exact ⟨rfl, K.out⟩
set_option maxRecDepth 100000 in
theorem awake13' (w : World) : Calls Try.prog 26 #[] w fun e w' => e = .returned (.bool true) ∧ Below w.heap.size w w' := by
  go_enter Try.func26, Try.ntmps26
  go_wp2_with (go_at_call 74; refine (awake13 _).mono ?_; rintro e w1 ⟨rfl, hb1⟩)
  go_ret
  exact ⟨rfl, hb1⟩
end Go.Proofs.Ytdoheningeafhaa
