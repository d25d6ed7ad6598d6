/- Layer 22 (line): the statements' example; the walk of LineForms. -/
import Derived.Test.YtemiegbgnpcbiaaLine5
namespace Go.Proofs.Ytemiegbgnpcbiaa
open Go.RowKit
set_option linter.unusedVariables false

def ExAt (w : World) (g : Nat) : Prop := g < w.heap.size ∧ w.cell? ⟨g, 0, none⟩ = some (.string ⟨#[97]⟩) ∧ w.cell? ⟨g, 1, none⟩ = some (.string ⟨#[13, 10]⟩) ∧ w.cell? ⟨g, 2, none⟩ = some (.int .i64 0) ∧
  w.cell? ⟨g, 3, none⟩ = some (.string ⟨#[]⟩) ∧ w.cell? ⟨g, 4, none⟩ = some (.string ⟨#[10]⟩) ∧ w.cell? ⟨g, 5, none⟩ = some (.int .i64 3) ∧
  w.cell? ⟨g, 6, none⟩ = some (.string ⟨#[98]⟩) ∧ w.cell? ⟨g, 7, none⟩ = some (.string ⟨#[]⟩) ∧ w.cell? ⟨g, 8, none⟩ = some (.int .i64 4)
theorem ExAt.below {w w' : World} {g : Nat} (h : ExAt w g) (hb : Below w.heap.size w w') : ExAt w' g := by
  obtain ⟨h0, c0, c1, c2, c3, c4, c5, c6, c7, c8⟩ := h
  have hc := (bcell hb).1
  exact ⟨Nat.lt_of_lt_of_le h0 hb.size, (hc _ _ h0).trans c0, (hc _ _ h0).trans c1, (hc _ _ h0).trans c2, (hc _ _ h0).trans c3, (hc _ _ h0).trans c4, (hc _ _ h0).trans c5, (hc _ _ h0).trans c6, (hc _ _ h0).trans c7, (hc _ _ h0).trans c8⟩
theorem ex_view {w : World} {base e : Nat} {v : Value} (h : Recs w base e 3 v ((linesOf [97, 13, 10, 10, 98] 0).map lnR)) : ∃ g cap, v = .slice (some ⟨g, 0, none⟩) 3 cap ∧ ExAt w g := by
  rw [ex_lines] at h
  obtain ⟨a, cap, hv, hc, hr⟩ := h.view
  rcases hr with h0 | ⟨g, rfl, hb, hg, hcell⟩
  · simp at h0
  · have k := fun i hi j hj => hcell i hi j hj
    exact ⟨g, cap, hv, hg, k 0 (by decide) 0 (by decide), k 0 (by decide) 1 (by decide), k 0 (by decide) 2 (by decide), k 1 (by decide) 0 (by decide), k 1 (by decide) 1 (by decide), k 1 (by decide) 2 (by decide), k 2 (by decide) 0 (by decide), k 2 (by decide) 1 (by decide), k 2 (by decide) 2 (by decide)⟩
theorem PcsAt.two (w : World) (p q : Pc) (T : TypeId) : PcsAt (w.alloc (.cells #[.bool p.m, .string ⟨p.n.toArray⟩, .string ⟨p.t.toArray⟩, .bool q.m, .string ⟨q.n.toArray⟩, .string ⟨q.t.toArray⟩] T)) (some ⟨w.heap.size, 0, none⟩) 2 [p, q] := by
  refine ⟨rfl, by simp [pcR], .inr ⟨_, _, rfl, by simp, ?_⟩⟩
  intro i h j hj
  match i, h, j, hj with
  | 0, _, 0, _ => exact cell_at (at_a0 _ _ _)
  | 0, _, 1, _ => exact cell_at (at_a0 _ _ _)
  | 0, _, 2, _ => exact cell_at (at_a0 _ _ _)
  | 1, _, 0, _ => exact cell_at (at_a0 _ _ _)
  | 1, _, 1, _ => exact cell_at (at_a0 _ _ _)
  | 1, _, 2, _ => exact cell_at (at_a0 _ _ _)

set_option maxHeartbeats 2000000 in
set_option maxRecDepth 100000 in
theorem awake22 (w : World) : Calls Try.prog 30 #[] w fun e w' => e = .returned (.bool true) ∧ Below w.heap.size w w' := by
  have C1 := Lib.hid (fun w => lines_any [97, 13, 10, 10, 98] w (by decide))
  have c2 := fun w => like_any [49, 58, 50, 51] [48, 58, 48, 48] w (by decide) (by decide)
  rw [show likeL [49, 58, 50, 51] [48, 58, 48, 48] = true by decide] at c2
  have C2 := Lib.hid c2
  have C3 : Hid (∀ w : World, Calls Try.prog 14 #[.slice (some ⟨w.heap.size, 0, none⟩) 2 2] (w.alloc (.cells #[.string ⟨#[97]⟩, .string ⟨#[98]⟩] 9)) fun e w' => e = .returned (.agg #[.bool true, .string ⟨#[109, 97, 114, 107]⟩, .string ⟨#[97, 98]⟩]) ∧ Below (w.alloc (.cells #[.string ⟨#[97]⟩, .string ⟨#[98]⟩] 9)).heap.size (w.alloc (.cells #[.string ⟨#[97]⟩, .string ⟨#[98]⟩] 9)) w') :=
    Lib.hid (fun w => mark_any (some ⟨w.heap.size, 0, none⟩) 2 2 [[97], [98]] _ (StrsAt.two w [97] [98] _) (by decide) (by decide) (by decide))
  have C4 : Hid (∀ w : World, Calls Try.prog 15 #[.string ⟨#[120]⟩, .string ⟨#[99]⟩] w fun e w' => e = .returned (.agg #[.bool false, .string ⟨#[120]⟩, .string ⟨#[99]⟩]) ∧ Below w.heap.size w w') := Lib.hid (fun w => text_any [120] [99] w)
  have C5 : Hid (∀ w : World, Calls Try.prog 13 #[.slice (some ⟨w.heap.size, 0, none⟩) 2 2] (w.alloc (.cells #[.bool true, .string ⟨#[109, 97, 114, 107]⟩, .string ⟨#[97, 98]⟩, .bool false, .string ⟨#[120]⟩, .string ⟨#[99]⟩] 34)) fun e w' => e = .returned (.string ⟨#[97, 98, 99]⟩) ∧ Below (w.alloc (.cells #[.bool true, .string ⟨#[109, 97, 114, 107]⟩, .string ⟨#[97, 98]⟩, .bool false, .string ⟨#[120]⟩, .string ⟨#[99]⟩] 34)).heap.size (w.alloc (.cells #[.bool true, .string ⟨#[109, 97, 114, 107]⟩, .string ⟨#[97, 98]⟩, .bool false, .string ⟨#[120]⟩, .string ⟨#[99]⟩] 34)) w') :=
    Lib.hid (fun w => whole_any (some ⟨w.heap.size, 0, none⟩) 2 2 [⟨true, [109, 97, 114, 107], [97, 98]⟩, ⟨false, [120], [99]⟩] _ (PcsAt.two w ⟨true, [109, 97, 114, 107], [97, 98]⟩ ⟨false, [120], [99]⟩ _) (by decide) (by decide) (by decide))
  clear c2
  go_enter Try.func30, Try.ntmps30
  go_wp2_with (first | (go_at_call 11; refine (C1.out _).mono ?_; rintro e w1 ⟨v, rfl, hr1, hb1⟩; obtain ⟨g, cap, rfl, hx1⟩ := ex_view hr1; clear hr1; have HX1 := Lib.hid hx1; clear hx1) | (go_at_call 40; refine (awake01 _).mono ?_; rintro e w2 ⟨rfl, hb2⟩; have HB2 := Lib.hid (nextB hb1 hb2); obtain ⟨hg, d0, d1, d2, d3, d4, d5, d6, d7, d8⟩ := HX1.out.below hb2; clear hb1 hb2) | (go_at_call 20; refine (C2.out _).mono ?_; rintro e w3 ⟨rfl, hb3⟩; have HB3 := Lib.hid (nextB HB2.out hb3); clear hb3) | (go_at_call 14; with_reducible refine (C3.out _).mono ?_; rintro e w4 ⟨rfl, hb4⟩; have HB4 := Lib.hid (nextB HB3.out (below_a1 hb4)); clear hb4) | (go_at_call 15; refine (C4.out _).mono ?_; rintro e w5 ⟨rfl, hb5⟩; have HB5 := Lib.hid (nextB HB4.out hb5); clear hb5) | (go_at_call 13; with_reducible refine (C5.out _).mono ?_; rintro e w6 ⟨rfl, hb6⟩; have HB6 := Lib.hid (nextB HB5.out (below_a1 hb6)); clear hb6))
  go_ret
  exact ⟨rfl, HB6.out⟩
set_option maxRecDepth 100000 in
theorem awake22' (w : World) : Calls Try.prog 10 #[] w fun e w' => e = .returned (.bool true) ∧ Below w.heap.size w w' := by
  go_enter Try.func10, Try.ntmps10
  go_wp2_with (go_at_call 30; refine (awake22 _).mono ?_; rintro e w1 ⟨rfl, hb1⟩)
  go_ret
  exact ⟨rfl, hb1⟩

set_option maxRecDepth 100000 in
theorem walk_LineForms (s : List UInt8) (hs : s.length ≤ maxLen) (f : List UInt8) (hf : f.length ≤ maxLen) (w : World) :
    Calls Try.prog 5 #[.string ⟨s.toArray⟩, .string ⟨f.toArray⟩] w fun e w' => e = .returned (.bool true) ∧ Below w.heap.size w w' := by
  by_cases h1 : (1000 : Int) < s.length
  · go_enter Try.func5, Try.ntmps5
    go_wp2_with (go_at_call 10; refine (awake22' _).mono ?_; rintro e w1 ⟨rfl, hb1⟩)
    go_ret
    exact ⟨rfl, hb1⟩
  by_cases h2 : (1000 : Int) < f.length
  · go_enter Try.func5, Try.ntmps5
    go_wp2_with (go_at_call 10; refine (awake22' _).mono ?_; rintro e w1 ⟨rfl, hb1⟩)
    go_ret
    exact ⟨rfl, hb1⟩
  have C1 := Lib.hid (fun w => digits_any s w (by omega))
  have C2 := Lib.hid (fun w => rdigits_any s w (by omega))
  have C3 := Lib.hid (fun w => caps_any s w (by omega))
  have C4 := Lib.hid (fun w => rcaps_any s w (by omega))
  have C5 := Lib.hid (fun w => like_any s f w (by omega) (by omega))
  have C6 := Lib.hid (fun w => rlike_any s f w (by omega) (by omega))
  generalize digitsL s = b1 at *
  generalize capsL s = b2 at *
  generalize likeL s f = b3 at *
  have e1 : (b1 == b1) = true := by simp
  have e2 : (b2 == b2) = true := by simp
  have e3 : (b3 == b3) = true := by simp
  go_enter Try.func5, Try.ntmps5
  go_wp2_with (first | (go_at_call 10; refine (awake22' _).mono ?_; rintro e w1 ⟨rfl, hb1⟩) | (go_at_call 16; refine (C1.out _).mono ?_; rintro e w2 ⟨rfl, rfl⟩) | (go_at_call 17; refine (C2.out _).mono ?_; rintro e w2 ⟨rfl, rfl⟩) | (go_at_call 18; refine (C3.out _).mono ?_; rintro e w2 ⟨rfl, rfl⟩) | (go_at_call 19; refine (C4.out _).mono ?_; rintro e w2 ⟨rfl, rfl⟩) | (go_at_call 20; refine (C5.out _).mono ?_; rintro e w2 ⟨rfl, hb2⟩) | (go_at_call 21; refine (C6.out _).mono ?_; rintro e w3 ⟨rfl, hb3⟩))
  go_ret
  exact ⟨rfl, nextB (nextB hb1 hb2) hb3⟩
end Go.Proofs.Ytemiegbgnpcbiaa
