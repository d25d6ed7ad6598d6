/- The walks of the statements TailSplits, TailPrints. -/
import Derived.Test.YtlgkbkbghheokaaTail10
import Derived.Deep.RegionHeld3
namespace Go.Proofs.Ytlgkbkbghheokaa
open Go.RowKit
set_option linter.unusedVariables false

/-- what Split does -/
def splitP (b : List UInt8) : List UInt8 × List UInt8 := if 128 ≤ b.length ∧ (b.drop (b.length - 128)).take 3 = [84, 65, 71] then (b.take (b.length - 128), b.drop (b.length - 128)) else (b, [])
set_option maxRecDepth 100000 in
theorem split_any (b : List UInt8) (w : World) (hl : b.length ≤ 1000000000) : Calls Try.prog 18 #[.string ⟨b.toArray⟩] w (SplitSays (splitP b).1 (splitP b).2 w) := by
  unfold splitP
  by_cases h : 128 ≤ b.length ∧ (b.drop (b.length - 128)).take 3 = [84, 65, 71]
  · rw [if_pos h]
    exact split_yes b w hl h.1 ((pre3 _).2 h.2)
  · rw [if_neg h]
    refine split_no b w hl ?_
    by_cases h1 : b.length < 128
    · exact .inl h1
    · exact .inr ((pre3_no _).2 fun e => h ⟨by omega, e⟩)
set_option maxRecDepth 100000 in
theorem splitP_whole (b : List UInt8) : (splitP b).1 ++ (splitP b).2 = b := by
  unfold splitP
  split
  · exact List.take_append_drop _ _
  · simp
theorem splitP_tail (b s : List UInt8) (hs : s.length = 128) (h3 : s.take 3 = [84, 65, 71]) : splitP (b ++ s) = (b, s) := by
  have hl : (b ++ s).length - 128 = b.length := by rw [List.length_append, hs]; omega
  unfold splitP
  rw [hl, if_pos ⟨by rw [List.length_append]; omega, by simpa using h3⟩]
  simp
theorem printT_pre (t : Tl) : (printT t).take 3 = [84, 65, 71] := by
  rw [printT_acc]
  unfold accT
  simp
theorem fits_of (t : Tl) (h : tcheck t = (0, 0)) : Fits t := tck_ok _ _ h
theorem tcheck_zero (t : Tl) (h : (tcheck t).1 = 0) : tcheck t = (0, 0) := by
  have key : ∀ (l : List (List UInt8 × Nat)) (i : Nat), (tckL l i).1 = 0 → tckL l i = (0, 0) := by
    intro l
    induction l with
    | nil => intro i _; rfl
    | cons x l ih =>
      obtain ⟨s, r⟩ := x
      intro i h
      rw [tckL] at h ⊢
      split at h
      · cases h
      · rename_i h1
        rw [if_neg h1]
        split at h
        · cases h
        · rename_i h2
          rw [if_neg h2]
          exact ih (i + 1) h
  exact key _ _ h
set_option maxRecDepth 100000 in
theorem tsplits_over (b : List UInt8) (t : Tl) (w : World) (h : (1000 : Int) < b.length) : Calls Try.prog 5 #[.string ⟨b.toArray⟩, tlV t] w fun e w' => e = .returned (.bool true) ∧ Below w.heap.size w w' := by
  unfold tlV tlR
  go_enter Try.func5, Try.ntmps5
  go_wp2_with (go_at_call 11; refine (awake12' _).mono ?_; rintro e w1 ⟨rfl, hb1⟩)
  go_ret
  exact ⟨rfl, below_a1 hb1⟩
set_option maxHeartbeats 2000000 in
set_option maxRecDepth 100000 in
theorem tsplits_bad (b : List UInt8) (t : Tl) (w : World) (h : ¬ (1000 : Int) < b.length) (hc : (tcheck t).1 ≠ 0) : Calls Try.prog 5 #[.string ⟨b.toArray⟩, tlV t] w fun e w' => e = .returned (.bool true) ∧ Below w.heap.size w w' := by
  have PR := Lib.hid (fun w => tprint_bad t w hc)
  generalize (tcheck t).1 = c at *
  generalize (tcheck t).2 = q at *
  have BD := Lib.hid (fun w => bad_any c q w)
  rw [show (c != 0) = true by simpa using hc] at BD
  have SP := Lib.hid (fun w => split_any b w (by omega))
  unfold SplitSays at SP
  have hw := splitP_whole b
  generalize (splitP b).1 = x at *
  generalize (splitP b).2 = y at *
  have hxl : x.length ≤ 1000 := by have := congrArg List.length hw; rw [List.length_append] at this; omega
  have hyl : y.length ≤ 1000 := by have := congrArg List.length hw; rw [List.length_append] at this; omega
  unfold tlV tlR at *
  clear hc
  go_enter Try.func5, Try.ntmps5
  go_wp2_with (first | (go_at_call 18; (with_reducible refine (SP.out _).mono ?_); rintro e w1 ⟨rfl, hb1⟩; have X1 := block_below (at_a0 w _ _) hb1; have K1 := Lib.hid (below_a1 hb1); have a0 := cell_at (j := 0) X1; have a1 := cell_at (j := 1) X1; have a2 := cell_at (j := 2) X1; have a3 := cell_at (j := 3) X1; have a4 := cell_at (j := 4) X1; have a5 := cell_at (j := 5) X1; have a6 := cell_at (j := 6) X1; simp only [List.getElem?_toArray, List.getElem?_cons_zero, List.getElem?_cons_succ] at a0 a1 a2 a3 a4 a5 a6; clear hb1) | (go_at_call 12; (with_reducible refine (PR.out _).mono ?_); rintro e w2 ⟨rfl, hb2⟩; have K2 := Lib.hid (nextB K1.out hb2); clear hb2) | (go_at_call 19; (with_reducible refine (BD.out _).mono ?_); rintro e w3 ⟨rfl, hb3⟩; have K3 := Lib.hid (nextB K2.out (below_a1 hb3)); clear hb3) | (go_at_call 11; (with_reducible refine (awake12' _).mono ?_); rintro e w4 ⟨rfl, hb4⟩; have K4 := Lib.hid (nextB K3.out hb4); clear hb4))
  go_ret
  exact ⟨rfl, K4.out⟩
set_option maxHeartbeats 2000000 in
set_option maxRecDepth 100000 in
theorem tsplits_ok (b : List UInt8) (t : Tl) (w : World) (h : ¬ (1000 : Int) < b.length) (hc : tcheck t = (0, 0)) : Calls Try.prog 5 #[.string ⟨b.toArray⟩, tlV t] w fun e w' => e = .returned (.bool true) ∧ Below w.heap.size w w' := by
  have hf := fits_of t hc
  have PR := Lib.hid (fun w => tprint_ok t w hc)
  unfold TPrints at PR
  have BD := Lib.hid (fun w => bad_any 0 0 w)
  rw [show ((0 : Int) != 0) = false by rfl] at BD
  have SP := Lib.hid (fun w => split_any b w (by omega))
  unfold SplitSays at SP
  have hw := splitP_whole b
  generalize (splitP b).1 = x at *
  generalize (splitP b).2 = y at *
  have hxl : x.length ≤ 1000 := by have := congrArg List.length hw; rw [List.length_append] at this; omega
  have hyl : y.length ≤ 1000 := by have := congrArg List.length hw; rw [List.length_append] at this; omega
  have hsl := printT_len t (fun x hx => (hf x hx).2)
  have PA := Lib.hid (fun w => tparse_any (printT t) w)
  rw [parsed_back t hf, (tail_back t hf).2] at PA
  unfold ParseSays at PA
  have SP2 := Lib.hid (fun w => split_any (b ++ printT t) w (by rw [List.length_append]; omega))
  rw [splitP_tail b (printT t) hsl (printT_pre t)] at SP2
  unfold SplitSays at SP2
  have hs2 : (printT t).length ≤ 128 := by omega
  have heq := run_eql_tail t
  have HEQ := Lib.hid heq
  clear hf hc hsl heq
  generalize printT t = s at *
  have heq := HEQ.out
  unfold tlV tlR at *
  go_enter Try.func5, Try.ntmps5
  go_wp2_with (first | (go_at_call 18; (with_reducible refine (SP.out _).mono ?_); rintro e w1 ⟨rfl, hb1⟩; have X1 := Lib.hid (block_below (at_a0 w _ _) hb1); have K1 := Lib.hid (below_a1 hb1); have a0 := cell_at (j := 0) X1.out; have a1 := cell_at (j := 1) X1.out; have a2 := cell_at (j := 2) X1.out; have a3 := cell_at (j := 3) X1.out; have a4 := cell_at (j := 4) X1.out; have a5 := cell_at (j := 5) X1.out; have a6 := cell_at (j := 6) X1.out; simp only [List.getElem?_toArray, List.getElem?_cons_zero, List.getElem?_cons_succ] at a0 a1 a2 a3 a4 a5 a6; clear hb1) | (go_at_call 12; (with_reducible refine (PR.out _).mono ?_); rintro e w2 ⟨rfl, hb2⟩; have X2 := Lib.hid (block_below X1.out hb2); have K2 := Lib.hid (nextB K1.out hb2); clear hb2) | (go_at_call 19; (with_reducible refine (BD.out _).mono ?_); rintro e w3 ⟨rfl, hb3⟩; have X3 := Lib.hid (block_below X2.out (below_a1 hb3)); have K3 := Lib.hid (nextB K2.out (below_a1 hb3)); clear hb3) | (go_at_call 18; (with_reducible refine (SP2.out _).mono ?_); rintro e w4 ⟨rfl, hb4⟩; have X4 := Lib.hid (block_below X3.out hb4); have K4 := Lib.hid (nextB K3.out hb4); clear hb4) | (go_at_call 15; (with_reducible refine (PA.out _).mono ?_); rintro e w5 ⟨rfl, hb5⟩; have X5 := Lib.hid (block_below X4.out hb5); have K5 := Lib.hid (nextB K4.out hb5); clear hb5) | (go_at_call 11; (with_reducible refine (awake12' _).mono ?_); rintro e w6 ⟨rfl, hb6⟩; have X6 := Lib.hid (block_below X5.out (below_a1 hb6)); have Y6 := Lib.hid (block_below (at_a0 w5 _ _) hb6); have K6 := Lib.hid (nextB K5.out (below_a1 hb6)); have x0 := cell_at (j := 0) X6.out; have x1 := cell_at (j := 1) X6.out; have x2 := cell_at (j := 2) X6.out; have x3 := cell_at (j := 3) X6.out; have x4 := cell_at (j := 4) X6.out; have x5 := cell_at (j := 5) X6.out; have x6 := cell_at (j := 6) X6.out; simp only [List.getElem?_toArray, List.getElem?_cons_zero, List.getElem?_cons_succ] at x0 x1 x2 x3 x4 x5 x6; have y0 := cell_at (j := 0) Y6.out; have y1 := cell_at (j := 1) Y6.out; have y2 := cell_at (j := 2) Y6.out; have y3 := cell_at (j := 3) Y6.out; have y4 := cell_at (j := 4) Y6.out; have y5 := cell_at (j := 5) Y6.out; have y6 := cell_at (j := 6) Y6.out; simp only [List.getElem?_toArray, List.getElem?_cons_zero, List.getElem?_cons_succ] at y0 y1 y2 y3 y4 y5 y6; clear hb6))
  go_ret
  exact ⟨rfl, K6.out⟩
def TailIn (v : Value) : Prop := ∃ t : Tl, v = tlV t ∧ t.t0.length ≤ maxLen ∧ t.t1.length ≤ maxLen ∧ t.t2.length ≤ maxLen ∧ t.t3.length ≤ maxLen ∧ t.t4.length ≤ maxLen
end Go.Proofs.Ytlgkbkbghheokaa
