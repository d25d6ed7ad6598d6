/- normal.File, walked: plain texts. | normal.File at plain texts: what comes of it is told by the kind and the text alone. -/
import Derived.Test.YtndpcphmndfajaaGreatDoorZFl3
import Derived.Test.YtndpcphmndfajaaGreatDoorZSrt4
import Derived.Test.YtndpcphmndfajaaGreatDoorZLc4
import Derived.Test.YtndpcphmndfajaaGreatDoorZDt5
import Derived.Test.YtndpcphmndfajaaGreatDoorZDt1
import Derived.Test.YtndpcphmndfajaaGreatDoorZRt1
import Derived.Test.YtndpcphmndfajaaGreatDoorZFl4
import Derived.Test.YtndpcphmndfajaaGreatDoorZEq1

namespace Go.Proofs.YtndpcphmndfajaaGreatDoor
open Go.RowKit
set_option linter.unusedVariables false
set_option linter.unusedSimpArgs false

set_option maxHeartbeats 4000000 in
set_option maxRecDepth 100000 in
theorem file_bad (k c a : Nat) (d : Bool) (t : List UInt8) (w : World) (hl : t.length ≤ 1000000)
    (HR : Hid (∀ w, Calls Tryz.prog 8 #[.agg #[.int .i64 k, .int .i64 c, .bool d, .int .i64 0]] w fun e w' => e = .returned (.bool true) ∧ Below w.heap.size w w'))
    (HP : Hid (∀ w1, Below w.heap.size w w1 → Calls Tryz.prog 9 #[.string ⟨t.toArray⟩, .agg #[.int .i64 k, .int .i64 c, .bool d, .int .i64 0]] w1 fun e w' =>
      e = .returned (.tuple #[.agg (treeC 0 (.slice none 0 0) 0), .agg #[.int .i64 1, .int .i64 a]]) ∧ Below w1.heap.size w1 w')) :
    Calls Tryz.prog 5 #[.string ⟨t.toArray⟩, .agg #[.int .i64 k, .int .i64 c, .bool d, .int .i64 0]] w fun e w' =>
      e = .returned (.tuple #[.string ⟨#[]⟩, .agg #[.int .i64 1, .int .i64 a]]) ∧ Below w.heap.size w w' := by
  have B1 := Lib.hid (fun w => bad_any 1 a w)
  rw [show ((1 : Int) != 0) = true by rfl] at B1
  have q0 : ¬ (268435456 : Int) < (t.length : Int) := by omega
  go_enter Tryz.func5, Tryz.ntmps5
  go_upto_region 1 with (fail)
  have O := Lib.hid (at_a1 w #[.int .i64 k, .int .i64 c, .bool d, .int .i64 0] 31 (.cells #[.int .i64 0, .int .i64 0] 26))
  have F := Lib.hid (at_a2 w #[.int .i64 0, .int .i64 0] 26 (.cells #[.int .i64 k, .int .i64 c, .bool d, .int .i64 0] 31))
  have k2 := ((Below.refl w.heap.size w).alloc (Nat.le_refl _) (.cells #[.int .i64 k, .int .i64 c, .bool d, .int .i64 0] 31))
  have K := Lib.hid (k2.alloc k2.size (.cells #[.int .i64 0, .int .i64 0] 26))
  obtain ⟨ob, hob⟩ : ∃ ob, ob = w.heap.size := ⟨_, rfl⟩
  obtain ⟨fb, hfb⟩ : ∃ fb, fb = w.heap.size + 1 := ⟨_, rfl⟩
  clear k2
  generalize (w.alloc (.cells #[.int .i64 k, .int .i64 c, .bool d, .int .i64 0] 31)).alloc (.cells #[.int .i64 0, .int .i64 0] 26) = wx at *
  rw [← hfb, ← hob]
  rw [← hfb] at F
  rw [← hob] at O
  have hof : ob ≠ fb := by omega
  have hwo : w.heap.size ≤ ob := by omega
  have hwf : w.heap.size ≤ fb := by omega
  clear hob hfb
  obtain ⟨o0, o1, o2, o3⟩ := cells4 (O.out)
  go_upto_region 3 with (go_at_call 8; (refine (HR.out _).mono ?_); rintro e w1 ⟨rfl, hb1⟩; replace F := Lib.hid (block_below F.out hb1); replace O := Lib.hid (block_below O.out hb1); replace K := Lib.hid (nextB K.out hb1); clear hb1)
  clear o0 o1 o2 o3
  obtain ⟨o0, o1, o2, o3⟩ := cells4 (O.out)
  go_upto_region 6 with (first | (go_at_call 9; (refine (HP.out _ K.out).mono ?_); rintro e w2 ⟨rfl, hb1⟩; replace F := Lib.hid (block_below F.out hb1); replace O := Lib.hid (block_below O.out hb1); replace K := Lib.hid (nextB K.out hb1); clear hb1) | (refine wpL_same w2.heap.size (treeC 0 (.slice none 0 0) 0) 56 (by rfl) (by rfl) (at_a1 w2 _ _ _) rfl (treeC_one _ _ _ rfl) ?_))
  rw [treeC_is]
  have Y := Lib.hid (at_a2 w2 #[.int .i64 1, .int .i64 a] 26 (.cells (treeC 0 (.slice none 0 0) 0) 56))
  have k2 := ((Below.refl w2.heap.size w2).alloc (Nat.le_refl _) (.cells (treeC 0 (.slice none 0 0) 0) 56))
  have k3 := k2.alloc k2.size (.cells #[.int .i64 1, .int .i64 a] 26)
  replace F := Lib.hid (block_below F.out k3)
  replace K := Lib.hid (nextB K.out k3)
  clear k2 k3 o0 o1 o2 o3
  generalize (w2.alloc (.cells (treeC 0 (.slice none 0 0) 0) 56)).alloc (.cells #[.int .i64 1, .int .i64 a] 26) = w3 at *
  generalize w2.heap.size + 1 = yb at *
  obtain ⟨y0, y1⟩ := cells2 (Y.out); obtain ⟨yf0, yf1⟩ := frees2 (Y.out)
  go_upto_region 7 with (go_at_call 6; (refine (B1.out _).mono ?_); rintro e w4 ⟨rfl, hb1⟩; replace F := Lib.hid (block_below F.out hb1); replace Y := Lib.hid (block_below Y.out hb1); replace K := Lib.hid (nextB K.out hb1); clear hb1)
  obtain ⟨z0, z1⟩ := cells2 (Y.out); obtain ⟨zf0, zf1⟩ := frees2 (Y.out)
  obtain ⟨f0, f1⟩ := cells2 (F.out); obtain ⟨ff0, ff1⟩ := frees2 (F.out)
  go_region
  all_goals
    go_wp2
    refine end_tmp_cell rfl rfl rfl (show _ from store2 F.out rfl) Tryz.underlying26 rfl (by kernel_rfl) ?_
    exact ⟨rfl, ((below_drewN K.out 1).setCell (p := ⟨fb, 0, none⟩) hwf _).setCell (p := ⟨fb, 1, none⟩) hwf _⟩
set_option maxHeartbeats 4000000 in
set_option maxRecDepth 100000 in
theorem file_ok (k c : Nat) (acc : List Pc) (d : Bool) (t : List UInt8) (w : World) (hl : t.length ≤ 1000000)
    (HR : Hid (∀ w, Calls Tryz.prog 8 #[.agg #[.int .i64 k, .int .i64 c, .bool d, .int .i64 0]] w fun e w' => e = .returned (.bool true) ∧ Below w.heap.size w w'))
    (HP : Hid (∀ w1, Below w.heap.size w w1 → Calls Tryz.prog 9 #[.string ⟨t.toArray⟩, .agg #[.int .i64 k, .int .i64 c, .bool d, .int .i64 0]] w1 fun e w' =>
      ∃ v, e = .returned (.tuple #[.agg (treeC k v 7), .agg #[.int .i64 0, .int .i64 0]]) ∧ Recs w' w1.heap.size 135 3 v (acc.map pcR) ∧ Below w1.heap.size w1 w'))
    (HT : Hid (∀ v w1 base, Below w.heap.size w w1 → Recs w1 base 135 3 v (acc.map pcR) → Calls Tryz.prog 10 #[.agg (treeC k v 7)] w1 fun e w' => e = .returned (.tuple #[.string ⟨t.toArray⟩, .agg #[.int .i64 0, .int .i64 0]]) ∧ Below w1.heap.size w1 w')) :
    Calls Tryz.prog 5 #[.string ⟨t.toArray⟩, .agg #[.int .i64 k, .int .i64 c, .bool d, .int .i64 0]] w fun e w' =>
      e = .returned (.tuple #[.string ⟨t.toArray⟩, .agg #[.int .i64 0, .int .i64 0]]) ∧ Below w.heap.size w w' := by
  have B0 := Lib.hid (fun w => bad_any 0 0 w)
  rw [show ((0 : Int) != 0) = false by rfl] at B0
  have q0 : ¬ (268435456 : Int) < (t.length : Int) := by omega
  go_enter Tryz.func5, Tryz.ntmps5
  go_upto_region 1 with (fail)
  have O := Lib.hid (at_a1 w #[.int .i64 k, .int .i64 c, .bool d, .int .i64 0] 31 (.cells #[.int .i64 0, .int .i64 0] 26))
  have F := Lib.hid (at_a2 w #[.int .i64 0, .int .i64 0] 26 (.cells #[.int .i64 k, .int .i64 c, .bool d, .int .i64 0] 31))
  have k2 := ((Below.refl w.heap.size w).alloc (Nat.le_refl _) (.cells #[.int .i64 k, .int .i64 c, .bool d, .int .i64 0] 31))
  have K := Lib.hid (k2.alloc k2.size (.cells #[.int .i64 0, .int .i64 0] 26))
  obtain ⟨ob, hob⟩ : ∃ ob, ob = w.heap.size := ⟨_, rfl⟩
  obtain ⟨fb, hfb⟩ : ∃ fb, fb = w.heap.size + 1 := ⟨_, rfl⟩
  clear k2
  generalize (w.alloc (.cells #[.int .i64 k, .int .i64 c, .bool d, .int .i64 0] 31)).alloc (.cells #[.int .i64 0, .int .i64 0] 26) = wx at *
  rw [← hfb, ← hob]
  rw [← hfb] at F
  rw [← hob] at O
  have hof : ob ≠ fb := by omega
  have hwo : w.heap.size ≤ ob := by omega
  have hwf : w.heap.size ≤ fb := by omega
  clear hob hfb
  obtain ⟨o0, o1, o2, o3⟩ := cells4 (O.out)
  go_upto_region 3 with (go_at_call 8; (refine (HR.out _).mono ?_); rintro e w1 ⟨rfl, hb1⟩; replace F := Lib.hid (block_below F.out hb1); replace O := Lib.hid (block_below O.out hb1); replace K := Lib.hid (nextB K.out hb1); clear hb1)
  clear o0 o1 o2 o3
  obtain ⟨o0, o1, o2, o3⟩ := cells4 (O.out)
  go_upto_region 6 with (first | (go_at_call 9; (refine (HP.out _ K.out).mono ?_); rintro e w2 ⟨v, rfl, hr6, hb1⟩; obtain ⟨va, vc, hv, -, -⟩ := hr6.view; rw [List.length_map] at hv; subst hv; have hR := Lib.hid hr6; clear hr6; replace F := Lib.hid (block_below F.out hb1); replace O := Lib.hid (block_below O.out hb1); replace K := Lib.hid (nextB K.out hb1); clear hb1) | (refine wpL_put w2.heap.size (treeC k (.slice va acc.length vc) 7) (treeC 0 (.slice none 0 0) 0) 56 (by rfl) (by rfl) (at_a1 w2 _ _ _) rfl rfl (treeC_one _ _ _ rfl) ?_; rw [treeC_is]; have X := Lib.hid (setRow_heap _ w2.heap.size _ (treeC k (.slice va acc.length vc) 7) _ _ (at_a1 w2 (treeC 0 (.slice none 0 0) 0) 56 (.cells #[.int .i64 0, .int .i64 0] 26))); have Y := Lib.hid ((setRow_other _ w2.heap.size (w2.heap.size + 1) (treeC k (.slice va acc.length vc) 7) (by omega)).trans (at_a2 w2 #[.int .i64 0, .int .i64 0] 26 (.cells (treeC 0 (.slice none 0 0) 0) 56))); have k2 := ((Below.refl w2.heap.size w2).alloc (Nat.le_refl _) (.cells (treeC 0 (.slice none 0 0) 0) 56)); have k3 := below_setRow (k2.alloc k2.size (.cells #[.int .i64 0, .int .i64 0] 26)) (Nat.le_refl _) (treeC k (.slice va acc.length vc) 7); have hks := K.out.size; have hfw := (Array.getElem?_eq_some_iff.1 F.out).1; have how := (Array.getElem?_eq_some_iff.1 O.out).1; replace F := Lib.hid (block_below F.out k3); replace O := Lib.hid (block_below O.out k3); replace K := Lib.hid (nextB K.out k3); replace hR := Lib.hid (hR.out.below k3); clear k2 k3; generalize ((w2.alloc (.cells (treeC 0 (.slice none 0 0) 0) 56)).alloc (.cells #[.int .i64 0, .int .i64 0] 26)).setRow w2.heap.size (treeC k (.slice va acc.length vc) 7) = w3 at *; generalize w2.heap.size = xb at *; obtain ⟨y0, y1⟩ := cells2 (Y.out); obtain ⟨yf0, yf1⟩ := frees2 (Y.out)))
  have hwx : w.heap.size ≤ xb := hks
  have hwy : w.heap.size ≤ xb + 1 := by omega
  have hxy : xb ≠ xb + 1 := by omega
  have hfy : fb ≠ xb + 1 := by omega
  have hoy : ob ≠ xb + 1 := by omega
  have hof2 : ob ≠ fb := hof
  clear y0 y1 yf0 yf1 o0 o1 o2 o3
  have Y2 := Lib.hid (store2 (v0 := .int .i64 0) (v1 := .int .i64 0) Y.out rfl)
  replace X := Lib.hid ((heap_set_other (.int .i64 0) hxy).trans ((heap_set_other (.int .i64 0) hxy).trans X.out) : ((w3.setCell ⟨xb + 1, 0, none⟩ (.int .i64 0)).setCell ⟨xb + 1, 1, none⟩ (.int .i64 0)).heap[xb]? = _)
  replace F := Lib.hid ((heap_set_other (.int .i64 0) hfy).trans ((heap_set_other (.int .i64 0) hfy).trans F.out) : ((w3.setCell ⟨xb + 1, 0, none⟩ (.int .i64 0)).setCell ⟨xb + 1, 1, none⟩ (.int .i64 0)).heap[fb]? = _)
  replace O := Lib.hid ((heap_set_other (.int .i64 0) hoy).trans ((heap_set_other (.int .i64 0) hoy).trans O.out) : ((w3.setCell ⟨xb + 1, 0, none⟩ (.int .i64 0)).setCell ⟨xb + 1, 1, none⟩ (.int .i64 0)).heap[ob]? = _)
  replace K := Lib.hid ((K.out.setCell (p := ⟨xb + 1, 0, none⟩) hwy (.int .i64 0)).setCell (p := ⟨xb + 1, 1, none⟩) hwy (.int .i64 0))
  have hne := hR.out.ne Y.out (by decide)
  replace hR := Lib.hid (((hR.out.setAway hne (.int .i64 0)).setAway hne (.int .i64 0) : Recs ((w3.setCell ⟨xb + 1, 0, none⟩ (.int .i64 0)).setCell ⟨xb + 1, 1, none⟩ (.int .i64 0)) _ _ _ _ _))
  clear Y
  generalize (w3.setCell ⟨xb + 1, 0, none⟩ (.int .i64 0)).setCell ⟨xb + 1, 1, none⟩ (.int .i64 0) = w4 at *
  obtain ⟨y0, y1⟩ := cells2 (Y2.out); obtain ⟨yf0, yf1⟩ := frees2 (Y2.out)
  go_upto_region 8 with (go_at_call 6; (refine (B0.out _).mono ?_); rintro e w5 ⟨rfl, hb1⟩; replace F := Lib.hid (block_below F.out hb1); replace O := Lib.hid (block_below O.out hb1); replace Y2 := Lib.hid (block_below Y2.out hb1); replace K := Lib.hid (nextB K.out hb1); replace X := Lib.hid (block_below X.out hb1); replace hR := Lib.hid (hR.out.below hb1); clear hb1)
  clear y0 y1 yf0 yf1
  go_upto_region 9 with (first | (go_at_call 10; (refine (HT.out _ _ _ K.out hR.out).mono ?_); rintro e w6 ⟨rfl, hb1⟩; replace F := Lib.hid (block_below F.out hb1); replace O := Lib.hid (block_below O.out hb1); replace Y2 := Lib.hid (block_below Y2.out hb1); replace K := Lib.hid (nextB K.out hb1); clear hb1; obtain ⟨y0, y1⟩ := cells2 (Y2.out); obtain ⟨yf0, yf1⟩ := frees2 (Y2.out)) | (refine wpL_get xb (treeC k (.slice va acc.length vc) 7) 56 (by rfl) X.out rfl ?_))
  have Y3 := Lib.hid (store2 (v0 := .int .i64 0) (v1 := .int .i64 0) Y2.out rfl)
  replace F := Lib.hid ((heap_set_other (.int .i64 0) hfy).trans ((heap_set_other (.int .i64 0) hfy).trans F.out) : ((w6.setCell ⟨xb + 1, 0, none⟩ (.int .i64 0)).setCell ⟨xb + 1, 1, none⟩ (.int .i64 0)).heap[fb]? = _)
  replace O := Lib.hid ((heap_set_other (.int .i64 0) hoy).trans ((heap_set_other (.int .i64 0) hoy).trans O.out) : ((w6.setCell ⟨xb + 1, 0, none⟩ (.int .i64 0)).setCell ⟨xb + 1, 1, none⟩ (.int .i64 0)).heap[ob]? = _)
  replace K := Lib.hid ((K.out.setCell (p := ⟨xb + 1, 0, none⟩) hwy (.int .i64 0)).setCell (p := ⟨xb + 1, 1, none⟩) hwy (.int .i64 0))
  clear Y2 y0 y1 yf0 yf1
  generalize (w6.setCell ⟨xb + 1, 0, none⟩ (.int .i64 0)).setCell ⟨xb + 1, 1, none⟩ (.int .i64 0) = w7 at *
  obtain ⟨y0, y1⟩ := cells2 (Y3.out); obtain ⟨yf0, yf1⟩ := frees2 (Y3.out)
  go_upto_region 11 with (go_at_call 6; (refine (B0.out _).mono ?_); rintro e w8 ⟨rfl, hb1⟩; replace F := Lib.hid (block_below F.out hb1); replace O := Lib.hid (block_below O.out hb1); replace K := Lib.hid (nextB K.out hb1); clear hb1)
  obtain ⟨o0, o1, o2, o3⟩ := cells4 (O.out)
  obtain ⟨f0, f1⟩ := cells2 (F.out); obtain ⟨ff0, ff1⟩ := frees2 (F.out)
  go_wp2
  refine end_tmp_cell rfl rfl rfl (show _ from store2 F.out rfl) Tryz.underlying26 rfl (by kernel_rfl) ?_
  exact ⟨rfl, (K.out.setCell (p := ⟨fb, 0, none⟩) hwf _).setCell (p := ⟨fb, 1, none⟩) hwf _⟩
end Go.Proofs.YtndpcphmndfajaaGreatDoor

namespace Go.Proofs.YtndpcphmndfajaaGreatDoor
open Go.RowKit
set_option linter.unusedVariables false
set_option linter.unusedSimpArgs false

set_option maxHeartbeats 2000000 in
set_option maxRecDepth 100000 in
theorem fpieces6t (R : List UInt8 → Except Nat (List Pc)) (HP : ∀ (t : List UInt8) (w : World), T3 w → t.length ≤ 1000000 → Calls Tryz.prog 127 #[.string ⟨t.toArray⟩] w (ReadG (R t) w)) (t : List UInt8) (w : World) (hT : T3 w) (ht : t.length ≤ 1000000) :
    Calls Tryz.prog 57 #[.int .i64 6, .string ⟨t.toArray⟩] w (ReadG (R t) w) := by
  have hw := HP t (w.alloc (.cells #[.int .i64 0, .int .i64 0] 26)) (hT.below ((Below.refl _ _).alloc (Nat.le_refl _) _)) ht
  have hB0 : Below w.heap.size w (w.alloc (.cells #[.int .i64 0, .int .i64 0] 26)) := (Below.refl _ _).alloc (Nat.le_refl _) _
  clear HP
  unfold ReadG at hw ⊢
  rcases hS : R t with a | acc
  · rw [hS] at hw
    simp only at hw ⊢
    have HW := Lib.hid hw
    clear hw hS
    go_enter Tryz.func57, Tryz.ntmps57
    go_wp2_with (go_at_call 127; refine (HW.out).mono ?_; rintro e w1 ⟨rfl, h1⟩; have hf1 := block_below (at_a0 w _ _) h1; have d0 := cell_at (j := 0) hf1; have d1 := cell_at (j := 1) hf1; have f0 := free_at (j := 0) hf1; have f1 := free_at (j := 1) hf1; simp only [List.getElem?_toArray, List.getElem?_cons_zero, List.getElem?_cons_succ] at d0 d1)
    refine end_tmp_cell rfl rfl rfl (show _ from store2 hf1 rfl) Tryz.underlying26 rfl (by kernel_rfl) ?_
    have hB1 : Below w.heap.size w w1 := nextB hB0 h1
    exact ⟨rfl, (hB1.setCell (p := ⟨w.heap.size, 0, none⟩) (Nat.le_refl _) (.int .i64 1)).setCell (p := ⟨w.heap.size, 1, none⟩) (Nat.le_refl _) (.int .i64 a)⟩
  · rw [hS] at hw
    simp only at hw ⊢
    have HW := Lib.hid hw
    clear hw hS
    go_enter Tryz.func57, Tryz.ntmps57
    go_wp2_with (go_at_call 127; refine (HW.out).mono ?_; rintro e w1 ⟨v1, rfl, hr1, h1⟩; have hf1 := block_below (at_a0 w _ _) h1; have d0 := cell_at (j := 0) hf1; have d1 := cell_at (j := 1) hf1; have f0 := free_at (j := 0) hf1; have f1 := free_at (j := 1) hf1; simp only [List.getElem?_toArray, List.getElem?_cons_zero, List.getElem?_cons_succ] at d0 d1)
    refine end_tmp_cell rfl rfl rfl (show _ from store2 hf1 rfl) Tryz.underlying26 rfl (by kernel_rfl) ?_
    have hB1 : Below w.heap.size w w1 := nextB hB0 h1
    have hr2 : Recs w1 (w.heap.size + 1) 135 3 v1 (acc.map pcR) := by simpa using hr1
    refine ⟨v1, rfl, ?_, (hB1.setCell (p := ⟨w.heap.size, 0, none⟩) (Nat.le_refl _) _).setCell (p := ⟨w.heap.size, 1, none⟩) (Nat.le_refl _) _⟩
    exact ((hr2.setOld (by omega)).setOld (by omega)).base (by omega)


def kindR (k : Nat) (t : List UInt8) : Except Nat (List Pc) := if k = 4 then cueR t else if k = 5 then srtR t else if k = 6 then ssaR t else lrcR t
theorem kindR_whole (k : Nat) (t : List UInt8) (acc : List Pc) (h : kindR k t = .ok acc) : txP acc = t ∧ acc.length ≤ 5 * t.length := by
  unfold kindR at h
  by_cases h4 : k = 4
  · rw [if_pos h4] at h; exact cueR_whole t acc h
  · rw [if_neg h4] at h
    by_cases h5 : k = 5
    · rw [if_pos h5] at h; exact srtR_whole t acc h
    · rw [if_neg h5] at h
      by_cases h6 : k = 6
      · rw [if_pos h6] at h; exact ssaR_whole t acc h
      · rw [if_neg h6] at h; exact lrcR_whole t acc h
theorem pieces_kind (k : Nat) (h1 : 4 ≤ k) (h2 : k ≤ 7) (t : List UInt8) (w : World) (hT : T3 w) (ht : t.length ≤ 1000000) : Calls Tryz.prog 57 #[.int .i64 k, .string ⟨t.toArray⟩] w (ReadG (kindR k t) w) := by
  have h : k = 4 ∨ k = 5 ∨ k = 6 ∨ k = 7 := by omega
  rcases h with rfl | rfl | rfl | rfl
  · exact fpieces4 cueR cparse_any t w ht
  · exact fpieces5 srtR srtR_any t w ht
  · exact fpieces6t ssaR (fun t w h ht => ssaparse_any t w h ht) t w hT ht
  · exact fpieces7 lrcR lparse_any t w ht
/-- what comes of a plain text -/
def fileV (k : Nat) (t : List UInt8) : Value := match kindR k t with
  | .error a => .tuple #[.string ⟨#[]⟩, .agg #[.int .i64 1, .int .i64 a]]
  | .ok _ => .tuple #[.string ⟨t.toArray⟩, .agg #[.int .i64 0, .int .i64 0]]
theorem pt_says (k c : Nat) (d : Bool) (t : List UInt8) (h1 : 4 ≤ k) (h2 : k ≤ 7) (ha : Asc t) (hl : t.length ≤ 100000) : PtSays k c d t where
  mark := fun w => dmark_any t ha w
  decl := fun w => sndecl_any k t w (by omega) h2
  reso := fun x w => resolve_any valid_asc t x _ _ rfl rfl w ha (by omega)
  deco := fun w => decode_asc t ha (by omega) w
theorem pr_says (k : Nat) (acc : List Pc) (t : List UInt8) (ha : Asc t) (hl : t.length ≤ 100000) (h : kindR k t = .ok acc) : PrSays k acc t where
  whole := (kindR_whole k t acc h).1
  vali := fun w => pvalid_any valid_asc t w ha (by omega)
  mark := fun w => preN_any t 239 [187, 191] ha (by decide) w
  few := by have := (kindR_whole k t acc h).2; omega
  len := by omega
theorem nfile_any (k c : Nat) (d : Bool) (t : List UInt8) (w : World) (h1 : 4 ≤ k) (h2 : k ≤ 7) (hc : c ≤ 6) (ha : Asc t) (hl : t.length ≤ 100000) (hT : T3 w) :
    Calls Tryz.prog 5 #[.string ⟨t.toArray⟩, .agg #[.int .i64 k, .int .i64 c, .bool d, .int .i64 0]] w fun e w' => e = .returned (fileV k t) ∧ Below w.heap.size w w' := by
  have hR := Lib.hid (fun w => right_any k c d w h1 h2 hc)
  have hP := fun w hT => pieces_kind k h1 h2 t w hT (by omega)
  unfold ReadG at hP
  unfold fileV
  rcases hS : kindR k t with a | acc
  · rw [hS] at hP
    exact file_bad k c a d t w (by omega) hR (Lib.hid fun w1 b1 => parse_bad k c a (kind_says k h1 h2) d t w1 (Lib.hid fun w2 b2 => ptext_bad k c a d t w2 (pt_says k c d t h1 h2 ha hl) (Lib.hid fun w3 b3 => hP w3 (((hT.below b1).below b2).below b3))))
  · rw [hS] at hP
    refine file_ok k c acc d t w (by omega) hR (Lib.hid fun w1 b1 => parse_ok k c acc (kind_says k h1 h2) d t w1 (Lib.hid fun w2 b2 => ptext_ok k c acc d t w2 (pt_says k c d t h1 h2 ha hl) (Lib.hid fun w3 b3 => hP w3 (((hT.below b1).below b2).below b3)))) (Lib.hid fun v w1 base b1 hr => ?_)
    obtain ⟨va, vc, hv, -, -⟩ := hr.view
    subst hv
    exact print_any k (kind_says k h1 h2) t va _ vc w1 (Lib.hid fun w2 b2 => ptext_print k acc t _ w2 (pr_says k acc t ha hl hS) base (hr.below b2) (Lib.hid fun w3 b3 => hP w3 (((hT.below b1).below b2).below b3)))
end Go.Proofs.YtndpcphmndfajaaGreatDoor
