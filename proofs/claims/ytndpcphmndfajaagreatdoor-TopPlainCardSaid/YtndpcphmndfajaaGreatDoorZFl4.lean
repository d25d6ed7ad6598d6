/- file.Parse, walked: plain texts that have a form. -/
import Derived.Test.YtndpcphmndfajaaGreatDoorZFl3

namespace Go.Proofs.YtndpcphmndfajaaGreatDoor
open Go.RowKit
set_option linter.unusedVariables false
set_option linter.unusedSimpArgs false

theorem tree_kind {w : World} {b : Nat} {v : Value} (k : Int) (h : w.heap[b]? = some (.cells (treeC 0 v 7) 56 (0, 0))) : (w.setCell ⟨b, 0, none⟩ (.int .i64 k)).heap[b]? = some (.cells (treeC k v 7) 56 (0, 0)) := setCell_at h
set_option maxHeartbeats 4000000 in
set_option maxRecDepth 100000 in
theorem parse_ok (k c : Nat) (acc : List Pc) (hk : KindSays k) (d : Bool) (t : List UInt8) (w : World)
    (HP : Hid (∀ w1, Below w.heap.size w w1 → Calls Tryz.prog 18 #[.int .i64 k, .string ⟨t.toArray⟩, .agg #[.int .i64 k, .int .i64 c, .bool d, .int .i64 0]] w1 fun e w' =>
      ∃ v, e = .returned (.tuple #[.agg (treeC 0 v 7), .agg #[.int .i64 0, .int .i64 0]]) ∧ Recs w' w1.heap.size 135 3 v (acc.map pcR) ∧ Below w1.heap.size w1 w')) :
    Calls Tryz.prog 9 #[.string ⟨t.toArray⟩, .agg #[.int .i64 k, .int .i64 c, .bool d, .int .i64 0]] w fun e w' =>
      ∃ v, e = .returned (.tuple #[.agg (treeC k v 7), .agg #[.int .i64 0, .int .i64 0]]) ∧ Recs w' w.heap.size 135 3 v (acc.map pcR) ∧ Below w.heap.size w w' := by
  have B0 := Lib.hid (fun w => bad_any 0 0 w)
  rw [show ((0 : Int) != 0) = false by rfl] at B0
  obtain ⟨⟨e0, e1, e2, e3⟩, hk⟩ := hk
  rcases hk with e4 | ⟨e4, e5⟩ | ⟨e4, e5, e6⟩ | ⟨e4, e5, e6, e7⟩
  all_goals
    go_enter Tryz.func9, Tryz.ntmps9
    go_upto_region 7 with (fail)
    rw [treeC_is]
    have O := Lib.hid (at_b0 w #[.int .i64 k, .int .i64 c, .bool d, .int .i64 0] 31 (.cells (treeC 0 (.slice none 0 0) 0) 56) (.cells #[.int .i64 0, .int .i64 0] 26))
    have T := Lib.hid (at_b1 w (treeC 0 (.slice none 0 0) 0) 56 (.cells #[.int .i64 k, .int .i64 c, .bool d, .int .i64 0] 31) (.cells #[.int .i64 0, .int .i64 0] 26))
    have F := Lib.hid (at_b2 w #[.int .i64 0, .int .i64 0] 26 (.cells #[.int .i64 k, .int .i64 c, .bool d, .int .i64 0] 31) (.cells (treeC 0 (.slice none 0 0) 0) 56))
    have K := Lib.hid (bel_b3 w (.cells #[.int .i64 k, .int .i64 c, .bool d, .int .i64 0] 31) (.cells (treeC 0 (.slice none 0 0) 0) 56) (.cells #[.int .i64 0, .int .i64 0] 26))
    obtain ⟨ob, hob⟩ : ∃ ob, ob = w.heap.size := ⟨_, rfl⟩
    obtain ⟨tb, htb⟩ : ∃ tb, tb = w.heap.size + 1 := ⟨_, rfl⟩
    obtain ⟨fb, hfb⟩ : ∃ fb, fb = w.heap.size + 1 + 1 := ⟨_, rfl⟩
    generalize ((w.alloc (.cells #[.int .i64 k, .int .i64 c, .bool d, .int .i64 0] 31)).alloc (.cells (treeC 0 (.slice none 0 0) 0) 56)).alloc (.cells #[.int .i64 0, .int .i64 0] 26) = wx at *
    rw [← hfb, ← htb, ← hob]
    rw [← hfb] at F
    rw [← htb] at T
    rw [← hob] at O
    have hws : w.heap.size ≤ ob ∧ ob < tb ∧ tb < fb := by omega
    have HWS := Lib.hid hws
    have hto : tb ≠ ob := by omega
    have hfo : fb ≠ ob := by omega
    have hft : fb ≠ tb := by omega
    clear hob htb hfb hws
    have T0 := Lib.hid ((heap_alloc_old (wx.alloc (.cells (treeC 0 (.slice none 0 0) 0) 56)) (.cells #[.int .i64 5, .int .i64 0] 26) (by simp)).trans (at_a0 wx (treeC 0 (.slice none 0 0) 0) 56))
    go_upto_region 19 with (refine wpL_same wx.heap.size (treeC 0 (.slice none 0 0) 0) 56 (by rfl) (by rfl) (at_a1 wx _ _ _) rfl (treeC_one _ _ _ rfl) ?_)
    rw [treeC_is]
    have X := Lib.hid (at_a1 wx (treeC 0 (.slice none 0 0) 0) 56 (.cells #[.int .i64 5, .int .i64 0] 26))
    have Y := Lib.hid (at_a2 wx #[.int .i64 5, .int .i64 0] 26 (.cells (treeC 0 (.slice none 0 0) 0) 56))
    have k2 := ((Below.refl wx.heap.size wx).alloc (Nat.le_refl _) (.cells (treeC 0 (.slice none 0 0) 0) 56))
    have k3 := k2.alloc k2.size (.cells #[.int .i64 5, .int .i64 0] 26)
    have hfl := (Array.getElem?_eq_some_iff.1 F.out).1
    have htl := (Array.getElem?_eq_some_iff.1 T.out).1
    have hks := K.out.size
    replace O := Lib.hid (block_below O.out k3)
    replace T := Lib.hid (block_below T.out k3)
    replace F := Lib.hid (block_below F.out k3)
    replace K := Lib.hid (nextB K.out k3)
    clear k2 k3 T0
    generalize (wx.alloc (.cells (treeC 0 (.slice none 0 0) 0) 56)).alloc (.cells #[.int .i64 5, .int .i64 0] 26) = wy at *
    generalize wx.heap.size = xb at *
    obtain ⟨yb, hyb⟩ : ∃ yb, yb = xb + 1 := ⟨_, rfl⟩
    rw [← hyb]
    rw [← hyb] at Y
    have hxy : xb ≠ yb := by omega
    have hyf : yb ≠ fb := by omega
    have hyt : yb ≠ tb := by omega
    have hyw : w.heap.size ≤ yb := by omega
    have hyx : yb ≠ xb := by omega
    have htx : tb ≠ xb := by omega
    have hfx : fb ≠ xb := by omega
    have hxw : w.heap.size ≤ xb := by omega
    have hxl : xb < yb + 1 := by omega
    have htl2 : tb < yb + 1 := by omega
    have hfl2 : fb < yb + 1 := by omega
    clear hyb hfl htl hks
    obtain ⟨o0, o1, o2, o3⟩ := cells4 (O.out)
    go_upto_region 20 with (first | (go_at_call 18; (refine (HP.out _ K.out).mono ?_); rintro e w6 ⟨v, rfl, hr6, hb1⟩; obtain ⟨va, vc, hv, -, -⟩ := hr6.view; rw [List.length_map] at hv; subst hv; have hR := Lib.hid (hr6.base (show yb + 1 ≤ _ from (Array.getElem?_eq_some_iff.1 Y.out).1)); clear hr6; replace T := Lib.hid (block_below T.out hb1); replace F := Lib.hid (block_below F.out hb1); replace X := Lib.hid (block_below X.out hb1); replace Y := Lib.hid (block_below Y.out hb1); replace K := Lib.hid (nextB K.out hb1)) | (refine wpL_put xb (treeC 0 (.slice va acc.length vc) 7) (treeC 0 (.slice none 0 0) 0) 56 (by rfl) (by rfl) X.out rfl rfl (treeC_one _ _ _ rfl) ?_; replace T := Lib.hid ((setRow_other w6 xb tb (treeC 0 (.slice va acc.length vc) 7) htx).trans T.out); replace F := Lib.hid ((setRow_other w6 xb fb (treeC 0 (.slice va acc.length vc) 7) hfx).trans F.out); replace Y := Lib.hid ((setRow_other w6 xb yb (treeC 0 (.slice va acc.length vc) 7) hyx).trans Y.out); replace X := Lib.hid (setRow_heap w6 xb _ (treeC 0 (.slice va acc.length vc) 7) _ _ X.out); replace K := Lib.hid (below_setRow K.out hxw (treeC 0 (.slice va acc.length vc) 7)); replace hR := Lib.hid (hR.out.setRow hxl (treeC 0 (.slice va acc.length vc) 7)); generalize w6.setRow xb (treeC 0 (.slice va acc.length vc) 7) = w6b at *; obtain ⟨y0, y1⟩ := cells2 (Y.out); obtain ⟨yf0, yf1⟩ := frees2 (Y.out)))
    have Y2 := Lib.hid (store2 (v0 := .int .i64 0) (v1 := .int .i64 0) Y.out rfl)
    replace T := Lib.hid ((heap_set_other (.int .i64 0) (Ne.symm hyt)).trans ((heap_set_other (.int .i64 0) (Ne.symm hyt)).trans T.out) : ((w6b.setCell ⟨yb, 0, none⟩ (.int .i64 0)).setCell ⟨yb, 1, none⟩ (.int .i64 0)).heap[tb]? = _)
    replace F := Lib.hid ((heap_set_other (.int .i64 0) (Ne.symm hyf)).trans ((heap_set_other (.int .i64 0) (Ne.symm hyf)).trans F.out) : ((w6b.setCell ⟨yb, 0, none⟩ (.int .i64 0)).setCell ⟨yb, 1, none⟩ (.int .i64 0)).heap[fb]? = _)
    replace X := Lib.hid ((heap_set_other (.int .i64 0) hxy).trans ((heap_set_other (.int .i64 0) hxy).trans X.out) : ((w6b.setCell ⟨yb, 0, none⟩ (.int .i64 0)).setCell ⟨yb, 1, none⟩ (.int .i64 0)).heap[xb]? = _)
    replace K := Lib.hid ((K.out.setCell (p := ⟨yb, 0, none⟩) hyw (.int .i64 0)).setCell (p := ⟨yb, 1, none⟩) hyw (.int .i64 0))
    replace hR := Lib.hid ((hR.out.setOld (j := 0) (u := .int .i64 0) (Nat.lt_succ_self yb)).setOld (j := 1) (u := .int .i64 0) (Nat.lt_succ_self yb))
    clear Y
    generalize (w6b.setCell ⟨yb, 0, none⟩ (.int .i64 0)).setCell ⟨yb, 1, none⟩ (.int .i64 0) = w7 at *
    obtain ⟨i0, i1⟩ := cells2 (Y2.out); obtain ⟨if0, if1⟩ := frees2 (Y2.out)
    go_upto_region 22 with (go_at_call 6; (refine (B0.out _).mono ?_); rintro e w8 ⟨rfl, hb8⟩; replace T := Lib.hid (block_below T.out hb8); replace F := Lib.hid (block_below F.out hb8); replace X := Lib.hid (block_below X.out hb8); replace K := Lib.hid (nextB K.out hb8); replace hR := Lib.hid (hR.out.below hb8))
    have x0 := (treeCells X.out).1
    have xf0 := (treeFrees X.out).1
    go_upto_region 23 with (fail)
    replace T := Lib.hid ((heap_set_other (.int .i64 k) htx).trans T.out : (w8.setCell ⟨xb, 0, none⟩ (.int .i64 k)).heap[tb]? = _)
    replace F := Lib.hid ((heap_set_other (.int .i64 k) hfx).trans F.out : (w8.setCell ⟨xb, 0, none⟩ (.int .i64 k)).heap[fb]? = _)
    replace X := Lib.hid (tree_kind k X.out)
    replace K := Lib.hid (K.out.setCell (p := ⟨xb, 0, none⟩) hxw (.int .i64 k))
    replace hR := Lib.hid (hR.out.setOld (j := 0) (u := .int .i64 k) hxl)
    generalize w8.setCell ⟨xb, 0, none⟩ (.int .i64 k) = w9 at *
    have hFT := (setRow_other w9 tb fb (treeC k (.slice va acc.length vc) 7) hft).trans F.out
    obtain ⟨z0, z1⟩ := cells2 (hFT); obtain ⟨zf0, zf1⟩ := frees2 (hFT)
    go_wp2_with (first | (refine wpL_get xb (treeC k (.slice va acc.length vc) 7) 56 (by rfl) X.out rfl ?_) | (refine wpL_put tb (treeC k (.slice va acc.length vc) 7) (treeC 0 (.slice none 0 0) 0) 56 (by rfl) (by rfl) T.out rfl rfl (treeC_one _ _ _ rfl) ?_))
    refine end_cc rfl rfl rfl ((heap_set_other _ (Ne.symm hft)).trans ((heap_set_other _ (Ne.symm hft)).trans (setRow_heap _ _ _ _ _ _ T.out))) Tryz.underlying56 rfl (by kernel_rfl) rfl (show _ from store2 hFT rfl) Tryz.underlying26 rfl (by kernel_rfl) ?_
    have hz := HWS.out
    exact ⟨_, rfl, (((hR.out.setRow htl2 _).setOld hfl2).setOld hfl2).base (by omega), ((below_setRow K.out (by omega) _).setCell (p := ⟨fb, 0, none⟩) (by show _ ≤ fb; omega) _).setCell (p := ⟨fb, 1, none⟩) (by show _ ≤ fb; omega) _⟩
end Go.Proofs.YtndpcphmndfajaaGreatDoor
