/- file.parseText, walked: plain texts that have a form. -/
import Derived.Test.YtndpcphmndfajaaGreatDoorZRt1
import Derived.Test.YtndpcphmndfajaaGreatDoorZLc1

namespace Go.Proofs.YtndpcphmndfajaaGreatDoor
open Go.RowKit
set_option linter.unusedVariables false
set_option linter.unusedSimpArgs false

set_option maxHeartbeats 4000000 in
set_option maxRecDepth 100000 in
theorem ptext_ok (k c : Nat) (acc : List Pc) (d : Bool) (t : List UInt8) (w : World) (H : PtSays k c d t)
    (HP : Hid (∀ w1, Below w.heap.size w w1 → Calls Tryz.prog 57 #[.int .i64 k, .string ⟨t.toArray⟩] w1 fun e w' => ∃ v, e = .returned (.tuple #[v, .agg #[.int .i64 0, .int .i64 0]]) ∧ Recs w' w1.heap.size 135 3 v (acc.map pcR) ∧ Below w1.heap.size w1 w')) :
    Calls Tryz.prog 18 #[.int .i64 k, .string ⟨t.toArray⟩, .agg #[.int .i64 k, .int .i64 c, .bool d, .int .i64 0]] w fun e w' =>
      ∃ v, e = .returned (.tuple #[.agg (treeC 0 v 7), .agg #[.int .i64 0, .int .i64 0]]) ∧ Recs w' w.heap.size 135 3 v (acc.map pcR) ∧ Below w.heap.size w w' := by
  have HM := Lib.hid H.mark
  have HS := Lib.hid H.decl
  have HR := Lib.hid H.reso
  have HD := Lib.hid H.deco
  have B0 := Lib.hid (fun w => bad_any 0 0 w)
  rw [show ((0 : Int) != 0) = false by rfl] at B0

  clear H
  go_enter Tryz.func18, Tryz.ntmps18
  go_upto_region 1 with (fail)
  rw [treeC_is]
  have O := Lib.hid (at_b0 w #[.int .i64 k, .int .i64 c, .bool d, .int .i64 0] 31 (.cells (treeC 0 (.slice none 0 0) 0) 56) (.cells #[.int .i64 0, .int .i64 0] 26))
  have T := Lib.hid (at_b1 w (treeC 0 (.slice none 0 0) 0) 56 (.cells #[.int .i64 k, .int .i64 c, .bool d, .int .i64 0] 31) (.cells #[.int .i64 0, .int .i64 0] 26))
  have F := Lib.hid (at_b2 w #[.int .i64 0, .int .i64 0] 26 (.cells #[.int .i64 k, .int .i64 c, .bool d, .int .i64 0] 31) (.cells (treeC 0 (.slice none 0 0) 0) 56))
  have K := Lib.hid (bel_b3 w (.cells #[.int .i64 k, .int .i64 c, .bool d, .int .i64 0] 31) (.cells (treeC 0 (.slice none 0 0) 0) 56) (.cells #[.int .i64 0, .int .i64 0] 26))
  obtain ⟨ob, hob⟩ : ∃ ob, ob = w.heap.size := ⟨_, rfl⟩
  obtain ⟨tb, htb⟩ : ∃ tb, tb = w.heap.size + 1 := ⟨_, rfl⟩
  obtain ⟨fb, hfb⟩ : ∃ fb, fb = w.heap.size + 1 + 1 := ⟨_, rfl⟩
  generalize ((w.alloc (.cells #[.int .i64 k, .int .i64 c, .bool d, .int .i64 0] 31)).alloc (.cells (treeC 0 (.slice none 0 0) 0) 56)).alloc (.cells #[.int .i64 0, .int .i64 0] 26) = wx at *
  rw [← hfb, ← htb, ← hob]
  rw [← hfb] at F
  rw [← htb] at T
  rw [← hob] at O
  have hws : w.heap.size ≤ ob ∧ ob < tb ∧ tb < fb := by omega
  have HWS := Lib.hid hws
  have hto : tb ≠ ob := by omega
  have hfo : fb ≠ ob := by omega
  have hft : fb ≠ tb := by omega
  clear hob htb hfb hws
  go_upto_region 3 with (go_at_call 53; (refine (HM.out _).mono ?_); rintro e w1 ⟨rfl, rfl⟩)
  obtain ⟨o0, o1, o2, o3⟩ := cells4 (O.out)
  go_region_with (first | (go_at_call 55; refine (HS.out _).mono ?_; rintro e w1 ⟨⟨x, rfl⟩, hb1⟩; replace hb1 : Below wx.heap.size wx w1 := ⟨hb1.os, hb1.tape, hb1.output, hb1.size, hb1.block⟩; replace O := Lib.hid (block_below O.out hb1); replace T := Lib.hid (block_below T.out hb1); replace F := Lib.hid (block_below F.out hb1); replace K := Lib.hid (nextB K.out hb1); obtain ⟨p0, p1, p2, p3⟩ := cells4 (O.out)) | (go_at_call 54; refine (HR.out _ _).mono ?_; rintro e w2 ⟨rfl, hb2⟩; replace hb2 : Below w1.heap.size w1 w2 := ⟨hb2.os, hb2.tape, hb2.output, hb2.size, hb2.block⟩; replace O := Lib.hid (block_below O.out hb2); replace T := Lib.hid (block_below T.out hb2); replace F := Lib.hid (block_below F.out hb2); replace K := Lib.hid (nextB K.out hb2)))
  all_goals
    clear HS HR HM
    go_upto_region 5 with (go_at_call 56; (refine (HD.out _).mono ?_); rintro e w3 ⟨rfl, hb3⟩; replace O := Lib.hid (block_below O.out hb3); replace T := Lib.hid (block_below T.out hb3); replace F := Lib.hid (block_below F.out hb3); replace K := Lib.hid (nextB K.out hb3))
    have G := Lib.hid (at_a0 w3 #[.int .i64 0, .int .i64 0] 26)
    have hfl := (Array.getElem?_eq_some_iff.1 F.out).1
    replace F := Lib.hid ((heap_alloc_old w3 (.cells #[.int .i64 0, .int .i64 0] 26) hfl).trans F.out)
    have htl := (Array.getElem?_eq_some_iff.1 T.out).1
    replace T := Lib.hid ((heap_alloc_old w3 (.cells #[.int .i64 0, .int .i64 0] 26) htl).trans T.out)
    have K3 := K.out.size
    replace K := Lib.hid (K.out.alloc K.out.size (.cells #[.int .i64 0, .int .i64 0] 26))
    clear O
    generalize w3.alloc (.cells #[.int .i64 0, .int .i64 0] 26) = w4 at *
    generalize w3.heap.size = gb at *
    have hgf : gb ≠ fb := by omega
    have hgt : gb ≠ tb := by omega
    have hgw : w.heap.size ≤ gb := by omega
    have hlfb : fb < gb := by omega
    have hltb : tb < gb := by omega
    clear hfl htl K3
    obtain ⟨g0, g1⟩ := cells2 (G.out); obtain ⟨gf0, gf1⟩ := frees2 (G.out)
    go_upto_region 8 with (first | (go_at_call 6; (refine (B0.out _).mono ?_); rintro e w5 ⟨rfl, hb5⟩; replace G := Lib.hid (block_below G.out hb5); replace T := Lib.hid (block_below T.out hb5); replace F := Lib.hid (block_below F.out hb5); replace K := Lib.hid (nextB K.out hb5)) | (go_at_call 57; (refine (HP.out _ K.out).mono ?_); rintro e w6 ⟨v, rfl, hr6, hb6⟩; have hR := Lib.hid (hr6.base (show gb + 1 ≤ _ from (Array.getElem?_eq_some_iff.1 G.out).1)); clear hr6; replace G := Lib.hid (block_below G.out hb6); replace T := Lib.hid (block_below T.out hb6); replace F := Lib.hid (block_below F.out hb6); replace K := Lib.hid (nextB K.out hb6); obtain ⟨h0, h1⟩ := cells2 (G.out); obtain ⟨hf0, hf1⟩ := frees2 (G.out)))
    have G2 := Lib.hid (store2 (v0 := .int .i64 0) (v1 := .int .i64 0) G.out rfl)
    replace T := Lib.hid ((heap_set_other (.int .i64 0) (Ne.symm hgt)).trans ((heap_set_other (.int .i64 0) (Ne.symm hgt)).trans T.out) : ((w6.setCell ⟨gb, 0, none⟩ (.int .i64 0)).setCell ⟨gb, 1, none⟩ (.int .i64 0)).heap[tb]? = _)
    replace F := Lib.hid ((heap_set_other (.int .i64 0) (Ne.symm hgf)).trans ((heap_set_other (.int .i64 0) (Ne.symm hgf)).trans F.out) : ((w6.setCell ⟨gb, 0, none⟩ (.int .i64 0)).setCell ⟨gb, 1, none⟩ (.int .i64 0)).heap[fb]? = _)
    replace K := Lib.hid ((K.out.setCell (p := ⟨gb, 0, none⟩) hgw (.int .i64 0)).setCell (p := ⟨gb, 1, none⟩) hgw (.int .i64 0))
    have hR2 := Lib.hid ((hR.out.setOld (j := 0) (u := .int .i64 0) (Nat.lt_succ_self gb)).setOld (j := 1) (u := .int .i64 0) (Nat.lt_succ_self gb))
    clear G hR
    generalize (w6.setCell ⟨gb, 0, none⟩ (.int .i64 0)).setCell ⟨gb, 1, none⟩ (.int .i64 0) = w7 at *
    obtain ⟨i0, i1⟩ := cells2 (G2.out); obtain ⟨if0, if1⟩ := frees2 (G2.out)
    obtain ⟨va, vc, rfl, -, -⟩ := hR2.out.view
    go_upto_region 10 with (go_at_call 6; (refine (B0.out _).mono ?_); rintro e w8 ⟨rfl, hb8⟩; replace T := Lib.hid (block_below T.out hb8); replace F := Lib.hid (block_below F.out hb8); replace K := Lib.hid (nextB K.out hb8); replace hR2 := Lib.hid (hR2.out.below hb8))
    have hFT := (setRow_other w8 tb fb (treeC 0 (.slice va acc.length vc) 7) hft).trans F.out
    iterate 13 go_step
    refine wpList_store_row rfl 56 _ _ (by rfl) tb (treeC 0 (.slice va acc.length vc) 7) (by rfl) (by rfl) _ _ T.out (by kernel_rfl) rfl (treeC_one _ _ _ rfl) ?_
    refine wpList_store_row rfl 26 _ _ (by rfl) fb #[.int .i64 0, .int .i64 0] (by rfl) (by rfl) _ _ hFT (by kernel_rfl) rfl (by simp [Value.oneCell']) ?_
    go_wp2
    refine end_cc rfl rfl rfl ((setRow_other _ _ _ _ (Ne.symm hft)).trans (setRow_heap _ _ _ _ _ _ T.out)) Tryz.underlying56 rfl (by kernel_rfl) rfl (setRow_heap _ _ _ _ _ _ hFT) Tryz.underlying26 rfl (by kernel_rfl) ?_
    have hz := HWS.out
    exact ⟨_, rfl, (((by simpa using hR2.out : Recs w8 (gb + 1) 135 3 (.slice va acc.length vc) (acc.map pcR)).setRow (by omega) _).setRow (by omega) _).base (by omega), below_setRow (below_setRow K.out (by omega) _) (by omega) _⟩
end Go.Proofs.YtndpcphmndfajaaGreatDoor
