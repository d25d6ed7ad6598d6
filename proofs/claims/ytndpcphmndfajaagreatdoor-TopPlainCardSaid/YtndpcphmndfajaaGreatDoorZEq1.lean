/- slices.Equal over pieces (function 68), where both are the same: walked. | file.Tree.printText, walked: the pieces that a plain text's form tells. | file.Tree.Print, walked: a plain text's kinds. -/
import Derived.Test.YtndpcphmndfajaaGreatDoorZLc1
import Derived.Test.YtndpcphmndfajaaGreatDoorZFl3
import Derived.Test.YtndpcphmndfajaaGreatDoorZLine4

namespace Go.Proofs.YtndpcphmndfajaaGreatDoor
open Go.RowKit
set_option linter.unusedVariables false
set_option linter.unusedSimpArgs false

def PcCells (w : World) (g : Nat) (L : List Pc) : Prop := ∀ i (h : i < L.length), w.cell? ⟨g, i * 3, none⟩ = some (.bool L[i].m) ∧ w.cell? ⟨g, i * 3 + 1, none⟩ = some (.string ⟨L[i].n.toArray⟩) ∧ w.cell? ⟨g, i * 3 + 2, none⟩ = some (.string ⟨L[i].t.toArray⟩)
set_option maxHeartbeats 2000000 in
set_option maxRecDepth 100000 in
theorem sequal_yes (ga gb ca cb : Nat) (L : List Pc) (w : World) (hL : L.length ≤ 1000000) (ha : ga < w.heap.size) (hb : gb < w.heap.size) (hA : Hid (PcCells w ga L)) (hB : Hid (PcCells w gb L)) :
    Calls Tryz.prog 68 #[.slice (some ⟨ga, 0, none⟩) L.length ca, .slice (some ⟨gb, 0, none⟩) L.length cb] w fun e w' => e = .returned (.bool true) ∧ Below w.heap.size w w' := by
  have z0 : ((L.length : Int) != (L.length : Int)) = false := by simp
  go_enter Tryz.func68, Tryz.ntmps68
  go_wp2
  go_loopw [13] (fun i wr => ∃ k : Nat, k ≤ L.length ∧ i = .int .i64 (k : Nat) ∧ Hid (Below w.heap.size w wr)) (fun i _ => L.length - (intOf i).toNat)
  case atStart => exact ⟨0, by omega, rfl, Lib.hid (Below.refl _ _)⟩
  case round =>
    obtain ⟨k, hk, rfl, HW⟩ := hrel
    by_cases hlt : k < L.length
    · have q0 : (k : Int) < (L.length : Int) := by omega
      obtain ⟨a0, a1, a2⟩ := hA.out k hlt
      obtain ⟨b0, b1, b2⟩ := hB.out k hlt
      rw [← HW.out.cell (by exact ha)] at a0 a1 a2
      rw [← HW.out.cell (by exact hb)] at b0 b1 b2
      generalize L[k] = x at *
      go_upto_region 6 with (fail)
      go_quiet (fail)
      go_wp2
      exact ⟨⟨k + 1, by omega, by simp, Lib.hid (below_drewN HW.out _)⟩, by simp [intOf]; omega⟩
    · have q0 : ¬ (k : Int) < (L.length : Int) := by omega
      go_wp2
      go_ret
      exact ⟨rfl, HW.out⟩
set_option maxRecDepth 100000 in
theorem sequal_none (a b : Option Addr) (ca cb : Nat) (w : World) :
    Calls Tryz.prog 68 #[.slice a 0 ca, .slice b 0 cb] w fun e w' => e = .returned (.bool true) ∧ Below w.heap.size w w' := by
  go_enter Tryz.func68, Tryz.ntmps68
  go_wp2
  go_loopw [13] (fun i wr => i = .int .i64 0 ∧ Hid (wr = w)) (fun i _ => 0)
  case atStart => exact ⟨rfl, Lib.hid rfl⟩
  case round =>
    obtain ⟨rfl, HW⟩ := hrel
    go_wp2
    go_ret
    exact ⟨rfl, by rw [HW.out]; exact Below.refl _ _⟩
theorem recs_cells {w : World} {base : Nat} {v : Value} {L : List Pc} (h : Recs w base 135 3 v (L.map pcR)) : ∃ a cap, v = .slice a L.length cap ∧ (L.length = 0 ∨ ∃ g, a = some ⟨g, 0, none⟩ ∧ g < w.heap.size ∧ PcCells w g L) := by
  obtain ⟨a, cap, hv, _, hr⟩ := h.view
  rw [List.length_map] at hv
  refine ⟨a, cap, hv, ?_⟩
  rcases hr with h0 | ⟨g, ha, _, hg, hc⟩
  · exact .inl (by simpa using h0)
  · refine .inr ⟨g, ha, hg, fun i hi => ?_⟩
    have hi' : i < (L.map pcR).length := by simpa using hi
    have e9 : (L.map pcR)[i] = pcR L[i] := by simp
    have k0 := hc i hi' 0 (by decide)
    have k1 := hc i hi' 1 (by decide)
    have k2 := hc i hi' 2 (by decide)
    rw [e9] at k0 k1 k2
    exact ⟨k0, k1, k2⟩
/-- Two slices of the same pieces are equal. -/
theorem sequal_any {b1 b2 : Nat} {v1 v2 : Value} {L : List Pc} (w : World) (hL : L.length ≤ 1000000) (h1 : Recs w b1 135 3 v1 (L.map pcR)) (h2 : Recs w b2 135 3 v2 (L.map pcR)) :
    Calls Tryz.prog 68 #[v1, v2] w fun e w' => e = .returned (.bool true) ∧ Below w.heap.size w w' := by
  obtain ⟨a, ca, rfl, ha⟩ := recs_cells h1
  obtain ⟨b, cb, rfl, hb⟩ := recs_cells h2
  rcases ha with h0 | ⟨ga, rfl, hga, hA⟩
  · rw [h0]; exact sequal_none a b ca cb w
  · rcases hb with h0 | ⟨gb, rfl, hgb, hB⟩
    · rw [h0]; exact sequal_none _ b ca cb w
    · exact sequal_yes ga gb ca cb L w hL hga hgb (Lib.hid hA) (Lib.hid hB)
end Go.Proofs.YtndpcphmndfajaaGreatDoor

namespace Go.Proofs.YtndpcphmndfajaaGreatDoor
open Go.RowKit
set_option linter.unusedVariables false
set_option linter.unusedSimpArgs false

/-- what printText's calls tell -/
structure PrSays (k : Nat) (acc : List Pc) (t : List UInt8) : Prop where
  whole : (acc.map (·.t)).flatten = t
  vali : ∀ w, Calls Tryz.prog 67 #[.string ⟨t.toArray⟩] w fun e w' => e = .returned (.bool true) ∧ Below w.heap.size w w'
  mark : ∀ w, Calls Tryz.prog 28 #[.string ⟨t.toArray⟩, .string ⟨#[239, 187, 191]⟩] w fun e w' => e = .returned (.bool false) ∧ w = w'
  few : acc.length ≤ 1000000
  len : t.length ≤ 1000000

set_option maxHeartbeats 4000000 in
set_option maxRecDepth 100000 in
theorem ptext_print (k : Nat) (acc : List Pc) (t : List UInt8) (v : Value) (w : World) (H : PrSays k acc t) (base : Nat) (hr : Recs w base 135 3 v (acc.map pcR))
    (HP : Hid (∀ w1, Below w.heap.size w w1 → Calls Tryz.prog 57 #[.int .i64 k, .string ⟨t.toArray⟩] w1 fun e w' => ∃ v, e = .returned (.tuple #[v, .agg #[.int .i64 0, .int .i64 0]]) ∧ Recs w' w1.heap.size 135 3 v (acc.map pcR) ∧ Below w1.heap.size w1 w')) :
    Calls Tryz.prog 22 #[.agg (treeC k v 7)] w fun e w' => e = .returned (.tuple #[.string ⟨t.toArray⟩, .agg #[.int .i64 0, .int .i64 0]]) ∧ Below w.heap.size w w' := by
  have HV := Lib.hid H.vali
  have HM := Lib.hid H.mark
  have B0 := Lib.hid (fun w => bad_any 0 0 w)
  rw [show ((0 : Int) != 0) = false by rfl] at B0
  have hfew := H.few
  have hlen := H.len
  have hwhole := H.whole
  clear H
  have HR := Lib.hid hr
  obtain ⟨va, vc, rfl, hcap, hcells⟩ := hr.at
  have HAT := Lib.hid hcells
  clear hr hcells
  rw [List.length_map] at hcap HAT HR
  rw [List.length_map]
  go_enter Tryz.func22, Tryz.ntmps22
  go_upto_region 1 with (fail)
  have T := Lib.hid (at_a1 w (treeC k (.slice va acc.length vc) 7) 56 (.cells #[.int .i64 0, .int .i64 0] 26))
  have F := Lib.hid (at_a2 w #[.int .i64 0, .int .i64 0] 26 (.cells (treeC k (.slice va acc.length vc) 7) 56))
  have k2 := ((Below.refl w.heap.size w).alloc (Nat.le_refl _) (.cells (treeC k (.slice va acc.length vc) 7) 56))
  have K := Lib.hid (k2.alloc k2.size (.cells #[.int .i64 0, .int .i64 0] 26))
  obtain ⟨tb, htb⟩ : ∃ tb, tb = w.heap.size := ⟨_, rfl⟩
  obtain ⟨fb, hfb⟩ : ∃ fb, fb = w.heap.size + 1 := ⟨_, rfl⟩
  clear k2
  generalize (w.alloc (.cells (treeC k (.slice va acc.length vc) 7) 56)).alloc (.cells #[.int .i64 0, .int .i64 0] 26) = wx at *
  rw [← hfb, ← htb]
  rw [← hfb] at F
  rw [← htb] at T
  have hft : fb ≠ tb := by omega
  have hwt : w.heap.size ≤ tb := by omega
  have hwf : w.heap.size ≤ fb := by omega
  clear htb hfb
  replace HAT := Lib.hid (HAT.out.below K.out)
  have hWH := Lib.hid (whole_any va acc.length vc acc wx HAT.out hfew hcap (by rw [hwhole]; omega))
  rw [hwhole] at hWH
  replace HR := Lib.hid (HR.out.below K.out)
  have c23 := (treeCells T.out).2.2.2.2.2.2.2.2.2.2.2.2.2.2.2.2.2.2.2.2.2.2.2.1
  have c0 := (treeCells T.out).1
  go_upto_region 4 with (first | (go_at_call 66; (refine (hWH.out).mono ?_); rintro e w1 ⟨rfl, hb1⟩; replace T := Lib.hid (block_below T.out hb1); replace F := Lib.hid (block_below F.out hb1); replace K := Lib.hid (nextB K.out hb1); replace HR := Lib.hid (HR.out.below hb1); clear hb1) | (go_at_call 67; (refine (HV.out _).mono ?_); rintro e w2 ⟨rfl, hb2⟩; replace T := Lib.hid (block_below T.out hb2); replace F := Lib.hid (block_below F.out hb2); replace K := Lib.hid (nextB K.out hb2); replace HR := Lib.hid (HR.out.below hb2); clear hb2))
  clear c23 c0
  have c23 := (treeCells T.out).2.2.2.2.2.2.2.2.2.2.2.2.2.2.2.2.2.2.2.2.2.2.2.1
  have c0 := (treeCells T.out).1
  go_upto_region 5 with (go_at_call 57; (refine (HP.out _ K.out).mono ?_); rintro e w3 ⟨v2, rfl, hr3, hb3⟩; have HR2 := Lib.hid hr3; clear hr3; replace T := Lib.hid (block_below T.out hb3); replace F := Lib.hid (block_below F.out hb3); replace K := Lib.hid (nextB K.out hb3); replace HR := Lib.hid (HR.out.below hb3); clear hb3)
  clear c23 c0
  have G := Lib.hid (at_a0 w3 #[.int .i64 0, .int .i64 0] 26)
  have k3 := (Below.refl w3.heap.size w3).alloc (Nat.le_refl _) (.cells #[.int .i64 0, .int .i64 0] 26)
  replace T := Lib.hid (block_below T.out k3)
  replace F := Lib.hid (block_below F.out k3)
  replace K := Lib.hid (nextB K.out k3)
  replace HR := Lib.hid (HR.out.below k3)
  replace HR2 := Lib.hid (HR2.out.below k3)
  clear k3
  generalize w3.alloc (.cells #[.int .i64 0, .int .i64 0] 26) = w4 at *
  generalize w3.heap.size = gb at *
  obtain ⟨g0, g1⟩ := cells2 (G.out); obtain ⟨gf0, gf1⟩ := frees2 (G.out)
  go_upto_region 7 with (go_at_call 6; (refine (B0.out _).mono ?_); rintro e w5 ⟨rfl, hb5⟩; replace T := Lib.hid (block_below T.out hb5); replace F := Lib.hid (block_below F.out hb5); replace K := Lib.hid (nextB K.out hb5); replace HR := Lib.hid (HR.out.below hb5); replace HR2 := Lib.hid (HR2.out.below hb5); clear hb5)
  have c23 := (treeCells T.out).2.2.2.2.2.2.2.2.2.2.2.2.2.2.2.2.2.2.2.2.2.2.2.1
  go_upto_region 11 with (first | (go_at_call 68; (refine (sequal_any _ hfew HR2.out HR.out).mono ?_); rintro e w6 ⟨rfl, hb6⟩; replace F := Lib.hid (block_below F.out hb6); replace K := Lib.hid (nextB K.out hb6); clear hb6) | (go_at_call 28; (refine (HM.out _).mono ?_); rintro e w7 ⟨rfl, rfl⟩))
  obtain ⟨f0, f1⟩ := cells2 (F.out); obtain ⟨ff0, ff1⟩ := frees2 (F.out)
  go_wp2
  refine end_tmp_cell rfl rfl rfl (show _ from store2 F.out rfl) Tryz.underlying26 rfl (by kernel_rfl) ?_
  exact ⟨rfl, (K.out.setCell (p := ⟨fb, 0, none⟩) hwf _).setCell (p := ⟨fb, 1, none⟩) hwf _⟩
end Go.Proofs.YtndpcphmndfajaaGreatDoor

namespace Go.Proofs.YtndpcphmndfajaaGreatDoor
open Go.RowKit
set_option linter.unusedVariables false
set_option linter.unusedSimpArgs false

set_option maxHeartbeats 4000000 in
set_option maxRecDepth 100000 in
theorem print_any (k : Nat) (hk : KindSays k) (t : List UInt8) (va : Option Addr) (vn vc : Nat) (w : World)
    (HP : Hid (∀ w1, Below w.heap.size w w1 → Calls Tryz.prog 22 #[.agg (treeC k (.slice va vn vc) 7)] w1 fun e w' => e = .returned (.tuple #[.string ⟨t.toArray⟩, .agg #[.int .i64 0, .int .i64 0]]) ∧ Below w1.heap.size w1 w')) :
    Calls Tryz.prog 10 #[.agg (treeC k (.slice va vn vc) 7)] w fun e w' => e = .returned (.tuple #[.string ⟨t.toArray⟩, .agg #[.int .i64 0, .int .i64 0]]) ∧ Below w.heap.size w w' := by
  obtain ⟨⟨e0, e1, e2, e3⟩, hk⟩ := hk
  rcases hk with e4 | ⟨e4, e5⟩ | ⟨e4, e5, e6⟩ | ⟨e4, e5, e6, e7⟩
  all_goals
    go_enter Tryz.func10, Tryz.ntmps10
    go_upto_region 1 with (fail)
    have T := Lib.hid (at_a1 w (treeC k (.slice va vn vc) 7) 56 (.cells #[.int .i64 0, .int .i64 0] 26))
    have F := Lib.hid (at_a2 w #[.int .i64 0, .int .i64 0] 26 (.cells (treeC k (.slice va vn vc) 7) 56))
    have k2 := ((Below.refl w.heap.size w).alloc (Nat.le_refl _) (.cells (treeC k (.slice va vn vc) 7) 56))
    have K := Lib.hid (k2.alloc k2.size (.cells #[.int .i64 0, .int .i64 0] 26))
    obtain ⟨tb, htb⟩ : ∃ tb, tb = w.heap.size := ⟨_, rfl⟩
    obtain ⟨fb, hfb⟩ : ∃ fb, fb = w.heap.size + 1 := ⟨_, rfl⟩
    clear k2
    generalize (w.alloc (.cells (treeC k (.slice va vn vc) 7) 56)).alloc (.cells #[.int .i64 0, .int .i64 0] 26) = wx at *
    rw [← hfb, ← htb]
    rw [← hfb] at F
    rw [← htb] at T
    have hwf : w.heap.size ≤ fb := by omega
    clear htb hfb
    have c0 := (treeCells T.out).1
    go_wp2_with (first | (go_at_call 22; (refine (HP.out _ K.out).mono ?_); rintro e w1 ⟨rfl, hb1⟩; replace F := Lib.hid (block_below F.out hb1); replace K := Lib.hid (nextB K.out hb1); obtain ⟨f0, f1⟩ := cells2 (F.out); obtain ⟨ff0, ff1⟩ := frees2 (F.out)) | (refine wpL_get tb (treeC k (.slice va vn vc) 7) 56 (by rfl) T.out rfl ?_))
    refine end_tmp_cell rfl rfl rfl (show _ from store2 F.out rfl) Tryz.underlying26 rfl (by kernel_rfl) ?_
    exact ⟨rfl, (K.out.setCell (p := ⟨fb, 0, none⟩) hwf _).setCell (p := ⟨fb, 1, none⟩) hwf _⟩
end Go.Proofs.YtndpcphmndfajaaGreatDoor
