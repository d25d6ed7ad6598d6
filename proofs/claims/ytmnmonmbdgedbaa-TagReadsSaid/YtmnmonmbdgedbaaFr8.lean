/- Layer 13 (frame): Check joined; length, walked. -/
import Derived.Test.YtmnmonmbdgedbaaFr7
namespace Go.Proofs.Ytmnmonmbdgedbaa
open Go.RowKit
set_option linter.unusedVariables false
set_option linter.unusedSimpArgs false

theorem fcheck_any (v : Int) (f : Fr) (w : World) (hl : f.id.length ≤ 1000000000) : Calls Try.prog 76 #[frV f, .int .i64 v] w (CheckF (checkF v f) w) := by
  refine check_core v f.id f.st f.fm f.gr f.bo f.pl _ _ _ _ _ _ _ w (Lib.hid fun w => grouped_any v f.id f.st f.fm w) (Lib.hid fun w => named_any v f.id w hl) rfl rfl rfl rfl (Lib.hid ?_)
  unfold checkF okF wfB wgB nz
  rfl
def lengthF (v : Int) (f : Fr) : Nat := f.bo.length + (if grouped v f.fm = true then 1 else 0) + (if measured v f.fm = true then 4 else 0) + (if spreadB v f.fm = true then sndCnt f.bo else 0)
def LengthF (c : Nat) (w : World) (e : Ending) (w' : World) : Prop := e = .returned (.int .i64 c) ∧ Below w.heap.size w w'
set_option maxHeartbeats 4000000 in
set_option maxRecDepth 100000 in
theorem length_core (v : Int) (id : List UInt8) (st fm gr : UInt8) (bo : List UInt8) (pl : Int) (gp ms sp : Bool) (k n : Nat) (w : World) (hbo : bo.length ≤ 1000000000) (hk : k ≤ 1000000000)
    (GR : Hid (∀ w, Calls Try.prog 108 #[hdV id st fm, .int .i64 v] w fun e w' => e = .returned (.bool gp) ∧ Below w.heap.size w w'))
    (ME : Hid (∀ w, Calls Try.prog 122 #[hdV id st fm, .int .i64 v] w fun e w' => e = .returned (.bool ms) ∧ Below w.heap.size w w'))
    (SP : Hid (∀ w, Calls Try.prog 24 #[hdV id st fm, .int .i64 v] w fun e w' => e = .returned (.bool sp) ∧ Below w.heap.size w w'))
    (EX : Hid (∀ w, Calls Try.prog 63 #[.string ⟨bo.toArray⟩] w fun e w' => e = .returned (.int .i64 k) ∧ Below w.heap.size w w'))
    (HC : Hid (n = bo.length + (if gp = true then 1 else 0) + (if ms = true then 4 else 0) + (if sp = true then k else 0))) :
    Calls Try.prog 121 #[.agg (frC id st fm gr bo pl), .int .i64 v] w (LengthF n w) := by
  unfold frC hdV at *
  have hbo' : (bo.length : Int) ≤ 1000000000 := by omega
  have hk' : (k : Int) ≤ 1000000000 := by omega
  rcases gp with _ | _
  · rcases ms with _ | _
    · rcases sp with _ | _
      · go_enter Try.func121, Try.ntmps121
        go_wp2_with (first | (go_at_call 108; (with_reducible refine (GR.out _).mono ?_); rintro e w1 ⟨rfl, hb1⟩; have X1 := Lib.hid (block_below (at_a0 w _ _) hb1); have K1 := Lib.hid (below_a1 hb1); obtain ⟨a10, a11, a12, a13, a14, a15⟩ := cells6 (X1.out); clear hb1) | (go_at_call 122; (with_reducible refine (ME.out _).mono ?_); rintro e w2 ⟨rfl, hb2⟩; have X2 := Lib.hid (block_below X1.out hb2); have K2 := Lib.hid (nextB K1.out hb2); obtain ⟨a20, a21, a22, a23, a24, a25⟩ := cells6 (X2.out); clear hb2) | (go_at_call 24; (with_reducible refine (SP.out _).mono ?_); rintro e w3 ⟨rfl, hb3⟩; have X3 := Lib.hid (block_below X2.out hb3); have K3 := Lib.hid (nextB K2.out hb3); obtain ⟨a30, a31, a32, a33, a34, a35⟩ := cells6 (X3.out); clear hb3))
        go_ret
        exact ⟨ret_int (by rw [HC.out]; simp <;> omega), K3.out⟩
      · go_enter Try.func121, Try.ntmps121
        go_wp2_with (first | (go_at_call 108; (with_reducible refine (GR.out _).mono ?_); rintro e w1 ⟨rfl, hb1⟩; have X1 := Lib.hid (block_below (at_a0 w _ _) hb1); have K1 := Lib.hid (below_a1 hb1); obtain ⟨a10, a11, a12, a13, a14, a15⟩ := cells6 (X1.out); clear hb1) | (go_at_call 122; (with_reducible refine (ME.out _).mono ?_); rintro e w2 ⟨rfl, hb2⟩; have X2 := Lib.hid (block_below X1.out hb2); have K2 := Lib.hid (nextB K1.out hb2); obtain ⟨a20, a21, a22, a23, a24, a25⟩ := cells6 (X2.out); clear hb2) | (go_at_call 24; (with_reducible refine (SP.out _).mono ?_); rintro e w3 ⟨rfl, hb3⟩; have X3 := Lib.hid (block_below X2.out hb3); have K3 := Lib.hid (nextB K2.out hb3); obtain ⟨a30, a31, a32, a33, a34, a35⟩ := cells6 (X3.out); clear hb3) | (go_at_call 63; (with_reducible refine (EX.out _).mono ?_); rintro e w4 ⟨rfl, hb4⟩; have X4 := Lib.hid (block_below X3.out hb4); have K4 := Lib.hid (nextB K3.out hb4); obtain ⟨a40, a41, a42, a43, a44, a45⟩ := cells6 (X4.out); clear hb4))
        go_ret
        exact ⟨ret_int (by rw [HC.out]; simp <;> omega), K4.out⟩
    · rcases sp with _ | _
      · go_enter Try.func121, Try.ntmps121
        go_wp2_with (first | (go_at_call 108; (with_reducible refine (GR.out _).mono ?_); rintro e w1 ⟨rfl, hb1⟩; have X1 := Lib.hid (block_below (at_a0 w _ _) hb1); have K1 := Lib.hid (below_a1 hb1); obtain ⟨a10, a11, a12, a13, a14, a15⟩ := cells6 (X1.out); clear hb1) | (go_at_call 122; (with_reducible refine (ME.out _).mono ?_); rintro e w2 ⟨rfl, hb2⟩; have X2 := Lib.hid (block_below X1.out hb2); have K2 := Lib.hid (nextB K1.out hb2); obtain ⟨a20, a21, a22, a23, a24, a25⟩ := cells6 (X2.out); clear hb2) | (go_at_call 24; (with_reducible refine (SP.out _).mono ?_); rintro e w3 ⟨rfl, hb3⟩; have X3 := Lib.hid (block_below X2.out hb3); have K3 := Lib.hid (nextB K2.out hb3); obtain ⟨a30, a31, a32, a33, a34, a35⟩ := cells6 (X3.out); clear hb3))
        go_ret
        exact ⟨ret_int (by rw [HC.out]; simp <;> omega), K3.out⟩
      · go_enter Try.func121, Try.ntmps121
        go_wp2_with (first | (go_at_call 108; (with_reducible refine (GR.out _).mono ?_); rintro e w1 ⟨rfl, hb1⟩; have X1 := Lib.hid (block_below (at_a0 w _ _) hb1); have K1 := Lib.hid (below_a1 hb1); obtain ⟨a10, a11, a12, a13, a14, a15⟩ := cells6 (X1.out); clear hb1) | (go_at_call 122; (with_reducible refine (ME.out _).mono ?_); rintro e w2 ⟨rfl, hb2⟩; have X2 := Lib.hid (block_below X1.out hb2); have K2 := Lib.hid (nextB K1.out hb2); obtain ⟨a20, a21, a22, a23, a24, a25⟩ := cells6 (X2.out); clear hb2) | (go_at_call 24; (with_reducible refine (SP.out _).mono ?_); rintro e w3 ⟨rfl, hb3⟩; have X3 := Lib.hid (block_below X2.out hb3); have K3 := Lib.hid (nextB K2.out hb3); obtain ⟨a30, a31, a32, a33, a34, a35⟩ := cells6 (X3.out); clear hb3) | (go_at_call 63; (with_reducible refine (EX.out _).mono ?_); rintro e w4 ⟨rfl, hb4⟩; have X4 := Lib.hid (block_below X3.out hb4); have K4 := Lib.hid (nextB K3.out hb4); obtain ⟨a40, a41, a42, a43, a44, a45⟩ := cells6 (X4.out); clear hb4))
        go_ret
        exact ⟨ret_int (by rw [HC.out]; simp <;> omega), K4.out⟩
  · rcases ms with _ | _
    · rcases sp with _ | _
      · go_enter Try.func121, Try.ntmps121
        go_wp2_with (first | (go_at_call 108; (with_reducible refine (GR.out _).mono ?_); rintro e w1 ⟨rfl, hb1⟩; have X1 := Lib.hid (block_below (at_a0 w _ _) hb1); have K1 := Lib.hid (below_a1 hb1); obtain ⟨a10, a11, a12, a13, a14, a15⟩ := cells6 (X1.out); clear hb1) | (go_at_call 122; (with_reducible refine (ME.out _).mono ?_); rintro e w2 ⟨rfl, hb2⟩; have X2 := Lib.hid (block_below X1.out hb2); have K2 := Lib.hid (nextB K1.out hb2); obtain ⟨a20, a21, a22, a23, a24, a25⟩ := cells6 (X2.out); clear hb2) | (go_at_call 24; (with_reducible refine (SP.out _).mono ?_); rintro e w3 ⟨rfl, hb3⟩; have X3 := Lib.hid (block_below X2.out hb3); have K3 := Lib.hid (nextB K2.out hb3); obtain ⟨a30, a31, a32, a33, a34, a35⟩ := cells6 (X3.out); clear hb3))
        go_ret
        exact ⟨ret_int (by rw [HC.out]; simp <;> omega), K3.out⟩
      · go_enter Try.func121, Try.ntmps121
        go_wp2_with (first | (go_at_call 108; (with_reducible refine (GR.out _).mono ?_); rintro e w1 ⟨rfl, hb1⟩; have X1 := Lib.hid (block_below (at_a0 w _ _) hb1); have K1 := Lib.hid (below_a1 hb1); obtain ⟨a10, a11, a12, a13, a14, a15⟩ := cells6 (X1.out); clear hb1) | (go_at_call 122; (with_reducible refine (ME.out _).mono ?_); rintro e w2 ⟨rfl, hb2⟩; have X2 := Lib.hid (block_below X1.out hb2); have K2 := Lib.hid (nextB K1.out hb2); obtain ⟨a20, a21, a22, a23, a24, a25⟩ := cells6 (X2.out); clear hb2) | (go_at_call 24; (with_reducible refine (SP.out _).mono ?_); rintro e w3 ⟨rfl, hb3⟩; have X3 := Lib.hid (block_below X2.out hb3); have K3 := Lib.hid (nextB K2.out hb3); obtain ⟨a30, a31, a32, a33, a34, a35⟩ := cells6 (X3.out); clear hb3) | (go_at_call 63; (with_reducible refine (EX.out _).mono ?_); rintro e w4 ⟨rfl, hb4⟩; have X4 := Lib.hid (block_below X3.out hb4); have K4 := Lib.hid (nextB K3.out hb4); obtain ⟨a40, a41, a42, a43, a44, a45⟩ := cells6 (X4.out); clear hb4))
        go_ret
        exact ⟨ret_int (by rw [HC.out]; simp <;> omega), K4.out⟩
    · rcases sp with _ | _
      · go_enter Try.func121, Try.ntmps121
        go_wp2_with (first | (go_at_call 108; (with_reducible refine (GR.out _).mono ?_); rintro e w1 ⟨rfl, hb1⟩; have X1 := Lib.hid (block_below (at_a0 w _ _) hb1); have K1 := Lib.hid (below_a1 hb1); obtain ⟨a10, a11, a12, a13, a14, a15⟩ := cells6 (X1.out); clear hb1) | (go_at_call 122; (with_reducible refine (ME.out _).mono ?_); rintro e w2 ⟨rfl, hb2⟩; have X2 := Lib.hid (block_below X1.out hb2); have K2 := Lib.hid (nextB K1.out hb2); obtain ⟨a20, a21, a22, a23, a24, a25⟩ := cells6 (X2.out); clear hb2) | (go_at_call 24; (with_reducible refine (SP.out _).mono ?_); rintro e w3 ⟨rfl, hb3⟩; have X3 := Lib.hid (block_below X2.out hb3); have K3 := Lib.hid (nextB K2.out hb3); obtain ⟨a30, a31, a32, a33, a34, a35⟩ := cells6 (X3.out); clear hb3))
        go_ret
        exact ⟨ret_int (by rw [HC.out]; simp <;> omega), K3.out⟩
      · go_enter Try.func121, Try.ntmps121
        go_wp2_with (first | (go_at_call 108; (with_reducible refine (GR.out _).mono ?_); rintro e w1 ⟨rfl, hb1⟩; have X1 := Lib.hid (block_below (at_a0 w _ _) hb1); have K1 := Lib.hid (below_a1 hb1); obtain ⟨a10, a11, a12, a13, a14, a15⟩ := cells6 (X1.out); clear hb1) | (go_at_call 122; (with_reducible refine (ME.out _).mono ?_); rintro e w2 ⟨rfl, hb2⟩; have X2 := Lib.hid (block_below X1.out hb2); have K2 := Lib.hid (nextB K1.out hb2); obtain ⟨a20, a21, a22, a23, a24, a25⟩ := cells6 (X2.out); clear hb2) | (go_at_call 24; (with_reducible refine (SP.out _).mono ?_); rintro e w3 ⟨rfl, hb3⟩; have X3 := Lib.hid (block_below X2.out hb3); have K3 := Lib.hid (nextB K2.out hb3); obtain ⟨a30, a31, a32, a33, a34, a35⟩ := cells6 (X3.out); clear hb3) | (go_at_call 63; (with_reducible refine (EX.out _).mono ?_); rintro e w4 ⟨rfl, hb4⟩; have X4 := Lib.hid (block_below X3.out hb4); have K4 := Lib.hid (nextB K3.out hb4); obtain ⟨a40, a41, a42, a43, a44, a45⟩ := cells6 (X4.out); clear hb4))
        go_ret
        exact ⟨ret_int (by rw [HC.out]; simp <;> omega), K4.out⟩
theorem sndCnt_le' (l : List UInt8) : sndCnt l ≤ l.length := sndCnt_le l
theorem flength_any (v : Int) (f : Fr) (w : World) (hl : f.bo.length ≤ 1000000000) : Calls Try.prog 121 #[frV f, .int .i64 v] w (LengthF (lengthF v f) w) :=
  length_core v f.id f.st f.fm f.gr f.bo f.pl _ _ _ (sndCnt f.bo) _ w hl (Nat.le_trans (sndCnt_le _) hl) (Lib.hid fun w => grouped_any v f.id f.st f.fm w) (Lib.hid fun w => measured_any v f.id f.st f.fm w) (Lib.hid fun w => spread_any v f.id f.st f.fm w) (Lib.hid fun w => (extra_any f.bo w hl).mono fun e w1 h => ⟨h.1, h.2 ▸ Below.refl _ _⟩) (Lib.hid rfl)
end Go.Proofs.Ytmnmonmbdgedbaa
